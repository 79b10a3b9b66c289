/- Several texts in one. Conditions: none. -/
import Derived.Test.YtcnlhdaeeeolbaaDoorAmB1
set_option linter.unusedSimpArgs false
set_option linter.unusedVariables false
section
/- Literals, make, new variables, stores: whole operations. Conditions: none. -/
namespace Go.AM
open Go

variable {P : Program} {c : Cx} {X : Ctx} {os : List AO} {g : Nat → List Nat} {w : World}

theorem litElems_len (ti : TI) (ps : List (Nat × AV)) : ∀ n, (litElems ti n ps).length = n
  | 0 => rfl
  | n + 1 => by simp [litElems, litElems_len ti ps n]

theorem litElems_get (ti : TI) (ps : List (Nat × AV)) : ∀ n i, i < n → (litElems ti n ps)[i]? = some (match ps.lookup i with | some v => cellsOf v | none => ti.zero)
  | 0, i, h => by omega
  | n + 1, i, h => by
    simp only [litElems, List.getElem?_append, litElems_len]
    by_cases h1 : i < n
    · rw [if_pos h1]; exact litElems_get ti ps n i h1
    · obtain rfl : i = n := by omega
      rw [if_neg h1, Nat.sub_self]; rfl

/-- A literal's cells. -/
theorem fill_lit {rd : Nat → Nat → Option Value} {ti : TI} {s n : Nat} (hs : ti.sz = s) : ∀ (ps : List (Nat × AV)) (pv : List (Nat × Value)) (E : Nat → List AV) (C : Array Value), ps.length = pv.length →
    (∀ (i : Nat) p, ps[i]? = some p → ∃ q, pv[i]? = some q ∧ q.1 = p.1 ∧ RepL rd os g w (cellsOf p.2) q.2.cells.toList) → litOk os ti n ps → C.size = n * s → (∀ i, i < n → (E i).length = s) →
    (∀ (i k : Nat) y, i < n → (E i)[k]? = some y → ∃ u, C[i * s + k]? = some u ∧ RepC rd os g w y u) →
    ∃ us, Instr.fill (fun i => some (i * s, s)) C pv = some us ∧ us.size = n * s ∧
      ∀ (i k : Nat) y, i < n → (match ps.lookup i with | some v => cellsOf v | none => E i)[k]? = some y → ∃ u, us[i * s + k]? = some u ∧ RepC rd os g w y u
  | [], [], E, C, _, _, _, hC, _, hE => ⟨C, rfl, hC, fun i k y hi hy => hE i k y hi (by simpa using hy)⟩
  | [], _ :: _, _, _, hl, _, _, _, _, _ => by simp at hl
  | _ :: _, [], _, _, hl, _, _, _, _, _ => by simp at hl
  | (i0, x) :: ps, (i', v) :: pv, E, C, hl, hp, hk, hC, hEl, hE => by
    obtain ⟨q, hq, e1, hx⟩ := hp 0 (i0, x) rfl
    simp only [List.getElem?_cons_zero, Option.some.injEq] at hq
    subst hq
    simp only at e1 hx
    subst e1
    obtain ⟨k1, k2, k3, k4, k5⟩ := hk
    have hvs : v.cells.size = s := by have := hx.1; simp at this; omega
    have hrow : i' * s + s ≤ n * s := by
      have := Nat.mul_le_mul_right s (show i' + 1 ≤ n from k1)
      rw [Nat.add_mul] at this; omega
    have hf := foldl_set (i' * s) v.cells.toList 0 C (by simp [hvs]; omega)
    have hz : (v.cells.zipIdx.foldl (fun cs (c, j) => cs.setIfInBounds (i' * s + j) c) C).toList = C.toList.take (i' * s) ++ v.cells.toList ++ C.toList.drop (i' * s + v.cells.toList.length) := by
      rw [← Array.foldl_toList]
      simpa using hf
    have hget : ∀ j, (v.cells.zipIdx.foldl (fun cs (c, j) => cs.setIfInBounds (i' * s + j) c) C)[j]? = if i' * s ≤ j ∧ j < i' * s + s then v.cells[j - i' * s]? else C[j]? := by
      intro j
      rw [← Array.getElem?_toList, hz, splice_get _ _ _ _ (by simp [hvs]; omega)]
      simp [hvs]
    obtain ⟨us, h1, h2, h3⟩ := fill_lit hs ps pv (fun i => if i = i' then cellsOf x else E i) (v.cells.zipIdx.foldl (fun cs (c, j) => cs.setIfInBounds (i' * s + j) c) C) (by simpa using hl) (fun j p hj => hp (j + 1) p (by simpa using hj)) k5
      (by rw [← Array.length_toList, hz]; simp [hvs]; omega) (fun i hi => by
        by_cases e : i = i'
        · simp only [if_pos e]; omega
        · simp only [if_neg e]; exact hEl i hi) (fun i k y hi hy => by
        rw [hget]
        by_cases e : i = i'
        · subst e
          simp only [↓reduceIte] at hy
          have hkl := lt_of_get hy
          rw [if_pos ⟨by omega, by omega⟩]
          obtain ⟨u, hu, hu2⟩ := hx.2 k y hy
          exact ⟨u, by rw [show i * s + k - i * s = k by omega]; simpa using hu, hu2⟩
        · simp only [if_neg e] at hy
          have hkl := lt_of_get hy
          rw [hEl i hi] at hkl
          rw [if_neg (by
            rintro ⟨c1, c2⟩
            exact row_apart (s := s) (k := k) (m := i * s + k - i' * s) e hkl (by omega) (by omega))]
          exact hE i k y hi hy)
    refine ⟨us, ?_, h2, fun i k y hi hy => ?_⟩
    · simp only [Instr.fill]
      rw [if_neg (by simp [hvs]; omega)]
      exact h1
    · refine h3 i k y hi ?_
      by_cases e : i = i'
      · subst e
        simp only [k4, if_pos rfl]
        simpa [List.lookup] using hy
      · have : (i == i') = false := by simpa using e
        simp only [List.lookup, this] at hy
        simp only [if_neg e]
        exact hy

/-- Zeros, one element behind the other. -/
theorem zero_get (z : Array Value) (n i k : Nat) (s : Nat) (hz : z.size = s) (hi : i < n) (hk : k < s) : ((Array.range (n * s)).map (z[· % z.size]!))[i * s + k]? = z[k]? := by
  have hlt : i * s + k < n * s := by
    have := Nat.mul_le_mul_right s (show i + 1 ≤ n from hi)
    rw [Nat.add_mul] at this; omega
  have hm : (i * s + k) % s = k := by rw [Nat.add_comm, Nat.add_mul_mod_self_right, Nat.mod_eq_of_lt hk]
  simp [hlt, hz, hm, hk]

theorem rep_zero {rd : Nat → Nat → Option Value} {zs : List AV} {z : Value} (h : z.cells.toList.map AV.sc = zs) {k : Nat} {y : AV} (hy : zs[k]? = some y) : ∃ u, z.cells[k]? = some u ∧ RepC rd os g w y u ∧ y = .sc u := by
  rw [← h, List.getElem?_map] at hy
  cases hzk : z.cells.toList[k]? with
  | none => rw [hzk] at hy; simp at hy
  | some u => rw [hzk] at hy; simp at hy; subst hy; exact ⟨u, by simpa using hzk, rfl, rfl⟩

theorem elemT (hP : PrOk P c) {t : TypeId} (k0 : 0 < (c.T t).sz) (k1 : isSliceT c t) : ∃ e, elemOf c t = e ∧ P.underlying t = some (.slice e) := by
  obtain ⟨_, d, _, i1, _, _, i4, _, _, _, i8, _⟩ := (hP.ty t k0).ex
  obtain ⟨e, hk⟩ : ∃ e, (c.T t).kind = .slice e := by
    unfold isSliceT at k1; split at k1
    · exact ⟨_, by assumption⟩
    · exact k1.elim
  rw [hk] at i8
  obtain rfl : d = .slice e := i8
  exact ⟨e, by simp [elemOf, hk], i4⟩

theorem allP_app {α : Type} {p : α → Prop} : ∀ {l m : List α}, allP p l → allP p m → allP p (l ++ m)
  | [], _, _, h => h
  | _ :: _, _, h, k => ⟨h.1, allP_app h.2 k⟩

theorem litOk_all {ti : TI} {n : Nat} : ∀ {ps : List (Nat × AV)}, litOk os ti n ps → allP (frzOk os) (ps.flatMap fun p => cellsOf p.2) ∧ (∀ p ∈ ps, p.1 < n ∧ allP (frzOk os) (cellsOf p.2) ∧ (cellsOf p.2).length = ti.sz)
  | [], _ => ⟨trivial, fun _ h => by cases h⟩
  | (i, v) :: r, h => by
    obtain ⟨h1, h2⟩ := litOk_all h.2.2.2.2
    refine ⟨by simp only [List.flatMap_cons]; exact allP_app h.2.2.1 h1, fun p hp => ?_⟩
    cases hp with
    | head _ => exact ⟨h.1, h.2.2.1, h.2.1⟩
    | tail _ hp => exact h2 p hp

theorem lookup_mem {α : Type} : ∀ {ps : List (Nat × α)} {i : Nat} {v : α}, ps.lookup i = some v → (i, v) ∈ ps
  | (j, x) :: r, i, v, h => by
    by_cases e : i = j
    · subst e; simp [List.lookup] at h; subst h; exact .head _
    · have : (i == j) = false := by simpa using e
      simp only [List.lookup, this] at h
      exact .tail _ (lookup_mem h)

theorem unownAll_len : ∀ (vs : List AV) (os : List AO), (unownAll os vs).length = os.length
  | [], _ => rfl
  | x :: r, os => by
    simp only [unownAll]
    rw [unownAll_len r]
    unfold unown
    split
    · split <;> simp
    · rfl

def litO (c : Cx) (os : List AO) (e n : Nat) (ps : List (Nat × AV)) : List AO :=
  unownAll os (ps.flatMap fun p => cellsOf p.2) ++ [.arr true (c.T e).sz ((litElems (c.T e) n ps).map fun x => x.map (frz os))]

theorem lit_ok (hP : PrOk P c) (h : SRel X os g w) {t : TypeId} {n : Nat} {ps : Array (Nat × Operand)} {rA : Operand → AV} {r : Operand → Value} (hr : ∀ p ∈ ps.toList, RepV (rdF X os g w) os g w (rA p.2) (r p.2))
    (k0 : 0 < (c.T t).sz) (k1 : isSliceT c t) (k2 : 0 < (c.T (elemOf c t)).sz) (k3 : n * (c.T (elemOf c t)).sz ≤ 16777216) (k4 : litOk os (c.T (elemOf c t)) n (ps.toList.map fun p => (p.1, rA p.2))) :
    ∃ v g' w', (Instr.buildSlice t n (ps.map fun p => (p.1, r p.2))).run P w = .ok v w' ∧
      SRel X (litO c os (elemOf c t) n (ps.toList.map fun p => (p.1, rA p.2))) g' w' ∧ Step X os g w (litO c os (elemOf c t) n (ps.toList.map fun p => (p.1, rA p.2))) g' w' ∧
      RepC (rdF X (litO c os (elemOf c t) n (ps.toList.map fun p => (p.1, rA p.2))) g' w') (litO c os (elemOf c t) n (ps.toList.map fun p => (p.1, rA p.2))) g' w' (.sl os.length 0 n) v ∧ Loc os g w (litO c os (elemOf c t) n (ps.toList.map fun p => (p.1, rA p.2))) g' w' [] := by
  obtain ⟨e, hel, i4⟩ := elemT hP k0 k1
  rw [hel] at k2 k3 k4 ⊢
  obtain ⟨j, dj, z, j1, j2, j3, j4, j5, j6, j7, j8, j9, _, hzl⟩ := (hP.ty e k2).ex
  obtain ⟨a1, a2⟩ := litOk_all k4
  obtain ⟨u1, u2, u3, u4⟩ := unownAll_ok _ h a1
  have hzs : z.cells.size = (c.T e).sz := by omega
  have hzlen : (c.T e).zero.length = (c.T e).sz := by rw [← j7]; simp [hzs]
  have hparts : ∀ (k : Nat) p, (ps.toList.map fun p => (p.1, rA p.2))[k]? = some p → ∃ q, (ps.toList.map fun p => (p.1, r p.2))[k]? = some q ∧ q.1 = p.1 ∧ RepL (rdF X os g w) os g w (cellsOf p.2) q.2.cells.toList := by
    intro k p hp2
    rw [List.getElem?_map] at hp2
    cases hpk : ps.toList[k]? with
    | none => rw [hpk] at hp2; simp at hp2
    | some u =>
      rw [hpk] at hp2; simp at hp2; subst hp2
      have hm : u ∈ ps.toList := List.mem_of_getElem? hpk
      have hu := (a2 (u.1, rA u.2) (List.mem_map.2 ⟨u, hm, rfl⟩)).2.1
      refine ⟨(u.1, r u.2), by rw [List.getElem?_map, hpk]; rfl, rfl, ?_⟩
      exact ((hr u hm).toA' hu).cells fun y hy u2 h2 => frzOk_one (allP_mem hu y hy) h2
  obtain ⟨us, f1, f2, f3⟩ := fill_lit (s := (c.T e).sz) (n := n) rfl _ _ (fun _ => (c.T e).zero) ((Array.range (n * (c.T e).sz)).map (z.cells[· % z.cells.size]!)) (by simp) hparts k4 (by simp) (fun _ _ => hzlen) fun i k y hi hy => by
    have hk : k < (c.T e).sz := by have := lt_of_get hy; omega
    rw [zero_get z.cells n i k _ hzs hi hk]
    obtain ⟨u, hu, hu2, _⟩ := rep_zero (rd := rdF X os g w) (os := os) (g := g) (w := w) j7 hy
    exact ⟨u, hu, hu2⟩
  -- the row's elements, given up
  have hE : RepE (rdF X (unownAll os ((ps.toList.map fun p => (p.1, rA p.2)).flatMap fun p => cellsOf p.2)) g w) (c.T e).sz ((litElems (c.T e) n (ps.toList.map fun p => (p.1, rA p.2))).map fun x => x.map (frz os)) us.toList := by
    refine ⟨by simp [f2, litElems_len], fun x hx => ?_, fun i k x y hx hy => ?_⟩
    · obtain ⟨x0, hx0, rfl⟩ := List.mem_map.1 hx
      obtain ⟨i, hi, e1⟩ := List.mem_iff_getElem.1 hx0
      rw [litElems_len] at hi
      have := litElems_get (c.T e) (ps.toList.map fun p => (p.1, rA p.2)) n i hi
      rw [List.getElem?_eq_getElem (by rw [litElems_len]; exact hi)] at this
      simp only [Option.some.injEq] at this
      rw [← e1, this, List.length_map]
      split
      · rename_i v hv; exact (a2 _ (lookup_mem hv)).2.2
      · exact hzlen
    · rw [List.getElem?_map] at hx
      have hi : i < n := by
        rcases Nat.lt_or_ge i n with h' | h'
        · exact h'
        · rw [List.getElem?_eq_none (by rw [litElems_len]; exact h')] at hx; cases hx
      rw [litElems_get _ _ n i hi] at hx
      simp only [Option.map_some, Option.some.injEq] at hx
      subst hx
      rw [List.getElem?_map] at hy
      cases hyk : (match (ps.toList.map fun p => (p.1, rA p.2)).lookup i with | some v => cellsOf v | none => (c.T e).zero)[k]? with
      | none => rw [hyk] at hy; cases hy
      | some y0 =>
        rw [hyk] at hy
        simp only [Option.map_some, Option.some.injEq] at hy
        subst hy
        obtain ⟨u, hu, hu2⟩ := f3 i k y0 hi hyk
        refine ⟨u, by simpa using hu, ?_⟩
        have hmem : y0 ∈ (match (ps.toList.map fun p => (p.1, rA p.2)).lookup i with | some v => cellsOf v | none => (c.T e).zero) := List.mem_of_getElem? hyk
        split at hmem
        · rename_i v hv
          have hm := lookup_mem hv
          have hf := allP_mem (a2 _ hm).2.1 y0 hmem
          have hf2 := frz_un u3 y0 hf
          rw [← hf2.1]
          refine frz_ok u1 hf2.2 (fun L o nn e1 => ?_) (u2.repC hu2)
          subst e1
          exact u4 L o nn (List.mem_flatMap.2 ⟨_, hm, hmem⟩)
        · obtain ⟨k', hk', e1⟩ := List.mem_iff_getElem.1 hmem
          obtain ⟨u', _, _, e2⟩ := rep_zero (rd := rdF X os g w) (os := os) (g := g) (w := w) j7 (List.getElem?_eq_getElem hk')
          rw [e1] at e2
          subst e2
          have : u = u' := hu2
          subst this
          refine .sc (j9 u ?_)
          have : (AV.sc u) ∈ (c.T e).zero := hmem
          rw [← j7] at this
          obtain ⟨u0, h0, e0⟩ := List.mem_map.1 this
          cases e0; exact h0
  obtain ⟨g1, g2, g3, g4⟩ := u1.grown (w0 := w) (rest := []) k2 hE e n (by simp [litElems_len]) (by simp [litElems_len]) rfl rfl rfl rfl us (by simp)
  have hlen : ((litElems (c.T e) n (ps.toList.map fun p => (p.1, rA p.2))).map fun x => x.map (frz os)).length = n := by simp [litElems_len]
  rw [hlen, unownAll_len] at g3
  rw [unownAll_len] at g1 g2 g4
  refine ⟨_, _, _, ?_, g1, u2.trans g2, g3, g4.1, fun L hL b hm hb => (g4.2 L hL b hm hb).imp (fun h' => ⟨u3.own h'.1, h'.2⟩) id⟩
  have hsize : ¬ (16777216 < n * (c.T e).sz) := by omega
  have e1 : (ps.map fun p => (p.1, r p.2)).toList = ps.toList.map fun p => (p.1, r p.2) := by simp
  by_cases hn : n * (c.T e).sz = 0
  · have hC : ((Array.range (n * (c.T e).sz)).map (z.cells[· % z.cells.size]!)) = #[] := by rw [hn]; simp
    rw [hC] at f1
    simp [Instr.buildSlice, run_underlying i4, sizeOf, typeInfo, j1, j2, hn, f1, newRow, Array.range_zero']
  · simp [Instr.buildSlice, run_underlying i4, sizeOf, typeInfo, zeroValue, j1, j2, j6, hn, hsize, f1, newRow]


theorem run_app_zeros (w : World) (t u ty e : TypeId) (i : TypeInfo) (z : Value) (ht : P.underlying t = some (.slice e)) (hi : P.info? e = some i) (hz : i.zero = some z) {ku : IntKind} (hu : P.underlying u = some (.int ku)) (k : IntKind) (n : Int) (h0 : 0 < n) (hn : n ≤ 140737488355328)
    (hb : n.toNat * i.bytes ≤ 140737488355328) :
    (Builtin.append_ #[t, u] ty #[.slice none 0 0, .int k n]).run P w = .ok (.slice (some ⟨w.heap.size, 0, none⟩) n.toNat (grownCap w n.toNat 0 e)) (w.drew.alloc (.cells ((if n.toNat * i.size = 0 then #[] else Builtin.zeroCells z.cells n.toNat) ++ Builtin.zeroCells z.cells (grownCap w n.toNat 0 e - n.toNat)) e)) := by
  have e1 : IntKind.i64.wrap n = n := by simp [IntKind.wrap, IntKind.bits, IntKind.signed]; omega
  have h1 : ¬ n < 0 := by omega
  have h2 : ¬ (281474976710656 < n * (i.bytes : Int)) := by
    have : ((n.toNat * i.bytes : Nat) : Int) = n * i.bytes := by rw [Int.natCast_mul, Int.toNat_of_nonneg (by omega)]
    omega
  have h3 : ¬ (n.toNat = 0) := by omega
  have h4 : ¬ (n ≤ 0) := by omega
  have h63' : ¬ (9223372036854775807 < ((n.toNat : Nat) : Int)) := by omega
  have h63b : ¬ (9223372036854775807 < n) := by omega
  have h48' : ¬ (281474976710656 < Builtin.nextslicecap n.toNat 0 * i.bytes) := by
    have := growslice_fits (need := n.toNat) (old := 0) (bytes := i.bytes) (by omega) hb
    omega
  have hmx : max n 0 = n := by omega
  by_cases hs : n.toNat * i.size = 0
  · rw [if_pos hs]
    have hs' := hs
    rw [Nat.mul_eq_zero] at hs'
    simp [Builtin.append_, run_underlying ht, run_underlying hu, sizeOf, typeInfo, zeroValue, hi, hz, asInt, asIntOf, e1, h1, h2, h3, h4, hmx, h63', h63b, h48', Question.forced, newRow, grownCap, hs, hs', Builtin.firstCells]
  · rw [if_neg hs]
    have hs' := hs
    rw [Nat.mul_eq_zero] at hs'
    simp [Builtin.append_, run_underlying ht, run_underlying hu, sizeOf, typeInfo, zeroValue, hi, hz, asInt, asIntOf, e1, h1, h2, h3, h4, hmx, h63', h63b, h48', Question.forced, newRow, grownCap, hs, hs', Builtin.firstCells]

theorem run_app_zero0 (w : World) (t u ty e : TypeId) (i : TypeInfo) (ht : P.underlying t = some (.slice e)) (hi : P.info? e = some i) {ku : IntKind} (hu : P.underlying u = some (.int ku)) (k : IntKind) :
    (Builtin.append_ #[t, u] ty #[.slice none 0 0, .int k 0]).run P w = .ok (.slice none 0 0) w := by
  have e1 : IntKind.i64.wrap 0 = 0 := rfl
  simp [Builtin.append_, run_underlying ht, run_underlying hu, sizeOf, typeInfo, hi, asInt, asIntOf, e1]

/-- append(nil, make([]E, n)...). -/
theorem zeros_ok (hP : PrOk P c) (h : SRel X os g w) {t u : TypeId} (ty : TypeId) {k : IntKind} {n : Int} (k0 : 0 < (c.T t).sz) (k1 : isSliceT c t) (k2 : 0 < (c.T (elemOf c t)).sz) (ku : 0 < (c.T u).sz) (k3 : isIntK (c.T u).kind = true) (h0 : 0 < n)
    (h1 : n * ((c.T (elemOf c t)).bytes : Int) ≤ 140737488355328) (h2 : n ≤ 140737488355328) :
    ∃ v g' w', (Builtin.append_ #[t, u] ty #[.slice none 0 0, .int k n]).run P w = .ok v w' ∧
      SRel X (os ++ [.arr true (c.T (elemOf c t)).sz (List.replicate n.toNat (c.T (elemOf c t)).zero)]) g' w' ∧ Step X os g w (os ++ [.arr true (c.T (elemOf c t)).sz (List.replicate n.toNat (c.T (elemOf c t)).zero)]) g' w' ∧
      RepC (rdF X (os ++ [.arr true (c.T (elemOf c t)).sz (List.replicate n.toNat (c.T (elemOf c t)).zero)]) g' w') (os ++ [.arr true (c.T (elemOf c t)).sz (List.replicate n.toNat (c.T (elemOf c t)).zero)]) g' w' (.sl os.length 0 n.toNat) v ∧ Loc os g w (os ++ [.arr true (c.T (elemOf c t)).sz (List.replicate n.toNat (c.T (elemOf c t)).zero)]) g' w' [] := by
  obtain ⟨e, hel, i4⟩ := elemT hP k0 k1
  rw [hel] at k2 h1 ⊢
  obtain ⟨j, dj, z, j1, j2, j3, j4, j5, j6, j7, j8, j9, _, hzl⟩ := (hP.ty e k2).ex
  obtain ⟨_, du, _, _, _, _, q4, _, _, _, q8, _⟩ := (hP.ty u ku).ex
  obtain ⟨kk, hkk⟩ : ∃ kk, (c.T u).kind = .int kk := by
    cases hq : (c.T u).kind <;> rw [hq] at k3 <;> first | exact ⟨_, rfl⟩ | cases k3
  rw [hkk] at q8
  obtain rfl : du = .int kk := q8
  have hrun := run_app_zeros (P := P) w t u ty e j z i4 j1 j6 q4 k n h0 h2 (by
    have : ((n.toNat * (c.T e).bytes : Nat) : Int) = n * (c.T e).bytes := by rw [Int.natCast_mul, Int.toNat_of_nonneg (by omega)]
    rw [j3]; omega)
  have hzs : z.cells.size = (c.T e).sz := by omega
  have hzlen : (c.T e).zero.length = (c.T e).sz := by rw [← j7]; simp [hzs]
  rw [if_neg (by rw [j2, Nat.mul_eq_zero]; omega)] at hrun
  have hE : RepE (rdF X os g w) (c.T e).sz (List.replicate n.toNat (c.T e).zero) (Builtin.zeroCells z.cells n.toNat).toList := by
    refine ⟨?_, fun x hx => ?_, fun i k x y hx hy => ?_⟩
    · rw [Array.length_toList, size_zeroCells, List.length_replicate, hzs]
    · obtain rfl := List.eq_of_mem_replicate hx; exact hzlen
    · rw [List.getElem?_replicate] at hx
      split at hx
      · rename_i hi
        cases hx
        have hk : k < (c.T e).sz := by have := lt_of_get hy; omega
        obtain ⟨u, hu, _, rfl⟩ := rep_zero (rd := rdF X os g w) (os := os) (g := g) (w := w) j7 hy
        refine ⟨u, ?_, .sc (j9 u ?_)⟩
        · rw [Array.getElem?_toList]
          unfold Builtin.zeroCells
          rw [hzs]
          have := zero_get z.cells n.toNat i k _ hzs hi hk
          rw [hzs] at this
          rw [this]
          exact hu
        · exact List.mem_of_getElem? (by rw [Array.getElem?_toList]; exact hu)
      · cases hx
  obtain ⟨g1, g2, g3, g4⟩ := h.grown (w0 := w.drew) k2 hE e (grownCap w n.toNat 0 e) (by rw [List.length_replicate]; exact grownCap_ge w _ 0 e) (rest := (Builtin.zeroCells z.cells (grownCap w n.toNat 0 e - n.toNat)).toList)
    (by rw [Array.length_toList, size_zeroCells, hzs, List.length_replicate]) rfl rfl rfl rfl (Builtin.zeroCells z.cells n.toNat ++ Builtin.zeroCells z.cells (grownCap w n.toNat 0 e - n.toNat)) (by simp)
  rw [List.length_replicate] at g3
  exact ⟨_, _, _, hrun, g1, g2, g3, g4⟩

theorem make_ok (hP : PrOk P c) (h : SRel X os g w) {t : TypeId} {kl km : IntKind} {l m : Int} (k0 : 0 < (c.T t).sz) (k1 : isSliceT c t) (k2 : 0 < (c.T (elemOf c t)).sz) (h0 : 0 ≤ l) (h1 : l ≤ m)
    (h2 : (c.T (elemOf c t)).bytes * m ≤ 281474976710656) (h3 : m ≤ 9223372036854775807) :
    ∃ v g' w', (Instr.makeSlice t (.int kl l) (.int km m)).run P w = .ok v w' ∧
      SRel X (os ++ [.arr true (c.T (elemOf c t)).sz (List.replicate l.toNat (c.T (elemOf c t)).zero)]) g' w' ∧ Step X os g w (os ++ [.arr true (c.T (elemOf c t)).sz (List.replicate l.toNat (c.T (elemOf c t)).zero)]) g' w' ∧
      RepC (rdF X (os ++ [.arr true (c.T (elemOf c t)).sz (List.replicate l.toNat (c.T (elemOf c t)).zero)]) g' w') (os ++ [.arr true (c.T (elemOf c t)).sz (List.replicate l.toNat (c.T (elemOf c t)).zero)]) g' w' (.sl os.length 0 l.toNat) v ∧ Loc os g w (os ++ [.arr true (c.T (elemOf c t)).sz (List.replicate l.toNat (c.T (elemOf c t)).zero)]) g' w' [] := by
  obtain ⟨e, hel, i4⟩ := elemT hP k0 k1
  rw [hel] at k2 h2 ⊢
  obtain ⟨j, dj, z, j1, j2, j3, j4, j5, j6, j7, j8, j9, _, hzl⟩ := (hP.ty e k2).ex
  have hrun := run_make (P := P) w t e j z i4 j1 j6 kl km l m h0 h1 (by rw [j3]; exact h2) h3
  have hzs : z.cells.size = (c.T e).sz := by omega
  have hzlen : (c.T e).zero.length = (c.T e).sz := by rw [← j7]; simp [hzs]
  have hle : l.toNat * (c.T e).sz ≤ m.toNat * (c.T e).sz := Nat.mul_le_mul_right _ (by omega)
  have hE : RepE (rdF X os g w) (c.T e).sz (List.replicate l.toNat (c.T e).zero) ((madeCells z.cells (m.toNat * j.size)).toList.take (l.toNat * (c.T e).sz)) := by
    refine ⟨?_, fun x hx => ?_, fun i k x y hx hy => ?_⟩
    · rw [List.length_take, Array.length_toList, size_madeCells, List.length_replicate, j2]; omega
    · obtain rfl := List.eq_of_mem_replicate hx; exact hzlen
    · rw [List.getElem?_replicate] at hx
      split at hx
      · rename_i hi
        cases hx
        have hk : k < (c.T e).sz := by have := lt_of_get hy; omega
        obtain ⟨u, hu, _, rfl⟩ := rep_zero (rd := rdF X os g w) (os := os) (g := g) (w := w) j7 hy
        have hlt : i * (c.T e).sz + k < l.toNat * (c.T e).sz := by
          have := Nat.mul_le_mul_right (c.T e).sz (show i + 1 ≤ l.toNat from hi)
          rw [Nat.add_mul] at this; omega
        refine ⟨u, ?_, .sc (j9 u ?_)⟩
        · rw [List.getElem?_take, if_pos hlt, Array.getElem?_toList]
          unfold madeCells
          rw [j2, zero_get z.cells m.toNat i k _ hzs (by omega) hk]
          exact hu
        · exact List.mem_of_getElem? (by rw [Array.getElem?_toList]; exact hu)
      · cases hx
  obtain ⟨g1, g2, g3, g4⟩ := h.grown (w0 := w) (rest := (madeCells z.cells (m.toNat * j.size)).toList.drop (l.toNat * (c.T e).sz)) k2 hE e m.toNat (by rw [List.length_replicate]; omega)
    (by rw [List.length_drop, Array.length_toList, size_madeCells, List.length_replicate, j2, ← Nat.sub_mul]) rfl rfl rfl rfl (madeCells z.cells (m.toNat * j.size)) (by simp)
  rw [List.length_replicate] at g3
  exact ⟨_, _, _, hrun, g1, g2, g3, g4⟩

theorem alloc_ok (hP : PrOk P c) (h : SRel X os g w) {t : TypeId} (k0 : 0 < (c.T t).sz) :
    ∃ v g' w', (Instr.alloc t true (.tuple #[])).run P w = .ok v w' ∧ SRel X (os ++ [.rc (c.T t).zero]) g' w' ∧ Step X os g w (os ++ [.rc (c.T t).zero]) g' w' ∧
      RepC (rdF X (os ++ [.rc (c.T t).zero]) g' w') (os ++ [.rc (c.T t).zero]) g' w' (.pt os.length 0) v ∧ Loc os g w (os ++ [.rc (c.T t).zero]) g' w' [] := by
  obtain ⟨j, dj, z, j1, j2, j3, j4, j5, j6, j7, j8, j9, _, hzl⟩ := (hP.ty t k0).ex
  have hr : RepL (rdF X os g w) os g w (c.T t).zero z.cells.toList := by
    rw [← j7]
    refine ⟨by simp, fun k y hy => ?_⟩
    rw [j7] at hy
    obtain ⟨u, hu, hu2, _⟩ := rep_zero (rd := rdF X os g w) (os := os) (g := g) (w := w) j7 hy
    exact ⟨u, by simpa using hu, hu2⟩
  obtain ⟨g1, g2⟩ := h.pushRc hr t
  refine ⟨.pointer (some ⟨w.heap.size, 0, none⟩), _, _, ?_, g1, g2, ?_, Loc.push fun b hb => heap_alloc_old w _ hb⟩
  · simp [Instr.alloc, zeroValue, typeInfo, j1, j6, newVar, newRow]
  · simp only [RepC]
    rw [push_get, if_neg (by omega), if_pos rfl, updG_same]
    exact ⟨_, rfl, rfl⟩

theorem box_ok (hP : PrOk P c) (h : SRel X os g w) {t : TypeId} {x : AV} {vx : Value} (hx : RepV (rdF X os g w) os g w x vx) (k0 : 0 < (c.T t).sz) (k2 : allP (recOk os) (cellsOf x)) :
    ∃ v g' w', (Instr.box t vx).run P w = .ok v w' ∧ SRel X (os ++ [.rc (cellsOf x)]) g' w' ∧ Step X os g w (os ++ [.rc (cellsOf x)]) g' w' ∧
      RepC (rdF X (os ++ [.rc (cellsOf x)]) g' w') (os ++ [.rc (cellsOf x)]) g' w' (.pt os.length 0) v ∧ Loc os g w (os ++ [.rc (cellsOf x)]) g' w' [] := by
  have hr := (hx.toA k2).cells fun y hy u h => recOk_one (allP_mem k2 y hy) h
  obtain ⟨g1, g2⟩ := h.pushRc hr t
  refine ⟨.pointer (some ⟨w.heap.size, 0, none⟩), _, _, ?_, g1, g2, ?_, Loc.push fun b hb => heap_alloc_old w _ hb⟩
  · simp [Instr.box, newVar, newRow]
  · simp only [RepC]
    rw [push_get, if_neg (by omega), if_pos rfl, updG_same]
    exact ⟨_, rfl, rfl⟩

theorem unown_notSl {L : Nat} {x : AV} (h : notSl L x) (os : List AO) : (unown os x)[L]? = os[L]? := by
  unfold unown
  split
  · split
    · rw [set_other (by exact h)]
    · rfl
  · rfl

theorem unownAll_notSl {L : Nat} : ∀ (vs : List AV) (os : List AO), allP (notSl L) vs → (unownAll os vs)[L]? = os[L]?
  | [], _, _ => rfl
  | x :: r, os, h => by simp only [unownAll]; rw [unownAll_notSl r _ h.2, unown_notSl h.1]

theorem allP_frz {vs : List AV} : allP (frzOk os) vs → ∀ y ∈ vs, ∀ u rd, RepC rd os g w y u → u.oneCell' = true :=
  fun h y hy u rd hr => frzOk_one (allP_mem h y hy) hr

theorem store_ok (hP : PrOk P c) (hX : X.Ok) (h : SRel X os g w) {t : TypeId} {a x : AV} {va vx : Value} (ha : RepV (rdF X os g w) os g w a va) (hx : RepV (rdF X os g w) os g w x vx) (k0 : 0 < (c.T t).sz) (k1 : (cellsOf x).length = (c.T t).sz)
    (k2 : storeOk os a (cellsOf x)) :
    ∃ w', (Instr.storeAt t va vx).run P w = .ok () w' ∧ SRel X (storeA os a (cellsOf x)) g w' ∧ Step X os g w (storeA os a (cellsOf x)) g w' ∧ Loc os g w (storeA os a (cellsOf x)) g w' (names a) := by
  obtain ⟨j, dj, z, j1, j2, j3, j4, j5, j6, j7, j8, j9, _, hzl⟩ := (hP.ty t k0).ex
  have hstore : ∀ (b o : Nat) (w' : World), vx.cells.toList.length = (c.T t).sz → (storeCells ⟨b, o, none⟩ vx.cells.toList).run P w = .ok () w' → (Instr.storeAt t (.pointer (some ⟨b, o, none⟩)) vx).run P w = .ok () w' := by
    intro b o w' hl hst
    have : vx.cells.size = j.size := by rw [j2]; simpa using hl
    simp [Instr.storeAt, Instr.sureAddr, storeVar, sizeOf, typeInfo, j1, this, hst]
  unfold storeOk at k2
  split at k2
  · rename_i L k
    split at k2
    · rename_i cs hL
      obtain ⟨k2, k3⟩ := k2
      have hr := (hx.toA k3).cells fun y hy u h => recOk_one (allP_mem k3 y hy) h
      have ha' : RepC (rdF X os g w) os g w (.pt L k) va := ha
      simp only [RepC, hL] at ha'
      obtain ⟨b1, hb1, rfl⟩ := ha'
      obtain ⟨w', s1, s2, s3, s4⟩ := h.storeRc (P := P) hX hb1 hL k2 hr fun u hu => by
        obtain ⟨m, hm, e⟩ := List.mem_iff_getElem.1 hu
        obtain ⟨u', hu', hr'⟩ := hr.2 m _ (List.getElem?_eq_getElem (by have := hr.1; omega))
        rw [List.getElem?_eq_getElem hm] at hu'
        simp only [Option.some.injEq] at hu'
        rw [← e, hu']
        exact recOk_one (allP_mem k3 _ (List.getElem_mem _)) hr'
      refine ⟨w', hstore _ _ _ (by rw [hr.1]; exact k1) s1, ?_, ?_, fun b hb hne => s4 b (fun e => hne L (by simp [names]) (e ▸ List.mem_of_mem_head? hb1)), fun M hM b hm _ => .inl ⟨?_, hm⟩⟩
      · simp only [storeA, hL]; exact s2
      · simp only [storeA, hL]; exact s3
      · simp only [storeA, hL] at hM
        by_cases e : L = M
        · subst e; unfold own; rw [hL]; trivial
        · unfold own at hM ⊢; rw [set_other e] at hM; exact hM
    · exact k2.elim
  · rename_i L i k
    split at k2
    · rename_i s xs hL
      obtain ⟨k2, k3, k4, k5⟩ := k2
      have hxi : xs[i]? = some xs[i] := List.getElem?_eq_getElem k2
      have hxd : xs.getD i [] = xs[i] := by simp [List.getD, hxi]
      have hr := (hx.toA' k4).cells fun y hy u h => frzOk_one (allP_mem k4 y hy) h
      have ha' : RepC (rdF X os g w) os g w (.pa L i k) va := ha
      simp only [RepC, hL] at ha'
      obtain ⟨b1, hb1, rfl⟩ := ha'
      obtain ⟨u1, u2, u3, u4⟩ := unownAll_ok (cellsOf x) h k4
      have hL' : (unownAll os (cellsOf x))[L]? = some (.arr true s xs) := by rw [unownAll_notSl _ _ k5]; exact hL
      rw [hxd] at k3
      obtain ⟨w', s1, s2, s3, s4⟩ := u1.storeArr (P := P) hX hb1 (ds := (cellsOf x).map (frz os)) (us := vx.cells.toList) hL' hxi (by simpa using k3) (by simp [hr.1]) (fun m y hy => by
        rw [List.getElem?_map] at hy
        cases hm : (cellsOf x)[m]? with
        | none => rw [hm] at hy; cases hy
        | some y0 =>
          rw [hm] at hy
          simp only [Option.map_some, Option.some.injEq] at hy
          subst hy
          obtain ⟨u, hu, hu2⟩ := hr.2 m y0 hm
          refine ⟨u, hu, ?_⟩
          have hf := allP_mem k4 y0 (List.mem_of_getElem? hm)
          have hf2 := frz_un u3 y0 hf
          rw [← hf2.1]
          refine frz_ok u1 hf2.2 (fun L o nn e1 => ?_) (u2.repC hu2)
          subst e1
          exact u4 L o nn (List.mem_of_getElem? hm)) (fun u hu => by
        obtain ⟨m, hm, e⟩ := List.mem_iff_getElem.1 hu
        obtain ⟨u', hu', hr'⟩ := hr.2 m _ (List.getElem?_eq_getElem (by have := hr.1; omega))
        rw [List.getElem?_eq_getElem hm] at hu'
        simp only [Option.some.injEq] at hu'
        rw [← e, hu']
        exact frzOk_one (allP_mem k4 _ (List.getElem_mem _)) hr')
      refine ⟨w', hstore _ _ _ (by rw [hr.1]; exact k1) s1, ?_, ?_, fun b hb hne => s4 b (fun e => hne L (by simp [names]) (e ▸ List.mem_of_mem_head? hb1)), fun M hM b hm _ => .inl ⟨?_, hm⟩⟩
      · simp only [storeA, hL, hxd]; exact s2
      · simp only [storeA, hL, hxd]; exact u2.trans s3
      · simp only [storeA, hL] at hM
        by_cases e : L = M
        · subst e; unfold own; rw [hL]; trivial
        · refine u3.own ?_; unfold own at hM ⊢; rw [set_other e] at hM; exact hM
    · rename_i s xs j row hL
      obtain ⟨rfl, k2, k3⟩ := k2
      have hr := (hx.toA k3).cells fun y hy u h => recOk_one (allP_mem k3 y hy) h
      have ha' : RepC (rdF X os g w) os g w (.pa L i k) va := ha
      simp only [RepC, hL] at ha'
      obtain ⟨b1, hb1, rfl⟩ := ha'
      obtain ⟨w', s1, s2, s3, s4⟩ := h.storeN (P := P) hX hb1 hL k2 hr fun u hu => by
        obtain ⟨m, hm, e⟩ := List.mem_iff_getElem.1 hu
        obtain ⟨u', hu', hr'⟩ := hr.2 m _ (List.getElem?_eq_getElem (by have := hr.1; omega))
        rw [List.getElem?_eq_getElem hm] at hu'
        simp only [Option.some.injEq] at hu'
        rw [← e, hu']
        exact recOk_one (allP_mem k3 _ (List.getElem_mem _)) hr'
      refine ⟨w', hstore _ _ _ (by rw [hr.1]; exact k1) s1, ?_, ?_, fun b hb hne => s4 b (fun e => hne L (by simp [names]) (e ▸ List.mem_of_mem_head? hb1)), fun M hM b hm _ => .inl ⟨?_, hm⟩⟩
      · simp only [storeA, hL]; exact s2
      · simp only [storeA, hL]; exact s3
      · simp only [storeA, hL] at hM
        by_cases e : L = M
        · subst e; unfold own; rw [hL]; trivial
        · unfold own at hM ⊢; rw [set_other e] at hM; exact hM
    · exact k2.elim
  · exact k2.elim

end Go.AM
end
section
/- Views: the same memory, told with fewer names. Conditions: none. -/
namespace Go.AM
open Go

variable {P : Program} {c : Cx} {X : Ctx} {os : List AO} {g : Nat → List Nat} {w : World}

theorem pos_some : ∀ {ks : List Nat} {L j : Nat}, pos ks L = some j → ks[j]? = some L
  | [], L, j, h => by cases h
  | a :: r, L, j, h => by
    unfold pos at h
    split at h
    · rename_i e; subst e; cases h; rfl
    · cases hp : pos r L with
      | none => rw [hp] at h; cases h
      | some i => rw [hp] at h; cases h; simpa using pos_some hp

theorem pos_none : ∀ {ks : List Nat} {L : Nat}, pos ks L = none → L ∉ ks
  | [], L, _ => by simp
  | a :: r, L, h => by
    unfold pos at h
    split at h
    · cases h
    · rename_i e
      cases hp : pos r L with
      | none => simp only [List.mem_cons, not_or]; exact ⟨fun h => e h.symm, pos_none hp⟩
      | some i => rw [hp] at h; cases h

theorem pos_mem {ks : List Nat} {L : Nat} (h : L ∈ ks) : ∃ j, pos ks L = some j := by
  cases hp : pos ks L with
  | none => exact absurd h (pos_none hp)
  | some j => exact ⟨j, rfl⟩

theorem nodupN_spec : ∀ {ks : List Nat}, nodupN ks = true → ks.Nodup
  | [], _ => .nil
  | a :: r, h => by
    simp only [nodupN, Bool.and_eq_true, Option.isNone_iff_eq_none] at h
    exact List.nodup_cons.2 ⟨pos_none h.1, nodupN_spec h.2⟩

theorem nodup_get {ks : List Nat} (h : ks.Nodup) {i j L : Nat} (hi : ks[i]? = some L) (hj : ks[j]? = some L) : i = j := by
  have h1 := lt_of_get hi
  have h2 := lt_of_get hj
  rw [List.getElem?_eq_getElem h1] at hi
  rw [List.getElem?_eq_getElem h2] at hj
  simp only [Option.some.injEq] at hi hj
  exact (List.getElem_inj h).1 (hi.trans hj.symm)

theorem fromN_spec : ∀ {i n : Nat} {ks : List Nat}, fromN i n ks = true → ∀ j, j < n → ∃ a, ks[j]? = some a ∧ (a = i + j ∨ (1000000 ≤ a ∧ a ≤ 1999999))
  | i, 0, ks, _, j, hj => by omega
  | i, n + 1, [], h, j, hj => by simp [fromN] at h
  | i, n + 1, a :: r, h, j, hj => by
    simp only [fromN, Bool.and_eq_true, Bool.or_eq_true, beq_iff_eq, Nat.ble_eq] at h
    cases j with
    | zero => exact ⟨a, rfl, h.1⟩
    | succ j =>
      obtain ⟨b, hb, hb'⟩ := fromN_spec h.2 j (by omega)
      exact ⟨b, by simpa using hb, by omega⟩

theorem viewS_get (ks : List Nat) (os : List AO) (j : Nat) : (viewS ks os)[j]? = (ks[j]?).map fun L => viewO ks os (os.getD L (virt L)) := by simp [viewS]

theorem getD_some {os : List AO} {L : Nat} {o d : AO} (h : os[L]? = some o) : os.getD L d = o := by simp [List.getD, h]
theorem getD_none {os : List AO} {L : Nat} {d : AO} (h : os[L]? = none) : os.getD L d = d := by simp [List.getD, h]
theorem viewO_virt (ks : List Nat) (os : List AO) (L : Nat) : viewO ks os (virt L) = virt L := by unfold virt; split <;> (try split) <;> rfl
theorem viewS_none {ks : List Nat} {os : List AO} {j L : Nat} (h : ks[j]? = some L) (ho : os[L]? = none) : (viewS ks os)[j]? = some (virt L) := by
  rw [viewS_get, h]; simp only [Option.map_some, getD_none ho, viewO_virt]

theorem viewS_some {ks : List Nat} {os : List AO} {j L : Nat} {o : AO} (h : ks[j]? = some L) (ho : os[L]? = some o) : (viewS ks os)[j]? = some (viewO ks os o) := by
  rw [viewS_get, h]; simp only [Option.map_some, getD_some ho]

/-- A part of a row that nobody writes any more. -/
theorem fz_of_row {rd : Nat → Nat → Option Value} {s : Nat} {xs : List (List AV)} {b off n : Nat} {v : Value} {cap : Nat} (ho : Row rd b 0 s xs) (hc : n ≤ cap) (hn : off + n ≤ xs.length)
    (hv : v = .slice (some ⟨b, off * s, none⟩) n cap ∨ (cap = 0 ∧ ∃ a, v = .slice a 0 0)) : RepP rd (.fz s ((xs.drop off).take n)) v := by
  have hlen : ((xs.drop off).take n).length = n := by simp; omega
  rcases hv with rfl | ⟨rfl, a, rfl⟩
  · have hp := Row.part ho off (off + n)
    have e : (xs.take (off + n)).drop off = (xs.drop off).take n := by rw [List.drop_take]; congr 1; omega
    rw [e, Nat.zero_add] at hp
    have := RepP.of_row hp (c := cap) (by omega)
    rw [hlen] at this
    exact this
  · have : n = 0 := by omega
    subst this
    exact .nil

theorem posAll_some {ks : List Nat} : ∀ {ps q : List (Nat × Nat)}, posAll ks ps = some q → q.length = ps.length ∧ ∀ (i : Nat) p r, ps[i]? = some p → q[i]? = some r → ks[r.1]? = some p.1 ∧ p.2 = r.2
  | [], q, h => by
    cases h
    exact ⟨rfl, fun i p r h => by simp at h⟩
  | p :: ps, q, h => by
    simp only [posAll] at h
    cases h1 : pos ks p.1 with
    | none => rw [h1] at h; cases h
    | some j =>
      cases h2 : posAll ks ps with
      | none => rw [h1, h2] at h; cases h
      | some q' =>
        rw [h1, h2] at h
        cases h
        obtain ⟨h3, h4⟩ := posAll_some h2
        refine ⟨by simp [h3], fun i a b ha hb => ?_⟩
        cases i with
        | zero => simp at ha hb; subst ha; subst hb; exact ⟨pos_some h1, rfl⟩
        | succ i => simp at ha hb; exact h4 i a b ha hb

theorem viewC_ok {rd rd' : Nat → Nat → Option Value} {ks : List Nat} {g' : Nat → List Nat} (hm : ∀ b o v, rd b o = some v → rd' b o = some v) (hg : ∀ j L o, ks[j]? = some L → os[L]? = some o → g' j = g L) {x : AV} {v : Value}
    (hsh : ∀ L ∈ shownC ks x, ∀ o s xs, os[L]? = some o → o.fzr = some (s, xs) → ∀ b, (g L).head? = some b → Row rd' b 0 s xs) (h : RepC rd os g w x v) : RepC rd' (viewS ks os) g' w (viewC ks os x) v := by
  cases x with
  | sc u => exact h
  | fz s xs => exact RepP.mono hm h
  | fp s xs i k => obtain ⟨b, o, hv, hr⟩ := h; exact ⟨b, o, hv, hr.mono hm⟩
  | sl L off n =>
    simp only [viewC]
    cases hp : pos ks L with
    | some j =>
      have hj := pos_some hp
      simp only [RepC] at h ⊢
      cases hL : os[L]? with
      | none =>
        rw [hL] at h
        obtain ⟨rfl, rfl, a, rfl⟩ := h
        rw [viewS_none hj hL]
        by_cases hv3 : 3000000 ≤ L
        · simp only [virt, if_pos hv3]; exact ⟨0, Nat.le_refl _, Nat.zero_le _, .inr ⟨rfl, a, rfl⟩⟩
        by_cases hv2 : 2000000 ≤ L
        · simp only [virt, if_neg hv3, if_pos hv2]; exact ⟨0, Nat.le_refl _, Nat.zero_le _, .inr ⟨rfl, a, rfl⟩⟩
        · simp only [virt, if_neg hv3, if_neg hv2]
      | some o =>
        rw [hL] at h
        rw [viewS_some hj hL]
        cases o with
        | arr ow s xs => simp only [viewO, hg j L _ hj hL]; exact h
        | nst s xs op => cases op <;> (simp only [viewO, hg j L _ hj hL]; exact h)
        | rc cs => trivial
        | dead => trivial
    | none =>
      simp only [RepC] at h
      cases hL : os[L]? with
      | none => trivial
      | some o =>
        rw [hL] at h
        cases o with
        | arr ow s xs =>
          obtain ⟨cap, hc, hn, hv⟩ := h
          rcases hv with ⟨b, hb, hv, _⟩ | ⟨rfl, a, rfl⟩
          · exact fz_of_row (hsh L (by simp [shownC, hp]) _ s xs hL rfl b hb) hc hn (.inl hv)
          · obtain rfl : n = 0 := by omega
            simp only [List.take_zero]; exact RepP.nil
        | nst s xs op =>
          cases op with
          | some q => trivial
          | none =>
            obtain ⟨cap, hc, hn, hv⟩ := h
            rcases hv with ⟨b, hb, hv, _⟩ | ⟨rfl, a, rfl⟩
            · exact fz_of_row (hsh L (by simp [shownC, hp]) _ s _ hL rfl b hb) hc (by simpa using hn) (.inl hv)
            · obtain rfl : n = 0 := by omega
              simp only [List.take_zero]; exact RepP.nil
        | rc cs => trivial
        | dead => trivial
  | pa L i k =>
    simp only [viewC]
    cases hp : pos ks L with
    | some j =>
      have hj := pos_some hp
      simp only [RepC] at h ⊢
      cases hL : os[L]? with
      | none => rw [hL] at h; exact h.elim
      | some o =>
        rw [hL] at h
        rw [viewS_some hj hL]
        cases o with
        | arr ow s xs => simp only [viewO, hg j L _ hj hL]; exact h
        | nst s xs op => cases op <;> (simp only [viewO, hg j L _ hj hL]; exact h)
        | rc cs => trivial
        | dead => trivial
    | none =>
      simp only [RepC] at h
      cases hL : os[L]? with
      | none => rw [hL] at h; exact h.elim
      | some o =>
        rw [hL] at h
        cases o with
        | arr ow s xs => obtain ⟨b, hb, h⟩ := h; exact ⟨b, 0, by rw [h, Nat.zero_add], hsh L (by simp [shownC, hp]) _ s xs hL rfl b hb⟩
        | nst s xs op => trivial
        | rc cs => trivial
        | dead => trivial
  | pt L k =>
    simp only [viewC]
    cases hp : pos ks L with
    | some j =>
      have hj := pos_some hp
      simp only [RepC] at h ⊢
      cases hL : os[L]? with
      | none => rw [hL] at h; exact h.elim
      | some o =>
        rw [hL] at h
        rw [viewS_some hj hL]
        cases o with
        | arr ow s xs => trivial
        | nst s xs op => cases op <;> trivial
        | rc cs => simp only [viewO, hg j L _ hj hL]; exact h
        | dead => trivial
    | none => trivial
  | clo n ps =>
    simp only [viewC]
    cases hq : posAll ks ps with
    | none => trivial
    | some q =>
      obtain ⟨arr, h1, h2⟩ := h
      obtain ⟨hlen, hget⟩ := posAll_some hq
      refine ⟨arr, h1, h2.mono hlen fun i p r v a b c => ?_⟩
      obtain ⟨hj, hk⟩ := hget i p r a b
      unfold RepPt at c ⊢
      rw [← hk]
      cases hL : os[p.1]? with
      | none => rw [hL] at c; exact c.elim
      | some o =>
        rw [hL] at c
        rw [viewS_some hj hL]
        cases o with
        | arr ow s xs => trivial
        | nst s xs op => cases op <;> trivial
        | rc cs => simp only [viewO, hg r.1 p.1 _ hj hL]; exact c
        | dead => trivial
  | junk => trivial
  | own => trivial
  | agg cs => trivial
  | tup cs => trivial
  | opt b x => trivial

theorem mem_shownA {ks : List Nat} {cs : List AV} {y : AV} (hy : y ∈ cs) {L : Nat} (h : L ∈ shownC ks y) : L ∈ cs.flatMap (shownC ks) := List.mem_flatMap.2 ⟨y, hy, h⟩

theorem viewA_ok {rd rd' : Nat → Nat → Option Value} {ks : List Nat} {g' : Nat → List Nat} (hm : ∀ b o v, rd b o = some v → rd' b o = some v) (hg : ∀ j L o, ks[j]? = some L → os[L]? = some o → g' j = g L) {x : AV} {v : Value}
    (hsh : ∀ L ∈ shownA ks x, ∀ o s xs, os[L]? = some o → o.fzr = some (s, xs) → ∀ b, (g L).head? = some b → Row rd' b 0 s xs) (h : RepA rd os g w x v) : RepA rd' (viewS ks os) g' w (viewA ks os x) v := by
  cases x with
  | agg cs =>
    obtain ⟨vs, hv, hl, hp⟩ := h
    refine ⟨vs, hv, by simpa using hl, fun i y hy => ?_⟩
    rw [List.getElem?_map] at hy
    cases hc : cs[i]? with
    | none => rw [hc] at hy; cases hy
    | some y0 =>
      rw [hc] at hy; cases hy
      obtain ⟨u, hu, hr⟩ := hp i y0 hc
      exact ⟨u, hu, viewC_ok hm hg (fun L hL => hsh L (mem_shownA (List.mem_of_getElem? hc) hL)) hr⟩
  | tup => exact h.elim
  | opt => exact h.elim
  | sc => exact (viewC_ok hm hg (x := .sc _) hsh h).toA
  | fz => exact (viewC_ok hm hg (x := .fz _ _) hsh h).toA
  | fp => exact (viewC_ok hm hg (x := .fp _ _ _ _) hsh h).toA
  | sl => exact (viewC_ok hm hg (x := .sl _ _ _) hsh h).toA
  | pa => exact (viewC_ok hm hg (x := .pa _ _ _) hsh h).toA
  | pt => exact (viewC_ok hm hg (x := .pt _ _) hsh h).toA
  | clo => exact (viewC_ok hm hg (x := .clo _ _) hsh h).toA
  | junk => trivial
  | own => trivial

theorem viewV_ok {rd rd' : Nat → Nat → Option Value} {ks : List Nat} {g' : Nat → List Nat} (hm : ∀ b o v, rd b o = some v → rd' b o = some v) (hg : ∀ j L o, ks[j]? = some L → os[L]? = some o → g' j = g L) {x : AV} {v : Value}
    (hsh : ∀ L ∈ shownV ks x, ∀ o s xs, os[L]? = some o → o.fzr = some (s, xs) → ∀ b, (g L).head? = some b → Row rd' b 0 s xs) (h : RepV rd os g w x v) : RepV rd' (viewS ks os) g' w (viewV ks os x) v := by
  cases x with
  | tup cs =>
    obtain ⟨vs, hv, hl, hp⟩ := h
    refine ⟨vs, hv, by simpa using hl, fun i y hy => ?_⟩
    rw [List.getElem?_map] at hy
    cases hc : cs[i]? with
    | none => rw [hc] at hy; cases hy
    | some y0 =>
      rw [hc] at hy; cases hy
      obtain ⟨u, hu, hr⟩ := hp i y0 hc
      exact ⟨u, hu, viewA_ok hm hg (fun L hL => hsh L (List.mem_flatMap.2 ⟨y0, List.mem_of_getElem? hc, hL⟩)) hr⟩
  | opt b x => exact ⟨fun hb => viewA_ok hm hg hsh (h.1 hb), h.2⟩
  | agg cs => exact (viewA_ok hm hg (x := .agg cs) hsh h).toV
  | sc => exact (viewC_ok hm hg (x := .sc _) hsh h).toV
  | fz => exact (viewC_ok hm hg (x := .fz _ _) hsh h).toV
  | fp => exact (viewC_ok hm hg (x := .fp _ _ _ _) hsh h).toV
  | sl => exact (viewC_ok hm hg (x := .sl _ _ _) hsh h).toV
  | pa => exact (viewC_ok hm hg (x := .pa _ _ _) hsh h).toV
  | pt => exact (viewC_ok hm hg (x := .pt _ _) hsh h).toV
  | clo => exact (viewC_ok hm hg (x := .clo _ _) hsh h).toV
  | junk => trivial
  | own => trivial

theorem isOwn_viewO {ks : List Nat} {o : AO} (h : isOwn (some (viewO ks os o))) : isOwn (some o) := by
  cases o with
  | arr b s xs => cases b <;> exact h
  | nst s xs op => trivial
  | rc cs => trivial
  | dead => exact h

theorem own_view {ks : List Nat} {j : Nat} (h : own (viewS ks os) j) : ∃ L, ks[j]? = some L ∧ (own os L ∨ os[L]? = none) := by
  unfold own at h ⊢
  rw [viewS_get] at h
  cases hk : ks[j]? with
  | none => rw [hk] at h; exact h.elim
  | some L =>
    rw [hk] at h
    refine ⟨L, rfl, ?_⟩
    cases hL : os[L]? with
    | none => exact .inr rfl
    | some o => simp only [Option.map_some, getD_some hL] at h; exact .inl (isOwn_viewO h)

/-- The blocks, seen so. -/
def viewG (ks : List Nat) (os : List AO) (g : Nat → List Nat) : Nat → List Nat := fun j => match os[ks.getD j 0]? with
  | some _ => g (ks.getD j 0)
  | none => []

theorem viewG_get {ks : List Nat} {g : Nat → List Nat} {j L : Nat} {o : AO} (h : ks[j]? = some L) (ho : os[L]? = some o) : viewG ks os g j = g L := by simp [viewG, List.getD, h, ho]
theorem viewG_none {ks : List Nat} {g : Nat → List Nat} {j L : Nat} (h : ks[j]? = some L) (ho : os[L]? = none) : viewG ks os g j = [] := by simp [viewG, List.getD, h, ho]
theorem own_get {L : Nat} (h : own os L) : ∃ o, os[L]? = some o := by
  unfold own at h
  cases hL : os[L]? with
  | none => rw [hL] at h; exact h.elim
  | some o => exact ⟨o, rfl⟩
theorem own_viewB {ks : List Nat} {g : Nat → List Nat} {j b : Nat} (h : own (viewS ks os) j) (hb : b ∈ viewG ks os g j) : ∃ L, ks[j]? = some L ∧ own os L ∧ b ∈ g L := by
  obtain ⟨L, hL, ho | ho⟩ := own_view h
  · obtain ⟨o, he⟩ := own_get ho
    rw [viewG_get hL he] at hb
    exact ⟨L, hL, ho, hb⟩
  · rw [viewG_none hL ho] at hb; cases hb

/-- The cells of an object that are told as a record's. -/
def AO.row : AO → List AV
  | .rc cs => cs
  | .nst _ _ (some (_, row)) => row
  | _ => []

theorem OwnA.to {rd rd' : Nat → Nat → Option Value} {X X' : Ctx} {w w' : World} {l : List Nat} {s : Nat} {ys : List (List AV)} {v : Value} (hm : ∀ b o v, rd b o = some v → rd' b o = some v)
    (hw : ∀ b ∈ l, w'.heap[b]? = w.heap[b]?) (hx : ∀ b ∈ l, wr X b → wr X' b) (h : OwnA rd X w l s ys v) : OwnA rd' X' w' l s ys v := by
  obtain ⟨h0, h1 | ⟨b, cap, p0, p1, p2, p3, c, t, p4, p5, p6, p7⟩⟩ := h
  · exact ⟨h0, .inl h1⟩
  · refine ⟨h0, .inr ⟨b, cap, p0, hx b (by simp [p0]) p1, p2, p3, c, t, by rw [hw b (by simp [p0])]; exact p4, p5, p6, fun i k x y hx hy => ?_⟩⟩
    obtain ⟨v, hv, hr⟩ := p7 i k x y hx hy
    exact ⟨v, hv, hr.mono hm⟩

theorem CellN.to {rd rd' : Nat → Nat → Option Value} {X X' : Ctx} {w w' : World} {l : List Nat} {y : AV} {v : Value} (hm : ∀ b o v, rd b o = some v → rd' b o = some v)
    (hw : ∀ b ∈ l, w'.heap[b]? = w.heap[b]?) (hx : ∀ b ∈ l, wr X b → wr X' b) (h : CellN rd X w l y v) : CellN rd' X' w' l y v := by
  cases y with
  | own s ys => exact OwnA.to hm hw hx h
  | _ => exact RepP.mono hm h

/-- A cell of a row of ours as one that nobody writes any more. -/
theorem CellN.freeze {rd rd' : Nat → Nat → Option Value} {X : Ctx} {w : World} {l : List Nat} {y : AV} {v : Value} (hm : ∀ b o v, rd b o = some v → rd' b o = some v)
    (hread : ∀ b ∈ l, ∀ o v, wr X b → w.cell? ⟨b, o, none⟩ = some v → rd' b o = some v) (h : CellN rd X w l y v) : RepP rd' (unO y) v := by
  cases y with
  | own s ys =>
    obtain ⟨h0, ⟨_, rfl, a, rfl⟩ | ⟨b, cap, p0, p1, p2, p3, c, t, p4, p5, p6, p7⟩⟩ := h
    · exact .nil
    · rw [p2]
      refine RepP.of_row ⟨p6, fun i k x y hx hy => ?_⟩ p3
      obtain ⟨v, hv, hr⟩ := p7 i k x y hx hy
      exact ⟨v, hread b (by simp [p0]) _ _ p1 (by rw [Nat.zero_add, cell_of_row w b _ c t (0, 0) p4]; simpa using hv), hr.mono hm⟩
  | _ => exact RepP.mono hm h

/-- The rows of a closed array of rows, as rows that nobody writes any more. -/
theorem Row.freeze {rd rd' : Nat → Nat → Option Value} {X : Ctx} {w : World} {b s : Nat} {F : Nat → Nat → List Nat} {xs : List (List AV)} {c : Array Value} (hm : ∀ b o v, rd b o = some v → rd' b o = some v)
    (hlen : ∀ x ∈ xs, x.length = s) (hc : ∀ (o : Nat) v, c[o]? = some v → rd' b o = some v)
    (hread : ∀ (i k b' : Nat), b' ∈ F i k → ∀ o v, wr X b' → w.cell? ⟨b', o, none⟩ = some v → rd' b' o = some v)
    (h : ∀ (i k : Nat) x y, xs[i]? = some x → x[k]? = some y → ∃ v, c[i * s + k]? = some v ∧ CellN rd X w (F i k) y v) : Row rd' b 0 s (xs.map fun x => x.map unO) := by
  refine ⟨fun x hx => ?_, fun i k x y hx hy => ?_⟩
  · obtain ⟨x0, h0, rfl⟩ := List.mem_map.1 hx
    rw [List.length_map]; exact hlen x0 h0
  · rw [List.getElem?_map] at hx
    cases e1 : xs[i]? with
    | none => rw [e1] at hx; cases hx
    | some x0 =>
      rw [e1] at hx; cases hx
      rw [List.getElem?_map] at hy
      cases e2 : x0[k]? with
      | none => rw [e2] at hy; cases hy
      | some y0 =>
        rw [e2] at hy; cases hy
        obtain ⟨v, hv, hr⟩ := h i k x0 y0 e1 e2
        exact ⟨v, hc _ _ (by simpa using hv), hr.freeze hm fun b' hb' => hread i k b' hb'⟩

/-- An object, seen so. -/
theorem OOk.view {X' : Ctx} {ks : List Nat} {g' : Nat → List Nat} (hm : ∀ b o v, rdF X os g w b o = some v → rdF X' (viewS ks os) g' w b o = some v) (hg : ∀ j L o, ks[j]? = some L → os[L]? = some o → g' j = g L) (hv : ∀ j L, ks[j]? = some L → os[L]? = none → g' j = []) {j L : Nat} (hj : ks[j]? = some L)
    (hw : own os L → ∀ b ∈ g L, wr X' b) (hsh : ∀ o, os[L]? = some o → ∀ y ∈ o.row, ∀ M ∈ shownC ks y, ∀ o s xs, os[M]? = some o → o.fzr = some (s, xs) → ∀ b, (g M).head? = some b → Row (rdF X' (viewS ks os) g' w) b 0 s xs)
    (h : OOk X os g w L os[L]?) : OOk X' (viewS ks os) g' w j (viewS ks os)[j]? := by
  cases hL : os[L]? with
  | none =>
    rw [viewS_none hj hL]
    unfold virt
    split
    · exact ⟨Nat.succ_pos _, .inl ⟨hv j L hj hL, rfl, rfl⟩⟩
    split
    · exact ⟨Nat.succ_pos _, .inl ⟨hv j L hj hL, rfl⟩⟩
    · trivial
  | some o =>
    rw [viewS_some hj hL]
    rw [hL] at h
    have hw' : isOwn (some o) → ∀ b ∈ g L, wr X' b := fun h => hw (by unfold own; rw [hL]; exact h)
    have hgj := hg j L o hj hL
    cases o with
    | arr ow s xs =>
      cases ow with
      | true =>
        obtain ⟨p2, ⟨p0, p1⟩ | ⟨b, p0, p1, c, t, p3, p4, p5, p6⟩⟩ := h
        · exact ⟨p2, .inl ⟨hgj.trans p0, p1⟩⟩
        refine ⟨p2, .inr ⟨b, hgj.trans p0, hw' trivial b (by simp [p0]), c, t, p3, p4, p5, fun i k x y hx hy => ?_⟩⟩
        obtain ⟨v, hv, hr⟩ := p6 i k x y hx hy
        exact ⟨v, hv, hr.mono hm⟩
      | false =>
        intro b hb
        rw [hgj] at hb
        exact Row.mono hm (h b hb)
    | rc cs =>
      obtain ⟨b, p0, p1, c, t, p3, p4, p6⟩ := h
      refine ⟨b, hgj.trans p0, hw' trivial b (by simp [p0]), c, t, p3, by simpa using p4, fun k y hy => ?_⟩
      rw [List.getElem?_map] at hy
      cases hc : cs[k]? with
      | none => rw [hc] at hy; cases hy
      | some y0 =>
        rw [hc] at hy; cases hy
        obtain ⟨v, hv, hr⟩ := p6 k y0 hc
        exact ⟨v, hv, viewC_ok hm hg (fun M hM => hsh _ hL y0 (List.mem_of_getElem? hc) M hM) hr⟩
    | nst s xs op =>
      obtain ⟨p2, ⟨p0, p1, rfl⟩ | ⟨b, nb, F, p0, p1, c, t, p3, p4, p5, p6, p7, p8, p9, p10⟩⟩ := h
      · exact ⟨p2, .inl ⟨hgj.trans p0, p1, rfl⟩⟩
      have hwb := hw' trivial b (by simp [p0])
      have hnb : ∀ b' ∈ nb, wr X' b' := fun b' hb' => hw' trivial b' (by simp [p0, hb'])
      have hc : ∀ {i k y v}, CellN (rdF X os g w) X w (F i k) y v → CellN (rdF X' (viewS ks os) g' w) X' w (F i k) y v := fun {i k y v} h => h.to hm (fun _ _ => rfl) fun b' hb' _ => hw' trivial b' (by simp [p0, p8 i k b' hb'])
      cases op with
      | none => exact ⟨p2, .inr ⟨b, nb, F, hgj.trans p0, hwb, c, t, p3, p4, p5, fun i k x y hx hy hn => let ⟨v, hv, hr⟩ := p6 i k x y hx hy hn; ⟨v, hv, hc hr⟩, (fun j row e => by cases e), p8, p9, p10.1, hnb⟩⟩
      | some q =>
        obtain ⟨j0, row0⟩ := q
        refine ⟨p2, .inr ⟨b, nb, F, hgj.trans p0, hwb, c, t, p3, p4, p5, fun i k x y hx hy hn => let ⟨v, hv, hr⟩ := p6 i k x y hx hy hn; ⟨v, hv, hc hr⟩, fun j row e => ?_, p8, p9, p10.1, hnb⟩⟩
        cases e
        obtain ⟨q1, q2, q3⟩ := p7 j0 row0 rfl
        refine ⟨q1, by simpa using q2, fun k y hy => ?_⟩
        rw [List.getElem?_map] at hy
        cases hk : row0[k]? with
        | none => rw [hk] at hy; cases hy
        | some y0 =>
          rw [hk] at hy; cases hy
          obtain ⟨v, hv, hr⟩ := q3 k y0 hk
          exact ⟨v, hv, viewC_ok hm hg (fun M hM => hsh _ hL y0 (List.mem_of_getElem? hk) M hM) hr⟩
    | dead => trivial

theorem shownC_not {ks : List Nat} {y : AV} {M : Nat} (hM : M ∈ shownC ks y) : M ∉ ks := by
  cases y <;> simp only [shownC] at hM <;> first | cases hM | skip
  all_goals
    split at hM
    · cases hM
    · rename_i hp
      simp only [List.mem_cons, List.not_mem_nil, or_false] at hM
      subst hM
      exact pos_none (by simpa using hp)

/-- What is ours may be written. (The nested blocks too.) -/
theorem own_wr (h : SRel X os g w) {L : Nat} (ho : own os L) : ∀ b ∈ g L, wr X b := by
  intro k hk
  have hobj := h.obj L
  unfold own at ho
  cases hL : os[L]? with
  | none => rw [hL] at ho; exact ho.elim
  | some o =>
    rw [hL] at ho hobj
    cases o with
    | arr b s xs =>
      cases b with
      | true =>
        obtain ⟨_, ⟨p0, _⟩ | ⟨b2, p0, p1, _⟩⟩ := hobj
        · rw [p0] at hk; cases hk
        · rw [p0] at hk; simp at hk; rw [hk]; exact p1
      | false => exact ho.elim
    | rc cs => obtain ⟨b2, p0, p1, _⟩ := hobj; rw [p0] at hk; simp at hk; rw [hk]; exact p1
    | nst s xs op =>
      obtain ⟨_, ⟨p0, _⟩ | ⟨b2, nb, F, p0, p1, _, _, _, _, _, _, _, _, _, p10⟩⟩ := hobj
      · rw [p0] at hk; cases hk
      · rw [p0] at hk
        rcases List.mem_cons.1 hk with rfl | hk
        · exact p1
        · exact p10.2 _ hk
    | dead => exact ho.elim

/-- Fewer names in the same activation. -/
theorem SRel.view (h : SRel X os g w) {ks : List Nat} (hn : ks.Nodup) : SRel X (viewS ks os) (viewG ks os g) w ∧ (∀ b o v, rdF X os g w b o = some v → rdF X (viewS ks os) (viewG ks os g) w b o = some v) ∧
    (∀ L, L ∉ ks → ∀ o s xs, os[L]? = some o → o.fzr = some (s, xs) → ∀ b, (g L).head? = some b → Row (rdF X (viewS ks os) (viewG ks os g) w) b 0 s xs) := by
  have hm : ∀ b o v, rdF X os g w b o = some v → rdF X (viewS ks os) (viewG ks os g) w b o = some v := by
    intro b o v hr
    rw [rdF_some] at hr ⊢
    refine ⟨hr.1, ?_, hr.2.2⟩
    rintro ⟨j, hj, e⟩
    obtain ⟨L, hL, ho, e⟩ := own_viewB hj e
    exact hr.2.1 ⟨L, ho, e⟩
  have hrow : ∀ L, L ∉ ks → ∀ o s xs, os[L]? = some o → o.fzr = some (s, xs) → ∀ b, (g L).head? = some b → Row (rdF X (viewS ks os) (viewG ks os g) w) b 0 s xs := by
    intro L hL o s xs he ef b hb
    have ho := h.obj L
    rw [he] at ho
    have hrd : own os L → ∀ b' ∈ g L, ∀ o v, wr X b' → w.cell? ⟨b', o, none⟩ = some v → rdF X (viewS ks os) (viewG ks os g) w b' o = some v := by
      intro hown b' hb' o v p1 hv
      refine rdF_some.2 ⟨p1.vis, ?_, hv⟩
      rintro ⟨j, hj, e⟩
      obtain ⟨M, hM, hom, e⟩ := own_viewB hj e
      exact hL (h.inj M L hom hown b' e hb' ▸ List.mem_of_getElem? hM)
    cases o with
    | arr ow s0 xs0 =>
      simp only [AO.fzr, Option.some.injEq, Prod.mk.injEq] at ef
      obtain ⟨rfl, rfl⟩ := ef
      cases ow with
      | false => exact Row.mono hm (ho b hb)
      | true =>
        have hown : own os L := by unfold own; rw [he]; trivial
        obtain ⟨p2, ⟨p0, p1⟩ | ⟨b2, p0, p1, c, t, p3, p4, p5, p6⟩⟩ := ho
        · rw [p0] at hb; cases hb
        obtain rfl : b2 = b := by rw [p0] at hb; simpa using hb
        refine ⟨p5, fun i k x y hx hy => ?_⟩
        obtain ⟨v, hv, hr⟩ := p6 i k x y hx hy
        exact ⟨v, hrd hown b2 (by simp [p0]) _ _ p1 (by rw [Nat.zero_add, cell_of_row w b2 _ c t (0, 0) p3]; simpa using hv), hr.mono hm⟩
    | nst s0 xs0 op =>
      cases op with
      | some q => cases ef
      | none =>
        simp only [AO.fzr, Option.some.injEq, Prod.mk.injEq] at ef
        obtain ⟨rfl, rfl⟩ := ef
        have hown : own os L := by unfold own; rw [he]; trivial
        obtain ⟨p2, ⟨p0, p1, _⟩ | ⟨b2, nb, F, p0, p1, c, t, p3, p4, p5, p6, p7, p8, p9, p10⟩⟩ := ho
        · rw [p0] at hb; cases hb
        obtain rfl : b2 = b := by rw [p0] at hb; simpa using hb
        exact Row.freeze hm p5 (fun o v hv => hrd hown b2 (by simp [p0]) o v p1 (by rw [cell_of_row w b2 _ c t (0, 0) p3]; simpa using hv))
          (fun i k b' hb' o v hw hv => hrd hown b' (by simp [p0, p8 i k b' hb']) o v hw hv) fun i k x y hx hy => p6 i k x y hx hy id
    | rc cs => cases ef
    | dead => cases ef
  refine ⟨⟨h.sys, h.tape, h.output, h.size, h.same, fun j hj b hb => ?_, fun i j hi hj b e f => ?_, fun j => ?_⟩, hm, hrow⟩
  · obtain ⟨L, hL, ho, hb⟩ := own_viewB hj hb
    exact h.bnd L ho b hb
  · obtain ⟨L, hL, ho, e⟩ := own_viewB hi e
    obtain ⟨M, hM, hp, f⟩ := own_viewB hj f
    have := h.inj L M ho hp b e f
    subst this
    exact nodup_get hn hL hM
  · cases hk : ks[j]? with
    | none => rw [viewS_get, hk]; trivial
    | some L =>
      refine OOk.view hm (fun j L o => viewG_get) (fun j L => viewG_none) hk (fun ho => ?_) (fun o ho y hy M hM o s xs he => hrow M (shownC_not hM) o s xs he) (h.obj L)
      exact own_wr h ho

theorem shownA_not {ks : List Nat} {y : AV} {M : Nat} (hM : M ∈ shownA ks y) : M ∉ ks := by
  cases y with
  | agg cs => obtain ⟨x, _, hx⟩ := List.mem_flatMap.1 hM; exact shownC_not hx
  | sl L o n => exact shownC_not (y := .sl L o n) hM
  | pa L o n => exact shownC_not (y := .pa L o n) hM
  | _ => cases hM

theorem shownV_not {ks : List Nat} {y : AV} {M : Nat} (hM : M ∈ shownV ks y) : M ∉ ks := by
  cases y with
  | tup cs => obtain ⟨x, _, hx⟩ := List.mem_flatMap.1 hM; exact shownA_not hx
  | opt b x => exact shownA_not (y := x) hM
  | agg cs => exact shownA_not (y := .agg cs) hM
  | sl L o n => exact shownC_not (y := .sl L o n) hM
  | pa L o n => exact shownC_not (y := .pa L o n) hM
  | _ => cases hM

theorem al_viewO {ks : List Nat} {o : AO} : (viewO ks os o).al = o.al := by
  cases o with
  | nst s xs op => cases op <;> rfl
  | _ => rfl

theorem Keeps.view {os0 : List AO} {g0 : Nat → List Nat} {w0 : World} (h : Keeps os0 g0 w0 os g w) {ks : List Nat} (hkp : keepP os0.length ks os) : Keeps os0 g0 w0 (viewS ks os) (viewG ks os g) w := by
  obtain ⟨hk, hbig⟩ := hkp
  simp only [keepOk, Bool.and_eq_true] at hk
  have hget : ∀ L, L < os0.length → ∃ a, ks[L]? = some a ∧ (a = L ∨ (1000000 ≤ a ∧ a ≤ 1999999)) := fun L hL => by simpa using fromN_spec hk.1 L hL
  have hlen : os0.length ≤ ks.length := by
    cases hn : os0.length with
    | zero => omega
    | succ n => obtain ⟨a, ha, _⟩ := hget n (by omega); have := lt_of_get ha; omega
  have hobj : ∀ {L : Nat} {o : AO} {o' : AO}, os0[L]? = some o → (viewS ks os)[L]? = some o' → ∃ o'', (os[L]? = some o'' ∧ o' = viewO ks os o'' ∧ ks[L]? = some L) ∨ (o'' = .dead ∧ o' = viewO ks os o'') := by
    intro L o o' h1 h2
    have hl := lt_of_get h1
    obtain ⟨o'', h3⟩ := get_some_of_len h.len h1
    obtain ⟨a, ha, hc | hc⟩ := hget L hl
    · subst hc
      rw [viewS_some ha h3] at h2
      cases h2
      exact ⟨o'', .inl ⟨h3, rfl, ha⟩⟩
    · rw [viewS_get, ha] at h2
      have hn : os[a]? = none := List.getElem?_eq_none (by omega)
      have hd : virt a = .dead := by unfold virt; rw [if_neg (by omega), if_neg (by omega)]
      simp only [Option.map_some, getD_none hn, hd, Option.some.injEq] at h2
      exact ⟨.dead, .inr ⟨rfl, h2.symm⟩⟩
  constructor
  · simpa [viewS] using hlen
  · intro L o o' a a' h1 h2 e1 e2
    obtain ⟨o'', ⟨h3, e, hg⟩ | ⟨rfl, e⟩⟩ := hobj h1 h2
    · subst e
      rw [al_viewO] at e2
      rw [viewG_get hg h3]; exact h.arr _ _ _ _ _ h1 h3 e1 e2
    · subst e; cases e2
  · intro L cs cs' h1 h2
    obtain ⟨o'', ⟨h3, e, hg⟩ | ⟨rfl, e⟩⟩ := hobj h1 h2
    · cases o'' with
      | arr b z zs => cases e
      | nst z zs op => cases op <;> cases e
      | rc cs => cases e; rw [viewG_get hg h3]; exact h.rc _ _ _ h1 h3
      | dead => cases e
    · cases e
  · intro L o a cs' h1 e1 h2
    obtain ⟨o'', ⟨h3, e, hg⟩ | ⟨rfl, e⟩⟩ := hobj h1 h2
    · cases o'' with
      | arr b z zs => cases e
      | nst z zs op => cases op <;> cases e
      | rc cs => exact h.rcArr _ _ _ _ h1 e1 h3
      | dead => cases e
    · cases e
  · intro L cs o a h1 h2 e2
    obtain ⟨o'', ⟨h3, e, hg⟩ | ⟨rfl, e⟩⟩ := hobj h1 h2
    · cases o'' with
      | arr b z zs => exact h.arrRc _ _ _ _ h1 h3 rfl
      | nst z zs op => exact h.arrRc _ _ _ _ h1 h3 rfl
      | rc cs => subst e; cases e2
      | dead => subst e; cases e2
    · subst e; cases e2
  · intro L h1
    have hl := lt_of_get h1
    have hv : ∃ o', (viewS ks os)[L]? = some o' := by
      have : L < (viewS ks os).length := by simp [viewS]; omega
      exact ⟨_, List.getElem?_eq_getElem this⟩
    obtain ⟨o', ho'⟩ := hv
    obtain ⟨o'', ⟨h3, e, hg⟩ | ⟨rfl, e⟩⟩ := hobj h1 ho'
    · rw [h.dead L h1] at h3
      cases h3
      rw [ho', e]; rfl
    · rw [ho', e]; rfl
  · exact h.rm

theorem lk_map (ts : List Nat) (f : Nat → AV) (t : Nat) : lk (ts.map fun t => (t, f t)) t = f t ∨ lk (ts.map fun t => (t, f t)) t = .junk := by
  induction ts with
  | nil => exact .inr rfl
  | cons a r ih =>
    simp only [List.map_cons, lk]
    by_cases e : a = t
    · subst e; rw [if_pos rfl]; exact .inl rfl
    · rw [if_neg e]; exact ih

theorem Rel.view {st : St} {a : Act} (h : Rel X c st g a w) {ts ks : List Nat} (hk : keepP X.os0.length ks st.os) : Rel X c (viewSt ts ks st) (viewG ks st.os g) a w := by
  have hn : ks.Nodup := nodupN_spec (by have := hk.1; simp only [keepOk, Bool.and_eq_true] at this; exact this.2)
  obtain ⟨h1, h2, h3⟩ := h.srel.view hn
  refine ⟨h1, fun t => ?_, h.nt, h.defs, fun n => (h.glob n).mono h2, h.keeps.view hk⟩
  simp only [viewSt]
  rcases lk_map ts (fun t => viewV ks st.os (lk st.env t)) t with e | e
  · rw [e]; exact viewV_ok (g := g) h2 (fun j L o => viewG_get) (fun L hL => h3 L (shownV_not hL)) (h.env t)
  · rw [e]; trivial

theorem wkC.len : ∀ {xs ys : List AV}, wkL xs ys → ys.length = xs.length
  | [], [], _ => rfl
  | _ :: r, _ :: s, h => by simp [wkC.len h.2]
  | [], _ :: _, h => h.elim
  | _ :: _, [], h => h.elim

theorem wkL.get : ∀ {xs ys : List AV}, wkL xs ys → ∀ (i : Nat) y, ys[i]? = some y → ∃ x, xs[i]? = some x ∧ wkC x y
  | x :: r, y :: s, h, 0, z, hz => by cases hz; exact ⟨x, rfl, h.1⟩
  | x :: r, y :: s, h, i + 1, z, hz => by simpa using wkL.get h.2 i z (by simpa using hz)
  | [], [], _, i, z, hz => by simp at hz
  | [], _ :: _, h, _, _, _ => h.elim
  | _ :: _, [], h, _, _, _ => h.elim

theorem wkR.get : ∀ {xs ys : List (List AV)}, wkR xs ys → ys.length = xs.length ∧ ∀ (i : Nat) y, ys[i]? = some y → ∃ x, xs[i]? = some x ∧ wkL x y
  | [], [], _ => ⟨rfl, fun i z hz => by simp at hz⟩
  | x :: r, y :: s, h => by
    obtain ⟨h1, h2⟩ := wkR.get h.2
    refine ⟨by simp [h1], fun i z hz => ?_⟩
    cases i with
    | zero => cases hz; exact ⟨x, rfl, h.1⟩
    | succ i => simpa using h2 i z (by simpa using hz)
  | [], _ :: _, h => h.elim
  | _ :: _, [], h => h.elim

theorem wkT.get : ∀ {xs ys : List AV}, wkT xs ys → ys.length = xs.length ∧ ∀ (i : Nat) y, ys[i]? = some y → ∃ x, xs[i]? = some x ∧ wkA x y
  | [], [], _ => ⟨rfl, fun i z hz => by simp at hz⟩
  | x :: r, y :: s, h => by
    obtain ⟨h1, h2⟩ := wkT.get h.2
    refine ⟨by simp [h1], fun i z hz => ?_⟩
    cases i with
    | zero => cases hz; exact ⟨x, rfl, h.1⟩
    | succ i => simpa using h2 i z (by simpa using hz)
  | [], _ :: _, h => h.elim
  | _ :: _, [], h => h.elim

theorem wkS.get : ∀ {xs ys : List AO}, wkS xs ys → ys.length = xs.length ∧ ∀ (i : Nat) x, xs[i]? = some x → ∃ y, ys[i]? = some y ∧ wkO x y
  | [], [], _ => ⟨rfl, fun i z hz => by simp at hz⟩
  | x :: r, y :: s, h => by
    obtain ⟨h1, h2⟩ := wkS.get h.2
    refine ⟨by simp [h1], fun i z hz => ?_⟩
    cases i with
    | zero => cases hz; exact ⟨y, rfl, h.1⟩
    | succ i => simpa using h2 i z (by simpa using hz)
  | [], _ :: _, h => h.elim
  | _ :: _, [], h => h.elim

theorem nil_of {x : AV} (h : isNil x = true) : x = .sc (.slice none 0 0) := by
  unfold isNil at h
  split at h
  · rfl
  · cases h

theorem wkL0.get : ∀ {xs ys : List AV}, wkL0 xs ys → ys.length = xs.length ∧ ∀ (i : Nat) y, ys[i]? = some y → ∃ x, xs[i]? = some x ∧ wkC0 x y
  | [], [], _ => ⟨rfl, fun i z hz => by simp at hz⟩
  | x :: r, y :: s, h => by
    obtain ⟨h1, h2⟩ := wkL0.get h.2
    refine ⟨by simp [h1], fun i z hz => ?_⟩
    cases i with
    | zero => cases hz; exact ⟨x, rfl, h.1⟩
    | succ i => simpa using h2 i z (by simpa using hz)
  | [], _ :: _, h => h.elim
  | _ :: _, [], h => h.elim

theorem wkR0.get : ∀ {xs ys : List (List AV)}, wkR0 xs ys → ys.length = xs.length ∧ ∀ (i : Nat) y, ys[i]? = some y → ∃ x, xs[i]? = some x ∧ wkL0 x y
  | [], [], _ => ⟨rfl, fun i z hz => by simp at hz⟩
  | x :: r, y :: s, h => by
    obtain ⟨h1, h2⟩ := wkR0.get h.2
    refine ⟨by simp [h1], fun i z hz => ?_⟩
    cases i with
    | zero => cases hz; exact ⟨x, rfl, h.1⟩
    | succ i => simpa using h2 i z (by simpa using hz)
  | [], _ :: _, h => h.elim
  | _ :: _, [], h => h.elim

theorem RepP.wk0 {rd : Nat → Nat → Option Value} {x y : AV} {v : Value} (h : RepP rd x v) (hw : wkC0 x y) : RepP rd y v := by
  rcases hw with rfl | ⟨hn, s, rfl⟩
  · exact h
  · rw [nil_of hn] at h; cases h; exact .nil

theorem RepP.wkF {rd : Nat → Nat → Option Value} {s : Nat} {xs ys : List (List AV)} {v : Value} (h : RepP rd (.fz s xs) v) (hw : wkR0 xs ys) : RepP rd (.fz s ys) v := by
  obtain ⟨h1, h2⟩ := hw.get
  rcases h.row with ⟨rfl, a, c, rfl⟩ | ⟨b, o, c, rfl, hc, hr⟩
  · have : ys = [] := List.eq_nil_of_length_eq_zero (by simpa using h1)
    subst this; exact .nil
  · rw [← h1]
    refine .of_row ⟨fun y hy => ?_, fun i k y z hy hz => ?_⟩ (by omega)
    · obtain ⟨i, hi⟩ := List.getElem?_of_mem hy
      obtain ⟨x, hx, hxy⟩ := h2 i y hi
      rw [hxy.get.1]; exact hr.1 x (List.mem_of_getElem? hx)
    · obtain ⟨x, hx, hxy⟩ := h2 i y hy
      obtain ⟨u, hu, hw⟩ := hxy.get.2 k z hz
      obtain ⟨v, hv, hp⟩ := hr.2 i k x u hx hu
      exact ⟨v, hv, hp.wk0 hw⟩

theorem RepP.wk {rd : Nat → Nat → Option Value} {x y : AV} {v : Value} (h : RepP rd x v) (hw : wkC x y) : RepP rd y v := by
  rcases hw with rfl | ⟨hn, s, rfl⟩ | ⟨s, xs, ys, rfl, rfl, hw⟩
  · exact h
  · rw [nil_of hn] at h; cases h; exact .nil
  · exact h.wkF hw

/-- The same kinds of objects. -/
structure OAlike (os os' : List AO) : Prop where
  arr : ∀ (L : Nat) o s xs, os[L]? = some (AO.arr o s xs) → ∃ ys, os'[L]? = some (AO.arr o s ys) ∧ wkR xs ys
  nst : ∀ (L : Nat) s xs op, os[L]? = some (AO.nst s xs op) → os'[L]? = some (AO.nst s xs op)
  rc : ∀ (L : Nat) cs, os[L]? = some (AO.rc cs) → ∃ ds, os'[L]? = some (AO.rc ds) ∧ (cs = ds ∨ wkM cs ds)
  dead : ∀ (L : Nat), os[L]? = some AO.dead → os'[L]? = some AO.dead
  len : os'.length = os.length

theorem wkL_refl : ∀ xs, wkL xs xs
  | [] => trivial
  | _ :: r => ⟨.inl rfl, wkL_refl r⟩

theorem wkR_refl : ∀ xs, wkR xs xs
  | [] => trivial
  | x :: r => ⟨wkL_refl x, wkR_refl r⟩

theorem wkS_refl : ∀ xs, wkS xs xs
  | [] => trivial
  | _ :: r => ⟨.inl rfl, wkS_refl r⟩

theorem wkE_refl : ∀ xs, wkE xs xs
  | [] => trivial
  | (_, _) :: r => ⟨rfl, .inl rfl, wkE_refl r⟩

theorem wkR_app : ∀ {xs ys zs us : List (List AV)}, wkR xs ys → wkR zs us → wkR (xs ++ zs) (ys ++ us)
  | [], [], _, _, _, h => h
  | _ :: _, _ :: _, _, _, h, k => ⟨h.1, wkR_app h.2 k⟩
  | [], _ :: _, _, _, h, _ => h.elim
  | _ :: _, [], _, _, h, _ => h.elim

theorem wkS.alike {os os' : List AO} (h : wkS os os') : OAlike os os' := by
  obtain ⟨h1, h2⟩ := h.get
  refine ⟨fun L o s xs e => ?_, fun L s xs op e => ?_, fun L cs e => ?_, fun L e => ?_, h1⟩
  · obtain ⟨y, hy, hw⟩ := h2 L _ e
    rcases hw with rfl | hw
    · exact ⟨xs, hy, wkR_refl _⟩
    · cases y with
      | arr b s' ys => obtain ⟨rfl, rfl, hw⟩ := hw; exact ⟨ys, hy, hw⟩
      | rc cs => exact hw.elim
      | nst => exact hw.elim
      | dead => exact hw.elim
  · obtain ⟨y, hy, hw⟩ := h2 L _ e
    rcases hw with rfl | hw
    · exact hy
    · cases y <;> exact hw.elim
  · obtain ⟨y, hy, hw⟩ := h2 L _ e
    rcases hw with rfl | hw
    · exact ⟨cs, hy, .inl rfl⟩
    · cases y with
      | arr b s' ys => exact hw.elim
      | nst => exact hw.elim
      | rc ds => exact ⟨ds, hy, .inr hw⟩
      | dead => exact hw.elim
  · obtain ⟨y, hy, hw⟩ := h2 L _ e
    rcases hw with rfl | hw
    · exact hy
    · cases y <;> exact hw.elim

theorem OAlike.own {os os' : List AO} (h : OAlike os os') (L : Nat) : own os' L ↔ own os L := by
  unfold AM.own
  cases hL : os[L]? with
  | none =>
    have : os'[L]? = none := by
      rw [List.getElem?_eq_none_iff] at hL ⊢; rw [h.len]; exact hL
    rw [this]
  | some o =>
    cases o with
    | arr b s xs => obtain ⟨ys, hy, _⟩ := h.arr L b s xs hL; rw [hy]; cases b <;> exact Iff.rfl
    | nst s xs op => rw [h.nst L s xs op hL]
    | rc cs => obtain ⟨ds, hy, _⟩ := h.rc L cs hL; rw [hy]; exact Iff.rfl
    | dead => rw [h.dead L hL]

theorem OAlike.rd {os os' : List AO} (h : OAlike os os') (b o : Nat) : rdF X os' g w b o = rdF X os g w b o := by
  have : ownB os' g b ↔ ownB os g b := ⟨fun ⟨L, hL, e⟩ => ⟨L, (h.own L).1 hL, e⟩, fun ⟨L, hL, e⟩ => ⟨L, (h.own L).2 hL, e⟩⟩
  unfold rdF
  by_cases h1 : vis X b ∧ ¬ ownB os g b
  · rw [if_pos h1, if_pos ⟨h1.1, fun h2 => h1.2 (this.1 h2)⟩]
  · rw [if_neg h1, if_neg (fun h2 => h1 ⟨h2.1, fun h3 => h2.2 (this.2 h3)⟩)]

theorem wkD_refl (x : AV) : wkD x x := .inl (.inl rfl)
theorem wkM_refl : ∀ xs, wkM xs xs
  | [] => trivial
  | x :: r => ⟨wkD_refl x, wkM_refl r⟩
theorem wkM.len : ∀ {xs ys : List AV}, wkM xs ys → ys.length = xs.length
  | [], [], _ => rfl
  | _ :: r, _ :: s, h => by simp [wkM.len h.2]
  | [], _ :: _, h => h.elim
  | _ :: _, [], h => h.elim
theorem wkM.get : ∀ {xs ys : List AV}, wkM xs ys → ∀ (i : Nat) y, ys[i]? = some y → ∃ x, xs[i]? = some x ∧ wkD x y
  | x :: r, y :: s, h, 0, z, hz => by cases hz; exact ⟨x, rfl, h.1⟩
  | x :: r, y :: s, h, i + 1, z, hz => by simpa using wkM.get h.2 i z (by simpa using hz)
  | [], [], _, i, z, hz => by simp at hz
  | [], _ :: _, h, _, _, _ => h.elim
  | _ :: _, [], h, _, _, _ => h.elim

theorem OAlike.repC {rd : Nat → Nat → Option Value} {os os' : List AO} (a : OAlike os os') {x : AV} {v : Value} (h : RepC rd os g w x v) : RepC rd os' g w x v := by
  cases x with
  | sl L off n =>
    simp only [RepC] at h ⊢
    cases hL : os[L]? with
    | none =>
      rw [hL] at h
      have : os'[L]? = none := by rw [List.getElem?_eq_none_iff] at hL ⊢; rw [a.len]; exact hL
      rw [this]; exact h
    | some o =>
      rw [hL] at h
      cases o with
      | arr b s xs => obtain ⟨ys, hy, hw⟩ := a.arr L b s xs hL; rw [hy]; obtain ⟨cap, h1, h2, h3⟩ := h; exact ⟨cap, h1, by rw [hw.get.1]; exact h2, h3⟩
      | nst s xs op => rw [a.nst L s xs op hL]; exact h
      | rc cs => obtain ⟨ds, hy, _⟩ := a.rc L cs hL; rw [hy]; trivial
      | dead => rw [a.dead L hL]; trivial
  | pa L i k =>
    simp only [RepC] at h ⊢
    cases hL : os[L]? with
    | none => rw [hL] at h; exact h.elim
    | some o =>
      rw [hL] at h
      cases o with
      | arr b s xs => obtain ⟨ys, hy, hw⟩ := a.arr L b s xs hL; rw [hy]; exact h
      | nst s xs op => rw [a.nst L s xs op hL]; exact h
      | rc cs => obtain ⟨ds, hy, _⟩ := a.rc L cs hL; rw [hy]; trivial
      | dead => rw [a.dead L hL]; trivial
  | pt L k =>
    simp only [RepC] at h ⊢
    cases hL : os[L]? with
    | none => rw [hL] at h; exact h.elim
    | some o =>
      rw [hL] at h
      cases o with
      | arr b s xs => obtain ⟨ys, hy, hw⟩ := a.arr L b s xs hL; rw [hy]; trivial
      | nst s xs op => rw [a.nst L s xs op hL]; trivial
      | rc cs => obtain ⟨ds, hy, _⟩ := a.rc L cs hL; rw [hy]; exact h
      | dead => rw [a.dead L hL]; trivial
  | clo n ps =>
    obtain ⟨arr, h1, h2⟩ := h
    refine ⟨arr, h1, h2.mono rfl fun i p q v e1 e2 c => ?_⟩
    rw [e1] at e2; cases e2
    unfold RepPt at c ⊢
    cases hL : os[p.1]? with
    | none => rw [hL] at c; exact c.elim
    | some o =>
      rw [hL] at c
      cases o with
      | arr b s xs => obtain ⟨ys, hy, hw⟩ := a.arr _ b s xs hL; rw [hy]; trivial
      | nst s xs op => rw [a.nst _ s xs op hL]; trivial
      | rc cs => obtain ⟨ds, hy, _⟩ := a.rc _ cs hL; rw [hy]; exact c
      | dead => rw [a.dead _ hL]; trivial
  | _ => exact h

theorem RepC.wk {rd : Nat → Nat → Option Value} {x y : AV} {v : Value} (h : RepC rd os g w x v) (hw : wkC x y) : RepC rd os g w y v := by
  rcases hw with rfl | ⟨hn, s, rfl⟩ | ⟨s, xs, ys, rfl, rfl, hw⟩
  · exact h
  · rw [nil_of hn] at h
    obtain rfl : v = .slice none 0 0 := h
    exact .nil
  · exact RepP.wkF (show RepP rd (.fz s xs) v from h) hw

theorem RepC.wkD' {rd : Nat → Nat → Option Value} {x y : AV} {v : Value} (h : RepC rd os g w x v) (hw : wkD x y) : RepC rd os g w y v := by
  rcases hw with hw | ⟨hn, L, rfl⟩
  · exact h.wk hw
  · rw [nil_of hn] at h
    obtain rfl : v = .slice none 0 0 := h
    simp only [RepC]
    cases os[L]? with
    | none => exact ⟨trivial, trivial, none, rfl⟩
    | some o =>
      cases o with
      | arr ow z xs => exact ⟨0, Nat.le_refl _, Nat.zero_le _, .inr ⟨rfl, none, rfl⟩⟩
      | nst z xs op => exact ⟨0, Nat.le_refl _, Nat.zero_le _, .inr ⟨rfl, none, rfl⟩⟩
      | rc cs => trivial
      | dead => trivial

theorem OAlike.repA {rd : Nat → Nat → Option Value} {os os' : List AO} (a : OAlike os os') {x : AV} {v : Value} (h : RepA rd os g w x v) : RepA rd os' g w x v := by
  cases x with
  | agg cs => obtain ⟨vs, hv, hl, hp⟩ := h; exact ⟨vs, hv, hl, fun i y hy => let ⟨u, hu, hr⟩ := hp i y hy; ⟨u, hu, a.repC hr⟩⟩
  | sc => exact h
  | fz => exact h
  | fp => exact h
  | sl => exact a.repC (rd := rd) (w := w) (g := g) (x := .sl _ _ _) h
  | pa => exact a.repC (rd := rd) (w := w) (g := g) (x := .pa _ _ _) h
  | pt => exact a.repC (rd := rd) (w := w) (g := g) (x := .pt _ _) h
  | clo => exact a.repC (rd := rd) (w := w) (g := g) (x := .clo _ _) h
  | own => trivial
  | junk => trivial
  | tup => exact h.elim
  | opt => exact h.elim

theorem OAlike.repV {rd : Nat → Nat → Option Value} {os os' : List AO} (a : OAlike os os') {x : AV} {v : Value} (h : RepV rd os g w x v) : RepV rd os' g w x v := by
  cases x with
  | tup cs => obtain ⟨vs, hv, hl, hp⟩ := h; exact ⟨vs, hv, hl, fun i y hy => let ⟨u, hu, hr⟩ := hp i y hy; ⟨u, hu, a.repA hr⟩⟩
  | opt b x => exact ⟨fun hb => a.repA (h.1 hb), h.2⟩
  | agg cs => exact a.repA (x := .agg cs) h
  | sc => exact h
  | fz => exact h
  | fp => exact h
  | sl => exact a.repC (rd := rd) (w := w) (g := g) (x := .sl _ _ _) h
  | pa => exact a.repC (rd := rd) (w := w) (g := g) (x := .pa _ _ _) h
  | pt => exact a.repC (rd := rd) (w := w) (g := g) (x := .pt _ _) h
  | clo => exact a.repC (rd := rd) (w := w) (g := g) (x := .clo _ _) h
  | own => trivial
  | junk => trivial

def notAgg : AV → Prop
  | .agg _ => False
  | _ => True

def notTup : AV → Prop
  | .tup _ => False
  | _ => True

theorem wkA_cell {x y : AV} (h : wkA x y) (hx : notAgg x) : wkD x y := by
  rcases h with rfl | h
  · exact wkD_refl _
  · cases x <;> first | exact hx.elim | exact h | (cases y <;> exact h)

theorem wkV_one {x y : AV} (h : wkV x y) (hx : notTup x) : wkA x y := by
  rcases h with rfl | h
  · exact .inl rfl
  · cases x <;> first | exact hx.elim | exact h | (cases y <;> exact h)

theorem RepA.toC {rd : Nat → Nat → Option Value} {x : AV} {v : Value} (h : RepA rd os g w x v) (hx : notAgg x) : RepC rd os g w x v := by
  cases x <;> first | exact hx.elim | exact h

theorem RepV.toA1 {rd : Nat → Nat → Option Value} {x : AV} {v : Value} (h : RepV rd os g w x v) (hx : notTup x) (ho : ∀ b z, x ≠ .opt b z) : RepA rd os g w x v := by
  cases x <;> first | exact hx.elim | exact h | exact absurd rfl (ho _ _)

theorem RepA.wk {rd : Nat → Nat → Option Value} {x y : AV} {v : Value} (h : RepA rd os g w x v) (hw : wkA x y) : RepA rd os g w y v := by
  by_cases hx : notAgg x
  · exact ((h.toC hx).wkD' (wkA_cell hw hx)).toA
  · cases x with
    | agg cs =>
      rcases hw with rfl | hw
      · exact h
      · cases y with
        | agg ds =>
          obtain ⟨vs, hv, hl, hp⟩ := h
          refine ⟨vs, hv, by rw [hl]; exact (wkM.len hw).symm, fun i y hy => ?_⟩
          obtain ⟨x, hx, hxy⟩ := wkM.get hw i y hy
          obtain ⟨u, hu, hr⟩ := hp i x hx
          exact ⟨u, hu, hr.wkD' hxy⟩
        | _ => rcases hw with (e | ⟨hn, _⟩ | ⟨_, _, _, e, _⟩) | ⟨hn, _⟩ <;> first | cases e | cases hn
    | _ => exact absurd trivial hx

theorem RepV.wk {rd : Nat → Nat → Option Value} {x y : AV} {v : Value} (h : RepV rd os g w x v) (hw : wkV x y) : RepV rd os g w y v := by
  cases x with
  | tup vs =>
    rcases hw with rfl | hw
    · exact h
    · cases y with
      | tup us =>
        obtain ⟨vs', hv, hl, hp⟩ := h
        refine ⟨vs', hv, by rw [hl]; exact hw.get.1.symm, fun i y hy => ?_⟩
        obtain ⟨x, hx, hxy⟩ := hw.get.2 i y hy
        obtain ⟨u, hu, hr⟩ := hp i x hx
        exact ⟨u, hu, hr.wk hxy⟩
      | _ =>
        rcases hw with e | hw
        · cases e
        · rcases hw with (e | ⟨hn, _⟩ | ⟨_, _, _, e, _⟩) | ⟨hn, _⟩ <;> first | cases e | cases hn
  | opt b z =>
    rcases wkA_cell (wkV_one hw trivial) trivial with (rfl | ⟨hn, _⟩ | ⟨_, _, _, e, _⟩) | ⟨hn, _⟩
    · exact h
    · cases hn
    · cases e
    · cases hn
  | sc u => exact ((h.toA1 trivial (by simp)).wk (wkV_one hw trivial)).toV
  | fz s xs => exact ((h.toA1 trivial (by simp)).wk (wkV_one hw trivial)).toV
  | fp s xs i k => exact ((h.toA1 trivial (by simp)).wk (wkV_one hw trivial)).toV
  | sl L o n => exact ((h.toA1 trivial (by simp)).wk (wkV_one hw trivial)).toV
  | pa L i k => exact ((h.toA1 trivial (by simp)).wk (wkV_one hw trivial)).toV
  | pt L k => exact ((h.toA1 trivial (by simp)).wk (wkV_one hw trivial)).toV
  | clo L k => exact ((h.toA1 trivial (by simp)).wk (wkV_one hw trivial)).toV
  | agg cs => exact ((h.toA1 trivial (by simp)).wk (wkV_one hw trivial)).toV
  | own s xs => exact ((h.toA1 trivial (by simp)).wk (wkV_one hw trivial)).toV
  | junk => exact ((h.toA1 trivial (by simp)).wk (wkV_one hw trivial)).toV

theorem SRel.wk (h : SRel X os g w) {os' : List AO} (hw : wkS os os') : SRel X os' g w := by
  have a := hw.alike
  have hrd : rdF X os' g w = rdF X os g w := by funext b o; exact a.rd b o
  refine ⟨h.sys, h.tape, h.output, h.size, h.same, fun L hL => h.bnd L ((a.own L).1 hL), fun L M hL hM b e f => h.inj L M ((a.own L).1 hL) ((a.own M).1 hM) b e f, fun L => ?_⟩
  have hobj := h.obj L
  cases hL : os[L]? with
  | none =>
    have : os'[L]? = none := by rw [List.getElem?_eq_none_iff] at hL ⊢; rw [a.len]; exact hL
    rw [this]; trivial
  | some o =>
    rw [hL] at hobj
    cases o with
    | arr b s xs =>
      obtain ⟨ys, hy, hxy⟩ := a.arr L b s xs hL
      rw [hy]
      obtain ⟨hl, hg⟩ := hxy.get
      cases b with
      | true =>
        obtain ⟨p2, ⟨p0, p1⟩ | ⟨b, p0, p1, c, t, p3, p4, p5, p6⟩⟩ := hobj
        · exact ⟨p2, .inl ⟨p0, List.eq_nil_of_length_eq_zero (by rw [hl, p1]; rfl)⟩⟩
        refine ⟨p2, .inr ⟨b, p0, p1, c, t, p3, by rw [hl]; exact p4, fun y hm => ?_, fun i k y z hy hz => ?_⟩⟩
        · obtain ⟨i, hi, e⟩ := List.mem_iff_getElem.1 hm
          obtain ⟨x, hx, hxy⟩ := hg i y (by rw [List.getElem?_eq_getElem hi, e])
          rw [wkC.len hxy]; exact p5 x (List.mem_of_getElem? hx)
        · obtain ⟨x, hx, hxy⟩ := hg i y hy
          obtain ⟨z0, hz0, hzz⟩ := hxy.get k z hz
          obtain ⟨v, hv, hr⟩ := p6 i k x z0 hx hz0
          exact ⟨v, hv, by rw [hrd]; exact hr.wk hzz⟩
      | false =>
        intro b hb
        have hobj : Row _ _ _ _ _ := hobj b hb
        rw [hrd]
        refine ⟨fun y hm => ?_, fun i k y z hy hz => ?_⟩
        · obtain ⟨i, hi, e⟩ := List.mem_iff_getElem.1 hm
          obtain ⟨x, hx, hxy⟩ := hg i y (by rw [List.getElem?_eq_getElem hi, e])
          rw [wkC.len hxy]; exact (show Row _ _ _ _ _ from hobj).1 x (List.mem_of_getElem? hx)
        · obtain ⟨x, hx, hxy⟩ := hg i y hy
          obtain ⟨z0, hz0, hzz⟩ := hxy.get k z hz
          obtain ⟨v, hv, hr⟩ := (show Row _ _ _ _ _ from hobj).2 i k x z0 hx hz0
          exact ⟨v, hv, hr.wk hzz⟩
    | rc cs =>
      obtain ⟨ds, hy, hcd⟩ := a.rc L cs hL
      rw [hy]
      obtain ⟨b, p0, p1, c, t, p3, p4, p6⟩ := hobj
      have hcd' : wkM cs ds := by
        rcases hcd with rfl | h
        · exact wkM_refl _
        · exact h
      refine ⟨b, p0, p1, c, t, p3, by rw [wkM.len hcd']; exact p4, fun k y hy => ?_⟩
      obtain ⟨x, hx, hxy⟩ := wkM.get hcd' k y hy
      obtain ⟨v, hv, hr⟩ := p6 k x hx
      exact ⟨v, hv, by rw [hrd]; exact a.repC (hr.wkD' hxy)⟩
    | nst s xs op =>
      rw [a.nst L s xs op hL]
      obtain ⟨p2, q | ⟨b, nb, F, p0, p1, c, t, p3, p4, p5, p6, p7, p8, p9, p10⟩⟩ := hobj
      · exact ⟨p2, .inl q⟩
      refine ⟨p2, .inr ⟨b, nb, F, p0, p1, c, t, p3, p4, p5, ?_, fun j row e => ?_, p8, p9, p10⟩⟩
      · rw [hrd]; exact p6
      · obtain ⟨q1, q2, q3⟩ := p7 j row e
        exact ⟨q1, q2, fun k y hy => let ⟨v, hv, hr⟩ := q3 k y hy; ⟨v, hv, by rw [hrd]; exact a.repC hr⟩⟩
    | dead => rw [a.dead L hL]; trivial

theorem Keeps.wk {os0 : List AO} {g0 : Nat → List Nat} {w0 : World} (h : Keeps os0 g0 w0 os g w) {os' : List AO} (hw : wkS os os') : Keeps os0 g0 w0 os' g w := by
  obtain ⟨hl, hg⟩ := hw.get
  have a := hw.alike
  have back : ∀ {L : Nat} {o o0 : AO}, os0[L]? = some o0 → os'[L]? = some o → ∃ q, os[L]? = some q ∧ wkO q o := by
    intro L o o0 h0 ho
    obtain ⟨q, hq⟩ := get_some_of_len h.len h0
    obtain ⟨y, hy, hwk⟩ := hg L q hq
    rw [ho] at hy; cases hy
    exact ⟨q, hq, hwk⟩
  refine ⟨by rw [hl]; exact h.len, fun L o o' p p' h0 h1 e0 e1 => ?_, fun L cs cs' h0 h1 => ?_, fun L o p cs' h0 e0 h1 => ?_, fun L cs o p h0 h1 e1 => ?_, fun L h0 => a.dead L (h.dead L h0), h.rm⟩
  · obtain ⟨q, hq, hwk⟩ := back h0 h1
    rcases hwk with rfl | hwk
    · exact h.arr _ _ _ _ _ h0 hq e0 e1
    · cases q with
      | arr b z zs =>
        cases o' with
        | arr b' z' zs' =>
          obtain ⟨rfl, rfl, hr⟩ := hwk
          cases e1
          have := h.arr _ _ _ _ _ h0 hq e0 rfl
          dsimp only at this ⊢
          rw [hr.get.1]; exact this
        | _ => exact hwk.elim
      | rc cs => cases o' <;> first | exact hwk.elim | cases e1
      | nst => exact hwk.elim
      | dead => exact hwk.elim
  · obtain ⟨q, hq, hwk⟩ := back h0 h1
    rcases hwk with rfl | hwk
    · exact h.rc _ _ _ h0 hq
    · cases q with
      | arr b z zs => exact hwk.elim
      | nst => exact hwk.elim
      | rc cs => exact h.rc _ _ _ h0 hq
      | dead => exact hwk.elim
  · obtain ⟨q, hq, hwk⟩ := back h0 h1
    rcases hwk with rfl | hwk
    · exact h.rcArr _ _ _ _ h0 e0 hq
    · cases q with
      | arr b z zs => exact hwk.elim
      | nst => exact hwk.elim
      | rc cs => exact h.rcArr _ _ _ _ h0 e0 hq
      | dead => exact hwk.elim
  · obtain ⟨q, hq, hwk⟩ := back h0 h1
    rcases hwk with rfl | hwk
    · exact h.arrRc _ _ _ _ h0 hq e1
    · cases q with
      | arr b z zs => exact h.arrRc _ _ _ _ h0 hq rfl
      | rc cs => cases o <;> first | exact hwk.elim | cases e1
      | nst => exact hwk.elim
      | dead => exact hwk.elim

theorem wkE.lk : ∀ {e e' : Env}, wkE e e' → ∀ t, wkV (lk e t) (lk e' t)
  | [], [], _, t => .inl rfl
  | (i, x) :: r, (j, y) :: s, h, t => by
    obtain ⟨rfl, h1, h2⟩ := h
    simp only [AM.lk]
    by_cases e : i = t
    · rw [if_pos e, if_pos e]; exact h1
    · rw [if_neg e, if_neg e]; exact wkE.lk h2 t
  | [], (_, _) :: _, h, _ => h.elim
  | (_, _) :: _, [], h, _ => h.elim

theorem Rel.wk {st st' : St} {a : Act} (h : Rel X c st g a w) (hw : wkSt st st') : Rel X c st' g a w := by
  have al := hw.2.alike
  have hrd : rdF X st'.os g w = rdF X st.os g w := by funext b o; exact al.rd b o
  refine ⟨h.srel.wk hw.2, fun t => ?_, h.nt, h.defs, fun n => by rw [hrd]; exact h.glob n, h.keeps.wk hw.2⟩
  rw [hrd]
  exact al.repV ((h.env t).wk (hw.1.lk t))

end Go.AM
end
