/- Literals, make, new variables, stores: whole operations. Conditions: none. -/
import Derived.Test.YtcnlhdaeeeolbaaAmJ
set_option linter.unusedSimpArgs false
set_option linter.unusedVariables false
namespace Go.AM
open Go

variable {P : Program} {c : Cx} {X : Ctx} {os : List AO} {g : Nat → List Nat} {w : World}

theorem litElems_len (ti : TI) (ps : List (Nat × AV)) : ∀ n, (litElems ti n ps).length = n
  | 0 => rfl
  | n + 1 => by simp [litElems, litElems_len ti ps n]

theorem litElems_get (ti : TI) (ps : List (Nat × AV)) : ∀ n i, i < n → (litElems ti n ps)[i]? = some (match ps.lookup i with | some v => cellsOf v | none => ti.zero)
  | 0, i, h => by omega
  | n + 1, i, h => by
    simp only [litElems, List.getElem?_append, litElems_len]
    by_cases h1 : i < n
    · rw [if_pos h1]; exact litElems_get ti ps n i h1
    · obtain rfl : i = n := by omega
      rw [if_neg h1, Nat.sub_self]; rfl

/-- A literal's cells. -/
theorem fill_lit {rd : Nat → Nat → Option Value} {ti : TI} {s n : Nat} (hs : ti.sz = s) : ∀ (ps : List (Nat × AV)) (pv : List (Nat × Value)) (E : Nat → List AV) (C : Array Value), ps.length = pv.length →
    (∀ (i : Nat) p, ps[i]? = some p → ∃ q, pv[i]? = some q ∧ q.1 = p.1 ∧ RepL rd os g w (cellsOf p.2) q.2.cells.toList) → litOk os ti n ps → C.size = n * s → (∀ i, i < n → (E i).length = s) →
    (∀ (i k : Nat) y, i < n → (E i)[k]? = some y → ∃ u, C[i * s + k]? = some u ∧ RepC rd os g w y u) →
    ∃ us, Instr.fill (fun i => some (i * s, s)) C pv = some us ∧ us.size = n * s ∧
      ∀ (i k : Nat) y, i < n → (match ps.lookup i with | some v => cellsOf v | none => E i)[k]? = some y → ∃ u, us[i * s + k]? = some u ∧ RepC rd os g w y u
  | [], [], E, C, _, _, _, hC, _, hE => ⟨C, rfl, hC, fun i k y hi hy => hE i k y hi (by simpa using hy)⟩
  | [], _ :: _, _, _, hl, _, _, _, _, _ => by simp at hl
  | _ :: _, [], _, _, hl, _, _, _, _, _ => by simp at hl
  | (i0, x) :: ps, (i', v) :: pv, E, C, hl, hp, hk, hC, hEl, hE => by
    obtain ⟨q, hq, e1, hx⟩ := hp 0 (i0, x) rfl
    simp only [List.getElem?_cons_zero, Option.some.injEq] at hq
    subst hq
    simp only at e1 hx
    subst e1
    obtain ⟨k1, k2, k3, k4, k5⟩ := hk
    have hvs : v.cells.size = s := by have := hx.1; simp at this; omega
    have hrow : i' * s + s ≤ n * s := by
      have := Nat.mul_le_mul_right s (show i' + 1 ≤ n from k1)
      rw [Nat.add_mul] at this; omega
    have hf := foldl_set (i' * s) v.cells.toList 0 C (by simp [hvs]; omega)
    have hz : (v.cells.zipIdx.foldl (fun cs (c, j) => cs.setIfInBounds (i' * s + j) c) C).toList = C.toList.take (i' * s) ++ v.cells.toList ++ C.toList.drop (i' * s + v.cells.toList.length) := by
      rw [← Array.foldl_toList]
      simpa using hf
    have hget : ∀ j, (v.cells.zipIdx.foldl (fun cs (c, j) => cs.setIfInBounds (i' * s + j) c) C)[j]? = if i' * s ≤ j ∧ j < i' * s + s then v.cells[j - i' * s]? else C[j]? := by
      intro j
      rw [← Array.getElem?_toList, hz, splice_get _ _ _ _ (by simp [hvs]; omega)]
      simp [hvs]
    obtain ⟨us, h1, h2, h3⟩ := fill_lit hs ps pv (fun i => if i = i' then cellsOf x else E i) (v.cells.zipIdx.foldl (fun cs (c, j) => cs.setIfInBounds (i' * s + j) c) C) (by simpa using hl) (fun j p hj => hp (j + 1) p (by simpa using hj)) k5
      (by rw [← Array.length_toList, hz]; simp [hvs]; omega) (fun i hi => by
        by_cases e : i = i'
        · simp only [if_pos e]; omega
        · simp only [if_neg e]; exact hEl i hi) (fun i k y hi hy => by
        rw [hget]
        by_cases e : i = i'
        · subst e
          simp only [↓reduceIte] at hy
          have hkl := lt_of_get hy
          rw [if_pos ⟨by omega, by omega⟩]
          obtain ⟨u, hu, hu2⟩ := hx.2 k y hy
          exact ⟨u, by rw [show i * s + k - i * s = k by omega]; simpa using hu, hu2⟩
        · simp only [if_neg e] at hy
          have hkl := lt_of_get hy
          rw [hEl i hi] at hkl
          rw [if_neg (by
            rintro ⟨c1, c2⟩
            exact row_apart (s := s) (k := k) (m := i * s + k - i' * s) e hkl (by omega) (by omega))]
          exact hE i k y hi hy)
    refine ⟨us, ?_, h2, fun i k y hi hy => ?_⟩
    · simp only [Instr.fill]
      rw [if_neg (by simp [hvs]; omega)]
      exact h1
    · refine h3 i k y hi ?_
      by_cases e : i = i'
      · subst e
        simp only [k4, if_pos rfl]
        simpa [List.lookup] using hy
      · have : (i == i') = false := by simpa using e
        simp only [List.lookup, this] at hy
        simp only [if_neg e]
        exact hy

/-- Zeros, one element behind the other. -/
theorem zero_get (z : Array Value) (n i k : Nat) (s : Nat) (hz : z.size = s) (hi : i < n) (hk : k < s) : ((Array.range (n * s)).map (z[· % z.size]!))[i * s + k]? = z[k]? := by
  have hlt : i * s + k < n * s := by
    have := Nat.mul_le_mul_right s (show i + 1 ≤ n from hi)
    rw [Nat.add_mul] at this; omega
  have hm : (i * s + k) % s = k := by rw [Nat.add_comm, Nat.add_mul_mod_self_right, Nat.mod_eq_of_lt hk]
  simp [hlt, hz, hm, hk]

theorem rep_zero {rd : Nat → Nat → Option Value} {zs : List AV} {z : Value} (h : z.cells.toList.map AV.sc = zs) {k : Nat} {y : AV} (hy : zs[k]? = some y) : ∃ u, z.cells[k]? = some u ∧ RepC rd os g w y u ∧ y = .sc u := by
  rw [← h, List.getElem?_map] at hy
  cases hzk : z.cells.toList[k]? with
  | none => rw [hzk] at hy; simp at hy
  | some u => rw [hzk] at hy; simp at hy; subst hy; exact ⟨u, by simpa using hzk, rfl, rfl⟩

theorem elemT (hP : PrOk P c) {t : TypeId} (k0 : 0 < (c.T t).sz) (k1 : isSliceT c t) : ∃ e, elemOf c t = e ∧ P.underlying t = some (.slice e) := by
  obtain ⟨_, d, _, i1, _, _, i4, _, _, _, i8, _⟩ := (hP.ty t k0).ex
  obtain ⟨e, hk⟩ : ∃ e, (c.T t).kind = .slice e := by
    unfold isSliceT at k1; split at k1
    · exact ⟨_, by assumption⟩
    · exact k1.elim
  rw [hk] at i8
  obtain rfl : d = .slice e := i8
  exact ⟨e, by simp [elemOf, hk], i4⟩

theorem allP_app {α : Type} {p : α → Prop} : ∀ {l m : List α}, allP p l → allP p m → allP p (l ++ m)
  | [], _, _, h => h
  | _ :: _, _, h, k => ⟨h.1, allP_app h.2 k⟩

theorem litOk_all {ti : TI} {n : Nat} : ∀ {ps : List (Nat × AV)}, litOk os ti n ps → allP (frzOk os) (ps.flatMap fun p => cellsOf p.2) ∧ (∀ p ∈ ps, p.1 < n ∧ allP (frzOk os) (cellsOf p.2) ∧ (cellsOf p.2).length = ti.sz)
  | [], _ => ⟨trivial, fun _ h => by cases h⟩
  | (i, v) :: r, h => by
    obtain ⟨h1, h2⟩ := litOk_all h.2.2.2.2
    refine ⟨by simp only [List.flatMap_cons]; exact allP_app h.2.2.1 h1, fun p hp => ?_⟩
    cases hp with
    | head _ => exact ⟨h.1, h.2.2.1, h.2.1⟩
    | tail _ hp => exact h2 p hp

theorem lookup_mem {α : Type} : ∀ {ps : List (Nat × α)} {i : Nat} {v : α}, ps.lookup i = some v → (i, v) ∈ ps
  | (j, x) :: r, i, v, h => by
    by_cases e : i = j
    · subst e; simp [List.lookup] at h; subst h; exact .head _
    · have : (i == j) = false := by simpa using e
      simp only [List.lookup, this] at h
      exact .tail _ (lookup_mem h)

theorem unownAll_len : ∀ (vs : List AV) (os : List AO), (unownAll os vs).length = os.length
  | [], _ => rfl
  | x :: r, os => by
    simp only [unownAll]
    rw [unownAll_len r]
    unfold unown
    split
    · split <;> simp
    · rfl

def litO (c : Cx) (os : List AO) (e n : Nat) (ps : List (Nat × AV)) : List AO :=
  unownAll os (ps.flatMap fun p => cellsOf p.2) ++ [.arr true (c.T e).sz ((litElems (c.T e) n ps).map fun x => x.map (frz os))]

theorem lit_ok (hP : PrOk P c) (h : SRel X os g w) {t : TypeId} {n : Nat} {ps : Array (Nat × Operand)} {rA : Operand → AV} {r : Operand → Value} (hr : ∀ p ∈ ps.toList, RepV (rdF X os g w) os g w (rA p.2) (r p.2))
    (k0 : 0 < (c.T t).sz) (k1 : isSliceT c t) (k2 : 0 < (c.T (elemOf c t)).sz) (k3 : n * (c.T (elemOf c t)).sz ≤ 16777216) (k4 : litOk os (c.T (elemOf c t)) n (ps.toList.map fun p => (p.1, rA p.2))) :
    ∃ v g' w', (Instr.buildSlice t n (ps.map fun p => (p.1, r p.2))).run P w = .ok v w' ∧
      SRel X (litO c os (elemOf c t) n (ps.toList.map fun p => (p.1, rA p.2))) g' w' ∧ Step X os g w (litO c os (elemOf c t) n (ps.toList.map fun p => (p.1, rA p.2))) g' w' ∧
      RepC (rdF X (litO c os (elemOf c t) n (ps.toList.map fun p => (p.1, rA p.2))) g' w') (litO c os (elemOf c t) n (ps.toList.map fun p => (p.1, rA p.2))) g' w' (.sl os.length 0 n) v ∧ Loc os g w (litO c os (elemOf c t) n (ps.toList.map fun p => (p.1, rA p.2))) g' w' [] := by
  obtain ⟨e, hel, i4⟩ := elemT hP k0 k1
  rw [hel] at k2 k3 k4 ⊢
  obtain ⟨j, dj, z, j1, j2, j3, j4, j5, j6, j7, j8, j9, _, hzl⟩ := (hP.ty e k2).ex
  obtain ⟨a1, a2⟩ := litOk_all k4
  obtain ⟨u1, u2, u3, u4⟩ := unownAll_ok _ h a1
  have hzs : z.cells.size = (c.T e).sz := by omega
  have hzlen : (c.T e).zero.length = (c.T e).sz := by rw [← j7]; simp [hzs]
  have hparts : ∀ (k : Nat) p, (ps.toList.map fun p => (p.1, rA p.2))[k]? = some p → ∃ q, (ps.toList.map fun p => (p.1, r p.2))[k]? = some q ∧ q.1 = p.1 ∧ RepL (rdF X os g w) os g w (cellsOf p.2) q.2.cells.toList := by
    intro k p hp2
    rw [List.getElem?_map] at hp2
    cases hpk : ps.toList[k]? with
    | none => rw [hpk] at hp2; simp at hp2
    | some u =>
      rw [hpk] at hp2; simp at hp2; subst hp2
      have hm : u ∈ ps.toList := List.mem_of_getElem? hpk
      have hu := (a2 (u.1, rA u.2) (List.mem_map.2 ⟨u, hm, rfl⟩)).2.1
      refine ⟨(u.1, r u.2), by rw [List.getElem?_map, hpk]; rfl, rfl, ?_⟩
      exact ((hr u hm).toA' hu).cells fun y hy u2 h2 => frzOk_one (allP_mem hu y hy) h2
  obtain ⟨us, f1, f2, f3⟩ := fill_lit (s := (c.T e).sz) (n := n) rfl _ _ (fun _ => (c.T e).zero) ((Array.range (n * (c.T e).sz)).map (z.cells[· % z.cells.size]!)) (by simp) hparts k4 (by simp) (fun _ _ => hzlen) fun i k y hi hy => by
    have hk : k < (c.T e).sz := by have := lt_of_get hy; omega
    rw [zero_get z.cells n i k _ hzs hi hk]
    obtain ⟨u, hu, hu2, _⟩ := rep_zero (rd := rdF X os g w) (os := os) (g := g) (w := w) j7 hy
    exact ⟨u, hu, hu2⟩
  -- the row's elements, given up
  have hE : RepE (rdF X (unownAll os ((ps.toList.map fun p => (p.1, rA p.2)).flatMap fun p => cellsOf p.2)) g w) (c.T e).sz ((litElems (c.T e) n (ps.toList.map fun p => (p.1, rA p.2))).map fun x => x.map (frz os)) us.toList := by
    refine ⟨by simp [f2, litElems_len], fun x hx => ?_, fun i k x y hx hy => ?_⟩
    · obtain ⟨x0, hx0, rfl⟩ := List.mem_map.1 hx
      obtain ⟨i, hi, e1⟩ := List.mem_iff_getElem.1 hx0
      rw [litElems_len] at hi
      have := litElems_get (c.T e) (ps.toList.map fun p => (p.1, rA p.2)) n i hi
      rw [List.getElem?_eq_getElem (by rw [litElems_len]; exact hi)] at this
      simp only [Option.some.injEq] at this
      rw [← e1, this, List.length_map]
      split
      · rename_i v hv; exact (a2 _ (lookup_mem hv)).2.2
      · exact hzlen
    · rw [List.getElem?_map] at hx
      have hi : i < n := by
        rcases Nat.lt_or_ge i n with h' | h'
        · exact h'
        · rw [List.getElem?_eq_none (by rw [litElems_len]; exact h')] at hx; cases hx
      rw [litElems_get _ _ n i hi] at hx
      simp only [Option.map_some, Option.some.injEq] at hx
      subst hx
      rw [List.getElem?_map] at hy
      cases hyk : (match (ps.toList.map fun p => (p.1, rA p.2)).lookup i with | some v => cellsOf v | none => (c.T e).zero)[k]? with
      | none => rw [hyk] at hy; cases hy
      | some y0 =>
        rw [hyk] at hy
        simp only [Option.map_some, Option.some.injEq] at hy
        subst hy
        obtain ⟨u, hu, hu2⟩ := f3 i k y0 hi hyk
        refine ⟨u, by simpa using hu, ?_⟩
        have hmem : y0 ∈ (match (ps.toList.map fun p => (p.1, rA p.2)).lookup i with | some v => cellsOf v | none => (c.T e).zero) := List.mem_of_getElem? hyk
        split at hmem
        · rename_i v hv
          have hm := lookup_mem hv
          have hf := allP_mem (a2 _ hm).2.1 y0 hmem
          have hf2 := frz_un u3 y0 hf
          rw [← hf2.1]
          refine frz_ok u1 hf2.2 (fun L o nn e1 => ?_) (u2.repC hu2)
          subst e1
          exact u4 L o nn (List.mem_flatMap.2 ⟨_, hm, hmem⟩)
        · obtain ⟨k', hk', e1⟩ := List.mem_iff_getElem.1 hmem
          obtain ⟨u', _, _, e2⟩ := rep_zero (rd := rdF X os g w) (os := os) (g := g) (w := w) j7 (List.getElem?_eq_getElem hk')
          rw [e1] at e2
          subst e2
          have : u = u' := hu2
          subst this
          refine .sc (j9 u ?_)
          have : (AV.sc u) ∈ (c.T e).zero := hmem
          rw [← j7] at this
          obtain ⟨u0, h0, e0⟩ := List.mem_map.1 this
          cases e0; exact h0
  obtain ⟨g1, g2, g3, g4⟩ := u1.grown (w0 := w) (rest := []) k2 hE e n (by simp [litElems_len]) (by simp [litElems_len]) rfl rfl rfl rfl us (by simp)
  have hlen : ((litElems (c.T e) n (ps.toList.map fun p => (p.1, rA p.2))).map fun x => x.map (frz os)).length = n := by simp [litElems_len]
  rw [hlen, unownAll_len] at g3
  rw [unownAll_len] at g1 g2 g4
  refine ⟨_, _, _, ?_, g1, u2.trans g2, g3, g4.1, fun L hL b hm hb => (g4.2 L hL b hm hb).imp (fun h' => ⟨u3.own h'.1, h'.2⟩) id⟩
  have hsize : ¬ (16777216 < n * (c.T e).sz) := by omega
  have e1 : (ps.map fun p => (p.1, r p.2)).toList = ps.toList.map fun p => (p.1, r p.2) := by simp
  by_cases hn : n * (c.T e).sz = 0
  · have hC : ((Array.range (n * (c.T e).sz)).map (z.cells[· % z.cells.size]!)) = #[] := by rw [hn]; simp
    rw [hC] at f1
    simp [Instr.buildSlice, run_underlying i4, sizeOf, typeInfo, j1, j2, hn, f1, newRow, Array.range_zero']
  · simp [Instr.buildSlice, run_underlying i4, sizeOf, typeInfo, zeroValue, j1, j2, j6, hn, hsize, f1, newRow]


theorem run_app_zeros (w : World) (t u ty e : TypeId) (i : TypeInfo) (z : Value) (ht : P.underlying t = some (.slice e)) (hi : P.info? e = some i) (hz : i.zero = some z) {ku : IntKind} (hu : P.underlying u = some (.int ku)) (k : IntKind) (n : Int) (h0 : 0 < n) (hn : n ≤ 140737488355328)
    (hb : n.toNat * i.bytes ≤ 140737488355328) :
    (Builtin.append_ #[t, u] ty #[.slice none 0 0, .int k n]).run P w = .ok (.slice (some ⟨w.heap.size, 0, none⟩) n.toNat (grownCap w n.toNat 0 e)) (w.drew.alloc (.cells ((if n.toNat * i.size = 0 then #[] else Builtin.zeroCells z.cells n.toNat) ++ Builtin.zeroCells z.cells (grownCap w n.toNat 0 e - n.toNat)) e)) := by
  have e1 : IntKind.i64.wrap n = n := by simp [IntKind.wrap, IntKind.bits, IntKind.signed]; omega
  have h1 : ¬ n < 0 := by omega
  have h2 : ¬ (281474976710656 < n * (i.bytes : Int)) := by
    have : ((n.toNat * i.bytes : Nat) : Int) = n * i.bytes := by rw [Int.natCast_mul, Int.toNat_of_nonneg (by omega)]
    omega
  have h3 : ¬ (n.toNat = 0) := by omega
  have h4 : ¬ (n ≤ 0) := by omega
  have h63' : ¬ (9223372036854775807 < ((n.toNat : Nat) : Int)) := by omega
  have h63b : ¬ (9223372036854775807 < n) := by omega
  have h48' : ¬ (281474976710656 < Builtin.nextslicecap n.toNat 0 * i.bytes) := by
    have := growslice_fits (need := n.toNat) (old := 0) (bytes := i.bytes) (by omega) hb
    omega
  have hmx : max n 0 = n := by omega
  by_cases hs : n.toNat * i.size = 0
  · rw [if_pos hs]
    have hs' := hs
    rw [Nat.mul_eq_zero] at hs'
    simp [Builtin.append_, run_underlying ht, run_underlying hu, sizeOf, typeInfo, zeroValue, hi, hz, asInt, asIntOf, e1, h1, h2, h3, h4, hmx, h63', h63b, h48', Question.forced, newRow, grownCap, hs, hs', Builtin.firstCells]
  · rw [if_neg hs]
    have hs' := hs
    rw [Nat.mul_eq_zero] at hs'
    simp [Builtin.append_, run_underlying ht, run_underlying hu, sizeOf, typeInfo, zeroValue, hi, hz, asInt, asIntOf, e1, h1, h2, h3, h4, hmx, h63', h63b, h48', Question.forced, newRow, grownCap, hs, hs', Builtin.firstCells]

theorem run_app_zero0 (w : World) (t u ty e : TypeId) (i : TypeInfo) (ht : P.underlying t = some (.slice e)) (hi : P.info? e = some i) {ku : IntKind} (hu : P.underlying u = some (.int ku)) (k : IntKind) :
    (Builtin.append_ #[t, u] ty #[.slice none 0 0, .int k 0]).run P w = .ok (.slice none 0 0) w := by
  have e1 : IntKind.i64.wrap 0 = 0 := rfl
  simp [Builtin.append_, run_underlying ht, run_underlying hu, sizeOf, typeInfo, hi, asInt, asIntOf, e1]

/-- append(nil, make([]E, n)...). -/
theorem zeros_ok (hP : PrOk P c) (h : SRel X os g w) {t u : TypeId} (ty : TypeId) {k : IntKind} {n : Int} (k0 : 0 < (c.T t).sz) (k1 : isSliceT c t) (k2 : 0 < (c.T (elemOf c t)).sz) (ku : 0 < (c.T u).sz) (k3 : isIntK (c.T u).kind = true) (h0 : 0 < n)
    (h1 : n * ((c.T (elemOf c t)).bytes : Int) ≤ 140737488355328) (h2 : n ≤ 140737488355328) :
    ∃ v g' w', (Builtin.append_ #[t, u] ty #[.slice none 0 0, .int k n]).run P w = .ok v w' ∧
      SRel X (os ++ [.arr true (c.T (elemOf c t)).sz (List.replicate n.toNat (c.T (elemOf c t)).zero)]) g' w' ∧ Step X os g w (os ++ [.arr true (c.T (elemOf c t)).sz (List.replicate n.toNat (c.T (elemOf c t)).zero)]) g' w' ∧
      RepC (rdF X (os ++ [.arr true (c.T (elemOf c t)).sz (List.replicate n.toNat (c.T (elemOf c t)).zero)]) g' w') (os ++ [.arr true (c.T (elemOf c t)).sz (List.replicate n.toNat (c.T (elemOf c t)).zero)]) g' w' (.sl os.length 0 n.toNat) v ∧ Loc os g w (os ++ [.arr true (c.T (elemOf c t)).sz (List.replicate n.toNat (c.T (elemOf c t)).zero)]) g' w' [] := by
  obtain ⟨e, hel, i4⟩ := elemT hP k0 k1
  rw [hel] at k2 h1 ⊢
  obtain ⟨j, dj, z, j1, j2, j3, j4, j5, j6, j7, j8, j9, _, hzl⟩ := (hP.ty e k2).ex
  obtain ⟨_, du, _, _, _, _, q4, _, _, _, q8, _⟩ := (hP.ty u ku).ex
  obtain ⟨kk, hkk⟩ : ∃ kk, (c.T u).kind = .int kk := by
    cases hq : (c.T u).kind <;> rw [hq] at k3 <;> first | exact ⟨_, rfl⟩ | cases k3
  rw [hkk] at q8
  obtain rfl : du = .int kk := q8
  have hrun := run_app_zeros (P := P) w t u ty e j z i4 j1 j6 q4 k n h0 h2 (by
    have : ((n.toNat * (c.T e).bytes : Nat) : Int) = n * (c.T e).bytes := by rw [Int.natCast_mul, Int.toNat_of_nonneg (by omega)]
    rw [j3]; omega)
  have hzs : z.cells.size = (c.T e).sz := by omega
  have hzlen : (c.T e).zero.length = (c.T e).sz := by rw [← j7]; simp [hzs]
  rw [if_neg (by rw [j2, Nat.mul_eq_zero]; omega)] at hrun
  have hE : RepE (rdF X os g w) (c.T e).sz (List.replicate n.toNat (c.T e).zero) (Builtin.zeroCells z.cells n.toNat).toList := by
    refine ⟨?_, fun x hx => ?_, fun i k x y hx hy => ?_⟩
    · rw [Array.length_toList, size_zeroCells, List.length_replicate, hzs]
    · obtain rfl := List.eq_of_mem_replicate hx; exact hzlen
    · rw [List.getElem?_replicate] at hx
      split at hx
      · rename_i hi
        cases hx
        have hk : k < (c.T e).sz := by have := lt_of_get hy; omega
        obtain ⟨u, hu, _, rfl⟩ := rep_zero (rd := rdF X os g w) (os := os) (g := g) (w := w) j7 hy
        refine ⟨u, ?_, .sc (j9 u ?_)⟩
        · rw [Array.getElem?_toList]
          unfold Builtin.zeroCells
          rw [hzs]
          have := zero_get z.cells n.toNat i k _ hzs hi hk
          rw [hzs] at this
          rw [this]
          exact hu
        · exact List.mem_of_getElem? (by rw [Array.getElem?_toList]; exact hu)
      · cases hx
  obtain ⟨g1, g2, g3, g4⟩ := h.grown (w0 := w.drew) k2 hE e (grownCap w n.toNat 0 e) (by rw [List.length_replicate]; exact grownCap_ge w _ 0 e) (rest := (Builtin.zeroCells z.cells (grownCap w n.toNat 0 e - n.toNat)).toList)
    (by rw [Array.length_toList, size_zeroCells, hzs, List.length_replicate]) rfl rfl rfl rfl (Builtin.zeroCells z.cells n.toNat ++ Builtin.zeroCells z.cells (grownCap w n.toNat 0 e - n.toNat)) (by simp)
  rw [List.length_replicate] at g3
  exact ⟨_, _, _, hrun, g1, g2, g3, g4⟩

theorem make_ok (hP : PrOk P c) (h : SRel X os g w) {t : TypeId} {kl km : IntKind} {l m : Int} (k0 : 0 < (c.T t).sz) (k1 : isSliceT c t) (k2 : 0 < (c.T (elemOf c t)).sz) (h0 : 0 ≤ l) (h1 : l ≤ m)
    (h2 : (c.T (elemOf c t)).bytes * m ≤ 281474976710656) (h3 : m ≤ 9223372036854775807) :
    ∃ v g' w', (Instr.makeSlice t (.int kl l) (.int km m)).run P w = .ok v w' ∧
      SRel X (os ++ [.arr true (c.T (elemOf c t)).sz (List.replicate l.toNat (c.T (elemOf c t)).zero)]) g' w' ∧ Step X os g w (os ++ [.arr true (c.T (elemOf c t)).sz (List.replicate l.toNat (c.T (elemOf c t)).zero)]) g' w' ∧
      RepC (rdF X (os ++ [.arr true (c.T (elemOf c t)).sz (List.replicate l.toNat (c.T (elemOf c t)).zero)]) g' w') (os ++ [.arr true (c.T (elemOf c t)).sz (List.replicate l.toNat (c.T (elemOf c t)).zero)]) g' w' (.sl os.length 0 l.toNat) v ∧ Loc os g w (os ++ [.arr true (c.T (elemOf c t)).sz (List.replicate l.toNat (c.T (elemOf c t)).zero)]) g' w' [] := by
  obtain ⟨e, hel, i4⟩ := elemT hP k0 k1
  rw [hel] at k2 h2 ⊢
  obtain ⟨j, dj, z, j1, j2, j3, j4, j5, j6, j7, j8, j9, _, hzl⟩ := (hP.ty e k2).ex
  have hrun := run_make (P := P) w t e j z i4 j1 j6 kl km l m h0 h1 (by rw [j3]; exact h2) h3
  have hzs : z.cells.size = (c.T e).sz := by omega
  have hzlen : (c.T e).zero.length = (c.T e).sz := by rw [← j7]; simp [hzs]
  have hle : l.toNat * (c.T e).sz ≤ m.toNat * (c.T e).sz := Nat.mul_le_mul_right _ (by omega)
  have hE : RepE (rdF X os g w) (c.T e).sz (List.replicate l.toNat (c.T e).zero) ((madeCells z.cells (m.toNat * j.size)).toList.take (l.toNat * (c.T e).sz)) := by
    refine ⟨?_, fun x hx => ?_, fun i k x y hx hy => ?_⟩
    · rw [List.length_take, Array.length_toList, size_madeCells, List.length_replicate, j2]; omega
    · obtain rfl := List.eq_of_mem_replicate hx; exact hzlen
    · rw [List.getElem?_replicate] at hx
      split at hx
      · rename_i hi
        cases hx
        have hk : k < (c.T e).sz := by have := lt_of_get hy; omega
        obtain ⟨u, hu, _, rfl⟩ := rep_zero (rd := rdF X os g w) (os := os) (g := g) (w := w) j7 hy
        have hlt : i * (c.T e).sz + k < l.toNat * (c.T e).sz := by
          have := Nat.mul_le_mul_right (c.T e).sz (show i + 1 ≤ l.toNat from hi)
          rw [Nat.add_mul] at this; omega
        refine ⟨u, ?_, .sc (j9 u ?_)⟩
        · rw [List.getElem?_take, if_pos hlt, Array.getElem?_toList]
          unfold madeCells
          rw [j2, zero_get z.cells m.toNat i k _ hzs (by omega) hk]
          exact hu
        · exact List.mem_of_getElem? (by rw [Array.getElem?_toList]; exact hu)
      · cases hx
  obtain ⟨g1, g2, g3, g4⟩ := h.grown (w0 := w) (rest := (madeCells z.cells (m.toNat * j.size)).toList.drop (l.toNat * (c.T e).sz)) k2 hE e m.toNat (by rw [List.length_replicate]; omega)
    (by rw [List.length_drop, Array.length_toList, size_madeCells, List.length_replicate, j2, ← Nat.sub_mul]) rfl rfl rfl rfl (madeCells z.cells (m.toNat * j.size)) (by simp)
  rw [List.length_replicate] at g3
  exact ⟨_, _, _, hrun, g1, g2, g3, g4⟩

theorem alloc_ok (hP : PrOk P c) (h : SRel X os g w) {t : TypeId} (k0 : 0 < (c.T t).sz) :
    ∃ v g' w', (Instr.alloc t true (.tuple #[])).run P w = .ok v w' ∧ SRel X (os ++ [.rc (c.T t).zero]) g' w' ∧ Step X os g w (os ++ [.rc (c.T t).zero]) g' w' ∧
      RepC (rdF X (os ++ [.rc (c.T t).zero]) g' w') (os ++ [.rc (c.T t).zero]) g' w' (.pt os.length 0) v ∧ Loc os g w (os ++ [.rc (c.T t).zero]) g' w' [] := by
  obtain ⟨j, dj, z, j1, j2, j3, j4, j5, j6, j7, j8, j9, _, hzl⟩ := (hP.ty t k0).ex
  have hr : RepL (rdF X os g w) os g w (c.T t).zero z.cells.toList := by
    rw [← j7]
    refine ⟨by simp, fun k y hy => ?_⟩
    rw [j7] at hy
    obtain ⟨u, hu, hu2, _⟩ := rep_zero (rd := rdF X os g w) (os := os) (g := g) (w := w) j7 hy
    exact ⟨u, by simpa using hu, hu2⟩
  obtain ⟨g1, g2⟩ := h.pushRc hr t
  refine ⟨.pointer (some ⟨w.heap.size, 0, none⟩), _, _, ?_, g1, g2, ?_, Loc.push fun b hb => heap_alloc_old w _ hb⟩
  · simp [Instr.alloc, zeroValue, typeInfo, j1, j6, newVar, newRow]
  · simp only [RepC]
    rw [push_get, if_neg (by omega), if_pos rfl, updG_same]
    exact ⟨_, rfl, rfl⟩

theorem box_ok (hP : PrOk P c) (h : SRel X os g w) {t : TypeId} {x : AV} {vx : Value} (hx : RepV (rdF X os g w) os g w x vx) (k0 : 0 < (c.T t).sz) (k2 : allP (recOk os) (cellsOf x)) :
    ∃ v g' w', (Instr.box t vx).run P w = .ok v w' ∧ SRel X (os ++ [.rc (cellsOf x)]) g' w' ∧ Step X os g w (os ++ [.rc (cellsOf x)]) g' w' ∧
      RepC (rdF X (os ++ [.rc (cellsOf x)]) g' w') (os ++ [.rc (cellsOf x)]) g' w' (.pt os.length 0) v ∧ Loc os g w (os ++ [.rc (cellsOf x)]) g' w' [] := by
  have hr := (hx.toA k2).cells fun y hy u h => recOk_one (allP_mem k2 y hy) h
  obtain ⟨g1, g2⟩ := h.pushRc hr t
  refine ⟨.pointer (some ⟨w.heap.size, 0, none⟩), _, _, ?_, g1, g2, ?_, Loc.push fun b hb => heap_alloc_old w _ hb⟩
  · simp [Instr.box, newVar, newRow]
  · simp only [RepC]
    rw [push_get, if_neg (by omega), if_pos rfl, updG_same]
    exact ⟨_, rfl, rfl⟩

theorem unown_notSl {L : Nat} {x : AV} (h : notSl L x) (os : List AO) : (unown os x)[L]? = os[L]? := by
  unfold unown
  split
  · split
    · rw [set_other (by exact h)]
    · rfl
  · rfl

theorem unownAll_notSl {L : Nat} : ∀ (vs : List AV) (os : List AO), allP (notSl L) vs → (unownAll os vs)[L]? = os[L]?
  | [], _, _ => rfl
  | x :: r, os, h => by simp only [unownAll]; rw [unownAll_notSl r _ h.2, unown_notSl h.1]

theorem allP_frz {vs : List AV} : allP (frzOk os) vs → ∀ y ∈ vs, ∀ u rd, RepC rd os g w y u → u.oneCell' = true :=
  fun h y hy u rd hr => frzOk_one (allP_mem h y hy) hr

theorem store_ok (hP : PrOk P c) (hX : X.Ok) (h : SRel X os g w) {t : TypeId} {a x : AV} {va vx : Value} (ha : RepV (rdF X os g w) os g w a va) (hx : RepV (rdF X os g w) os g w x vx) (k0 : 0 < (c.T t).sz) (k1 : (cellsOf x).length = (c.T t).sz)
    (k2 : storeOk os a (cellsOf x)) :
    ∃ w', (Instr.storeAt t va vx).run P w = .ok () w' ∧ SRel X (storeA os a (cellsOf x)) g w' ∧ Step X os g w (storeA os a (cellsOf x)) g w' ∧ Loc os g w (storeA os a (cellsOf x)) g w' (names a) := by
  obtain ⟨j, dj, z, j1, j2, j3, j4, j5, j6, j7, j8, j9, _, hzl⟩ := (hP.ty t k0).ex
  have hstore : ∀ (b o : Nat) (w' : World), vx.cells.toList.length = (c.T t).sz → (storeCells ⟨b, o, none⟩ vx.cells.toList).run P w = .ok () w' → (Instr.storeAt t (.pointer (some ⟨b, o, none⟩)) vx).run P w = .ok () w' := by
    intro b o w' hl hst
    have : vx.cells.size = j.size := by rw [j2]; simpa using hl
    simp [Instr.storeAt, Instr.sureAddr, storeVar, sizeOf, typeInfo, j1, this, hst]
  unfold storeOk at k2
  split at k2
  · rename_i L k
    split at k2
    · rename_i cs hL
      obtain ⟨k2, k3⟩ := k2
      have hr := (hx.toA k3).cells fun y hy u h => recOk_one (allP_mem k3 y hy) h
      have ha' : RepC (rdF X os g w) os g w (.pt L k) va := ha
      simp only [RepC, hL] at ha'
      obtain ⟨b1, hb1, rfl⟩ := ha'
      obtain ⟨w', s1, s2, s3, s4⟩ := h.storeRc (P := P) hX hb1 hL k2 hr fun u hu => by
        obtain ⟨m, hm, e⟩ := List.mem_iff_getElem.1 hu
        obtain ⟨u', hu', hr'⟩ := hr.2 m _ (List.getElem?_eq_getElem (by have := hr.1; omega))
        rw [List.getElem?_eq_getElem hm] at hu'
        simp only [Option.some.injEq] at hu'
        rw [← e, hu']
        exact recOk_one (allP_mem k3 _ (List.getElem_mem _)) hr'
      refine ⟨w', hstore _ _ _ (by rw [hr.1]; exact k1) s1, ?_, ?_, fun b hb hne => s4 b (fun e => hne L (by simp [names]) (e ▸ List.mem_of_mem_head? hb1)), fun M hM b hm _ => .inl ⟨?_, hm⟩⟩
      · simp only [storeA, hL]; exact s2
      · simp only [storeA, hL]; exact s3
      · simp only [storeA, hL] at hM
        by_cases e : L = M
        · subst e; unfold own; rw [hL]; trivial
        · unfold own at hM ⊢; rw [set_other e] at hM; exact hM
    · exact k2.elim
  · rename_i L i k
    split at k2
    · rename_i s xs hL
      obtain ⟨k2, k3, k4, k5⟩ := k2
      have hxi : xs[i]? = some xs[i] := List.getElem?_eq_getElem k2
      have hxd : xs.getD i [] = xs[i] := by simp [List.getD, hxi]
      have hr := (hx.toA' k4).cells fun y hy u h => frzOk_one (allP_mem k4 y hy) h
      have ha' : RepC (rdF X os g w) os g w (.pa L i k) va := ha
      simp only [RepC, hL] at ha'
      obtain ⟨b1, hb1, rfl⟩ := ha'
      obtain ⟨u1, u2, u3, u4⟩ := unownAll_ok (cellsOf x) h k4
      have hL' : (unownAll os (cellsOf x))[L]? = some (.arr true s xs) := by rw [unownAll_notSl _ _ k5]; exact hL
      rw [hxd] at k3
      obtain ⟨w', s1, s2, s3, s4⟩ := u1.storeArr (P := P) hX hb1 (ds := (cellsOf x).map (frz os)) (us := vx.cells.toList) hL' hxi (by simpa using k3) (by simp [hr.1]) (fun m y hy => by
        rw [List.getElem?_map] at hy
        cases hm : (cellsOf x)[m]? with
        | none => rw [hm] at hy; cases hy
        | some y0 =>
          rw [hm] at hy
          simp only [Option.map_some, Option.some.injEq] at hy
          subst hy
          obtain ⟨u, hu, hu2⟩ := hr.2 m y0 hm
          refine ⟨u, hu, ?_⟩
          have hf := allP_mem k4 y0 (List.mem_of_getElem? hm)
          have hf2 := frz_un u3 y0 hf
          rw [← hf2.1]
          refine frz_ok u1 hf2.2 (fun L o nn e1 => ?_) (u2.repC hu2)
          subst e1
          exact u4 L o nn (List.mem_of_getElem? hm)) (fun u hu => by
        obtain ⟨m, hm, e⟩ := List.mem_iff_getElem.1 hu
        obtain ⟨u', hu', hr'⟩ := hr.2 m _ (List.getElem?_eq_getElem (by have := hr.1; omega))
        rw [List.getElem?_eq_getElem hm] at hu'
        simp only [Option.some.injEq] at hu'
        rw [← e, hu']
        exact frzOk_one (allP_mem k4 _ (List.getElem_mem _)) hr')
      refine ⟨w', hstore _ _ _ (by rw [hr.1]; exact k1) s1, ?_, ?_, fun b hb hne => s4 b (fun e => hne L (by simp [names]) (e ▸ List.mem_of_mem_head? hb1)), fun M hM b hm _ => .inl ⟨?_, hm⟩⟩
      · simp only [storeA, hL, hxd]; exact s2
      · simp only [storeA, hL, hxd]; exact u2.trans s3
      · simp only [storeA, hL] at hM
        by_cases e : L = M
        · subst e; unfold own; rw [hL]; trivial
        · refine u3.own ?_; unfold own at hM ⊢; rw [set_other e] at hM; exact hM
    · rename_i s xs j row hL
      obtain ⟨rfl, k2, k3⟩ := k2
      have hr := (hx.toA k3).cells fun y hy u h => recOk_one (allP_mem k3 y hy) h
      have ha' : RepC (rdF X os g w) os g w (.pa L i k) va := ha
      simp only [RepC, hL] at ha'
      obtain ⟨b1, hb1, rfl⟩ := ha'
      obtain ⟨w', s1, s2, s3, s4⟩ := h.storeN (P := P) hX hb1 hL k2 hr fun u hu => by
        obtain ⟨m, hm, e⟩ := List.mem_iff_getElem.1 hu
        obtain ⟨u', hu', hr'⟩ := hr.2 m _ (List.getElem?_eq_getElem (by have := hr.1; omega))
        rw [List.getElem?_eq_getElem hm] at hu'
        simp only [Option.some.injEq] at hu'
        rw [← e, hu']
        exact recOk_one (allP_mem k3 _ (List.getElem_mem _)) hr'
      refine ⟨w', hstore _ _ _ (by rw [hr.1]; exact k1) s1, ?_, ?_, fun b hb hne => s4 b (fun e => hne L (by simp [names]) (e ▸ List.mem_of_mem_head? hb1)), fun M hM b hm _ => .inl ⟨?_, hm⟩⟩
      · simp only [storeA, hL]; exact s2
      · simp only [storeA, hL]; exact s3
      · simp only [storeA, hL] at hM
        by_cases e : L = M
        · subst e; unfold own; rw [hL]; trivial
        · unfold own at hM ⊢; rw [set_other e] at hM; exact hM
    · exact k2.elim
  · exact k2.elim

end Go.AM
