/- Quiet operations do in memory what the abstract machine does: all of them together. Conditions: none. -/
import Derived.Test.YtcnlhdaeeeolbaaAmF
set_option linter.unusedSimpArgs false
set_option linter.unusedVariables false
namespace Go.AM
open Go

theorem foldl_set (off : Nat) : ∀ (l : List Value) (n : Nat) (cs : Array Value), off + n + l.length ≤ cs.size →
    ((l.zipIdx n).foldl (fun (cs : Array Value) (p : Value × Nat) => cs.setIfInBounds (off + p.2) p.1) cs).toList = cs.toList.take (off + n) ++ l ++ cs.toList.drop (off + n + l.length)
  | [], n, cs, _ => by simp
  | v :: r, n, cs, h => by
    simp only [List.length_cons] at h
    simp only [List.zipIdx_cons, List.foldl_cons]
    rw [foldl_set off r (n + 1) (cs.setIfInBounds (off + n) v) (by simp; omega)]
    have := list_seg_step cs.toList (off + n) v r (by simp; omega)
    simp only [Array.toList_setIfInBounds]
    rw [show off + (n + 1) = off + n + 1 by omega, this]
    simp

section
variable {P : Program} {c : Cx} {X : Ctx} {os : List AO} {g : Nat → List Nat} {w : World} {rd : Nat → Nat → Option Value}

/-- Cells that say what they should. -/
def RepL (rd : Nat → Nat → Option Value) (os : List AO) (g : Nat → List Nat) (w : World) (cs : List AV) (vs : List Value) : Prop :=
  vs.length = cs.length ∧ ∀ (i : Nat) y, cs[i]? = some y → ∃ u, vs[i]? = some u ∧ RepC rd os g w y u

theorem RepL.splice {cs ds : List AV} {vs us : List Value} (h : RepL rd os g w cs vs) (k : RepL rd os g w ds us) (off : Nat) (hl : off + ds.length ≤ cs.length) :
    RepL rd os g w (cs.take off ++ ds ++ cs.drop (off + ds.length)) (vs.take off ++ us ++ vs.drop (off + us.length)) := by
  obtain ⟨h1, h2⟩ := h
  obtain ⟨k1, k2⟩ := k
  refine ⟨by simp; omega, fun i y hy => ?_⟩
  simp only [List.getElem?_append, List.getElem?_take, List.length_take, List.length_append, List.getElem?_drop] at hy ⊢
  rw [k1, h1]
  have hm : min off cs.length = off := by omega
  simp only [hm] at hy ⊢
  by_cases a : i < off + ds.length
  · rw [if_pos a] at hy ⊢
    by_cases b : i < off
    · rw [if_pos b] at hy ⊢; rw [if_pos b] at hy ⊢; exact h2 _ _ hy
    · rw [if_neg b] at hy ⊢; exact k2 _ _ hy
  · rw [if_neg a] at hy ⊢; exact h2 _ _ hy

theorem allP_mem {α : Type} {p : α → Prop} : ∀ {l : List α}, allP p l → ∀ x ∈ l, p x
  | _ :: _, h, _, .head _ => h.1
  | _ :: _, h, _, .tail _ hm => allP_mem h.2 _ hm

theorem recOk_one {y : AV} {u : Value} (h : recOk os y) (hr : RepC rd os g w y u) : u.oneCell' = true := by
  unfold recOk at h
  split at h
  · rename_i v; have : u = v := hr; rw [this]; exact h
  · exact RepP.one hr
  · rename_i L off n
    split at h
    · rename_i ow s xs hL
      simp only [RepC, hL] at hr
      obtain ⟨_, _, _, ⟨_, _, rfl, _⟩ | ⟨_, a, rfl⟩⟩ := hr <;> rfl
    · exact h.elim
  · rename_i L k
    split at h
    · rename_i cs hL
      simp only [RepC, hL] at hr
      obtain ⟨b, _, rfl⟩ := hr; rfl
    · exact h.elim
  · exact h.elim

theorem frzOk_one {y : AV} {u : Value} (h : frzOk os y) (hr : RepC rd os g w y u) : u.oneCell' = true := by
  unfold frzOk at h
  split at h
  · rename_i v; have : u = v := hr; rw [this]; exact h
  · exact RepP.one hr
  · rename_i L off n
    split at h
    · rename_i ow s xs hL
      simp only [RepC, hL] at hr
      obtain ⟨_, _, _, ⟨_, _, rfl, _⟩ | ⟨_, a, rfl⟩⟩ := hr <;> rfl
    · exact h.elim
  · exact h.elim

/-- A value's cells. -/
theorem RepA.cells {x : AV} {v : Value} (h : RepA rd os g w x v) (hc : ∀ y ∈ cellsOf x, ∀ u, RepC rd os g w y u → u.oneCell' = true) : RepL rd os g w (cellsOf x) v.cells.toList := by
  have one : ∀ y, cellsOf x = [y] → RepC rd os g w y v → RepL rd os g w (cellsOf x) v.cells.toList := by
    intro y hy hr
    have h1 := hc y (by rw [hy]; simp) v hr
    have hv : v.cells = #[v] := by cases v <;> first | rfl | (simp [Value.oneCell'] at h1)
    rw [hv, hy]
    refine ⟨rfl, fun i z hz => ?_⟩
    cases i with
    | zero => simp at hz; subst hz; exact ⟨v, by simp, hr⟩
    | succ i => simp at hz
  cases x with
  | agg cs =>
    obtain ⟨vs, rfl, h1, h2⟩ := h
    exact ⟨by simp [Value.cells, cellsOf, h1], fun i y hy => by simpa [Value.cells] using h2 i y hy⟩
  | tup cs => exact h.elim
  | opt b x => exact h.elim
  | sc u => exact one _ rfl h
  | fz s xs => exact one _ rfl h
  | fp s xs i k => exact one _ rfl h
  | sl L o n => exact one _ rfl h
  | pa L o n => exact one _ rfl h
  | pt L o => exact one _ rfl h
  | clo n ps => exact one _ rfl h
  | own s xs => exact one _ rfl h
  | junk => exact one _ rfl h

theorem RepV.toA {x : AV} {v : Value} (h : RepV rd os g w x v) (hc : allP (recOk os) (cellsOf x)) : RepA rd os g w x v := by
  cases x <;> first | exact h | exact False.elim hc.1

theorem RepV.toA' {x : AV} {v : Value} (h : RepV rd os g w x v) (hc : allP (frzOk os) (cellsOf x)) : RepA rd os g w x v := by
  cases x <;> first | exact h | exact False.elim hc.1

theorem fill_ok {place : Nat → Option (Nat × Nat)} : ∀ (ps : List (Nat × AV)) (pv : List (Nat × Value)) (cs : List AV) (vs : Array Value) (out : List AV),
    ps.length = pv.length → (∀ (i : Nat) p, ps[i]? = some p → ∃ q, pv[i]? = some q ∧ q.1 = p.1 ∧ RepL rd os g w (cellsOf p.2) q.2.cells.toList) →
    RepL rd os g w cs vs.toList → fillA place cs ps = some out → ∃ us, Instr.fill place vs pv = some us ∧ RepL rd os g w out us.toList
  | [], [], cs, vs, out, _, _, h, e => by
    simp only [fillA, Option.some.injEq] at e; subst e; exact ⟨vs, rfl, h⟩
  | [], _ :: _, _, _, _, hl, _, _, _ => by simp at hl
  | _ :: _, [], _, _, _, hl, _, _, _ => by simp at hl
  | (i, x) :: ps, (i', v) :: pv, cs, vs, out, hl, hp, h, e => by
    obtain ⟨q, hq, e1, hx⟩ := hp 0 (i, x) rfl
    simp only [List.getElem?_cons_zero, Option.some.injEq] at hq
    subst hq
    simp only at e1 hx
    subst e1
    simp only [fillA] at e
    cases hpl : place i' with
    | none => simp [hpl] at e
    | some os' =>
      obtain ⟨off, size⟩ := os'
      simp only [hpl] at e
      split at e
      · cases e
      · rename_i hcond
        simp only [not_or, Decidable.not_not, Nat.not_lt, gt_iff_lt] at hcond
        obtain ⟨c1, c2⟩ := hcond
        have hsz : v.cells.size = size := by have := hx.1; simp at this; omega
        have hvs : vs.size = cs.length := by have := h.1; simpa using this
        have hf := foldl_set off v.cells.toList 0 vs (by simp [hsz, hvs]; omega)
        have hz : (v.cells.zipIdx.foldl (fun cs (c, j) => cs.setIfInBounds (off + j) c) vs).toList = vs.toList.take off ++ v.cells.toList ++ vs.toList.drop (off + v.cells.toList.length) := by
          rw [← Array.foldl_toList]
          simpa using hf
        have hr := RepL.splice h hx off (by rw [c1]; omega)
        rw [c1] at hr
        obtain ⟨us, hu, hru⟩ := fill_ok ps pv _ (v.cells.zipIdx.foldl (fun cs (c, j) => cs.setIfInBounds (off + j) c) vs) out (by simpa using hl) (fun j p hj => hp (j + 1) p (by simpa using hj)) (by rw [hz]; exact hr) e
        refine ⟨us, ?_, hru⟩
        simp only [Instr.fill, hpl]
        rw [if_neg (by simp [hsz]; omega)]
        exact hu


section
variable {P : Program} {c : Cx} {X : Ctx} {os : List AO} {g : Nat → List Nat} {w : World}
/-- Elements, and the values that stand for them one cell behind the other. -/
def RepE (rd : Nat → Nat → Option Value) (s : Nat) (xs : List (List AV)) (vs : List Value) : Prop :=
  vs.length = xs.length * s ∧ (∀ x ∈ xs, x.length = s) ∧ ∀ (i k : Nat) x y, xs[i]? = some x → x[k]? = some y → ∃ v, vs[i * s + k]? = some v ∧ RepP rd y v

theorem RepE.mono {rd rd' : Nat → Nat → Option Value} (hm : ∀ b o v, rd b o = some v → rd' b o = some v) {s : Nat} {xs : List (List AV)} {vs : List Value} (h : RepE rd s xs vs) : RepE rd' s xs vs :=
  ⟨h.1, h.2.1, fun i k x y hx hy => let ⟨v, hv, hr⟩ := h.2.2 i k x y hx hy; ⟨v, hv, hr.mono hm⟩⟩

theorem RepE.app {rd : Nat → Nat → Option Value} {s : Nat} {xs ys : List (List AV)} {vs us : List Value} (h : RepE rd s xs vs) (k : RepE rd s ys us) : RepE rd s (xs ++ ys) (vs ++ us) := by
  refine ⟨by simp [h.1, k.1, Nat.add_mul], fun x hx => ?_, fun i j x y hx hy => ?_⟩
  · rcases List.mem_append.1 hx with hx | hx
    · exact h.2.1 x hx
    · exact k.2.1 x hx
  · rw [List.getElem?_append] at hx ⊢
    split at hx
    · rename_i hi
      obtain ⟨v, hv, hr⟩ := h.2.2 i j x y hx hy
      rw [if_pos (by have := lt_of_get hv; omega)]
      exact ⟨v, hv, hr⟩
    · rename_i hi
      obtain ⟨v, hv, hr⟩ := k.2.2 _ j x y hx hy
      have hle : xs.length * s ≤ i * s := Nat.mul_le_mul_right s (by omega)
      rw [if_neg (by have := h.1; omega)]
      refine ⟨v, ?_, hr⟩
      rw [← hv, h.1, Nat.sub_mul]
      congr 1
      omega

theorem elems_of_cells {b o s : Nat} {xs : List (List AV)} (hs : ∀ x ∈ xs, x.length = s)
    (hc : ∀ (i k : Nat) x y, xs[i]? = some x → x[k]? = some y → ∃ v, w.cell? ⟨b, o + i * s + k, none⟩ = some v ∧ RepP rd y v) :
    ∃ vs, RepE rd s xs vs ∧ ∀ (j : Nat) u, vs[j]? = some u → w.cell? ⟨b, o + j, none⟩ = some u := by
  have hcell : ∀ i k, i < xs.length → k < s → ∃ x y v, xs[i]? = some x ∧ x[k]? = some y ∧ w.cell? ⟨b, o + i * s + k, none⟩ = some v ∧ RepP rd y v := by
    intro i k hi hk
    have h1 : xs[i]? = some xs[i] := List.getElem?_eq_getElem hi
    have h2 : (xs[i])[k]? = some ((xs[i])[k]'(by rw [hs _ (List.getElem_mem hi)]; exact hk)) := List.getElem?_eq_getElem _
    obtain ⟨v, hv, hr⟩ := hc i k _ _ h1 h2
    exact ⟨_, _, v, h1, h2, hv, hr⟩
  refine ⟨(List.range (xs.length * s)).map fun j => (w.cell? ⟨b, o + j, none⟩).getD undef, ⟨by simp, hs, fun i k x y hx hy => ?_⟩, fun j u hu => ?_⟩
  · obtain ⟨v, hv, hr⟩ := hc i k x y hx hy
    have hi := lt_of_get hx
    have hk : k < s := by have := lt_of_get hy; rw [hs x (List.mem_of_getElem? hx)] at this; exact this
    have hlt : i * s + k < xs.length * s := by
      have := Nat.mul_le_mul_right s (show i + 1 ≤ xs.length from hi)
      rw [Nat.add_mul] at this
      omega
    refine ⟨v, ?_, hr⟩
    rw [List.getElem?_map, List.getElem?_range hlt]
    simp only [Option.map_some, ← Nat.add_assoc, hv, Option.getD_some]
  · have hlt : j < xs.length * s := by have := lt_of_get hu; simpa using this
    rw [List.getElem?_map, List.getElem?_range hlt] at hu
    simp only [Option.map_some, Option.some.injEq] at hu
    have hs0 : 0 < s := by
      rcases Nat.eq_zero_or_pos s with e | e
      · subst e; simp at hlt
      · exact e
    obtain ⟨x, y, v, _, _, hv, _⟩ := hcell (j / s) (j % s) ((Nat.div_lt_iff_lt_mul hs0).2 hlt) (Nat.mod_lt _ hs0)
    have hj : o + j / s * s + j % s = o + j := by rw [Nat.add_assoc, Nat.div_add_mod']
    rw [hj] at hv
    rw [hv] at hu ⊢
    simpa using hu

/-- The values behind a slice. -/
theorem Rep_elems (h : SRel X os g w) {x : AV} {v : Value} (hx : RepV (rdF X os g w) os g w x v) (hk : lenOk os x) (hns : ∀ s, x ≠ .sc (.string s)) (hnn : ∀ L off n s xs op, x = .sl L off n → os[L]? ≠ some (.nst s xs op)) :
    ∃ a cap vs, v = .slice a (lenA x) cap ∧ lenA x ≤ cap ∧ (elems os x).length = lenA x ∧ ((elems os x = [] ∧ vs = []) ∨ RepE (rdF X os g w) (esz os x) (elems os x) vs) ∧
      (vs = [] ∨ ∃ b o, a = some ⟨b, o, none⟩ ∧ ∀ (j : Nat) u, vs[j]? = some u → w.cell? ⟨b, o + j, none⟩ = some u) := by
  unfold lenOk at hk
  split at hk
  · rename_i s xs
    rcases RepP.row hx with ⟨rfl, a, cc, rfl⟩ | ⟨b, o, cc, rfl, hc, hr⟩
    · exact ⟨a, cc, [], rfl, Nat.zero_le _, rfl, .inl ⟨rfl, rfl⟩, .inl rfl⟩
    · obtain ⟨vs, h1, h2⟩ := elems_of_cells (w := w) hr.1 fun i k x y hx hy => by
        obtain ⟨v, hv, hr2⟩ := hr.2 i k x y hx hy
        rw [rdF_some] at hv
        exact ⟨v, hv.2.2, hr2⟩
      exact ⟨_, cc, vs, rfl, hc, rfl, .inr h1, .inr ⟨b, o, rfl, h2⟩⟩
  · rename_i L off n
    split at hk
    · rename_i ow s xs hL
      have hx : RepC (rdF X os g w) os g w (.sl L off n) v := hx
      simp only [RepC, hL] at hx
      obtain ⟨cap, hc, hn, hv⟩ := hx
      have hlen : (elems os (.sl L off n)).length = n := by simp only [elems, hL]; simp; omega
      rcases hv with ⟨b1, hb1, rfl, hr⟩ | ⟨rfl, a, rfl⟩
      · have ho := h.obj L
        rw [hL] at ho
        have hcells : ∀ (i k : Nat) x y, ((xs.drop off).take n)[i]? = some x → x[k]? = some y → ∃ v, w.cell? ⟨b1, off * s + i * s + k, none⟩ = some v ∧ RepP (rdF X os g w) y v := by
          intro i k x y hxi hy
          rw [List.getElem?_take] at hxi
          split at hxi
          · rw [List.getElem?_drop] at hxi
            cases ow with
            | true =>
              obtain ⟨_, ⟨h0, h1⟩ | ⟨b2, h0, _, cc, t, h1, _, _, h3⟩⟩ := ho
              · rw [h0] at hb1; cases hb1
              obtain rfl : b2 = b1 := by rw [h0] at hb1; simpa using hb1
              obtain ⟨v, hv, hr⟩ := h3 _ _ _ _ hxi hy
              refine ⟨v, ?_, hr⟩
              rw [cell_of_row w b2 _ cc t (0, 0) h1, ← Nat.add_mul]; exact hv
            | false =>
              obtain ⟨v, hv, hr⟩ := (ho b1 hb1).2 _ _ _ _ hxi hy
              rw [rdF_some] at hv
              refine ⟨v, ?_, hr⟩
              rw [← hv.2.2, Nat.zero_add, ← Nat.add_mul]
          · cases hxi
        have hsz : ∀ x ∈ (xs.drop off).take n, x.length = s := by
          intro x hx
          have hm := List.mem_of_mem_drop (List.mem_of_mem_take hx)
          cases ow with
          | true =>
            obtain ⟨_, ⟨h0, h1⟩ | ⟨b2, h0, _, cc, t, h1, _, h2, h3⟩⟩ := ho
            · rw [h0] at hb1; cases hb1
            exact h2 x hm
          | false => exact (ho b1 hb1).1 x hm
        obtain ⟨vs, h1, h2⟩ := elems_of_cells (w := w) hsz hcells
        exact ⟨_, cap, vs, rfl, hc, hlen, .inr (by simp only [esz, elems, hL]; exact h1), .inr ⟨b1, off * s, rfl, h2⟩⟩
      · have : n = 0 := by omega
        subst this
        exact ⟨a, 0, [], rfl, Nat.le_refl _, hlen, .inl ⟨by simp [elems, hL], rfl⟩, .inl rfl⟩
    · rename_i s xs op hL; exact absurd hL (hnn _ _ _ _ _ _ rfl)
    · exact hk.elim
  · exact absurd rfl (hns _)
  · have : v = .slice none 0 0 := hx
    exact ⟨none, 0, [], this, Nat.le_refl _, rfl, .inl ⟨rfl, rfl⟩, .inl rfl⟩
  · exact hk.elim

end

theorem bstr_foldl (ns : List Int) : ns.foldl (fun r n => r.push (UInt8.ofNat n.toNat)) ByteArray.empty = bstr ns := by
  have key : ∀ (ns : List Int) (r : ByteArray), ns.foldl (fun r n => r.push (UInt8.ofNat n.toNat)) r = ⟨r.data ++ (ns.map fun n => UInt8.ofNat n.toNat).toArray⟩ := by
    intro ns
    induction ns with
    | nil => intro r; simp
    | cons n ns ih => intro r; rw [List.foldl_cons, ih]; simp [ByteArray.push]
  rw [key]; simp [bstr, ByteArray.empty, ByteArray.emptyWithCapacity]; rfl

/-- A slice of bytes, made a text. -/
theorem Rep_text (hP : PrOk P c) (hso : SRel X os g w) {s d : TypeId} {x : AV} {v : Value} (hx : RepV (rdF X os g w) os g w x v) (hs : 0 < (c.T s).sz) (hd : 0 < (c.T d).sz) (hns : ∀ s, x ≠ .sc (.string s))
    (k1 : isSlK (c.T s).kind) (k2 : (c.T d).kind = .str) (k3 : 0 < (c.T (elemOf c s)).sz) (k4 : (c.T (elemOf c s)).kind = .int .u8) (k5 : lenOk os x) (k6 : elems os x = [] ∨ esz os x = 1) (k7 : allP byteRow (elems os x)) :
    ∀ w', (∀ b, (∃ o l cp, v = .slice (some ⟨b, o, none⟩) l cp) → w'.heap[b]? = w.heap[b]?) → (convert s d v).run P w' = .ok (.string (strOf (elems os x))) w' := by
  intro w' hw
  obtain ⟨a, cap, vs, rfl, hcap, hlen, he, hc⟩ := Rep_elems hso hx k5 hns (fun L off n s xs op e hL => by subst e; simp [elems, hL, allP, byteRow] at k7)
  obtain ⟨_, ds, _, _, _, _, h4, _, _, _, q8, _⟩ := (hP.ty s hs).ex
  obtain ⟨_, dd, _, _, _, _, r4, _, _, _, r8, _⟩ := (hP.ty d hd).ex
  obtain ⟨_, de, _, _, _, _, t4, _, _, _, t8, _⟩ := (hP.ty _ k3).ex
  rw [k2] at r8
  obtain rfl : dd = .string := r8
  rw [k4] at t8
  obtain rfl : de = .int .u8 := t8
  cases hk : (c.T s).kind with
  | slice e =>
    rw [hk] at q8
    have hee : elemOf c s = e := by simp only [elemOf, hk]
    rw [hee] at t4
    obtain rfl : ds = .slice e := by first | exact q8 | exact q8.1
    rw [run_convert_bytes_string w' s d e a (lenA x) cap h4 t4 r4]
    have hvals : vs = ((elems os x).map hdA).map (Value.int .u8) := by
      rcases he with ⟨e1, e2⟩ | he
      · rw [e1, e2]; rfl
      · obtain ⟨l1, l2, l3⟩ := he
        refine List.ext_getElem? fun i => ?_
        rcases k6 with k6 | k6
        · rw [k6] at l1 ⊢; simp at l1; rw [l1]; rfl
        · rw [k6] at l1 l3
          rw [List.getElem?_map, List.getElem?_map]
          cases hi : (elems os x)[i]? with
          | none =>
            have : (elems os x).length ≤ i := by simpa using hi
            simp only [Option.map_none]
            rw [List.getElem?_eq_none_iff]; omega
          | some y =>
            have hb := allP_mem k7 y (List.mem_of_getElem? hi)
            unfold byteRow at hb
            split at hb
            · rename_i n
              obtain ⟨u, hu, hr⟩ := l3 i 0 _ _ hi rfl
              rw [Nat.mul_one, Nat.add_zero] at hu
              rw [hu]
              cases hr; rfl
            · exact hb.elim
    cases a with
    | none =>
      have h0 : elems os x = [] := by
        rcases hc with hc | ⟨b, o, hc, _⟩
        · rw [hc] at hvals
          simpa using hvals.symm
        · cases hc
      rw [h0]; rfl
    | some a =>
      have hll : lenA x = (elems os x).length := hlen.symm
      rw [run_bytesToString w' a (lenA x) cap ((elems os x).map hdA), bstr_foldl]
      · rfl
      · rw [← hvals]
        have hvl : lenA x = vs.length := by rw [hvals, hll]; simp
        rw [hvl]
        refine run_loadCells_list w' a vs fun j u hu => ?_
        rcases hc with hc | ⟨b, o, hc, hcell⟩
        · rw [hc] at hu; cases hu
        · obtain rfl : a = ⟨b, o, none⟩ := by simpa using hc
          have := hcell j u hu
          rw [addr_add]
          unfold World.cell? at this ⊢
          simp only at this ⊢
          rw [hw b ⟨o, _, _, rfl⟩]
          exact this
  | _ => rw [hk] at k1; exact k1.elim

/-- Which block a quiet operation reads. -/
def RdBlk (r : Operand → Value) : Op → Nat → Prop
  | .load _ a, b => ∃ o, r a = .pointer (some ⟨b, o, none⟩)
  | .convert _ _ x, b => ∃ o l cp, r x = .slice (some ⟨b, o, none⟩) l cp
  | _, _ => False

theorem Rep_cut {x : AV} {t : TypeId} {v : Value} {vlo vhi vmx : Option Value} {l h : Int} (hP : PrOk P c) (hx : RepV rd os g w x v)
    (hk : cutTy c os t x)
    (ht : 0 < (c.T t).sz) (hlo : (vlo = none ∧ l = 0) ∨ ∃ k, vlo = some (.int k l)) (hhi : (vhi = none ∧ h = lenA x) ∨ ∃ k, vhi = some (.int k h)) (hmx : vmx = none ∨ (vlo = none ∧ (∃ k, vmx = some (.int k h)) ∧ (∃ k, vhi = some (.int k h)) ∧ ∀ s, x ≠ .sc (.string s))) (h0 : 0 ≤ l) (h1 : l ≤ h) (h2 : h ≤ lenA x) :
    ∃ u, RepV rd os g w (cutA x l h) u ∧ ∀ w', (Instr.sliceAt t v vlo vhi vmx).run P w' = .ok u w' := by
  obtain ⟨i, d, z, i1, _, _, i4, _, _, _, i8, _⟩ := (hP.ty t ht).ex
  by_cases hs : ∃ s, x = .sc (.string s)
  · obtain ⟨s, rfl⟩ := hs
    obtain rfl : vmx = none := by
      rcases hmx with e | ⟨_, _, _, e⟩
      · exact e
      · exact absurd rfl (e s)
    obtain rfl : v = .string s := hx
    simp only [cutTy] at hk
    rw [hk] at i8
    obtain rfl : d = .string := i8
    simp only [lenA] at h2 hhi
    refine ⟨.string (s.extract l.toNat h.toNat), rfl, fun w' => ?_⟩
    have hh : 0 ≤ h := by omega
    rcases hlo with ⟨rfl, rfl⟩ | ⟨k, rfl⟩
    · rcases hhi with ⟨rfl, rfl⟩ | ⟨k', rfl⟩
      · simp [Instr.sliceAt, Instr.slice, run_underlying i4, Instr.sliceBounds]
      · simp [Instr.sliceAt, Instr.slice, run_underlying i4, Instr.sliceBounds, Instr.sliceBound, asIntOf, hh, h2]
    · rcases hhi with ⟨rfl, rfl⟩ | ⟨k', rfl⟩
      · simp [Instr.sliceAt, Instr.slice, run_underlying i4, Instr.sliceBounds, Instr.sliceBound, asIntOf, h0, h1]
      · simp [Instr.sliceAt, Instr.slice, run_underlying i4, Instr.sliceBounds, Instr.sliceBound, asIntOf, h0, h2, hh, show l ≤ max h 0 by omega]
  · have hk' : isSliceT c t ∧ 0 < (c.T (elemOf c t)).sz ∧ (esz os x = (c.T (elemOf c t)).sz ∨ x = .sc (.slice none 0 0)) ∧ lenOk os x := by
      unfold cutTy at hk
      split at hk
      · exact absurd ⟨_, rfl⟩ hs
      · exact ⟨hk.1, hk.2, .inr rfl, trivial⟩
      · exact ⟨hk.1, hk.2.1, .inl hk.2.2.1, hk.2.2.2⟩
    obtain ⟨k1, kz, k2, k3⟩ := hk'
    obtain ⟨e, he⟩ : ∃ e, (c.T t).kind = .slice e := by
      unfold isSliceT at k1; split at k1
      · exact ⟨_, by assumption⟩
      · exact k1.elim
    rw [he] at i8
    obtain rfl : d = .slice e := i8
    have hel : elemOf c t = e := by simp [elemOf, he]
    rw [hel] at k2 kz
    obtain ⟨j, _, _, j1, j2, _⟩ := (hP.ty e kz).ex
    obtain ⟨a, cap, rfl, hcap⟩ := hx.slice k3 (fun s e => hs ⟨s, e⟩)
    have hsz : ∀ w', (sizeOf e).run P w' = .ok (c.T e).sz w' := fun w' => by simp [sizeOf, typeInfo, j1, j2]
    obtain ⟨cap2, hc1, hc2, hrun⟩ : ∃ cap2, h.toNat ≤ cap2 ∧ cap2 ≤ cap ∧ ∀ w', (Instr.sliceAt t (.slice a (lenA x) cap) vlo vhi vmx).run P w' = .ok (.slice (if cap2 = l.toNat then a else a.map (·.add (l.toNat * (c.T e).sz))) (h.toNat - l.toNat) (cap2 - l.toNat)) w' := by
      rcases hmx with rfl | ⟨rfl, ⟨k, rfl⟩, ⟨k', rfl⟩, _⟩
      · refine ⟨cap, by omega, Nat.le_refl _, fun w' => ?_⟩
        rcases hlo with ⟨rfl, rfl⟩ | ⟨k, rfl⟩ <;> rcases hhi with ⟨rfl, rfl⟩ | ⟨k', rfl⟩
        · simp [Instr.sliceAt, Instr.slice, run_underlying i4, Instr.sliceBounds, hsz]
        · simp [Instr.sliceAt, Instr.slice, run_underlying i4, Instr.sliceBounds, Instr.sliceBound, asIntOf, hsz, show 0 ≤ h by omega, show h ≤ (cap : Int) by omega]
        · simp [Instr.sliceAt, Instr.slice, run_underlying i4, Instr.sliceBounds, Instr.sliceBound, asIntOf, hsz, h0, show l ≤ ((lenA x : Nat) : Int) by omega]
        · simp [Instr.sliceAt, Instr.slice, run_underlying i4, Instr.sliceBounds, Instr.sliceBound, asIntOf, hsz, h0, show l ≤ max h 0 by omega, show 0 ≤ h by omega, show h ≤ (cap : Int) by omega]
      · obtain rfl : l = 0 := by
          rcases hlo with ⟨_, e⟩ | ⟨k, e⟩
          · exact e
          · cases e
        refine ⟨h.toNat, Nat.le_refl _, by omega, fun w' => ?_⟩
        simp [Instr.sliceAt, Instr.slice, run_underlying i4, Instr.sliceBounds, Instr.sliceBound, asIntOf, hsz, show 0 ≤ h by omega, show h ≤ (cap : Int) by omega, show h ≤ max h 0 by omega]
    refine ⟨_, ?_, hrun⟩
    unfold lenOk at k3
    split at k3
    · rename_i s xs
      rcases RepP.row hx with ⟨rfl, a', cc, e2⟩ | ⟨b, o, cc, e2, hc, hr⟩
      · have : l = 0 := by simp [lenA] at h2; omega
        have : h = 0 := by simp [lenA] at h2; omega
        subst this; subst this
        simp only [cutA, List.take_nil, List.drop_nil]
        exact RepP.nil
      · simp only [lenA] at h2 hcap
        by_cases he0 : (xs.take h.toNat).drop l.toNat = []
        · have hz : h.toNat - l.toNat = 0 := by
            have := congrArg List.length he0
            simp only [List.length_drop, List.length_take, List.length_nil] at this
            omega
          simp only [cutA, he0, hz]
          exact RepP.nil
        · have hlt : l.toNat < h.toNat := by
            rcases Nat.lt_or_ge l.toNat h.toNat with h' | h'
            · exact h'
            · exfalso; apply he0; apply List.eq_nil_of_length_eq_zero; simp; omega
          simp only [Value.slice.injEq] at e2
          obtain ⟨rfl, _, rfl⟩ := e2
          simp only [cutA]
          rw [if_neg (by omega)]
          simp only [Option.map_some, addr_add]
          have hp := hr.part l.toNat h.toNat
          have hlen : ((xs.take h.toNat).drop l.toNat).length = h.toNat - l.toNat := by simp; omega
          have hes : (c.T e).sz = s := by
            rcases k2 with k2 | k2
            · rw [← k2]; rfl
            · cases k2
          rw [hes, ← hlen]
          exact RepP.of_row hp (by rw [hlen]; omega)
    · rename_i L off n
      split at k3
      · rename_i ow s xs hL
        have hx : RepC rd os g w (.sl L off n) _ := hx
        simp only [RepC, hL] at hx
        have hes : (c.T e).sz = s := by
          rcases k2 with k2 | k2
          · rw [← k2]; simp [esz, hL]
          · cases k2
        show RepC rd os g w (.sl L (off + l.toNat) (h.toNat - l.toNat)) _
        simp only [RepC, hL]
        simp only [lenA] at h2 hcap hx
        obtain ⟨cap', hc, hn, ⟨b1, hb1, e2, hr⟩ | ⟨hz, a', e2⟩⟩ := hx
        · simp only [Value.slice.injEq] at e2
          obtain ⟨rfl, _, rfl⟩ := e2
          by_cases hcl : cap2 = l.toNat
          · refine ⟨0, by omega, by omega, .inr ⟨rfl, some ⟨b1, off * s, none⟩, ?_⟩⟩
            rw [if_pos hcl, show h.toNat - l.toNat = 0 by omega, show cap2 - l.toNat = 0 by omega]
          · rw [if_neg hcl]
            refine ⟨cap2 - l.toNat, by omega, by omega, .inl ⟨b1, hb1, ?_, ?_⟩⟩
            · simp only [Option.map_some, addr_add, hes]; congr 3; rw [Nat.add_mul]
            · have : off + l.toNat + (cap2 - l.toNat) = off + cap2 := by omega
              rw [this]; exact Nat.le_trans (Nat.mul_le_mul_right _ (by omega)) hr
        · simp only [Value.slice.injEq] at e2
          obtain ⟨rfl, _, rfl⟩ := e2
          refine ⟨0, by omega, by omega, .inr ⟨rfl, if cap2 = l.toNat then a else a.map (·.add (l.toNat * (c.T e).sz)), ?_⟩⟩
          rw [show h.toNat - l.toNat = 0 by omega, show cap2 - l.toNat = 0 by omega]
      · rename_i s xs op hL
        have hx : RepC rd os g w (.sl L off n) _ := hx
        simp only [RepC, hL] at hx
        have hes : (c.T e).sz = s := by
          rcases k2 with k2 | k2
          · rw [← k2]; simp [esz, hL]
          · cases k2
        show RepC rd os g w (.sl L (off + l.toNat) (h.toNat - l.toNat)) _
        simp only [RepC, hL]
        simp only [lenA] at h2 hcap hx
        obtain ⟨cap', hc, hn, ⟨b1, hb1, e2, hr⟩ | ⟨hz, a', e2⟩⟩ := hx
        · simp only [Value.slice.injEq] at e2
          obtain ⟨rfl, _, rfl⟩ := e2
          by_cases hcl : cap2 = l.toNat
          · refine ⟨0, by omega, by omega, .inr ⟨rfl, some ⟨b1, off * s, none⟩, ?_⟩⟩
            rw [if_pos hcl, show h.toNat - l.toNat = 0 by omega, show cap2 - l.toNat = 0 by omega]
          · rw [if_neg hcl]
            refine ⟨cap2 - l.toNat, by omega, by omega, .inl ⟨b1, hb1, ?_, ?_⟩⟩
            · simp only [Option.map_some, addr_add, hes]; congr 3; rw [Nat.add_mul]
            · have : off + l.toNat + (cap2 - l.toNat) = off + cap2 := by omega
              rw [this]; exact Nat.le_trans (Nat.mul_le_mul_right _ (by omega)) hr
        · simp only [Value.slice.injEq] at e2
          obtain ⟨rfl, _, rfl⟩ := e2
          refine ⟨0, by omega, by omega, .inr ⟨rfl, if cap2 = l.toNat then a else a.map (·.add (l.toNat * (c.T e).sz)), ?_⟩⟩
          rw [show h.toNat - l.toNat = 0 by omega, show cap2 - l.toNat = 0 by omega]
      · exact k3.elim
    · exact absurd ⟨_, rfl⟩ hs
    · have hx : Value.slice a 0 cap = .slice none 0 0 := hx
      simp only [Value.slice.injEq] at hx
      obtain ⟨rfl, _, rfl⟩ := hx
      simp only [lenA] at h2
      have h2 : h ≤ 0 := h2
      obtain rfl : l = 0 := by omega
      obtain rfl : h = 0 := by omega
      obtain rfl : cap2 = 0 := by omega
      rfl
    · exact k3.elim

theorem fieldAt_ok (hP : PrOk P c) {t f : Nat} (ht : 0 < (c.T t).sz) (hf : 0 < (fieldOff (c.T t) f).2) (b o : Nat) (w' : World) :
    (Instr.fieldAt t (.pointer (some ⟨b, o, none⟩)) f).run P w' = .ok (.pointer (some ⟨b, o + (fieldOff (c.T t) f).1, none⟩)) w' := by
  obtain ⟨i, d, z, i1, _, _, i4, _, _, _, i8, _⟩ := (hP.ty t ht).ex
  unfold fieldOff at hf ⊢
  split at hf
  · rename_i fs hk
    rw [hk] at i8
    obtain ⟨fields, rfl, hfs⟩ := i8
    cases hfd : fs[f]? with
    | none => simp [hfd] at hf
    | some p =>
      obtain ⟨off, sz⟩ := p
      simp only [List.getD, hfd, Option.getD_some] at hf ⊢
      have hlen := mapM_some_length hfs
      obtain ⟨fd, hfd2⟩ : ∃ fd, fields.toList[f]? = some fd := ⟨_, List.getElem?_eq_getElem (by have := lt_of_get hfd; omega)⟩
      have hg := mapM_some_get hfs f fd hfd2
      rw [hfd] at hg
      cases h3 : P.info? fd.type with
      | none => simp [h3] at hg
      | some fi =>
        simp only [h3, Option.map_some, Option.some.injEq, Prod.mk.injEq] at hg
        obtain ⟨h2, h4⟩ := hg
        have h1 : fields[f]? = some fd := by simpa using hfd2
        have hne : ¬ fi.size = 0 := by omega
        simp [Instr.fieldAt, run_underlying i4, h1, Instr.sureAddr, fieldPlace, sizeOf, typeInfo, h3, hne, addr_add, h2, hfd]
  · simp at hf

theorem indexAt_ok (hP : PrOk P c) {t : Nat} (ht : 0 < (c.T t).sz) (hs : isSliceT c t) (he : 0 < (c.T (elemOf c t)).sz) (k : IntKind) (i : Int) (b o len cap : Nat) (h0 : 0 ≤ i) (h1 : i < len) (w' : World) :
    (Instr.indexAt t (.slice (some ⟨b, o, none⟩) len cap) (.int k i)).run P w' = .ok (.pointer (some ⟨b, o + i.toNat * (c.T (elemOf c t)).sz, none⟩)) w' := by
  obtain ⟨_, d, z, i1, _, _, i4, _, _, _, i8, _⟩ := (hP.ty t ht).ex
  obtain ⟨e, hk⟩ : ∃ e, (c.T t).kind = .slice e := by
    unfold isSliceT at hs; split at hs
    · exact ⟨_, by assumption⟩
    · exact hs.elim
  rw [hk] at i8
  obtain rfl : d = .slice e := i8
  have hel : elemOf c t = e := by simp [elemOf, hk]
  rw [hel] at he ⊢
  obtain ⟨j, _, _, j1, j2, _⟩ := (hP.ty e he).ex
  simp [Instr.indexAt, asIntOf, run_underlying i4, h0, h1, sizeOf, typeInfo, j1, j2, addr_add]

theorem optVal {r : Operand → Value} {rA : Operand → AV} {d : Int} : ∀ (x : Option Operand), (∀ y, x = some y → RepV rd os g w (rA y) (r y)) → numOk (x.map rA) →
    ((x.map r) = none ∧ (match x with | some y => numA (rA y) | none => d) = d) ∨ ∃ k, x.map r = some (.int k (match x with | some y => numA (rA y) | none => d))
  | none, _, _ => .inl ⟨rfl, rfl⟩
  | some y, h, hn => by
    obtain ⟨k, hk⟩ := (h y rfl).num hn
    exact .inr ⟨k, by simp [hk]⟩

theorem fold_go {P : Program} {f : Int → Int → Int} {m2 : Value → Value → Sem Value} (hm : ∀ k x y (w : World), ∀ k', (m2 (.int k x) (.int k' y)).run P w = .ok (.int k (f x y)) w) {rd : Nat → Nat → Option Value} {rA : Operand → AV} {r : Operand → Value} : ∀ (l : List Operand) (k : IntKind) (a : Int),
    allP (fun x => isNum (rA x)) l → (∀ x ∈ l, RepV rd os g w (rA x) (r x)) → ∀ (w' : World), ((l.map r).foldlM m2 (.int k a)).run P w' = .ok (.int k (l.foldl (fun m y => f m (numA (rA y))) a)) w'
  | [], k, a, _, _, w' => by simp
  | y :: l, k, a, h1, h2, w' => by
    obtain ⟨k', hk'⟩ := (h2 y (by simp)).num h1.1
    simp only [List.map_cons, List.foldlM_cons, List.foldl_cons, Sem.run_bind, hk', hm, Result.andThen_ok]
    exact fold_go hm l k _ h1.2 (fun x hx => h2 x (by simp [hx])) w'

theorem fold_ok {rd : Nat → Nat → Option Value} {rA : Operand → AV} {r : Operand → Value} {f : Int → Int → Int} {m2 : Value → Value → Sem Value} (e0 : Sem Value) (hm : ∀ {P : Program} (k : IntKind) (x y : Int) (w : World), ∀ k', (m2 (.int k x) (.int k' y)).run P w = .ok (.int k (f x y)) w) (l : List Operand) (h1 : l ≠ [])
    (h2 : allP (fun x => isNum (rA x)) l) (h3 : ∀ x ∈ l, RepV rd os g w (rA x) (r x)) :
    ∃ v, RepV rd os g w (foldA f rA l) v ∧ ∀ (P : Program) (w' : World), (match l.map r with | [] => e0 | x :: rest => rest.foldlM m2 x : Sem Value).run P w' = .ok v w' := by
  cases l with
  | nil => exact absurd rfl h1
  | cons x l =>
    have hx := h3 x (by simp)
    obtain ⟨k, hk⟩ := hx.num h2.1
    have hkk : kN (rA x) = k := by
      have h4 : isNum (rA x) := h2.1
      cases hr : rA x with
      | sc v =>
        cases v with
        | int k2 n => rw [hr] at hx; have e : r x = .int k2 n := hx; rw [hk] at e; injection e with e1 _; exact e1.symm
        | _ => rw [hr] at h4; exact h4.elim
      | _ => rw [hr] at h4; exact h4.elim
    refine ⟨.int k (l.foldl (fun m y => f m (numA (rA y))) (numA (rA x))), ?_, fun P w' => ?_⟩
    · simp only [foldA, hkk]; rfl
    · simp only [List.map_cons, hk]
      exact fold_go hm l k _ h2.2 (fun y hy => h3 y (by simp [hy])) w'

/-- A quiet operation does in memory what it does here, in every world in which the block that it reads is as it is here. -/
theorem pure_ok (hP : PrOk P c) (hso : SRel X os g w) (o : Oper) (rA : Operand → AV) (r : Operand → Value)
    (hr : ∀ x ∈ o.op.operands, RepV (rdF X os g w) os g w (rA x) (r x)) (hp : isPure o.op = true) (hk : pureOk c os rA o.op) :
    ∃ v, RepV (rdF X os g w) os g w (pureA c os rA o.op) v ∧ ∀ w', (∀ b, RdBlk r o.op b → w'.heap[b]? = w.heap[b]?) → (execOp r o).run P w' = .ok (.value v) w' := by
  obtain ⟨dst, op, ty, pos, af, gd⟩ := o
  simp only at hr hp hk ⊢
  cases op <;> simp only [isPure] at hp <;> try cases hp
  case move x => exact ⟨r x, hr x (by simp [Op.operands]), fun w' _ => by simp [execOp]⟩
  case assign x => exact ⟨r x, hr x (by simp [Op.operands]), fun w' _ => by simp [execOp]⟩
  case pick a x y =>
    obtain ⟨t, h1, h2⟩ := selA_ok (hr a (by simp [Op.operands])) (hr x (by simp [Op.operands])) (hr y (by simp [Op.operands])) hk
    exact ⟨_, h2, fun w' _ => by simp [execOp, h1, asBool]⟩
  case build t ps =>
    obtain ⟨hz, hbl, hrec, hfill⟩ := hk
    obtain ⟨i, d, z, i1, i2, i3, i4, i5, i6, i7, i8, i9, _⟩ := (hP.ty t hz).ex
    cases hf : fillA (partsOf c t) (c.T t).zero (ps.toList.map fun p => (p.1, rA p.2)) with
    | none => rw [hf] at hfill; simp at hfill
    | some out =>
      have hzero : RepL (rdF X os g w) os g w (c.T t).zero z.cells.toList := by
        rw [← i7]
        refine ⟨by simp, fun k y hy => ?_⟩
        rw [List.getElem?_map] at hy
        cases hzk : z.cells.toList[k]? with
        | none => rw [hzk] at hy; simp at hy
        | some u => rw [hzk] at hy; simp at hy; subst hy; exact ⟨u, rfl, rfl⟩
      have hparts : ∀ (k : Nat) p, (ps.toList.map fun p => (p.1, rA p.2))[k]? = some p → ∃ q, (ps.toList.map fun p => (p.1, r p.2))[k]? = some q ∧ q.1 = p.1 ∧ RepL (rdF X os g w) os g w (cellsOf p.2) q.2.cells.toList := by
        intro k p hp2
        rw [List.getElem?_map] at hp2
        cases hpk : ps.toList[k]? with
        | none => rw [hpk] at hp2; simp at hp2
        | some u =>
          rw [hpk] at hp2; simp at hp2; subst hp2
          have hm : u ∈ ps.toList := List.mem_of_getElem? hpk
          have hu := allP_mem hrec u hm
          refine ⟨(u.1, r u.2), by rw [List.getElem?_map, hpk]; rfl, rfl, ?_⟩
          have hv := hr u.2 (by simp only [Op.operands]; exact List.mem_toArray.2 (List.mem_map.2 ⟨u, hm, rfl⟩))
          exact (hv.toA hu).cells fun y hy u2 h2 => recOk_one (allP_mem hu y hy) h2
      obtain ⟨us, hus, hru⟩ := fill_ok _ _ _ z.cells out (by simp) hparts hzero hf
      refine ⟨.agg us, ?_, fun w' _ => ?_⟩
      · simp only [pureA, hf]
        exact ⟨us, rfl, by have := hru.1; simpa using this, fun k y hy => by simpa using hru.2 k y hy⟩
      · have hb : P.built t (ps.map fun p => (p.1, r p.2)).toList = some us := by
          have e1 : (ps.map fun p => (p.1, r p.2)).toList = ps.toList.map fun p => (p.1, r p.2) := by simp
          rw [e1]
          unfold partsOf at hus
          cases hkd : (c.T t).kind with
          | struct fs =>
            rw [hkd] at i8 hus
            obtain ⟨fields, rfl, hfs⟩ := i8
            simp only [Program.built, i1, i4, i6, hfs]
            simpa using hus
          | array n e =>
            rw [hkd] at i8 hus
            obtain ⟨rfl, ie, j1, j2⟩ := i8
            simp only [Program.built, i1, i4, i6, j1, j2]
            exact hus
          | _ => rw [hkd] at hbl; exact hbl.elim
        simp only [execOp, Sem.run_bind, run_build w' t _ us hb, Result.andThen_ok, Sem.run_pure]
  case load t a =>
    obtain ⟨h1, h2, h3⟩ := hk
    have hv := hr a (by simp [Op.operands])
    obtain ⟨b, o, e⟩ := Rep_addr hv h1
    rw [e] at hv
    have hzl : (c.T t).zero.length = (c.T t).sz := by
      obtain ⟨i, d, z, _, q2, _, _, _, _, q7, _, _, _, q11⟩ := (hP.ty t h2).ex
      rw [← q7, List.length_map, Array.length_toList, q11, q2]
    obtain ⟨h6, h3⟩ := loadV_eq hzl h2 h3
    simp only [pureA, h6]
    obtain ⟨v, h4, h5⟩ := Rep_load hP hso hv h1 h2 h3
    exact ⟨v, h4, fun w' hw => by simp [execOp, e, h5 w' (hw b ⟨o, e⟩)]⟩
  case nilCheck x =>
    have hv := hr x (by simp [Op.operands])
    obtain ⟨b, o, e⟩ := Rep_addr hv hk
    exact ⟨r x, hv, fun w' _ => by simp [execOp, e]⟩
  case binOp op t x y t' =>
    have hx := hr x (by simp [Op.operands])
    have hy := hr y (by simp [Op.operands])
    obtain ⟨v, h1, h2⟩ := binA_ok hP x y hx hy hk
    exact ⟨v, h1, fun w' _ => by have h3 := h2 w'; simp only [execOp, Sem.run_bind, Sem.run_pure] at h3 ⊢; rw [h3]; rfl⟩
  case unOp op t x =>
    obtain ⟨v, h1, h2⟩ := Rep_unA (P := P) (hr x (by simp [Op.operands])) hk
    exact ⟨v, h1, fun w' _ => by simp [execOp, h2]⟩
  case convert s d x =>
    obtain ⟨h1, h2, h3⟩ := hk
    have hx := hr x (by simp [Op.operands])
    unfold convOk at h3
    split at h3
    · rename_i k n ex
      rw [ex] at hx
      obtain ⟨v, h4, h5⟩ := Rep_convA hP hx h1 h2 h3
      exact ⟨v, by simp only [pureA, ex]; exact h4, fun w' _ => by simp [execOp, h5]⟩
    · rename_i s' ex
      rw [ex] at hx
      obtain ⟨v, h4, h5⟩ := Rep_convA hP hx h1 h2 h3
      exact ⟨v, by simp only [pureA, ex]; exact h4, fun w' _ => by simp [execOp, h5]⟩
    · rename_i n1 n2
      obtain ⟨k1, k2, k3, k4, k5, k6, k7⟩ := h3
      have hcv : convA os (c.T s).kind (c.T d).kind (rA x) = .sc (.string (strOf (elems os (rA x)))) := by
        rw [k2]
        cases hxx : rA x with
        | sc u => cases u <;> first | rfl | exact absurd hxx (n1 _ _) | exact absurd hxx (n2 _)
        | _ => rfl
      refine ⟨.string (strOf (elems os (rA x))), by simp only [pureA, hcv]; rfl, fun w' hw => ?_⟩
      have := Rep_text hP hso hx h1 h2 n2 k1 k2 k3 k4 k5 k6 k7 w' fun b hb => hw b hb
      simp [execOp, this]
  case slice t x lo hi mx =>
    obtain ⟨h1, h2, h3, h4, h5, h6, h7, h8⟩ := hk
    have hlo : ∀ y, lo = some y → RepV (rdF X os g w) os g w (rA y) (r y) := fun y e => hr y (by subst e; simp [Op.operands])
    have hhi : ∀ y, hi = some y → RepV (rdF X os g w) os g w (rA y) (r y) := fun y e => hr y (by subst e; simp [Op.operands])
    have hmx : mx.map r = none ∨ (lo.map r = none ∧ (∃ k, mx.map r = some (.int k (hiOf rA (rA x) hi))) ∧ (∃ k, hi.map r = some (.int k (hiOf rA (rA x) hi))) ∧ ∀ s, rA x ≠ .sc (.string s)) := by
      cases hm : mx with
      | none => exact .inl rfl
      | some m =>
        rw [hm] at h5
        obtain ⟨rfl, ⟨q, rfl, n1, n2, e⟩, hs⟩ := h5
        obtain ⟨k1, e1⟩ := (hr m (by subst hm; simp [Op.operands])).num n1
        obtain ⟨k2, e2⟩ := (hhi q rfl).num n2
        exact .inr ⟨rfl, ⟨k1, by simp [e1, hiOf, e]⟩, ⟨k2, by simp [e2, hiOf]⟩, hs⟩
    obtain ⟨u, h9, h10⟩ := Rep_cut (t := t) (vlo := lo.map r) (vhi := hi.map r) (vmx := mx.map r) (l := loOf rA lo) (h := hiOf rA (rA x) hi) hP (hr x (by simp [Op.operands])) h2 h1
      (by cases lo with
        | none => exact .inl ⟨rfl, rfl⟩
        | some y => obtain ⟨k, hk⟩ := (hlo y rfl).num h3; exact .inr ⟨k, by simp [hk, loOf]⟩)
      (by cases hi with
        | none => exact .inl ⟨rfl, rfl⟩
        | some y => obtain ⟨k, hk⟩ := (hhi y rfl).num h4; exact .inr ⟨k, by simp [hk, hiOf]⟩) hmx h6 h7 h8
    exact ⟨u, h9, fun w' _ => by simp [execOp, h10]⟩
  case fieldAddr s x f =>
    obtain ⟨h0, h1, h2⟩ := hk
    have hv := hr x (by simp [Op.operands])
    obtain ⟨b, o, e⟩ := Rep_addr hv h1
    rw [e] at hv
    exact ⟨_, Rep_add hv h1 _, fun w' _ => by simp [execOp, e, fieldAt_ok hP h0 h2]⟩
  case indexAddr t x i =>
    obtain ⟨h0, h1, h2, h3, h4, h5, h6, h7⟩ := hk
    obtain ⟨k, hi⟩ := (hr i (by simp [Op.operands])).num h5
    have hns : ∀ s, rA x ≠ .sc (.string s) := fun s e => by rw [e] at h3; simp only [esz] at h3; omega
    obtain ⟨b, o, cap, e, h8⟩ := Rep_idx (hr x (by simp [Op.operands])) h4 h6 h7 hns
    refine ⟨_, h8, fun w' _ => ?_⟩
    rw [h3]
    simp [execOp, e, hi, indexAt_ok hP h0 h2 h1 k _ b o _ cap h6 h7]
  case index t x i =>
    cases hx : rA x with
    | sc v =>
      simp only [pureOk, hx] at hk
      split at hk
      · rename_i s e
        cases e
        obtain ⟨h1, h2, h3, h4, h5⟩ := hk
        have hv := hr x (by simp [Op.operands])
        rw [hx] at hv
        have hv : r x = .string s := hv
        obtain ⟨k, hi⟩ := (hr i (by simp [Op.operands])).num h3
        obtain ⟨_, d, _, i1, _, _, i4, _, _, _, i8, _⟩ := (hP.ty t h1).ex
        rw [h2] at i8
        obtain rfl : d = .string := i8
        refine ⟨strAt s (numA (rA i)), by simp only [pureA, hx]; rfl, fun w' _ => ?_⟩
        have hlt : (numA (rA i)).toNat < s.size := by omega
        have hg : s[(numA (rA i)).toNat]? = some (s[(numA (rA i)).toNat]) := by simp [hlt]
        have hg2 : s.data.toList.getD (numA (rA i)).toNat 0 = s[(numA (rA i)).toNat] := by
          rw [List.getD, List.getElem?_eq_getElem (by simpa using hlt)]
          rfl
        simp only [strAt, hg2]
        simp [execOp, hv, hi, Instr.index, asIntOf, run_underlying i4, h4, hlt]
      · exact hk.elim
    | _ => simp only [pureOk, hx] at hk
  case extract t i =>
    cases hx : rA t with
    | tup vs =>
      simp only [pureOk, hx] at hk
      have hv := hr t (by simp [Op.operands])
      rw [hx] at hv
      obtain ⟨us, e, h1, h2⟩ := hv
      obtain ⟨u, h3, h4⟩ := h2 i _ (List.getElem?_eq_getElem hk)
      refine ⟨u, ?_, fun w' _ => by simp [execOp, e, Instr.extract, h3]⟩
      simp only [pureA, hx, List.getD, List.getElem?_eq_getElem hk, Option.getD_some]
      exact h4.toV
    | _ => simp only [pureOk, hx] at hk
  case makeFunc fn fi cs =>
    cases fn <;> try (simp [isPure] at hp; done)
    rename_i n
    obtain ⟨h0, h1, h2⟩ := hk
    have hfi : fi = #[] := by rw [← Array.toArray_toList (xs := fi), h0]
    subst hfi
    have key : ∀ (l : List Operand), (ptsOf (l.map rA)).isSome = true → allP (fun x => isAddr os x = true) (l.map rA) → (∀ x ∈ l, RepV (rdF X os g w) os g w (rA x) (r x)) → ∃ ps, ptsOf (l.map rA) = some ps ∧ RepPts os g ps (l.map r) := by
      intro l
      induction l with
      | nil => intro _ _ _; exact ⟨[], rfl, trivial⟩
      | cons x l ih =>
        intro a1 a2 a3
        simp only [List.map_cons] at a1 a2 ⊢
        cases hx : rA x with
        | pt L k =>
          rw [hx] at a1 a2
          simp only [ptsOf] at a1 ⊢
          cases hq : ptsOf (l.map rA) with
          | none => rw [hq] at a1; simp at a1
          | some q =>
            obtain ⟨ps, b1, b2⟩ := ih (by rw [hq]; rfl) a2.2 (fun y hy => a3 y (by simp [hy]))
            rw [hq] at b1
            cases b1
            have hv := a3 x (by simp)
            rw [hx] at hv
            exact ⟨_, rfl, hv, b2⟩
        | _ => rw [hx] at a1; simp [ptsOf] at a1
    obtain ⟨ps, e1, e2⟩ := key cs.toList h1 h2 (fun x hx => hr x (by simp only [Op.operands, Array.empty_append]; exact Array.mem_toList_iff.1 hx))
    refine ⟨.func (.func n) #[] (cs.map r), ?_, fun w' _ => ?_⟩
    · simp only [pureA, cloA, e1]
      exact ⟨cs.map r, rfl, by simpa using e2⟩
    · simp [execOp, Instr.makeFunc]
  case field t x f =>
    cases hx : rA x with
    | agg cs =>
      simp only [pureOk, hx, fldOk] at hk
      obtain ⟨k1, k2, k3, k4, k5⟩ := hk
      have hv := hr x (by simp [Op.operands])
      rw [hx] at hv
      obtain ⟨vs, ev, hvl, hvs⟩ := hv
      obtain ⟨_, d, _, i1, _, _, i4, _, _, _, i8, _⟩ := (hP.ty t k1).ex
      obtain ⟨fields, i4', hft⟩ := (hP.ty t k1).ft (by intro h0; rw [h0] at k2; simp at k2)
      rw [i4] at i4'
      obtain rfl : d = .struct fields := by injection i4'
      have hfl : f < fields.size := by rw [← hft] at k2; simpa using k2
      have hfty : (c.T t).ftys.getD f 0 = fields[f].type := by rw [← hft]; simp [List.getD, hfl]
      obtain ⟨fs, hkd⟩ : ∃ fs, (c.T t).kind = .struct fs := by
        unfold isStructK at k3; split at k3
        · exact ⟨_, by assumption⟩
        · exact k3.elim
      rw [hkd] at i8
      obtain ⟨fields', e1, hm⟩ := i8
      obtain rfl : fields = fields' := by injection e1
      have hoff : (fieldOff (c.T t) f).1 = fields[f].offset := by
        unfold fieldOff
        rw [hkd]
        have hfd2 : fields.toList[f]? = some fields[f] := by simp [hfl]
        have hg := mapM_some_get hm f _ hfd2
        cases h3 : P.info? fields[f].type with
        | none => rw [h3] at hg; have hlen := mapM_some_length hm; simp at hg; simp at hlen; omega
        | some fi =>
          simp only [h3, Option.map_some] at hg
          have hg2 : fs[f]? = some (fields[f].offset, fi.size) := by first | exact hg | exact hg.symm
          simp only [List.getD, hg2, Option.getD_some]
      rw [hfty] at k4 k5
      rw [hoff] at k5
      obtain ⟨j, dj, _, j1, j2, _, j4, j5, _, _, _, _⟩ := (hP.ty _ k4).ex
      have hs : ∀ w', (sizeOf fields[f].type).run P w' = .ok (c.T fields[f].type).sz w' := fun w' => by simp [sizeOf, typeInfo, j1, j2]
      by_cases hagg : (c.T fields[f].type).agg = true
      · have hg : ∀ w', (isAgg fields[f].type).run P w' = .ok true w' := by
          intro w'
          rw [hagg] at j5
          cases dj <;> simp at j5 <;> simp [isAgg, run_underlying j4]
        refine ⟨.agg (vs.extract fields[f].offset (fields[f].offset + (c.T fields[f].type).sz)), ?_, fun w' _ => ?_⟩
        · simp only [pureA, hx, fldA, hfty, hoff, partA, hagg, if_true]
          refine ⟨_, rfl, by simp; omega, fun i y hy => ?_⟩
          rw [List.getElem?_take] at hy
          split at hy
          · rw [List.getElem?_drop] at hy
            obtain ⟨u, hu, hru⟩ := hvs _ y hy
            refine ⟨u, ?_, hru⟩
            rw [Array.getElem?_extract, if_pos (by omega)]; exact hu
          · cases hy
        · simp [execOp, Instr.field, run_underlying i4, hfl, ev, asAgg, part, hg, hs]
      · have hagg' : (c.T fields[f].type).agg = false := by simpa using hagg
        have hg : ∀ w', (isAgg fields[f].type).run P w' = .ok false w' := by
          intro w'
          rw [hagg'] at j5
          cases dj <;> simp at j5 <;> simp [isAgg, run_underlying j4]
        have hlt : fields[f].offset < cs.length := by omega
        obtain ⟨u, hu, hru⟩ := hvs fields[f].offset _ (List.getElem?_eq_getElem hlt)
        refine ⟨u, ?_, fun w' _ => ?_⟩
        · simp only [pureA, hx, fldA, hfty, hoff, partA, hagg']
          simp only [Bool.false_eq_true, if_false, List.getD, List.getElem?_eq_getElem hlt, Option.getD_some]
          exact RepC.toV hru
        · simp [execOp, Instr.field, run_underlying i4, hfl, ev, asAgg, part, hg, hu]
    | _ => simp only [pureOk, hx, fldOk] at hk
  case call cl =>
    obtain ⟨cal, args, tys⟩ := cl
    cases cal with
    | value f => simp [isPure] at hp
    | invoke f m => simp [isPure] at hp
    | builtin b =>
    cases b <;> try (simp [isPure] at hp; done)
    case max =>
      simp only [pureOk] at hk
      obtain ⟨h1, h2⟩ := hk
      obtain ⟨vv, hv1, hv2⟩ := fold_ok (rA := rA) (r := r) (f := mxI) (m2 := Builtin.max2) (Go.stuck "max: at least one argument expected") (fun k x y w => by intro k'; simp [Builtin.max2, mxI]) args.toList h1 h2 (fun x hx => hr x (by simp only [Op.operands, Call.operands, Array.mem_append]; exact .inr (Array.mem_toList_iff.1 hx)))
      refine ⟨vv, hv1, fun w' _ => ?_⟩
      simp only [execOp, resolve, invoke, builtin, Builtin.max_, Sem.run_bind, Sem.run_pure, Result.andThen_ok, Array.toList_map]
      exact (congrArg (fun z => z.andThen fun a w' => Result.ok (Next.value a) w') (hv2 P w')).trans rfl
    case min =>
      simp only [pureOk] at hk
      obtain ⟨h1, h2⟩ := hk
      obtain ⟨vv, hv1, hv2⟩ := fold_ok (rA := rA) (r := r) (f := mnI) (m2 := Builtin.min2) (Go.stuck "min: at least one argument expected") (fun k x y w => by intro k'; simp [Builtin.min2, mnI]) args.toList h1 h2 (fun x hx => hr x (by simp only [Op.operands, Call.operands, Array.mem_append]; exact .inr (Array.mem_toList_iff.1 hx)))
      refine ⟨vv, hv1, fun w' _ => ?_⟩
      simp only [execOp, resolve, invoke, builtin, Builtin.min_, Sem.run_bind, Sem.run_pure, Result.andThen_ok, Array.toList_map]
      exact (congrArg (fun z => z.andThen fun a w' => Result.ok (Next.value a) w') (hv2 P w')).trans rfl
    case cap =>
      simp only [pureOk] at hk
      split at hk
      · rename_i x t hx ht
        obtain ⟨k1, k2, k3⟩ := hk
        have hv := hr x (by simp only [Op.operands, Call.operands, Array.mem_append]; exact .inr (Array.mem_of_getElem? hx))
        rw [k3] at hv
        have hv : r x = .slice none 0 0 := hv
        obtain ⟨_, d, _, i1, _, _, i4, _, _, _, i8, _⟩ := (hP.ty t k1).ex
        obtain ⟨el, he⟩ : ∃ e, (c.T t).kind = .slice e := by
          unfold isSliceT at k2; split at k2
          · exact ⟨_, by assumption⟩
          · exact k2.elim
        rw [he] at i8
        obtain rfl : d = .slice el := i8
        exact ⟨.int .i64 0, rfl, fun w' _ => by simp [execOp, resolve, invoke, builtin, Builtin.cap_, hx, ht, hv, run_underlying i4, goInt]⟩
      · exact hk.elim
    simp only [pureOk] at hk
    split at hk
    · rename_i x t hx ht
      obtain ⟨k1, k2, k3⟩ := hk
      have hm : x ∈ (Op.call ⟨.builtin .len, args, tys⟩).operands := by
        simp only [Op.operands, Call.operands, Array.mem_append]; exact .inr (Array.mem_of_getElem? hx)
      have hv := hr x hm
      obtain ⟨_, d, _, i1, _, _, i4, _, _, _, i8, _⟩ := (hP.ty t k1).ex
      refine ⟨.int .i64 (lenA (rA x)), by simp only [pureA, hx]; rfl, fun w' _ => ?_⟩
      have hmap : (args.map r)[0]? = some (r x) := by simp [hx]
      by_cases hs : ∃ s, rA x = .sc (.string s)
      · obtain ⟨s, e⟩ := hs
        rw [e] at hv k3
        have hv : r x = .string s := hv
        simp only [lenTy] at k3
        rw [k3] at i8
        obtain rfl : d = .string := i8
        simp [execOp, resolve, invoke, builtin, Builtin.len_, hx, ht, hv, run_underlying i4, e, lenA, goInt]
      · obtain ⟨a, cap, e, _⟩ := hv.slice k2 (fun s e => hs ⟨s, e⟩)
        have k3' : isSliceT c t := by
          unfold lenTy at k3
          split at k3
          · rename_i s e2; exact absurd ⟨s, e2⟩ hs
          · exact k3
        obtain ⟨el, he⟩ : ∃ e, (c.T t).kind = .slice e := by
          unfold isSliceT at k3'; split at k3'
          · exact ⟨_, by assumption⟩
          · exact k3'.elim
        rw [he] at i8
        obtain rfl : d = .slice el := i8
        simp [execOp, resolve, invoke, builtin, Builtin.len_, hx, ht, e, run_underlying i4, goInt]
    · exact hk.elim
end
end Go.AM
