/- Quiet operations do in memory what the abstract machine does: the others. Conditions: none. -/
import Derived.Test.YtcnlhdaeeeolbaaAmE
set_option linter.unusedSimpArgs false
set_option linter.unusedVariables false
namespace Go.AM
open Go

section
variable {P : Program} {c : Cx} {X : Ctx} {os : List AO} {g : Nat → List Nat} {w : World}

theorem RepV.num {rd : Nat → Nat → Option Value} {x : AV} {v : Value} (h : RepV rd os g w x v) (hn : isNum x) : ∃ k, v = .int k (numA x) := by
  unfold isNum at hn
  split at hn
  · exact ⟨_, h⟩
  · exact hn.elim

theorem Rep_unA {rd : Nat → Nat → Option Value} {op : UnOp} {x : AV} {vx : Value} (hx : RepV rd os g w x vx) (hk : unOk op x) :
    ∃ v, RepV rd os g w (unA op x) v ∧ ∀ w', (Op.unary op vx).run P w' = .ok v w' := by
  unfold unOk at hk
  split at hk
  · rename_i k n
    obtain rfl := RepV.sc hx
    rcases hk with rfl | rfl
    · exact ⟨intOp .sub k 0 n, rfl, fun w' => by simp [Op.unary, Op.intArith, intOp]⟩
    · exact ⟨intOp .xor k (if k.signed then -1 else k.max) n, rfl, fun w' => by simp [Op.unary, Op.intBits, intOp]⟩
  · rename_i b
    obtain rfl := RepV.sc hx
    subst hk
    exact ⟨.bool (!b), rfl, fun w' => by simp [Op.unary]⟩
  · exact hk.elim

def convOkS (dst : TK) : AV → Prop
  | .sc (.int _ _) => match dst with
    | .int _ => True
    | _ => False
  | .sc (.string _) => match dst with
    | .str => True
    | _ => False
  | _ => False

theorem Rep_convA {rd : Nat → Nat → Option Value} (hP : PrOk P c) {s d : TypeId} {x : AV} {vx : Value} (hx : RepV rd os g w x vx) (hs : 0 < (c.T s).sz) (hd : 0 < (c.T d).sz) (hk : convOkS (c.T d).kind x) :
    ∃ v, RepV rd os g w (convA os (c.T s).kind (c.T d).kind x) v ∧ ∀ w', (convert s d vx).run P w' = .ok v w' := by
  obtain ⟨_, ds, _, _, _, _, h4, _, _, _, _, _⟩ := (hP.ty s hs).ex
  obtain ⟨_, dd, _, _, _, _, k4, _, _, _, k8, _⟩ := (hP.ty d hd).ex
  unfold convOkS at hk
  split at hk
  · rename_i k n
    obtain rfl := RepV.sc hx
    split at hk
    · rename_i k' hk'
      rw [hk'] at k8
      obtain rfl : dd = .int k' := k8
      refine ⟨.int k' (k'.wrap n), by simp only [convA, hk']; rfl, fun w' => ?_⟩
      simp [convert, run_underlying h4, run_underlying k4, Conv.intToInt]
    · exact hk.elim
  · rename_i s'
    obtain rfl := RepV.sc hx
    split at hk
    · rename_i hk'
      rw [hk'] at k8
      obtain rfl : dd = .string := k8
      refine ⟨.string s', by simp only [convA, hk']; rfl, fun w' => ?_⟩
      simp [convert, run_underlying h4, run_underlying k4]
    · exact hk.elim
  · exact hk.elim

/-- A slice's value. -/
theorem RepV.slice {rd : Nat → Nat → Option Value} {x : AV} {v : Value} (h : RepV rd os g w x v) (hk : lenOk os x) (hs : ∀ s, x ≠ .sc (.string s)) : ∃ a cap, v = .slice a (lenA x) cap ∧ lenA x ≤ cap := by
  unfold lenOk at hk
  split at hk
  · rename_i s xs
    rcases RepP.row h with ⟨rfl, a, cc, rfl⟩ | ⟨b, o, cc, rfl, hc, _⟩
    · exact ⟨_, _, rfl, Nat.zero_le _⟩
    · exact ⟨_, _, rfl, hc⟩
  · rename_i L off n
    split at hk
    · rename_i ow s xs hL
      have h : RepC rd os g w (.sl L off n) v := h
      simp only [RepC, hL] at h
      obtain ⟨cap, hc, _, ⟨b, _, rfl, _⟩ | ⟨rfl, a, rfl⟩⟩ := h
      · exact ⟨_, _, rfl, hc⟩
      · obtain rfl : n = 0 := by omega
        exact ⟨_, _, rfl, Nat.le_refl _⟩
    · rename_i s xs op hL
      have h : RepC rd os g w (.sl L off n) v := h
      simp only [RepC, hL] at h
      obtain ⟨cap, hc, _, ⟨b, _, rfl, _⟩ | ⟨rfl, a, rfl⟩⟩ := h
      · exact ⟨_, _, rfl, hc⟩
      · obtain rfl : n = 0 := by omega
        exact ⟨_, _, rfl, Nat.le_refl _⟩
    · exact hk.elim
  · exact absurd rfl (hs _)
  · obtain rfl := RepV.sc h; exact ⟨none, 0, rfl, Nat.le_refl _⟩
  · exact hk.elim

theorem Rep_len {rd : Nat → Nat → Option Value} {x : AV} {v : Value} (h : RepV rd os g w x v) (hk : lenOk os x) : (∃ a cap, v = .slice a (lenA x) cap) ∨ ∃ s, v = .string s ∧ lenA x = s.size := by
  by_cases hs : ∃ s, x = .sc (.string s)
  · obtain ⟨s, rfl⟩ := hs
    exact .inr ⟨s, h, rfl⟩
  · obtain ⟨a, cap, rfl, _⟩ := h.slice hk (fun s e => hs ⟨s, e⟩)
    exact .inl ⟨a, cap, rfl⟩

theorem addr_add (b o n : Nat) : (⟨b, o, none⟩ : Addr).add n = ⟨b, o + n, none⟩ := by
  unfold Addr.add; split <;> simp_all

theorem Rep_idx {rd : Nat → Nat → Option Value} {x : AV} {v : Value} {i : Int} (h : RepV rd os g w x v) (hk : lenOk os x) (h0 : 0 ≤ i) (h1 : i < lenA x) (hns : ∀ s, x ≠ .sc (.string s)) :
    ∃ b o cap, v = .slice (some ⟨b, o, none⟩) (lenA x) cap ∧ RepV rd os g w (idxA x i) (.pointer (some ⟨b, o + i.toNat * esz os x, none⟩)) := by
  unfold lenOk at hk
  split at hk
  · rename_i s xs
    rcases RepP.row h with ⟨rfl, a, cc, rfl⟩ | ⟨b, o, cc, rfl, hc, hr⟩
    · simp [lenA] at h1; omega
    · exact ⟨b, o, cc, rfl, b, o, by simp [esz], hr⟩
  · rename_i L off n
    split at hk
    · rename_i ow s xs hL
      have h : RepC rd os g w (.sl L off n) v := h
      simp only [RepC, hL] at h
      obtain ⟨cap, hc, _, ⟨b, hb, rfl, _⟩ | ⟨rfl, a, rfl⟩⟩ := h
      · refine ⟨b, off * s, cap, rfl, ?_⟩
        show RepC rd os g w (.pa L (off + i.toNat) 0) _
        simp only [RepC, hL, esz]
        refine ⟨b, hb, ?_⟩
        congr 3
        rw [Nat.add_mul]; rfl
      · simp only [lenA] at h1; omega
    · rename_i s xs op hL
      have h : RepC rd os g w (.sl L off n) v := h
      simp only [RepC, hL] at h
      obtain ⟨cap, hc, _, ⟨b, hb, rfl, _⟩ | ⟨rfl, a, rfl⟩⟩ := h
      · refine ⟨b, off * s, cap, rfl, ?_⟩
        show RepC rd os g w (.pa L (off + i.toNat) 0) _
        simp only [RepC, hL, esz]
        refine ⟨b, hb, ?_⟩
        congr 3
        rw [Nat.add_mul]; rfl
      · simp only [lenA] at h1; omega
    · exact hk.elim
  · exact absurd rfl (hns _)
  · simp only [lenA] at h1; omega
  · exact hk.elim

theorem Rep_addr {rd : Nat → Nat → Option Value} {x : AV} {v : Value} (h : RepV rd os g w x v) (hk : isAddr os x = true) : ∃ b o, v = .pointer (some ⟨b, o, none⟩) := by
  unfold isAddr at hk
  split at hk
  · rename_i L k
    have h : RepC rd os g w (.pt L k) v := h
    split at hk
    · rename_i cs hL; simp only [RepC, hL] at h; obtain ⟨b, _, h⟩ := h; exact ⟨_, _, h⟩
    · cases hk
  · rename_i L i k
    have h : RepC rd os g w (.pa L i k) v := h
    split at hk
    · rename_i cs hL; simp only [RepC, hL] at h; obtain ⟨b, _, h⟩ := h; exact ⟨_, _, h⟩
    · rename_i cs hL; simp only [RepC, hL] at h; obtain ⟨b, _, h⟩ := h; exact ⟨_, _, h⟩
    · cases hk
  · obtain ⟨b, o, e, _⟩ := h; exact ⟨_, _, e⟩
  · cases hk

theorem Rep_add {rd : Nat → Nat → Option Value} {x : AV} {b o : Nat} (h : RepV rd os g w x (.pointer (some ⟨b, o, none⟩))) (hk : isAddr os x = true) (n : Nat) :
    RepV rd os g w (addOff x n) (.pointer (some ⟨b, o + n, none⟩)) := by
  unfold isAddr at hk
  split at hk
  · rename_i L k
    have h : RepC rd os g w (.pt L k) _ := h
    show RepC rd os g w (.pt L (k + n)) _
    split at hk
    · rename_i cs hL
      simp only [RepC, hL] at h ⊢
      obtain ⟨b', hb, h⟩ := h
      simp only [Value.pointer.injEq, Option.some.injEq, Addr.mk.injEq, and_true] at h
      exact ⟨b', hb, by simp [h.1, h.2]⟩
    · cases hk
  · rename_i L i k
    have h : RepC rd os g w (.pa L i k) _ := h
    show RepC rd os g w (.pa L i (k + n)) _
    split at hk
    · rename_i cs hL
      simp only [RepC, hL] at h ⊢
      obtain ⟨b', hb, h⟩ := h
      simp only [Value.pointer.injEq, Option.some.injEq, Addr.mk.injEq, and_true] at h
      exact ⟨b', hb, by simp [h.1, h.2, Nat.add_assoc]⟩
    · rename_i cs hL
      simp only [RepC, hL] at h ⊢
      obtain ⟨b', hb, h⟩ := h
      simp only [Value.pointer.injEq, Option.some.injEq, Addr.mk.injEq, and_true] at h
      exact ⟨b', hb, by simp [h.1, h.2, Nat.add_assoc]⟩
    · cases hk
  · rename_i s xs i k
    obtain ⟨b', o', e, hr⟩ := h
    simp only [Value.pointer.injEq, Option.some.injEq, Addr.mk.injEq, and_true] at e
    exact ⟨b', o', by simp only [e.1, e.2]; congr 3; omega, hr⟩
  · cases hk

/-- The cells behind an address. -/
theorem Rep_row (h : SRel X os g w) {x : AV} {b o : Nat} (hx : RepV (rdF X os g w) os g w x (.pointer (some ⟨b, o, none⟩))) (hk : isAddr os x = true) :
    ∀ (k : Nat) y, (rowAt os x)[k]? = some y → ∃ v, w.cell? ⟨b, o + k, none⟩ = some v ∧ RepC (rdF X os g w) os g w y v := by
  unfold isAddr at hk
  split at hk
  · rename_i L k0
    have hx : RepC (rdF X os g w) os g w (.pt L k0) _ := hx
    split at hk
    · rename_i cs hL
      simp only [RepC, hL] at hx
      obtain ⟨b1, hb1, hx⟩ := hx
      simp only [Value.pointer.injEq, Option.some.injEq, Addr.mk.injEq, and_true] at hx
      intro k y hy
      simp only [rowAt, hL, List.getElem?_drop] at hy
      have ho := h.obj L
      rw [hL] at ho
      obtain ⟨b2, h0, _, cc, t, h1, _, h3⟩ := ho
      obtain rfl : b2 = b1 := by rw [h0] at hb1; simpa using hb1
      obtain ⟨v, hv, hr⟩ := h3 _ _ hy
      refine ⟨v, ?_, hr⟩
      rw [hx.1, hx.2, cell_of_row w b2 _ cc t (0, 0) h1]; exact hv
    · cases hk
  · rename_i L i k0
    have hx : RepC (rdF X os g w) os g w (.pa L i k0) _ := hx
    split at hk
    · rename_i ow s xs hL
      simp only [RepC, hL] at hx
      obtain ⟨b1, hb1, hx⟩ := hx
      simp only [Value.pointer.injEq, Option.some.injEq, Addr.mk.injEq, and_true] at hx
      intro k y hy
      simp only [rowAt, hL, List.getElem?_drop] at hy
      have ho := h.obj L
      rw [hL] at ho
      cases hxi : xs[i]? with
      | none => simp [hxi] at hy
      | some e =>
        simp only [List.getD, hxi, Option.getD_some] at hy
        cases ow with
        | true =>
          obtain ⟨_, ⟨h0, h1⟩ | ⟨b2, h0, _, cc, t, h1, _, _, h3⟩⟩ := ho
          · rw [h0] at hb1; cases hb1
          obtain rfl : b2 = b1 := by rw [h0] at hb1; simpa using hb1
          obtain ⟨v, hv, hr⟩ := h3 _ _ _ _ hxi hy
          refine ⟨v, ?_, ?_⟩
          · rw [hx.1, hx.2, cell_of_row w b2 _ cc t (0, 0) h1, Nat.add_assoc]; exact hv
          · cases hr with
            | sc _ => rfl
            | nil => exact .nil
            | fz f p1 p2 p3 p4 => exact .fz f p1 p2 p3 p4
        | false =>
          obtain ⟨v, hv, hr⟩ := (ho b1 hb1).2 _ _ _ _ hxi hy
          rw [rdF_some] at hv
          refine ⟨v, ?_, ?_⟩
          · rw [hx.1, hx.2, ← hv.2.2]; congr 2; omega
          · cases hr with
            | sc _ => rfl
            | nil => exact .nil
            | fz f p1 p2 p3 p4 => exact .fz f p1 p2 p3 p4
    · rename_i s xs op hL
      simp only [RepC, hL] at hx
      obtain ⟨b1, hb1, hx⟩ := hx
      simp only [Value.pointer.injEq, Option.some.injEq, Addr.mk.injEq, and_true] at hx
      intro k y hy
      cases op with
      | none => simp [rowAt, hL] at hy
      | some q =>
        obtain ⟨j, row⟩ := q
        simp only [rowAt, hL] at hy
        split at hy
        · rename_i e
          subst e
          rw [List.getElem?_drop] at hy
          have ho := h.obj L
          rw [hL] at ho
          obtain ⟨_, ⟨_, _, h1⟩ | ⟨b2, nb, F, h0, _, cc, t, h1, _, _, _, h3, _⟩⟩ := ho
          · cases h1
          obtain rfl : b2 = b1 := by rw [h0] at hb1; simpa using hb1
          obtain ⟨_, _, h4⟩ := h3 _ _ rfl
          obtain ⟨v, hv, hr⟩ := h4 _ _ hy
          refine ⟨v, ?_, hr⟩
          rw [hx.1, hx.2, cell_of_row w b2 _ cc t (0, 0) h1, Nat.add_assoc]; exact hv
        · cases hy
    · cases hk
  · rename_i s xs i k0
    obtain ⟨b', o', e, hr⟩ := hx
    simp only [Value.pointer.injEq, Option.some.injEq, Addr.mk.injEq, and_true] at e
    intro k y hy
    simp only [rowAt, List.getElem?_drop] at hy
    cases hxi : xs[i]? with
    | none => simp [hxi] at hy
    | some el =>
      simp only [List.getD, hxi, Option.getD_some] at hy
      obtain ⟨v, hv, hr⟩ := hr.2 _ _ _ _ hxi hy
      rw [rdF_some] at hv
      refine ⟨v, ?_, ?_⟩
      · rw [e.1, e.2, ← hv.2.2]; congr 2; omega
      · cases hr with
        | sc _ => rfl
        | nil => exact .nil
        | fz f p1 p2 p3 p4 => exact .fz f p1 p2 p3 p4
  · cases hk

theorem headD_get {α : Type} (l : List α) (d : α) (h : 0 < l.length) : l.headD d = l[0] := by
  cases l with
  | nil => simp at h
  | cons a r => rfl

theorem asLike_like {z x : AV} (h : like z x) : asLike z x = x := by
  unfold like at h
  split at h
  · split at h
    · subst h; rfl
    · exact h.elim
  · split at h
    · rfl
    · exact h.elim
  · split at h
    · rfl
    · exact h.elim
  · rename_i h1 h2 h3
    unfold asLike
    split
    · exact absurd rfl (h1 _ _)
    · exact absurd rfl (h2 _)
    · exact absurd rfl (h3 _)
    · rfl

theorem eta_like : ∀ {zs row : List AV}, likeAll zs row → eta zs row = row.take zs.length ∧ zs.length ≤ row.length
  | [], row, _ => by simp [eta]
  | z :: zs, [], h => h.elim
  | z :: zs, x :: xs, h => by
    obtain ⟨h1, h2⟩ := eta_like h.2
    simp [eta, asLike_like h.1, h1, h2]

theorem loadV_eq {ti : TI} {row : List AV} (hz : ti.zero.length = ti.sz) (h0 : 0 < ti.sz) (h : likeAll ti.zero row) : loadV ti row = loadV0 ti row ∧ ti.sz ≤ row.length := by
  obtain ⟨h1, h2⟩ := eta_like h
  refine ⟨?_, by omega⟩
  unfold loadV loadV0
  split
  · rw [h1, hz]
  · cases hzz : ti.zero with
    | nil => rw [hzz] at hz; simp at hz; omega
    | cons z zs =>
      rw [hzz] at h
      cases row with
      | nil => exact h.elim
      | cons x xs => exact asLike_like h.1

/-- A load. -/
theorem Rep_load (hP : PrOk P c) (h : SRel X os g w) {t : TypeId} {x : AV} {b o : Nat} (hx : RepV (rdF X os g w) os g w x (.pointer (some ⟨b, o, none⟩))) (hk : isAddr os x = true)
    (hz : 0 < (c.T t).sz) (hl : (c.T t).sz ≤ (rowAt os x).length) : ∃ v, RepV (rdF X os g w) os g w (loadV0 (c.T t) (rowAt os x)) v ∧
      ∀ w', w'.heap[b]? = w.heap[b]? → (Instr.loadAt t (.pointer (some ⟨b, o, none⟩))).run P w' = .ok v w' := by
  obtain ⟨i, d, z, h1, h2, _, h4, h5, _, _, _, _⟩ := (hP.ty t hz).ex
  have hrow := Rep_row h hx hk
  have hcell : ∀ k, k < (c.T t).sz → ∃ v, w.cell? ⟨b, o + k, none⟩ = some v := fun k hk' => by
    obtain ⟨v, hv, _⟩ := hrow k _ (List.getElem?_eq_getElem (show k < (rowAt os x).length by omega)); exact ⟨v, hv⟩
  by_cases hagg : (c.T t).agg = true
  · refine ⟨.agg (((List.range (c.T t).sz).map fun k => (w.cell? ⟨b, o + k, none⟩).getD undef).toArray), ?_, ?_⟩
    · simp only [loadV0, hagg, if_true]
      refine ⟨_, rfl, by simp; omega, fun k y hy => ?_⟩
      rw [List.getElem?_take] at hy
      split at hy
      · rename_i hk'
        obtain ⟨v, hv, hr⟩ := hrow k y hy
        refine ⟨v, ?_, hr⟩
        simp [hk', hv]
      · cases hy
    · intro w' hw
      have hg : (isAgg t).run P w' = .ok true w' := by
        rw [hagg] at h5
        cases d <;> simp at h5 <;> simp [isAgg, run_underlying h4]
      have hs : (sizeOf t).run P w' = .ok (c.T t).sz w' := by simp [sizeOf, typeInfo, h1, h2]
      have hld := run_loadCells (P := P) w' ⟨b, o, none⟩ (c.T t).sz (fun k => (w.cell? ⟨b, o + k, none⟩).getD undef) (fun k hk' => by
        obtain ⟨v, hv⟩ := hcell k hk'
        rw [addr_add, cell_heap hw, hv]; rfl)
      simp [Instr.loadAt, Instr.sureAddr, loadVar, hg, hs, hld]
  · have hagg' : (c.T t).agg = false := by simpa using hagg
    obtain ⟨v, hv, hr⟩ := hrow 0 _ (List.getElem?_eq_getElem (show 0 < (rowAt os x).length by omega))
    refine ⟨v, ?_, ?_⟩
    · simp only [loadV0, hagg', Bool.false_eq_true, if_false]
      rw [headD_get _ _ (show 0 < (rowAt os x).length by omega)]
      exact hr.toV
    · intro w' hw
      have hg : (isAgg t).run P w' = .ok false w' := by
        rw [hagg'] at h5
        cases d <;> simp at h5 <;> simp [isAgg, run_underlying h4]
      have hc : w'.cell? ⟨b, o, none⟩ = some v := by rw [cell_heap hw]; simpa using hv
      simp [Instr.loadAt, Instr.sureAddr, loadVar, hg, hc]

end
end Go.AM
