/- Several texts in one. Conditions: none. -/
import Derived.Test.YtcnlhdaeeeolbaaDoorAmB0
import Derived.Laws.Append
set_option linter.unusedSimpArgs false
set_option linter.unusedVariables false
section
/- Quiet operations do in memory what the abstract machine does: the others. Conditions: none. -/
namespace Go.AM
open Go

section
variable {P : Program} {c : Cx} {X : Ctx} {os : List AO} {g : Nat → List Nat} {w : World}

theorem RepV.num {rd : Nat → Nat → Option Value} {x : AV} {v : Value} (h : RepV rd os g w x v) (hn : isNum x) : ∃ k, v = .int k (numA x) := by
  unfold isNum at hn
  split at hn
  · exact ⟨_, h⟩
  · exact hn.elim

theorem Rep_unA {rd : Nat → Nat → Option Value} {op : UnOp} {x : AV} {vx : Value} (hx : RepV rd os g w x vx) (hk : unOk op x) :
    ∃ v, RepV rd os g w (unA op x) v ∧ ∀ w', (Op.unary op vx).run P w' = .ok v w' := by
  unfold unOk at hk
  split at hk
  · rename_i k n
    obtain rfl := RepV.sc hx
    rcases hk with rfl | rfl
    · exact ⟨intOp .sub k 0 n, rfl, fun w' => by simp [Op.unary, Op.intArith, intOp]⟩
    · exact ⟨intOp .xor k (if k.signed then -1 else k.max) n, rfl, fun w' => by simp [Op.unary, Op.intBits, intOp]⟩
  · rename_i b
    obtain rfl := RepV.sc hx
    subst hk
    exact ⟨.bool (!b), rfl, fun w' => by simp [Op.unary]⟩
  · exact hk.elim

def convOkS (dst : TK) : AV → Prop
  | .sc (.int _ _) => match dst with
    | .int _ => True
    | _ => False
  | .sc (.string _) => match dst with
    | .str => True
    | _ => False
  | _ => False

theorem Rep_convA {rd : Nat → Nat → Option Value} (hP : PrOk P c) {s d : TypeId} {x : AV} {vx : Value} (hx : RepV rd os g w x vx) (hs : 0 < (c.T s).sz) (hd : 0 < (c.T d).sz) (hk : convOkS (c.T d).kind x) :
    ∃ v, RepV rd os g w (convA os (c.T s).kind (c.T d).kind x) v ∧ ∀ w', (convert s d vx).run P w' = .ok v w' := by
  obtain ⟨_, ds, _, _, _, _, h4, _, _, _, _, _⟩ := (hP.ty s hs).ex
  obtain ⟨_, dd, _, _, _, _, k4, _, _, _, k8, _⟩ := (hP.ty d hd).ex
  unfold convOkS at hk
  split at hk
  · rename_i k n
    obtain rfl := RepV.sc hx
    split at hk
    · rename_i k' hk'
      rw [hk'] at k8
      obtain rfl : dd = .int k' := k8
      refine ⟨.int k' (k'.wrap n), by simp only [convA, hk']; rfl, fun w' => ?_⟩
      simp [convert, run_underlying h4, run_underlying k4, Conv.intToInt]
    · exact hk.elim
  · rename_i s'
    obtain rfl := RepV.sc hx
    split at hk
    · rename_i hk'
      rw [hk'] at k8
      obtain rfl : dd = .string := k8
      refine ⟨.string s', by simp only [convA, hk']; rfl, fun w' => ?_⟩
      simp [convert, run_underlying h4, run_underlying k4]
    · exact hk.elim
  · exact hk.elim

/-- A slice's value. -/
theorem RepV.slice {rd : Nat → Nat → Option Value} {x : AV} {v : Value} (h : RepV rd os g w x v) (hk : lenOk os x) (hs : ∀ s, x ≠ .sc (.string s)) : ∃ a cap, v = .slice a (lenA x) cap ∧ lenA x ≤ cap := by
  unfold lenOk at hk
  split at hk
  · rename_i s xs
    rcases RepP.row h with ⟨rfl, a, cc, rfl⟩ | ⟨b, o, cc, rfl, hc, _⟩
    · exact ⟨_, _, rfl, Nat.zero_le _⟩
    · exact ⟨_, _, rfl, hc⟩
  · rename_i L off n
    split at hk
    · rename_i ow s xs hL
      have h : RepC rd os g w (.sl L off n) v := h
      simp only [RepC, hL] at h
      obtain ⟨cap, hc, _, ⟨b, _, rfl, _⟩ | ⟨rfl, a, rfl⟩⟩ := h
      · exact ⟨_, _, rfl, hc⟩
      · obtain rfl : n = 0 := by omega
        exact ⟨_, _, rfl, Nat.le_refl _⟩
    · rename_i s xs op hL
      have h : RepC rd os g w (.sl L off n) v := h
      simp only [RepC, hL] at h
      obtain ⟨cap, hc, _, ⟨b, _, rfl, _⟩ | ⟨rfl, a, rfl⟩⟩ := h
      · exact ⟨_, _, rfl, hc⟩
      · obtain rfl : n = 0 := by omega
        exact ⟨_, _, rfl, Nat.le_refl _⟩
    · exact hk.elim
  · exact absurd rfl (hs _)
  · obtain rfl := RepV.sc h; exact ⟨none, 0, rfl, Nat.le_refl _⟩
  · exact hk.elim

theorem Rep_len {rd : Nat → Nat → Option Value} {x : AV} {v : Value} (h : RepV rd os g w x v) (hk : lenOk os x) : (∃ a cap, v = .slice a (lenA x) cap) ∨ ∃ s, v = .string s ∧ lenA x = s.size := by
  by_cases hs : ∃ s, x = .sc (.string s)
  · obtain ⟨s, rfl⟩ := hs
    exact .inr ⟨s, h, rfl⟩
  · obtain ⟨a, cap, rfl, _⟩ := h.slice hk (fun s e => hs ⟨s, e⟩)
    exact .inl ⟨a, cap, rfl⟩

theorem addr_add (b o n : Nat) : (⟨b, o, none⟩ : Addr).add n = ⟨b, o + n, none⟩ := by
  unfold Addr.add; split <;> simp_all

theorem Rep_idx {rd : Nat → Nat → Option Value} {x : AV} {v : Value} {i : Int} (h : RepV rd os g w x v) (hk : lenOk os x) (h0 : 0 ≤ i) (h1 : i < lenA x) (hns : ∀ s, x ≠ .sc (.string s)) :
    ∃ b o cap, v = .slice (some ⟨b, o, none⟩) (lenA x) cap ∧ RepV rd os g w (idxA x i) (.pointer (some ⟨b, o + i.toNat * esz os x, none⟩)) := by
  unfold lenOk at hk
  split at hk
  · rename_i s xs
    rcases RepP.row h with ⟨rfl, a, cc, rfl⟩ | ⟨b, o, cc, rfl, hc, hr⟩
    · simp [lenA] at h1; omega
    · exact ⟨b, o, cc, rfl, b, o, by simp [esz], hr⟩
  · rename_i L off n
    split at hk
    · rename_i ow s xs hL
      have h : RepC rd os g w (.sl L off n) v := h
      simp only [RepC, hL] at h
      obtain ⟨cap, hc, _, ⟨b, hb, rfl, _⟩ | ⟨rfl, a, rfl⟩⟩ := h
      · refine ⟨b, off * s, cap, rfl, ?_⟩
        show RepC rd os g w (.pa L (off + i.toNat) 0) _
        simp only [RepC, hL, esz]
        refine ⟨b, hb, ?_⟩
        congr 3
        rw [Nat.add_mul]; rfl
      · simp only [lenA] at h1; omega
    · rename_i s xs op hL
      have h : RepC rd os g w (.sl L off n) v := h
      simp only [RepC, hL] at h
      obtain ⟨cap, hc, _, ⟨b, hb, rfl, _⟩ | ⟨rfl, a, rfl⟩⟩ := h
      · refine ⟨b, off * s, cap, rfl, ?_⟩
        show RepC rd os g w (.pa L (off + i.toNat) 0) _
        simp only [RepC, hL, esz]
        refine ⟨b, hb, ?_⟩
        congr 3
        rw [Nat.add_mul]; rfl
      · simp only [lenA] at h1; omega
    · exact hk.elim
  · exact absurd rfl (hns _)
  · simp only [lenA] at h1; omega
  · exact hk.elim

theorem Rep_addr {rd : Nat → Nat → Option Value} {x : AV} {v : Value} (h : RepV rd os g w x v) (hk : isAddr os x = true) : ∃ b o, v = .pointer (some ⟨b, o, none⟩) := by
  unfold isAddr at hk
  split at hk
  · rename_i L k
    have h : RepC rd os g w (.pt L k) v := h
    split at hk
    · rename_i cs hL; simp only [RepC, hL] at h; obtain ⟨b, _, h⟩ := h; exact ⟨_, _, h⟩
    · cases hk
  · rename_i L i k
    have h : RepC rd os g w (.pa L i k) v := h
    split at hk
    · rename_i cs hL; simp only [RepC, hL] at h; obtain ⟨b, _, h⟩ := h; exact ⟨_, _, h⟩
    · rename_i cs hL; simp only [RepC, hL] at h; obtain ⟨b, _, h⟩ := h; exact ⟨_, _, h⟩
    · cases hk
  · obtain ⟨b, o, e, _⟩ := h; exact ⟨_, _, e⟩
  · cases hk

theorem Rep_add {rd : Nat → Nat → Option Value} {x : AV} {b o : Nat} (h : RepV rd os g w x (.pointer (some ⟨b, o, none⟩))) (hk : isAddr os x = true) (n : Nat) :
    RepV rd os g w (addOff x n) (.pointer (some ⟨b, o + n, none⟩)) := by
  unfold isAddr at hk
  split at hk
  · rename_i L k
    have h : RepC rd os g w (.pt L k) _ := h
    show RepC rd os g w (.pt L (k + n)) _
    split at hk
    · rename_i cs hL
      simp only [RepC, hL] at h ⊢
      obtain ⟨b', hb, h⟩ := h
      simp only [Value.pointer.injEq, Option.some.injEq, Addr.mk.injEq, and_true] at h
      exact ⟨b', hb, by simp [h.1, h.2]⟩
    · cases hk
  · rename_i L i k
    have h : RepC rd os g w (.pa L i k) _ := h
    show RepC rd os g w (.pa L i (k + n)) _
    split at hk
    · rename_i cs hL
      simp only [RepC, hL] at h ⊢
      obtain ⟨b', hb, h⟩ := h
      simp only [Value.pointer.injEq, Option.some.injEq, Addr.mk.injEq, and_true] at h
      exact ⟨b', hb, by simp [h.1, h.2, Nat.add_assoc]⟩
    · rename_i cs hL
      simp only [RepC, hL] at h ⊢
      obtain ⟨b', hb, h⟩ := h
      simp only [Value.pointer.injEq, Option.some.injEq, Addr.mk.injEq, and_true] at h
      exact ⟨b', hb, by simp [h.1, h.2, Nat.add_assoc]⟩
    · cases hk
  · rename_i s xs i k
    obtain ⟨b', o', e, hr⟩ := h
    simp only [Value.pointer.injEq, Option.some.injEq, Addr.mk.injEq, and_true] at e
    exact ⟨b', o', by simp only [e.1, e.2]; congr 3; omega, hr⟩
  · cases hk

/-- The cells behind an address. -/
theorem Rep_row (h : SRel X os g w) {x : AV} {b o : Nat} (hx : RepV (rdF X os g w) os g w x (.pointer (some ⟨b, o, none⟩))) (hk : isAddr os x = true) :
    ∀ (k : Nat) y, (rowAt os x)[k]? = some y → ∃ v, w.cell? ⟨b, o + k, none⟩ = some v ∧ RepC (rdF X os g w) os g w y v := by
  unfold isAddr at hk
  split at hk
  · rename_i L k0
    have hx : RepC (rdF X os g w) os g w (.pt L k0) _ := hx
    split at hk
    · rename_i cs hL
      simp only [RepC, hL] at hx
      obtain ⟨b1, hb1, hx⟩ := hx
      simp only [Value.pointer.injEq, Option.some.injEq, Addr.mk.injEq, and_true] at hx
      intro k y hy
      simp only [rowAt, hL, List.getElem?_drop] at hy
      have ho := h.obj L
      rw [hL] at ho
      obtain ⟨b2, h0, _, cc, t, h1, _, h3⟩ := ho
      obtain rfl : b2 = b1 := by rw [h0] at hb1; simpa using hb1
      obtain ⟨v, hv, hr⟩ := h3 _ _ hy
      refine ⟨v, ?_, hr⟩
      rw [hx.1, hx.2, cell_of_row w b2 _ cc t (0, 0) h1]; exact hv
    · cases hk
  · rename_i L i k0
    have hx : RepC (rdF X os g w) os g w (.pa L i k0) _ := hx
    split at hk
    · rename_i ow s xs hL
      simp only [RepC, hL] at hx
      obtain ⟨b1, hb1, hx⟩ := hx
      simp only [Value.pointer.injEq, Option.some.injEq, Addr.mk.injEq, and_true] at hx
      intro k y hy
      simp only [rowAt, hL, List.getElem?_drop] at hy
      have ho := h.obj L
      rw [hL] at ho
      cases hxi : xs[i]? with
      | none => simp [hxi] at hy
      | some e =>
        simp only [List.getD, hxi, Option.getD_some] at hy
        cases ow with
        | true =>
          obtain ⟨_, ⟨h0, h1⟩ | ⟨b2, h0, _, cc, t, h1, _, _, h3⟩⟩ := ho
          · rw [h0] at hb1; cases hb1
          obtain rfl : b2 = b1 := by rw [h0] at hb1; simpa using hb1
          obtain ⟨v, hv, hr⟩ := h3 _ _ _ _ hxi hy
          refine ⟨v, ?_, ?_⟩
          · rw [hx.1, hx.2, cell_of_row w b2 _ cc t (0, 0) h1, Nat.add_assoc]; exact hv
          · cases hr with
            | sc _ => rfl
            | nil => exact .nil
            | fz f p1 p2 p3 p4 => exact .fz f p1 p2 p3 p4
        | false =>
          obtain ⟨v, hv, hr⟩ := (ho b1 hb1).2 _ _ _ _ hxi hy
          rw [rdF_some] at hv
          refine ⟨v, ?_, ?_⟩
          · rw [hx.1, hx.2, ← hv.2.2]; congr 2; omega
          · cases hr with
            | sc _ => rfl
            | nil => exact .nil
            | fz f p1 p2 p3 p4 => exact .fz f p1 p2 p3 p4
    · rename_i s xs op hL
      simp only [RepC, hL] at hx
      obtain ⟨b1, hb1, hx⟩ := hx
      simp only [Value.pointer.injEq, Option.some.injEq, Addr.mk.injEq, and_true] at hx
      intro k y hy
      cases op with
      | none => simp [rowAt, hL] at hy
      | some q =>
        obtain ⟨j, row⟩ := q
        simp only [rowAt, hL] at hy
        split at hy
        · rename_i e
          subst e
          rw [List.getElem?_drop] at hy
          have ho := h.obj L
          rw [hL] at ho
          obtain ⟨_, ⟨_, _, h1⟩ | ⟨b2, nb, F, h0, _, cc, t, h1, _, _, _, h3, _⟩⟩ := ho
          · cases h1
          obtain rfl : b2 = b1 := by rw [h0] at hb1; simpa using hb1
          obtain ⟨_, _, h4⟩ := h3 _ _ rfl
          obtain ⟨v, hv, hr⟩ := h4 _ _ hy
          refine ⟨v, ?_, hr⟩
          rw [hx.1, hx.2, cell_of_row w b2 _ cc t (0, 0) h1, Nat.add_assoc]; exact hv
        · cases hy
    · cases hk
  · rename_i s xs i k0
    obtain ⟨b', o', e, hr⟩ := hx
    simp only [Value.pointer.injEq, Option.some.injEq, Addr.mk.injEq, and_true] at e
    intro k y hy
    simp only [rowAt, List.getElem?_drop] at hy
    cases hxi : xs[i]? with
    | none => simp [hxi] at hy
    | some el =>
      simp only [List.getD, hxi, Option.getD_some] at hy
      obtain ⟨v, hv, hr⟩ := hr.2 _ _ _ _ hxi hy
      rw [rdF_some] at hv
      refine ⟨v, ?_, ?_⟩
      · rw [e.1, e.2, ← hv.2.2]; congr 2; omega
      · cases hr with
        | sc _ => rfl
        | nil => exact .nil
        | fz f p1 p2 p3 p4 => exact .fz f p1 p2 p3 p4
  · cases hk

theorem headD_get {α : Type} (l : List α) (d : α) (h : 0 < l.length) : l.headD d = l[0] := by
  cases l with
  | nil => simp at h
  | cons a r => rfl

theorem asLike_like {z x : AV} (h : like z x) : asLike z x = x := by
  unfold like at h
  split at h
  · split at h
    · subst h; rfl
    · exact h.elim
  · split at h
    · rfl
    · exact h.elim
  · split at h
    · rfl
    · exact h.elim
  · rename_i h1 h2 h3
    unfold asLike
    split
    · exact absurd rfl (h1 _ _)
    · exact absurd rfl (h2 _)
    · exact absurd rfl (h3 _)
    · rfl

theorem eta_like : ∀ {zs row : List AV}, likeAll zs row → eta zs row = row.take zs.length ∧ zs.length ≤ row.length
  | [], row, _ => by simp [eta]
  | z :: zs, [], h => h.elim
  | z :: zs, x :: xs, h => by
    obtain ⟨h1, h2⟩ := eta_like h.2
    simp [eta, asLike_like h.1, h1, h2]

theorem loadV_eq {ti : TI} {row : List AV} (hz : ti.zero.length = ti.sz) (h0 : 0 < ti.sz) (h : likeAll ti.zero row) : loadV ti row = loadV0 ti row ∧ ti.sz ≤ row.length := by
  obtain ⟨h1, h2⟩ := eta_like h
  refine ⟨?_, by omega⟩
  unfold loadV loadV0
  split
  · rw [h1, hz]
  · cases hzz : ti.zero with
    | nil => rw [hzz] at hz; simp at hz; omega
    | cons z zs =>
      rw [hzz] at h
      cases row with
      | nil => exact h.elim
      | cons x xs => exact asLike_like h.1

/-- A load. -/
theorem Rep_load (hP : PrOk P c) (h : SRel X os g w) {t : TypeId} {x : AV} {b o : Nat} (hx : RepV (rdF X os g w) os g w x (.pointer (some ⟨b, o, none⟩))) (hk : isAddr os x = true)
    (hz : 0 < (c.T t).sz) (hl : (c.T t).sz ≤ (rowAt os x).length) : ∃ v, RepV (rdF X os g w) os g w (loadV0 (c.T t) (rowAt os x)) v ∧
      ∀ w', w'.heap[b]? = w.heap[b]? → (Instr.loadAt t (.pointer (some ⟨b, o, none⟩))).run P w' = .ok v w' := by
  obtain ⟨i, d, z, h1, h2, _, h4, h5, _, _, _, _⟩ := (hP.ty t hz).ex
  have hrow := Rep_row h hx hk
  have hcell : ∀ k, k < (c.T t).sz → ∃ v, w.cell? ⟨b, o + k, none⟩ = some v := fun k hk' => by
    obtain ⟨v, hv, _⟩ := hrow k _ (List.getElem?_eq_getElem (show k < (rowAt os x).length by omega)); exact ⟨v, hv⟩
  by_cases hagg : (c.T t).agg = true
  · refine ⟨.agg (((List.range (c.T t).sz).map fun k => (w.cell? ⟨b, o + k, none⟩).getD undef).toArray), ?_, ?_⟩
    · simp only [loadV0, hagg, if_true]
      refine ⟨_, rfl, by simp; omega, fun k y hy => ?_⟩
      rw [List.getElem?_take] at hy
      split at hy
      · rename_i hk'
        obtain ⟨v, hv, hr⟩ := hrow k y hy
        refine ⟨v, ?_, hr⟩
        simp [hk', hv]
      · cases hy
    · intro w' hw
      have hg : (isAgg t).run P w' = .ok true w' := by
        rw [hagg] at h5
        cases d <;> simp at h5 <;> simp [isAgg, run_underlying h4]
      have hs : (sizeOf t).run P w' = .ok (c.T t).sz w' := by simp [sizeOf, typeInfo, h1, h2]
      have hld := run_loadCells (P := P) w' ⟨b, o, none⟩ (c.T t).sz (fun k => (w.cell? ⟨b, o + k, none⟩).getD undef) (fun k hk' => by
        obtain ⟨v, hv⟩ := hcell k hk'
        rw [addr_add, cell_heap hw, hv]; rfl)
      simp [Instr.loadAt, Instr.sureAddr, loadVar, hg, hs, hld]
  · have hagg' : (c.T t).agg = false := by simpa using hagg
    obtain ⟨v, hv, hr⟩ := hrow 0 _ (List.getElem?_eq_getElem (show 0 < (rowAt os x).length by omega))
    refine ⟨v, ?_, ?_⟩
    · simp only [loadV0, hagg', Bool.false_eq_true, if_false]
      rw [headD_get _ _ (show 0 < (rowAt os x).length by omega)]
      exact hr.toV
    · intro w' hw
      have hg : (isAgg t).run P w' = .ok false w' := by
        rw [hagg'] at h5
        cases d <;> simp at h5 <;> simp [isAgg, run_underlying h4]
      have hc : w'.cell? ⟨b, o, none⟩ = some v := by rw [cell_heap hw]; simpa using hv
      simp [Instr.loadAt, Instr.sureAddr, loadVar, hg, hc]

end
end Go.AM
end
section
/- Quiet operations do in memory what the abstract machine does: all of them together. Conditions: none. -/
namespace Go.AM
open Go

theorem foldl_set (off : Nat) : ∀ (l : List Value) (n : Nat) (cs : Array Value), off + n + l.length ≤ cs.size →
    ((l.zipIdx n).foldl (fun (cs : Array Value) (p : Value × Nat) => cs.setIfInBounds (off + p.2) p.1) cs).toList = cs.toList.take (off + n) ++ l ++ cs.toList.drop (off + n + l.length)
  | [], n, cs, _ => by simp
  | v :: r, n, cs, h => by
    simp only [List.length_cons] at h
    simp only [List.zipIdx_cons, List.foldl_cons]
    rw [foldl_set off r (n + 1) (cs.setIfInBounds (off + n) v) (by simp; omega)]
    have := list_seg_step cs.toList (off + n) v r (by simp; omega)
    simp only [Array.toList_setIfInBounds]
    rw [show off + (n + 1) = off + n + 1 by omega, this]
    simp

section
variable {P : Program} {c : Cx} {X : Ctx} {os : List AO} {g : Nat → List Nat} {w : World} {rd : Nat → Nat → Option Value}

/-- Cells that say what they should. -/
def RepL (rd : Nat → Nat → Option Value) (os : List AO) (g : Nat → List Nat) (w : World) (cs : List AV) (vs : List Value) : Prop :=
  vs.length = cs.length ∧ ∀ (i : Nat) y, cs[i]? = some y → ∃ u, vs[i]? = some u ∧ RepC rd os g w y u

theorem RepL.splice {cs ds : List AV} {vs us : List Value} (h : RepL rd os g w cs vs) (k : RepL rd os g w ds us) (off : Nat) (hl : off + ds.length ≤ cs.length) :
    RepL rd os g w (cs.take off ++ ds ++ cs.drop (off + ds.length)) (vs.take off ++ us ++ vs.drop (off + us.length)) := by
  obtain ⟨h1, h2⟩ := h
  obtain ⟨k1, k2⟩ := k
  refine ⟨by simp; omega, fun i y hy => ?_⟩
  simp only [List.getElem?_append, List.getElem?_take, List.length_take, List.length_append, List.getElem?_drop] at hy ⊢
  rw [k1, h1]
  have hm : min off cs.length = off := by omega
  simp only [hm] at hy ⊢
  by_cases a : i < off + ds.length
  · rw [if_pos a] at hy ⊢
    by_cases b : i < off
    · rw [if_pos b] at hy ⊢; rw [if_pos b] at hy ⊢; exact h2 _ _ hy
    · rw [if_neg b] at hy ⊢; exact k2 _ _ hy
  · rw [if_neg a] at hy ⊢; exact h2 _ _ hy

theorem allP_mem {α : Type} {p : α → Prop} : ∀ {l : List α}, allP p l → ∀ x ∈ l, p x
  | _ :: _, h, _, .head _ => h.1
  | _ :: _, h, _, .tail _ hm => allP_mem h.2 _ hm

theorem recOk_one {y : AV} {u : Value} (h : recOk os y) (hr : RepC rd os g w y u) : u.oneCell' = true := by
  unfold recOk at h
  split at h
  · rename_i v; have : u = v := hr; rw [this]; exact h
  · exact RepP.one hr
  · rename_i L off n
    split at h
    · rename_i ow s xs hL
      simp only [RepC, hL] at hr
      obtain ⟨_, _, _, ⟨_, _, rfl, _⟩ | ⟨_, a, rfl⟩⟩ := hr <;> rfl
    · exact h.elim
  · rename_i L k
    split at h
    · rename_i cs hL
      simp only [RepC, hL] at hr
      obtain ⟨b, _, rfl⟩ := hr; rfl
    · exact h.elim
  · exact h.elim

theorem frzOk_one {y : AV} {u : Value} (h : frzOk os y) (hr : RepC rd os g w y u) : u.oneCell' = true := by
  unfold frzOk at h
  split at h
  · rename_i v; have : u = v := hr; rw [this]; exact h
  · exact RepP.one hr
  · rename_i L off n
    split at h
    · rename_i ow s xs hL
      simp only [RepC, hL] at hr
      obtain ⟨_, _, _, ⟨_, _, rfl, _⟩ | ⟨_, a, rfl⟩⟩ := hr <;> rfl
    · exact h.elim
  · exact h.elim

/-- A value's cells. -/
theorem RepA.cells {x : AV} {v : Value} (h : RepA rd os g w x v) (hc : ∀ y ∈ cellsOf x, ∀ u, RepC rd os g w y u → u.oneCell' = true) : RepL rd os g w (cellsOf x) v.cells.toList := by
  have one : ∀ y, cellsOf x = [y] → RepC rd os g w y v → RepL rd os g w (cellsOf x) v.cells.toList := by
    intro y hy hr
    have h1 := hc y (by rw [hy]; simp) v hr
    have hv : v.cells = #[v] := by cases v <;> first | rfl | (simp [Value.oneCell'] at h1)
    rw [hv, hy]
    refine ⟨rfl, fun i z hz => ?_⟩
    cases i with
    | zero => simp at hz; subst hz; exact ⟨v, by simp, hr⟩
    | succ i => simp at hz
  cases x with
  | agg cs =>
    obtain ⟨vs, rfl, h1, h2⟩ := h
    exact ⟨by simp [Value.cells, cellsOf, h1], fun i y hy => by simpa [Value.cells] using h2 i y hy⟩
  | tup cs => exact h.elim
  | opt b x => exact h.elim
  | sc u => exact one _ rfl h
  | fz s xs => exact one _ rfl h
  | fp s xs i k => exact one _ rfl h
  | sl L o n => exact one _ rfl h
  | pa L o n => exact one _ rfl h
  | pt L o => exact one _ rfl h
  | clo n ps => exact one _ rfl h
  | own s xs => exact one _ rfl h
  | junk => exact one _ rfl h

theorem RepV.toA {x : AV} {v : Value} (h : RepV rd os g w x v) (hc : allP (recOk os) (cellsOf x)) : RepA rd os g w x v := by
  cases x <;> first | exact h | exact False.elim hc.1

theorem RepV.toA' {x : AV} {v : Value} (h : RepV rd os g w x v) (hc : allP (frzOk os) (cellsOf x)) : RepA rd os g w x v := by
  cases x <;> first | exact h | exact False.elim hc.1

theorem fill_ok {place : Nat → Option (Nat × Nat)} : ∀ (ps : List (Nat × AV)) (pv : List (Nat × Value)) (cs : List AV) (vs : Array Value) (out : List AV),
    ps.length = pv.length → (∀ (i : Nat) p, ps[i]? = some p → ∃ q, pv[i]? = some q ∧ q.1 = p.1 ∧ RepL rd os g w (cellsOf p.2) q.2.cells.toList) →
    RepL rd os g w cs vs.toList → fillA place cs ps = some out → ∃ us, Instr.fill place vs pv = some us ∧ RepL rd os g w out us.toList
  | [], [], cs, vs, out, _, _, h, e => by
    simp only [fillA, Option.some.injEq] at e; subst e; exact ⟨vs, rfl, h⟩
  | [], _ :: _, _, _, _, hl, _, _, _ => by simp at hl
  | _ :: _, [], _, _, _, hl, _, _, _ => by simp at hl
  | (i, x) :: ps, (i', v) :: pv, cs, vs, out, hl, hp, h, e => by
    obtain ⟨q, hq, e1, hx⟩ := hp 0 (i, x) rfl
    simp only [List.getElem?_cons_zero, Option.some.injEq] at hq
    subst hq
    simp only at e1 hx
    subst e1
    simp only [fillA] at e
    cases hpl : place i' with
    | none => simp [hpl] at e
    | some os' =>
      obtain ⟨off, size⟩ := os'
      simp only [hpl] at e
      split at e
      · cases e
      · rename_i hcond
        simp only [not_or, Decidable.not_not, Nat.not_lt, gt_iff_lt] at hcond
        obtain ⟨c1, c2⟩ := hcond
        have hsz : v.cells.size = size := by have := hx.1; simp at this; omega
        have hvs : vs.size = cs.length := by have := h.1; simpa using this
        have hf := foldl_set off v.cells.toList 0 vs (by simp [hsz, hvs]; omega)
        have hz : (v.cells.zipIdx.foldl (fun cs (c, j) => cs.setIfInBounds (off + j) c) vs).toList = vs.toList.take off ++ v.cells.toList ++ vs.toList.drop (off + v.cells.toList.length) := by
          rw [← Array.foldl_toList]
          simpa using hf
        have hr := RepL.splice h hx off (by rw [c1]; omega)
        rw [c1] at hr
        obtain ⟨us, hu, hru⟩ := fill_ok ps pv _ (v.cells.zipIdx.foldl (fun cs (c, j) => cs.setIfInBounds (off + j) c) vs) out (by simpa using hl) (fun j p hj => hp (j + 1) p (by simpa using hj)) (by rw [hz]; exact hr) e
        refine ⟨us, ?_, hru⟩
        simp only [Instr.fill, hpl]
        rw [if_neg (by simp [hsz]; omega)]
        exact hu


section
variable {P : Program} {c : Cx} {X : Ctx} {os : List AO} {g : Nat → List Nat} {w : World}
/-- Elements, and the values that stand for them one cell behind the other. -/
def RepE (rd : Nat → Nat → Option Value) (s : Nat) (xs : List (List AV)) (vs : List Value) : Prop :=
  vs.length = xs.length * s ∧ (∀ x ∈ xs, x.length = s) ∧ ∀ (i k : Nat) x y, xs[i]? = some x → x[k]? = some y → ∃ v, vs[i * s + k]? = some v ∧ RepP rd y v

theorem RepE.mono {rd rd' : Nat → Nat → Option Value} (hm : ∀ b o v, rd b o = some v → rd' b o = some v) {s : Nat} {xs : List (List AV)} {vs : List Value} (h : RepE rd s xs vs) : RepE rd' s xs vs :=
  ⟨h.1, h.2.1, fun i k x y hx hy => let ⟨v, hv, hr⟩ := h.2.2 i k x y hx hy; ⟨v, hv, hr.mono hm⟩⟩

theorem RepE.app {rd : Nat → Nat → Option Value} {s : Nat} {xs ys : List (List AV)} {vs us : List Value} (h : RepE rd s xs vs) (k : RepE rd s ys us) : RepE rd s (xs ++ ys) (vs ++ us) := by
  refine ⟨by simp [h.1, k.1, Nat.add_mul], fun x hx => ?_, fun i j x y hx hy => ?_⟩
  · rcases List.mem_append.1 hx with hx | hx
    · exact h.2.1 x hx
    · exact k.2.1 x hx
  · rw [List.getElem?_append] at hx ⊢
    split at hx
    · rename_i hi
      obtain ⟨v, hv, hr⟩ := h.2.2 i j x y hx hy
      rw [if_pos (by have := lt_of_get hv; omega)]
      exact ⟨v, hv, hr⟩
    · rename_i hi
      obtain ⟨v, hv, hr⟩ := k.2.2 _ j x y hx hy
      have hle : xs.length * s ≤ i * s := Nat.mul_le_mul_right s (by omega)
      rw [if_neg (by have := h.1; omega)]
      refine ⟨v, ?_, hr⟩
      rw [← hv, h.1, Nat.sub_mul]
      congr 1
      omega

theorem elems_of_cells {b o s : Nat} {xs : List (List AV)} (hs : ∀ x ∈ xs, x.length = s)
    (hc : ∀ (i k : Nat) x y, xs[i]? = some x → x[k]? = some y → ∃ v, w.cell? ⟨b, o + i * s + k, none⟩ = some v ∧ RepP rd y v) :
    ∃ vs, RepE rd s xs vs ∧ ∀ (j : Nat) u, vs[j]? = some u → w.cell? ⟨b, o + j, none⟩ = some u := by
  have hcell : ∀ i k, i < xs.length → k < s → ∃ x y v, xs[i]? = some x ∧ x[k]? = some y ∧ w.cell? ⟨b, o + i * s + k, none⟩ = some v ∧ RepP rd y v := by
    intro i k hi hk
    have h1 : xs[i]? = some xs[i] := List.getElem?_eq_getElem hi
    have h2 : (xs[i])[k]? = some ((xs[i])[k]'(by rw [hs _ (List.getElem_mem hi)]; exact hk)) := List.getElem?_eq_getElem _
    obtain ⟨v, hv, hr⟩ := hc i k _ _ h1 h2
    exact ⟨_, _, v, h1, h2, hv, hr⟩
  refine ⟨(List.range (xs.length * s)).map fun j => (w.cell? ⟨b, o + j, none⟩).getD undef, ⟨by simp, hs, fun i k x y hx hy => ?_⟩, fun j u hu => ?_⟩
  · obtain ⟨v, hv, hr⟩ := hc i k x y hx hy
    have hi := lt_of_get hx
    have hk : k < s := by have := lt_of_get hy; rw [hs x (List.mem_of_getElem? hx)] at this; exact this
    have hlt : i * s + k < xs.length * s := by
      have := Nat.mul_le_mul_right s (show i + 1 ≤ xs.length from hi)
      rw [Nat.add_mul] at this
      omega
    refine ⟨v, ?_, hr⟩
    rw [List.getElem?_map, List.getElem?_range hlt]
    simp only [Option.map_some, ← Nat.add_assoc, hv, Option.getD_some]
  · have hlt : j < xs.length * s := by have := lt_of_get hu; simpa using this
    rw [List.getElem?_map, List.getElem?_range hlt] at hu
    simp only [Option.map_some, Option.some.injEq] at hu
    have hs0 : 0 < s := by
      rcases Nat.eq_zero_or_pos s with e | e
      · subst e; simp at hlt
      · exact e
    obtain ⟨x, y, v, _, _, hv, _⟩ := hcell (j / s) (j % s) ((Nat.div_lt_iff_lt_mul hs0).2 hlt) (Nat.mod_lt _ hs0)
    have hj : o + j / s * s + j % s = o + j := by rw [Nat.add_assoc, Nat.div_add_mod']
    rw [hj] at hv
    rw [hv] at hu ⊢
    simpa using hu

/-- The values behind a slice. -/
theorem Rep_elems (h : SRel X os g w) {x : AV} {v : Value} (hx : RepV (rdF X os g w) os g w x v) (hk : lenOk os x) (hns : ∀ s, x ≠ .sc (.string s)) (hnn : ∀ L off n s xs op, x = .sl L off n → os[L]? ≠ some (.nst s xs op)) :
    ∃ a cap vs, v = .slice a (lenA x) cap ∧ lenA x ≤ cap ∧ (elems os x).length = lenA x ∧ ((elems os x = [] ∧ vs = []) ∨ RepE (rdF X os g w) (esz os x) (elems os x) vs) ∧
      (vs = [] ∨ ∃ b o, a = some ⟨b, o, none⟩ ∧ ∀ (j : Nat) u, vs[j]? = some u → w.cell? ⟨b, o + j, none⟩ = some u) := by
  unfold lenOk at hk
  split at hk
  · rename_i s xs
    rcases RepP.row hx with ⟨rfl, a, cc, rfl⟩ | ⟨b, o, cc, rfl, hc, hr⟩
    · exact ⟨a, cc, [], rfl, Nat.zero_le _, rfl, .inl ⟨rfl, rfl⟩, .inl rfl⟩
    · obtain ⟨vs, h1, h2⟩ := elems_of_cells (w := w) hr.1 fun i k x y hx hy => by
        obtain ⟨v, hv, hr2⟩ := hr.2 i k x y hx hy
        rw [rdF_some] at hv
        exact ⟨v, hv.2.2, hr2⟩
      exact ⟨_, cc, vs, rfl, hc, rfl, .inr h1, .inr ⟨b, o, rfl, h2⟩⟩
  · rename_i L off n
    split at hk
    · rename_i ow s xs hL
      have hx : RepC (rdF X os g w) os g w (.sl L off n) v := hx
      simp only [RepC, hL] at hx
      obtain ⟨cap, hc, hn, hv⟩ := hx
      have hlen : (elems os (.sl L off n)).length = n := by simp only [elems, hL]; simp; omega
      rcases hv with ⟨b1, hb1, rfl, hr⟩ | ⟨rfl, a, rfl⟩
      · have ho := h.obj L
        rw [hL] at ho
        have hcells : ∀ (i k : Nat) x y, ((xs.drop off).take n)[i]? = some x → x[k]? = some y → ∃ v, w.cell? ⟨b1, off * s + i * s + k, none⟩ = some v ∧ RepP (rdF X os g w) y v := by
          intro i k x y hxi hy
          rw [List.getElem?_take] at hxi
          split at hxi
          · rw [List.getElem?_drop] at hxi
            cases ow with
            | true =>
              obtain ⟨_, ⟨h0, h1⟩ | ⟨b2, h0, _, cc, t, h1, _, _, h3⟩⟩ := ho
              · rw [h0] at hb1; cases hb1
              obtain rfl : b2 = b1 := by rw [h0] at hb1; simpa using hb1
              obtain ⟨v, hv, hr⟩ := h3 _ _ _ _ hxi hy
              refine ⟨v, ?_, hr⟩
              rw [cell_of_row w b2 _ cc t (0, 0) h1, ← Nat.add_mul]; exact hv
            | false =>
              obtain ⟨v, hv, hr⟩ := (ho b1 hb1).2 _ _ _ _ hxi hy
              rw [rdF_some] at hv
              refine ⟨v, ?_, hr⟩
              rw [← hv.2.2, Nat.zero_add, ← Nat.add_mul]
          · cases hxi
        have hsz : ∀ x ∈ (xs.drop off).take n, x.length = s := by
          intro x hx
          have hm := List.mem_of_mem_drop (List.mem_of_mem_take hx)
          cases ow with
          | true =>
            obtain ⟨_, ⟨h0, h1⟩ | ⟨b2, h0, _, cc, t, h1, _, h2, h3⟩⟩ := ho
            · rw [h0] at hb1; cases hb1
            exact h2 x hm
          | false => exact (ho b1 hb1).1 x hm
        obtain ⟨vs, h1, h2⟩ := elems_of_cells (w := w) hsz hcells
        exact ⟨_, cap, vs, rfl, hc, hlen, .inr (by simp only [esz, elems, hL]; exact h1), .inr ⟨b1, off * s, rfl, h2⟩⟩
      · have : n = 0 := by omega
        subst this
        exact ⟨a, 0, [], rfl, Nat.le_refl _, hlen, .inl ⟨by simp [elems, hL], rfl⟩, .inl rfl⟩
    · rename_i s xs op hL; exact absurd hL (hnn _ _ _ _ _ _ rfl)
    · exact hk.elim
  · exact absurd rfl (hns _)
  · have : v = .slice none 0 0 := hx
    exact ⟨none, 0, [], this, Nat.le_refl _, rfl, .inl ⟨rfl, rfl⟩, .inl rfl⟩
  · exact hk.elim

end

theorem bstr_foldl (ns : List Int) : ns.foldl (fun r n => r.push (UInt8.ofNat n.toNat)) ByteArray.empty = bstr ns := by
  have key : ∀ (ns : List Int) (r : ByteArray), ns.foldl (fun r n => r.push (UInt8.ofNat n.toNat)) r = ⟨r.data ++ (ns.map fun n => UInt8.ofNat n.toNat).toArray⟩ := by
    intro ns
    induction ns with
    | nil => intro r; simp
    | cons n ns ih => intro r; rw [List.foldl_cons, ih]; simp [ByteArray.push]
  rw [key]; simp [bstr, ByteArray.empty, ByteArray.emptyWithCapacity]; rfl

/-- A slice of bytes, made a text. -/
theorem Rep_text (hP : PrOk P c) (hso : SRel X os g w) {s d : TypeId} {x : AV} {v : Value} (hx : RepV (rdF X os g w) os g w x v) (hs : 0 < (c.T s).sz) (hd : 0 < (c.T d).sz) (hns : ∀ s, x ≠ .sc (.string s))
    (k1 : isSlK (c.T s).kind) (k2 : (c.T d).kind = .str) (k3 : 0 < (c.T (elemOf c s)).sz) (k4 : (c.T (elemOf c s)).kind = .int .u8) (k5 : lenOk os x) (k6 : elems os x = [] ∨ esz os x = 1) (k7 : allP byteRow (elems os x)) :
    ∀ w', (∀ b, (∃ o l cp, v = .slice (some ⟨b, o, none⟩) l cp) → w'.heap[b]? = w.heap[b]?) → (convert s d v).run P w' = .ok (.string (strOf (elems os x))) w' := by
  intro w' hw
  obtain ⟨a, cap, vs, rfl, hcap, hlen, he, hc⟩ := Rep_elems hso hx k5 hns (fun L off n s xs op e hL => by subst e; simp [elems, hL, allP, byteRow] at k7)
  obtain ⟨_, ds, _, _, _, _, h4, _, _, _, q8, _⟩ := (hP.ty s hs).ex
  obtain ⟨_, dd, _, _, _, _, r4, _, _, _, r8, _⟩ := (hP.ty d hd).ex
  obtain ⟨_, de, _, _, _, _, t4, _, _, _, t8, _⟩ := (hP.ty _ k3).ex
  rw [k2] at r8
  obtain rfl : dd = .string := r8
  rw [k4] at t8
  obtain rfl : de = .int .u8 := t8
  cases hk : (c.T s).kind with
  | slice e =>
    rw [hk] at q8
    have hee : elemOf c s = e := by simp only [elemOf, hk]
    rw [hee] at t4
    obtain rfl : ds = .slice e := by first | exact q8 | exact q8.1
    rw [run_convert_bytes_string w' s d e a (lenA x) cap h4 t4 r4]
    have hvals : vs = ((elems os x).map hdA).map (Value.int .u8) := by
      rcases he with ⟨e1, e2⟩ | he
      · rw [e1, e2]; rfl
      · obtain ⟨l1, l2, l3⟩ := he
        refine List.ext_getElem? fun i => ?_
        rcases k6 with k6 | k6
        · rw [k6] at l1 ⊢; simp at l1; rw [l1]; rfl
        · rw [k6] at l1 l3
          rw [List.getElem?_map, List.getElem?_map]
          cases hi : (elems os x)[i]? with
          | none =>
            have : (elems os x).length ≤ i := by simpa using hi
            simp only [Option.map_none]
            rw [List.getElem?_eq_none_iff]; omega
          | some y =>
            have hb := allP_mem k7 y (List.mem_of_getElem? hi)
            unfold byteRow at hb
            split at hb
            · rename_i n
              obtain ⟨u, hu, hr⟩ := l3 i 0 _ _ hi rfl
              rw [Nat.mul_one, Nat.add_zero] at hu
              rw [hu]
              cases hr; rfl
            · exact hb.elim
    cases a with
    | none =>
      have h0 : elems os x = [] := by
        rcases hc with hc | ⟨b, o, hc, _⟩
        · rw [hc] at hvals
          simpa using hvals.symm
        · cases hc
      rw [h0]; rfl
    | some a =>
      have hll : lenA x = (elems os x).length := hlen.symm
      rw [run_bytesToString w' a (lenA x) cap ((elems os x).map hdA), bstr_foldl]
      · rfl
      · rw [← hvals]
        have hvl : lenA x = vs.length := by rw [hvals, hll]; simp
        rw [hvl]
        refine run_loadCells_list w' a vs fun j u hu => ?_
        rcases hc with hc | ⟨b, o, hc, hcell⟩
        · rw [hc] at hu; cases hu
        · obtain rfl : a = ⟨b, o, none⟩ := by simpa using hc
          have := hcell j u hu
          rw [addr_add]
          unfold World.cell? at this ⊢
          simp only at this ⊢
          rw [hw b ⟨o, _, _, rfl⟩]
          exact this
  | _ => rw [hk] at k1; exact k1.elim

/-- Which block a quiet operation reads. -/
def RdBlk (r : Operand → Value) : Op → Nat → Prop
  | .load _ a, b => ∃ o, r a = .pointer (some ⟨b, o, none⟩)
  | .convert _ _ x, b => ∃ o l cp, r x = .slice (some ⟨b, o, none⟩) l cp
  | _, _ => False

theorem Rep_cut {x : AV} {t : TypeId} {v : Value} {vlo vhi vmx : Option Value} {l h : Int} (hP : PrOk P c) (hx : RepV rd os g w x v)
    (hk : cutTy c os t x)
    (ht : 0 < (c.T t).sz) (hlo : (vlo = none ∧ l = 0) ∨ ∃ k, vlo = some (.int k l)) (hhi : (vhi = none ∧ h = lenA x) ∨ ∃ k, vhi = some (.int k h)) (hmx : vmx = none ∨ (vlo = none ∧ (∃ k, vmx = some (.int k h)) ∧ (∃ k, vhi = some (.int k h)) ∧ ∀ s, x ≠ .sc (.string s))) (h0 : 0 ≤ l) (h1 : l ≤ h) (h2 : h ≤ lenA x) :
    ∃ u, RepV rd os g w (cutA x l h) u ∧ ∀ w', (Instr.sliceAt t v vlo vhi vmx).run P w' = .ok u w' := by
  obtain ⟨i, d, z, i1, _, _, i4, _, _, _, i8, _⟩ := (hP.ty t ht).ex
  by_cases hs : ∃ s, x = .sc (.string s)
  · obtain ⟨s, rfl⟩ := hs
    obtain rfl : vmx = none := by
      rcases hmx with e | ⟨_, _, _, e⟩
      · exact e
      · exact absurd rfl (e s)
    obtain rfl : v = .string s := hx
    simp only [cutTy] at hk
    rw [hk] at i8
    obtain rfl : d = .string := i8
    simp only [lenA] at h2 hhi
    refine ⟨.string (s.extract l.toNat h.toNat), rfl, fun w' => ?_⟩
    have hh : 0 ≤ h := by omega
    rcases hlo with ⟨rfl, rfl⟩ | ⟨k, rfl⟩
    · rcases hhi with ⟨rfl, rfl⟩ | ⟨k', rfl⟩
      · simp [Instr.sliceAt, Instr.slice, run_underlying i4, Instr.sliceBounds]
      · simp [Instr.sliceAt, Instr.slice, run_underlying i4, Instr.sliceBounds, Instr.sliceBound, asIntOf, hh, h2]
    · rcases hhi with ⟨rfl, rfl⟩ | ⟨k', rfl⟩
      · simp [Instr.sliceAt, Instr.slice, run_underlying i4, Instr.sliceBounds, Instr.sliceBound, asIntOf, h0, h1]
      · simp [Instr.sliceAt, Instr.slice, run_underlying i4, Instr.sliceBounds, Instr.sliceBound, asIntOf, h0, h2, hh, show l ≤ max h 0 by omega]
  · have hk' : isSliceT c t ∧ 0 < (c.T (elemOf c t)).sz ∧ (esz os x = (c.T (elemOf c t)).sz ∨ x = .sc (.slice none 0 0)) ∧ lenOk os x := by
      unfold cutTy at hk
      split at hk
      · exact absurd ⟨_, rfl⟩ hs
      · exact ⟨hk.1, hk.2, .inr rfl, trivial⟩
      · exact ⟨hk.1, hk.2.1, .inl hk.2.2.1, hk.2.2.2⟩
    obtain ⟨k1, kz, k2, k3⟩ := hk'
    obtain ⟨e, he⟩ : ∃ e, (c.T t).kind = .slice e := by
      unfold isSliceT at k1; split at k1
      · exact ⟨_, by assumption⟩
      · exact k1.elim
    rw [he] at i8
    obtain rfl : d = .slice e := i8
    have hel : elemOf c t = e := by simp [elemOf, he]
    rw [hel] at k2 kz
    obtain ⟨j, _, _, j1, j2, _⟩ := (hP.ty e kz).ex
    obtain ⟨a, cap, rfl, hcap⟩ := hx.slice k3 (fun s e => hs ⟨s, e⟩)
    have hsz : ∀ w', (sizeOf e).run P w' = .ok (c.T e).sz w' := fun w' => by simp [sizeOf, typeInfo, j1, j2]
    obtain ⟨cap2, hc1, hc2, hrun⟩ : ∃ cap2, h.toNat ≤ cap2 ∧ cap2 ≤ cap ∧ ∀ w', (Instr.sliceAt t (.slice a (lenA x) cap) vlo vhi vmx).run P w' = .ok (.slice (if cap2 = l.toNat then a else a.map (·.add (l.toNat * (c.T e).sz))) (h.toNat - l.toNat) (cap2 - l.toNat)) w' := by
      rcases hmx with rfl | ⟨rfl, ⟨k, rfl⟩, ⟨k', rfl⟩, _⟩
      · refine ⟨cap, by omega, Nat.le_refl _, fun w' => ?_⟩
        rcases hlo with ⟨rfl, rfl⟩ | ⟨k, rfl⟩ <;> rcases hhi with ⟨rfl, rfl⟩ | ⟨k', rfl⟩
        · simp [Instr.sliceAt, Instr.slice, run_underlying i4, Instr.sliceBounds, hsz]
        · simp [Instr.sliceAt, Instr.slice, run_underlying i4, Instr.sliceBounds, Instr.sliceBound, asIntOf, hsz, show 0 ≤ h by omega, show h ≤ (cap : Int) by omega]
        · simp [Instr.sliceAt, Instr.slice, run_underlying i4, Instr.sliceBounds, Instr.sliceBound, asIntOf, hsz, h0, show l ≤ ((lenA x : Nat) : Int) by omega]
        · simp [Instr.sliceAt, Instr.slice, run_underlying i4, Instr.sliceBounds, Instr.sliceBound, asIntOf, hsz, h0, show l ≤ max h 0 by omega, show 0 ≤ h by omega, show h ≤ (cap : Int) by omega]
      · obtain rfl : l = 0 := by
          rcases hlo with ⟨_, e⟩ | ⟨k, e⟩
          · exact e
          · cases e
        refine ⟨h.toNat, Nat.le_refl _, by omega, fun w' => ?_⟩
        simp [Instr.sliceAt, Instr.slice, run_underlying i4, Instr.sliceBounds, Instr.sliceBound, asIntOf, hsz, show 0 ≤ h by omega, show h ≤ (cap : Int) by omega, show h ≤ max h 0 by omega]
    refine ⟨_, ?_, hrun⟩
    unfold lenOk at k3
    split at k3
    · rename_i s xs
      rcases RepP.row hx with ⟨rfl, a', cc, e2⟩ | ⟨b, o, cc, e2, hc, hr⟩
      · have : l = 0 := by simp [lenA] at h2; omega
        have : h = 0 := by simp [lenA] at h2; omega
        subst this; subst this
        simp only [cutA, List.take_nil, List.drop_nil]
        exact RepP.nil
      · simp only [lenA] at h2 hcap
        by_cases he0 : (xs.take h.toNat).drop l.toNat = []
        · have hz : h.toNat - l.toNat = 0 := by
            have := congrArg List.length he0
            simp only [List.length_drop, List.length_take, List.length_nil] at this
            omega
          simp only [cutA, he0, hz]
          exact RepP.nil
        · have hlt : l.toNat < h.toNat := by
            rcases Nat.lt_or_ge l.toNat h.toNat with h' | h'
            · exact h'
            · exfalso; apply he0; apply List.eq_nil_of_length_eq_zero; simp; omega
          simp only [Value.slice.injEq] at e2
          obtain ⟨rfl, _, rfl⟩ := e2
          simp only [cutA]
          rw [if_neg (by omega)]
          simp only [Option.map_some, addr_add]
          have hp := hr.part l.toNat h.toNat
          have hlen : ((xs.take h.toNat).drop l.toNat).length = h.toNat - l.toNat := by simp; omega
          have hes : (c.T e).sz = s := by
            rcases k2 with k2 | k2
            · rw [← k2]; rfl
            · cases k2
          rw [hes, ← hlen]
          exact RepP.of_row hp (by rw [hlen]; omega)
    · rename_i L off n
      split at k3
      · rename_i ow s xs hL
        have hx : RepC rd os g w (.sl L off n) _ := hx
        simp only [RepC, hL] at hx
        have hes : (c.T e).sz = s := by
          rcases k2 with k2 | k2
          · rw [← k2]; simp [esz, hL]
          · cases k2
        show RepC rd os g w (.sl L (off + l.toNat) (h.toNat - l.toNat)) _
        simp only [RepC, hL]
        simp only [lenA] at h2 hcap hx
        obtain ⟨cap', hc, hn, ⟨b1, hb1, e2, hr⟩ | ⟨hz, a', e2⟩⟩ := hx
        · simp only [Value.slice.injEq] at e2
          obtain ⟨rfl, _, rfl⟩ := e2
          by_cases hcl : cap2 = l.toNat
          · refine ⟨0, by omega, by omega, .inr ⟨rfl, some ⟨b1, off * s, none⟩, ?_⟩⟩
            rw [if_pos hcl, show h.toNat - l.toNat = 0 by omega, show cap2 - l.toNat = 0 by omega]
          · rw [if_neg hcl]
            refine ⟨cap2 - l.toNat, by omega, by omega, .inl ⟨b1, hb1, ?_, ?_⟩⟩
            · simp only [Option.map_some, addr_add, hes]; congr 3; rw [Nat.add_mul]
            · have : off + l.toNat + (cap2 - l.toNat) = off + cap2 := by omega
              rw [this]; exact Nat.le_trans (Nat.mul_le_mul_right _ (by omega)) hr
        · simp only [Value.slice.injEq] at e2
          obtain ⟨rfl, _, rfl⟩ := e2
          refine ⟨0, by omega, by omega, .inr ⟨rfl, if cap2 = l.toNat then a else a.map (·.add (l.toNat * (c.T e).sz)), ?_⟩⟩
          rw [show h.toNat - l.toNat = 0 by omega, show cap2 - l.toNat = 0 by omega]
      · rename_i s xs op hL
        have hx : RepC rd os g w (.sl L off n) _ := hx
        simp only [RepC, hL] at hx
        have hes : (c.T e).sz = s := by
          rcases k2 with k2 | k2
          · rw [← k2]; simp [esz, hL]
          · cases k2
        show RepC rd os g w (.sl L (off + l.toNat) (h.toNat - l.toNat)) _
        simp only [RepC, hL]
        simp only [lenA] at h2 hcap hx
        obtain ⟨cap', hc, hn, ⟨b1, hb1, e2, hr⟩ | ⟨hz, a', e2⟩⟩ := hx
        · simp only [Value.slice.injEq] at e2
          obtain ⟨rfl, _, rfl⟩ := e2
          by_cases hcl : cap2 = l.toNat
          · refine ⟨0, by omega, by omega, .inr ⟨rfl, some ⟨b1, off * s, none⟩, ?_⟩⟩
            rw [if_pos hcl, show h.toNat - l.toNat = 0 by omega, show cap2 - l.toNat = 0 by omega]
          · rw [if_neg hcl]
            refine ⟨cap2 - l.toNat, by omega, by omega, .inl ⟨b1, hb1, ?_, ?_⟩⟩
            · simp only [Option.map_some, addr_add, hes]; congr 3; rw [Nat.add_mul]
            · have : off + l.toNat + (cap2 - l.toNat) = off + cap2 := by omega
              rw [this]; exact Nat.le_trans (Nat.mul_le_mul_right _ (by omega)) hr
        · simp only [Value.slice.injEq] at e2
          obtain ⟨rfl, _, rfl⟩ := e2
          refine ⟨0, by omega, by omega, .inr ⟨rfl, if cap2 = l.toNat then a else a.map (·.add (l.toNat * (c.T e).sz)), ?_⟩⟩
          rw [show h.toNat - l.toNat = 0 by omega, show cap2 - l.toNat = 0 by omega]
      · exact k3.elim
    · exact absurd ⟨_, rfl⟩ hs
    · have hx : Value.slice a 0 cap = .slice none 0 0 := hx
      simp only [Value.slice.injEq] at hx
      obtain ⟨rfl, _, rfl⟩ := hx
      simp only [lenA] at h2
      have h2 : h ≤ 0 := h2
      obtain rfl : l = 0 := by omega
      obtain rfl : h = 0 := by omega
      obtain rfl : cap2 = 0 := by omega
      rfl
    · exact k3.elim

theorem fieldAt_ok (hP : PrOk P c) {t f : Nat} (ht : 0 < (c.T t).sz) (hf : 0 < (fieldOff (c.T t) f).2) (b o : Nat) (w' : World) :
    (Instr.fieldAt t (.pointer (some ⟨b, o, none⟩)) f).run P w' = .ok (.pointer (some ⟨b, o + (fieldOff (c.T t) f).1, none⟩)) w' := by
  obtain ⟨i, d, z, i1, _, _, i4, _, _, _, i8, _⟩ := (hP.ty t ht).ex
  unfold fieldOff at hf ⊢
  split at hf
  · rename_i fs hk
    rw [hk] at i8
    obtain ⟨fields, rfl, hfs⟩ := i8
    cases hfd : fs[f]? with
    | none => simp [hfd] at hf
    | some p =>
      obtain ⟨off, sz⟩ := p
      simp only [List.getD, hfd, Option.getD_some] at hf ⊢
      have hlen := mapM_some_length hfs
      obtain ⟨fd, hfd2⟩ : ∃ fd, fields.toList[f]? = some fd := ⟨_, List.getElem?_eq_getElem (by have := lt_of_get hfd; omega)⟩
      have hg := mapM_some_get hfs f fd hfd2
      rw [hfd] at hg
      cases h3 : P.info? fd.type with
      | none => simp [h3] at hg
      | some fi =>
        simp only [h3, Option.map_some, Option.some.injEq, Prod.mk.injEq] at hg
        obtain ⟨h2, h4⟩ := hg
        have h1 : fields[f]? = some fd := by simpa using hfd2
        have hne : ¬ fi.size = 0 := by omega
        simp [Instr.fieldAt, run_underlying i4, h1, Instr.sureAddr, fieldPlace, sizeOf, typeInfo, h3, hne, addr_add, h2, hfd]
  · simp at hf

theorem indexAt_ok (hP : PrOk P c) {t : Nat} (ht : 0 < (c.T t).sz) (hs : isSliceT c t) (he : 0 < (c.T (elemOf c t)).sz) (k : IntKind) (i : Int) (b o len cap : Nat) (h0 : 0 ≤ i) (h1 : i < len) (w' : World) :
    (Instr.indexAt t (.slice (some ⟨b, o, none⟩) len cap) (.int k i)).run P w' = .ok (.pointer (some ⟨b, o + i.toNat * (c.T (elemOf c t)).sz, none⟩)) w' := by
  obtain ⟨_, d, z, i1, _, _, i4, _, _, _, i8, _⟩ := (hP.ty t ht).ex
  obtain ⟨e, hk⟩ : ∃ e, (c.T t).kind = .slice e := by
    unfold isSliceT at hs; split at hs
    · exact ⟨_, by assumption⟩
    · exact hs.elim
  rw [hk] at i8
  obtain rfl : d = .slice e := i8
  have hel : elemOf c t = e := by simp [elemOf, hk]
  rw [hel] at he ⊢
  obtain ⟨j, _, _, j1, j2, _⟩ := (hP.ty e he).ex
  simp [Instr.indexAt, asIntOf, run_underlying i4, h0, h1, sizeOf, typeInfo, j1, j2, addr_add]

theorem optVal {r : Operand → Value} {rA : Operand → AV} {d : Int} : ∀ (x : Option Operand), (∀ y, x = some y → RepV rd os g w (rA y) (r y)) → numOk (x.map rA) →
    ((x.map r) = none ∧ (match x with | some y => numA (rA y) | none => d) = d) ∨ ∃ k, x.map r = some (.int k (match x with | some y => numA (rA y) | none => d))
  | none, _, _ => .inl ⟨rfl, rfl⟩
  | some y, h, hn => by
    obtain ⟨k, hk⟩ := (h y rfl).num hn
    exact .inr ⟨k, by simp [hk]⟩

theorem fold_go {P : Program} {f : Int → Int → Int} {m2 : Value → Value → Sem Value} (hm : ∀ k x y (w : World), ∀ k', (m2 (.int k x) (.int k' y)).run P w = .ok (.int k (f x y)) w) {rd : Nat → Nat → Option Value} {rA : Operand → AV} {r : Operand → Value} : ∀ (l : List Operand) (k : IntKind) (a : Int),
    allP (fun x => isNum (rA x)) l → (∀ x ∈ l, RepV rd os g w (rA x) (r x)) → ∀ (w' : World), ((l.map r).foldlM m2 (.int k a)).run P w' = .ok (.int k (l.foldl (fun m y => f m (numA (rA y))) a)) w'
  | [], k, a, _, _, w' => by simp
  | y :: l, k, a, h1, h2, w' => by
    obtain ⟨k', hk'⟩ := (h2 y (by simp)).num h1.1
    simp only [List.map_cons, List.foldlM_cons, List.foldl_cons, Sem.run_bind, hk', hm, Result.andThen_ok]
    exact fold_go hm l k _ h1.2 (fun x hx => h2 x (by simp [hx])) w'

theorem fold_ok {rd : Nat → Nat → Option Value} {rA : Operand → AV} {r : Operand → Value} {f : Int → Int → Int} {m2 : Value → Value → Sem Value} (e0 : Sem Value) (hm : ∀ {P : Program} (k : IntKind) (x y : Int) (w : World), ∀ k', (m2 (.int k x) (.int k' y)).run P w = .ok (.int k (f x y)) w) (l : List Operand) (h1 : l ≠ [])
    (h2 : allP (fun x => isNum (rA x)) l) (h3 : ∀ x ∈ l, RepV rd os g w (rA x) (r x)) :
    ∃ v, RepV rd os g w (foldA f rA l) v ∧ ∀ (P : Program) (w' : World), (match l.map r with | [] => e0 | x :: rest => rest.foldlM m2 x : Sem Value).run P w' = .ok v w' := by
  cases l with
  | nil => exact absurd rfl h1
  | cons x l =>
    have hx := h3 x (by simp)
    obtain ⟨k, hk⟩ := hx.num h2.1
    have hkk : kN (rA x) = k := by
      have h4 : isNum (rA x) := h2.1
      cases hr : rA x with
      | sc v =>
        cases v with
        | int k2 n => rw [hr] at hx; have e : r x = .int k2 n := hx; rw [hk] at e; injection e with e1 _; exact e1.symm
        | _ => rw [hr] at h4; exact h4.elim
      | _ => rw [hr] at h4; exact h4.elim
    refine ⟨.int k (l.foldl (fun m y => f m (numA (rA y))) (numA (rA x))), ?_, fun P w' => ?_⟩
    · simp only [foldA, hkk]; rfl
    · simp only [List.map_cons, hk]
      exact fold_go hm l k _ h2.2 (fun y hy => h3 y (by simp [hy])) w'

/-- A quiet operation does in memory what it does here, in every world in which the block that it reads is as it is here. -/
theorem pure_ok (hP : PrOk P c) (hso : SRel X os g w) (o : Oper) (rA : Operand → AV) (r : Operand → Value)
    (hr : ∀ x ∈ o.op.operands, RepV (rdF X os g w) os g w (rA x) (r x)) (hp : isPure o.op = true) (hk : pureOk c os rA o.op) :
    ∃ v, RepV (rdF X os g w) os g w (pureA c os rA o.op) v ∧ ∀ w', (∀ b, RdBlk r o.op b → w'.heap[b]? = w.heap[b]?) → (execOp r o).run P w' = .ok (.value v) w' := by
  obtain ⟨dst, op, ty, pos, af, gd⟩ := o
  simp only at hr hp hk ⊢
  cases op <;> simp only [isPure] at hp <;> try cases hp
  case move x => exact ⟨r x, hr x (by simp [Op.operands]), fun w' _ => by simp [execOp]⟩
  case assign x => exact ⟨r x, hr x (by simp [Op.operands]), fun w' _ => by simp [execOp]⟩
  case pick a x y =>
    obtain ⟨t, h1, h2⟩ := selA_ok (hr a (by simp [Op.operands])) (hr x (by simp [Op.operands])) (hr y (by simp [Op.operands])) hk
    exact ⟨_, h2, fun w' _ => by simp [execOp, h1, asBool]⟩
  case build t ps =>
    obtain ⟨hz, hbl, hrec, hfill⟩ := hk
    obtain ⟨i, d, z, i1, i2, i3, i4, i5, i6, i7, i8, i9, _⟩ := (hP.ty t hz).ex
    cases hf : fillA (partsOf c t) (c.T t).zero (ps.toList.map fun p => (p.1, rA p.2)) with
    | none => rw [hf] at hfill; simp at hfill
    | some out =>
      have hzero : RepL (rdF X os g w) os g w (c.T t).zero z.cells.toList := by
        rw [← i7]
        refine ⟨by simp, fun k y hy => ?_⟩
        rw [List.getElem?_map] at hy
        cases hzk : z.cells.toList[k]? with
        | none => rw [hzk] at hy; simp at hy
        | some u => rw [hzk] at hy; simp at hy; subst hy; exact ⟨u, rfl, rfl⟩
      have hparts : ∀ (k : Nat) p, (ps.toList.map fun p => (p.1, rA p.2))[k]? = some p → ∃ q, (ps.toList.map fun p => (p.1, r p.2))[k]? = some q ∧ q.1 = p.1 ∧ RepL (rdF X os g w) os g w (cellsOf p.2) q.2.cells.toList := by
        intro k p hp2
        rw [List.getElem?_map] at hp2
        cases hpk : ps.toList[k]? with
        | none => rw [hpk] at hp2; simp at hp2
        | some u =>
          rw [hpk] at hp2; simp at hp2; subst hp2
          have hm : u ∈ ps.toList := List.mem_of_getElem? hpk
          have hu := allP_mem hrec u hm
          refine ⟨(u.1, r u.2), by rw [List.getElem?_map, hpk]; rfl, rfl, ?_⟩
          have hv := hr u.2 (by simp only [Op.operands]; exact List.mem_toArray.2 (List.mem_map.2 ⟨u, hm, rfl⟩))
          exact (hv.toA hu).cells fun y hy u2 h2 => recOk_one (allP_mem hu y hy) h2
      obtain ⟨us, hus, hru⟩ := fill_ok _ _ _ z.cells out (by simp) hparts hzero hf
      refine ⟨.agg us, ?_, fun w' _ => ?_⟩
      · simp only [pureA, hf]
        exact ⟨us, rfl, by have := hru.1; simpa using this, fun k y hy => by simpa using hru.2 k y hy⟩
      · have hb : P.built t (ps.map fun p => (p.1, r p.2)).toList = some us := by
          have e1 : (ps.map fun p => (p.1, r p.2)).toList = ps.toList.map fun p => (p.1, r p.2) := by simp
          rw [e1]
          unfold partsOf at hus
          cases hkd : (c.T t).kind with
          | struct fs =>
            rw [hkd] at i8 hus
            obtain ⟨fields, rfl, hfs⟩ := i8
            simp only [Program.built, i1, i4, i6, hfs]
            simpa using hus
          | array n e =>
            rw [hkd] at i8 hus
            obtain ⟨rfl, ie, j1, j2⟩ := i8
            simp only [Program.built, i1, i4, i6, j1, j2]
            exact hus
          | _ => rw [hkd] at hbl; exact hbl.elim
        simp only [execOp, Sem.run_bind, run_build w' t _ us hb, Result.andThen_ok, Sem.run_pure]
  case load t a =>
    obtain ⟨h1, h2, h3⟩ := hk
    have hv := hr a (by simp [Op.operands])
    obtain ⟨b, o, e⟩ := Rep_addr hv h1
    rw [e] at hv
    have hzl : (c.T t).zero.length = (c.T t).sz := by
      obtain ⟨i, d, z, _, q2, _, _, _, _, q7, _, _, _, q11⟩ := (hP.ty t h2).ex
      rw [← q7, List.length_map, Array.length_toList, q11, q2]
    obtain ⟨h6, h3⟩ := loadV_eq hzl h2 h3
    simp only [pureA, h6]
    obtain ⟨v, h4, h5⟩ := Rep_load hP hso hv h1 h2 h3
    exact ⟨v, h4, fun w' hw => by simp [execOp, e, h5 w' (hw b ⟨o, e⟩)]⟩
  case nilCheck x =>
    have hv := hr x (by simp [Op.operands])
    obtain ⟨b, o, e⟩ := Rep_addr hv hk
    exact ⟨r x, hv, fun w' _ => by simp [execOp, e]⟩
  case binOp op t x y t' =>
    have hx := hr x (by simp [Op.operands])
    have hy := hr y (by simp [Op.operands])
    obtain ⟨v, h1, h2⟩ := binA_ok hP x y hx hy hk
    exact ⟨v, h1, fun w' _ => by have h3 := h2 w'; simp only [execOp, Sem.run_bind, Sem.run_pure] at h3 ⊢; rw [h3]; rfl⟩
  case unOp op t x =>
    obtain ⟨v, h1, h2⟩ := Rep_unA (P := P) (hr x (by simp [Op.operands])) hk
    exact ⟨v, h1, fun w' _ => by simp [execOp, h2]⟩
  case convert s d x =>
    obtain ⟨h1, h2, h3⟩ := hk
    have hx := hr x (by simp [Op.operands])
    unfold convOk at h3
    split at h3
    · rename_i k n ex
      rw [ex] at hx
      obtain ⟨v, h4, h5⟩ := Rep_convA hP hx h1 h2 h3
      exact ⟨v, by simp only [pureA, ex]; exact h4, fun w' _ => by simp [execOp, h5]⟩
    · rename_i s' ex
      rw [ex] at hx
      obtain ⟨v, h4, h5⟩ := Rep_convA hP hx h1 h2 h3
      exact ⟨v, by simp only [pureA, ex]; exact h4, fun w' _ => by simp [execOp, h5]⟩
    · rename_i n1 n2
      obtain ⟨k1, k2, k3, k4, k5, k6, k7⟩ := h3
      have hcv : convA os (c.T s).kind (c.T d).kind (rA x) = .sc (.string (strOf (elems os (rA x)))) := by
        rw [k2]
        cases hxx : rA x with
        | sc u => cases u <;> first | rfl | exact absurd hxx (n1 _ _) | exact absurd hxx (n2 _)
        | _ => rfl
      refine ⟨.string (strOf (elems os (rA x))), by simp only [pureA, hcv]; rfl, fun w' hw => ?_⟩
      have := Rep_text hP hso hx h1 h2 n2 k1 k2 k3 k4 k5 k6 k7 w' fun b hb => hw b hb
      simp [execOp, this]
  case slice t x lo hi mx =>
    obtain ⟨h1, h2, h3, h4, h5, h6, h7, h8⟩ := hk
    have hlo : ∀ y, lo = some y → RepV (rdF X os g w) os g w (rA y) (r y) := fun y e => hr y (by subst e; simp [Op.operands])
    have hhi : ∀ y, hi = some y → RepV (rdF X os g w) os g w (rA y) (r y) := fun y e => hr y (by subst e; simp [Op.operands])
    have hmx : mx.map r = none ∨ (lo.map r = none ∧ (∃ k, mx.map r = some (.int k (hiOf rA (rA x) hi))) ∧ (∃ k, hi.map r = some (.int k (hiOf rA (rA x) hi))) ∧ ∀ s, rA x ≠ .sc (.string s)) := by
      cases hm : mx with
      | none => exact .inl rfl
      | some m =>
        rw [hm] at h5
        obtain ⟨rfl, ⟨q, rfl, n1, n2, e⟩, hs⟩ := h5
        obtain ⟨k1, e1⟩ := (hr m (by subst hm; simp [Op.operands])).num n1
        obtain ⟨k2, e2⟩ := (hhi q rfl).num n2
        exact .inr ⟨rfl, ⟨k1, by simp [e1, hiOf, e]⟩, ⟨k2, by simp [e2, hiOf]⟩, hs⟩
    obtain ⟨u, h9, h10⟩ := Rep_cut (t := t) (vlo := lo.map r) (vhi := hi.map r) (vmx := mx.map r) (l := loOf rA lo) (h := hiOf rA (rA x) hi) hP (hr x (by simp [Op.operands])) h2 h1
      (by cases lo with
        | none => exact .inl ⟨rfl, rfl⟩
        | some y => obtain ⟨k, hk⟩ := (hlo y rfl).num h3; exact .inr ⟨k, by simp [hk, loOf]⟩)
      (by cases hi with
        | none => exact .inl ⟨rfl, rfl⟩
        | some y => obtain ⟨k, hk⟩ := (hhi y rfl).num h4; exact .inr ⟨k, by simp [hk, hiOf]⟩) hmx h6 h7 h8
    exact ⟨u, h9, fun w' _ => by simp [execOp, h10]⟩
  case fieldAddr s x f =>
    obtain ⟨h0, h1, h2⟩ := hk
    have hv := hr x (by simp [Op.operands])
    obtain ⟨b, o, e⟩ := Rep_addr hv h1
    rw [e] at hv
    exact ⟨_, Rep_add hv h1 _, fun w' _ => by simp [execOp, e, fieldAt_ok hP h0 h2]⟩
  case indexAddr t x i =>
    obtain ⟨h0, h1, h2, h3, h4, h5, h6, h7⟩ := hk
    obtain ⟨k, hi⟩ := (hr i (by simp [Op.operands])).num h5
    have hns : ∀ s, rA x ≠ .sc (.string s) := fun s e => by rw [e] at h3; simp only [esz] at h3; omega
    obtain ⟨b, o, cap, e, h8⟩ := Rep_idx (hr x (by simp [Op.operands])) h4 h6 h7 hns
    refine ⟨_, h8, fun w' _ => ?_⟩
    rw [h3]
    simp [execOp, e, hi, indexAt_ok hP h0 h2 h1 k _ b o _ cap h6 h7]
  case index t x i =>
    cases hx : rA x with
    | sc v =>
      simp only [pureOk, hx] at hk
      split at hk
      · rename_i s e
        cases e
        obtain ⟨h1, h2, h3, h4, h5⟩ := hk
        have hv := hr x (by simp [Op.operands])
        rw [hx] at hv
        have hv : r x = .string s := hv
        obtain ⟨k, hi⟩ := (hr i (by simp [Op.operands])).num h3
        obtain ⟨_, d, _, i1, _, _, i4, _, _, _, i8, _⟩ := (hP.ty t h1).ex
        rw [h2] at i8
        obtain rfl : d = .string := i8
        refine ⟨strAt s (numA (rA i)), by simp only [pureA, hx]; rfl, fun w' _ => ?_⟩
        have hlt : (numA (rA i)).toNat < s.size := by omega
        have hg : s[(numA (rA i)).toNat]? = some (s[(numA (rA i)).toNat]) := by simp [hlt]
        have hg2 : s.data.toList.getD (numA (rA i)).toNat 0 = s[(numA (rA i)).toNat] := by
          rw [List.getD, List.getElem?_eq_getElem (by simpa using hlt)]
          rfl
        simp only [strAt, hg2]
        simp [execOp, hv, hi, Instr.index, asIntOf, run_underlying i4, h4, hlt]
      · exact hk.elim
    | _ => simp only [pureOk, hx] at hk
  case extract t i =>
    cases hx : rA t with
    | tup vs =>
      simp only [pureOk, hx] at hk
      have hv := hr t (by simp [Op.operands])
      rw [hx] at hv
      obtain ⟨us, e, h1, h2⟩ := hv
      obtain ⟨u, h3, h4⟩ := h2 i _ (List.getElem?_eq_getElem hk)
      refine ⟨u, ?_, fun w' _ => by simp [execOp, e, Instr.extract, h3]⟩
      simp only [pureA, hx, List.getD, List.getElem?_eq_getElem hk, Option.getD_some]
      exact h4.toV
    | _ => simp only [pureOk, hx] at hk
  case makeFunc fn fi cs =>
    cases fn <;> try (simp [isPure] at hp; done)
    rename_i n
    obtain ⟨h0, h1, h2⟩ := hk
    have hfi : fi = #[] := by rw [← Array.toArray_toList (xs := fi), h0]
    subst hfi
    have key : ∀ (l : List Operand), (ptsOf (l.map rA)).isSome = true → allP (fun x => isAddr os x = true) (l.map rA) → (∀ x ∈ l, RepV (rdF X os g w) os g w (rA x) (r x)) → ∃ ps, ptsOf (l.map rA) = some ps ∧ RepPts os g ps (l.map r) := by
      intro l
      induction l with
      | nil => intro _ _ _; exact ⟨[], rfl, trivial⟩
      | cons x l ih =>
        intro a1 a2 a3
        simp only [List.map_cons] at a1 a2 ⊢
        cases hx : rA x with
        | pt L k =>
          rw [hx] at a1 a2
          simp only [ptsOf] at a1 ⊢
          cases hq : ptsOf (l.map rA) with
          | none => rw [hq] at a1; simp at a1
          | some q =>
            obtain ⟨ps, b1, b2⟩ := ih (by rw [hq]; rfl) a2.2 (fun y hy => a3 y (by simp [hy]))
            rw [hq] at b1
            cases b1
            have hv := a3 x (by simp)
            rw [hx] at hv
            exact ⟨_, rfl, hv, b2⟩
        | _ => rw [hx] at a1; simp [ptsOf] at a1
    obtain ⟨ps, e1, e2⟩ := key cs.toList h1 h2 (fun x hx => hr x (by simp only [Op.operands, Array.empty_append]; exact Array.mem_toList_iff.1 hx))
    refine ⟨.func (.func n) #[] (cs.map r), ?_, fun w' _ => ?_⟩
    · simp only [pureA, cloA, e1]
      exact ⟨cs.map r, rfl, by simpa using e2⟩
    · simp [execOp, Instr.makeFunc]
  case field t x f =>
    cases hx : rA x with
    | agg cs =>
      simp only [pureOk, hx, fldOk] at hk
      obtain ⟨k1, k2, k3, k4, k5⟩ := hk
      have hv := hr x (by simp [Op.operands])
      rw [hx] at hv
      obtain ⟨vs, ev, hvl, hvs⟩ := hv
      obtain ⟨_, d, _, i1, _, _, i4, _, _, _, i8, _⟩ := (hP.ty t k1).ex
      obtain ⟨fields, i4', hft⟩ := (hP.ty t k1).ft (by intro h0; rw [h0] at k2; simp at k2)
      rw [i4] at i4'
      obtain rfl : d = .struct fields := by injection i4'
      have hfl : f < fields.size := by rw [← hft] at k2; simpa using k2
      have hfty : (c.T t).ftys.getD f 0 = fields[f].type := by rw [← hft]; simp [List.getD, hfl]
      obtain ⟨fs, hkd⟩ : ∃ fs, (c.T t).kind = .struct fs := by
        unfold isStructK at k3; split at k3
        · exact ⟨_, by assumption⟩
        · exact k3.elim
      rw [hkd] at i8
      obtain ⟨fields', e1, hm⟩ := i8
      obtain rfl : fields = fields' := by injection e1
      have hoff : (fieldOff (c.T t) f).1 = fields[f].offset := by
        unfold fieldOff
        rw [hkd]
        have hfd2 : fields.toList[f]? = some fields[f] := by simp [hfl]
        have hg := mapM_some_get hm f _ hfd2
        cases h3 : P.info? fields[f].type with
        | none => rw [h3] at hg; have hlen := mapM_some_length hm; simp at hg; simp at hlen; omega
        | some fi =>
          simp only [h3, Option.map_some] at hg
          have hg2 : fs[f]? = some (fields[f].offset, fi.size) := by first | exact hg | exact hg.symm
          simp only [List.getD, hg2, Option.getD_some]
      rw [hfty] at k4 k5
      rw [hoff] at k5
      obtain ⟨j, dj, _, j1, j2, _, j4, j5, _, _, _, _⟩ := (hP.ty _ k4).ex
      have hs : ∀ w', (sizeOf fields[f].type).run P w' = .ok (c.T fields[f].type).sz w' := fun w' => by simp [sizeOf, typeInfo, j1, j2]
      by_cases hagg : (c.T fields[f].type).agg = true
      · have hg : ∀ w', (isAgg fields[f].type).run P w' = .ok true w' := by
          intro w'
          rw [hagg] at j5
          cases dj <;> simp at j5 <;> simp [isAgg, run_underlying j4]
        refine ⟨.agg (vs.extract fields[f].offset (fields[f].offset + (c.T fields[f].type).sz)), ?_, fun w' _ => ?_⟩
        · simp only [pureA, hx, fldA, hfty, hoff, partA, hagg, if_true]
          refine ⟨_, rfl, by simp; omega, fun i y hy => ?_⟩
          rw [List.getElem?_take] at hy
          split at hy
          · rw [List.getElem?_drop] at hy
            obtain ⟨u, hu, hru⟩ := hvs _ y hy
            refine ⟨u, ?_, hru⟩
            rw [Array.getElem?_extract, if_pos (by omega)]; exact hu
          · cases hy
        · simp [execOp, Instr.field, run_underlying i4, hfl, ev, asAgg, part, hg, hs]
      · have hagg' : (c.T fields[f].type).agg = false := by simpa using hagg
        have hg : ∀ w', (isAgg fields[f].type).run P w' = .ok false w' := by
          intro w'
          rw [hagg'] at j5
          cases dj <;> simp at j5 <;> simp [isAgg, run_underlying j4]
        have hlt : fields[f].offset < cs.length := by omega
        obtain ⟨u, hu, hru⟩ := hvs fields[f].offset _ (List.getElem?_eq_getElem hlt)
        refine ⟨u, ?_, fun w' _ => ?_⟩
        · simp only [pureA, hx, fldA, hfty, hoff, partA, hagg']
          simp only [Bool.false_eq_true, if_false, List.getD, List.getElem?_eq_getElem hlt, Option.getD_some]
          exact RepC.toV hru
        · simp [execOp, Instr.field, run_underlying i4, hfl, ev, asAgg, part, hg, hu]
    | _ => simp only [pureOk, hx, fldOk] at hk
  case call cl =>
    obtain ⟨cal, args, tys⟩ := cl
    cases cal with
    | value f => simp [isPure] at hp
    | invoke f m => simp [isPure] at hp
    | builtin b =>
    cases b <;> try (simp [isPure] at hp; done)
    case max =>
      simp only [pureOk] at hk
      obtain ⟨h1, h2⟩ := hk
      obtain ⟨vv, hv1, hv2⟩ := fold_ok (rA := rA) (r := r) (f := mxI) (m2 := Builtin.max2) (Go.stuck "max: at least one argument expected") (fun k x y w => by intro k'; simp [Builtin.max2, mxI]) args.toList h1 h2 (fun x hx => hr x (by simp only [Op.operands, Call.operands, Array.mem_append]; exact .inr (Array.mem_toList_iff.1 hx)))
      refine ⟨vv, hv1, fun w' _ => ?_⟩
      simp only [execOp, resolve, invoke, builtin, Builtin.max_, Sem.run_bind, Sem.run_pure, Result.andThen_ok, Array.toList_map]
      exact (congrArg (fun z => z.andThen fun a w' => Result.ok (Next.value a) w') (hv2 P w')).trans rfl
    case min =>
      simp only [pureOk] at hk
      obtain ⟨h1, h2⟩ := hk
      obtain ⟨vv, hv1, hv2⟩ := fold_ok (rA := rA) (r := r) (f := mnI) (m2 := Builtin.min2) (Go.stuck "min: at least one argument expected") (fun k x y w => by intro k'; simp [Builtin.min2, mnI]) args.toList h1 h2 (fun x hx => hr x (by simp only [Op.operands, Call.operands, Array.mem_append]; exact .inr (Array.mem_toList_iff.1 hx)))
      refine ⟨vv, hv1, fun w' _ => ?_⟩
      simp only [execOp, resolve, invoke, builtin, Builtin.min_, Sem.run_bind, Sem.run_pure, Result.andThen_ok, Array.toList_map]
      exact (congrArg (fun z => z.andThen fun a w' => Result.ok (Next.value a) w') (hv2 P w')).trans rfl
    case cap =>
      simp only [pureOk] at hk
      split at hk
      · rename_i x t hx ht
        obtain ⟨k1, k2, k3⟩ := hk
        have hv := hr x (by simp only [Op.operands, Call.operands, Array.mem_append]; exact .inr (Array.mem_of_getElem? hx))
        rw [k3] at hv
        have hv : r x = .slice none 0 0 := hv
        obtain ⟨_, d, _, i1, _, _, i4, _, _, _, i8, _⟩ := (hP.ty t k1).ex
        obtain ⟨el, he⟩ : ∃ e, (c.T t).kind = .slice e := by
          unfold isSliceT at k2; split at k2
          · exact ⟨_, by assumption⟩
          · exact k2.elim
        rw [he] at i8
        obtain rfl : d = .slice el := i8
        exact ⟨.int .i64 0, rfl, fun w' _ => by simp [execOp, resolve, invoke, builtin, Builtin.cap_, hx, ht, hv, run_underlying i4, goInt]⟩
      · exact hk.elim
    simp only [pureOk] at hk
    split at hk
    · rename_i x t hx ht
      obtain ⟨k1, k2, k3⟩ := hk
      have hm : x ∈ (Op.call ⟨.builtin .len, args, tys⟩).operands := by
        simp only [Op.operands, Call.operands, Array.mem_append]; exact .inr (Array.mem_of_getElem? hx)
      have hv := hr x hm
      obtain ⟨_, d, _, i1, _, _, i4, _, _, _, i8, _⟩ := (hP.ty t k1).ex
      refine ⟨.int .i64 (lenA (rA x)), by simp only [pureA, hx]; rfl, fun w' _ => ?_⟩
      have hmap : (args.map r)[0]? = some (r x) := by simp [hx]
      by_cases hs : ∃ s, rA x = .sc (.string s)
      · obtain ⟨s, e⟩ := hs
        rw [e] at hv k3
        have hv : r x = .string s := hv
        simp only [lenTy] at k3
        rw [k3] at i8
        obtain rfl : d = .string := i8
        simp [execOp, resolve, invoke, builtin, Builtin.len_, hx, ht, hv, run_underlying i4, e, lenA, goInt]
      · obtain ⟨a, cap, e, _⟩ := hv.slice k2 (fun s e => hs ⟨s, e⟩)
        have k3' : isSliceT c t := by
          unfold lenTy at k3
          split at k3
          · rename_i s e2; exact absurd ⟨s, e2⟩ hs
          · exact k3
        obtain ⟨el, he⟩ : ∃ e, (c.T t).kind = .slice e := by
          unfold isSliceT at k3'; split at k3'
          · exact ⟨_, by assumption⟩
          · exact k3'.elim
        rw [he] at i8
        obtain rfl : d = .slice el := i8
        simp [execOp, resolve, invoke, builtin, Builtin.len_, hx, ht, e, run_underlying i4, goInt]
    · exact hk.elim
end
end Go.AM
end
section
/- What operations that make or write memory do: objects given up, made, written. Conditions: none. -/
namespace Go.AM
open Go

variable {P : Program} {c : Cx} {X : Ctx} {os : List AO} {g : Nat → List Nat} {w : World}

/-- The same objects, some of them given up. -/
def Un (os os' : List AO) : Prop := os'.length = os.length ∧ ∀ L : Nat, os'[L]? = os[L]? ∨ ∃ s xs, os[L]? = some (AO.arr true s xs) ∧ os'[L]? = some (AO.arr false s xs)

theorem Un.refl (os : List AO) : Un os os := ⟨rfl, fun _ => .inl rfl⟩

theorem Un.trans {a b d : List AO} (h : Un a b) (k : Un b d) : Un a d := by
  refine ⟨k.1.trans h.1, fun L => ?_⟩
  rcases h.2 L with h1 | ⟨s, xs, h1, h2⟩ <;> rcases k.2 L with k1 | ⟨s', xs', k1, k2⟩
  · exact .inl (k1.trans h1)
  · exact .inr ⟨s', xs', by rw [← h1]; exact k1, k2⟩
  · exact .inr ⟨s, xs, h1, by rw [k1]; exact h2⟩
  · rw [h2] at k1; cases k1

theorem Un.arr {os os' : List AO} (h : Un os os') {L : Nat} {b : Bool} {s : Nat} {xs : List (List AV)} (hL : os[L]? = some (.arr b s xs)) : ∃ b', os'[L]? = some (.arr b' s xs) := by
  rcases h.2 L with h1 | ⟨s', xs', h1, h2⟩
  · exact ⟨b, by rw [h1]; exact hL⟩
  · rw [hL] at h1; cases h1; exact ⟨false, h2⟩

theorem Un.own {os os' : List AO} (h : Un os os') {L : Nat} (hw : own os' L) : own os L := by
  unfold AM.own at hw ⊢
  rcases h.2 L with h1 | ⟨s', xs', h1, h2⟩
  · rw [h1] at hw; exact hw
  · rw [h2] at hw; exact hw.elim

theorem unown_ok (h : SRel X os g w) (x : AV) : SRel X (unown os x) g w ∧ Step X os g w (unown os x) g w ∧ Un os (unown os x) ∧ (∀ L o n, x = .sl L o n → frzOk os x → ∃ s xs, (unown os x)[L]? = some (.arr false s xs)) := by
  unfold unown
  split
  · rename_i L o n
    split
    · rename_i b s xs hL
      cases b with
      | true =>
        obtain ⟨h1, h2⟩ := h.unown1 hL
        refine ⟨h1, h2, ⟨by simp, fun M => ?_⟩, fun L' o' n' e _ => ?_⟩
        · by_cases e : L = M
          · subst e; exact .inr ⟨s, xs, hL, set_same hL⟩
          · exact .inl (set_other e)
        · cases e; exact ⟨s, xs, set_same hL⟩
      | false =>
        have e : os.set L (.arr false s xs) = os := by
          apply List.ext_getElem?
          intro M
          by_cases e : L = M
          · subst e; rw [set_same hL, hL]
          · rw [set_other e]
        rw [e]
        refine ⟨h, Step.refl _ _ _ _, Un.refl _, fun L' o' n' e _ => ?_⟩
        cases e; exact ⟨s, xs, hL⟩
    · rename_i hn
      refine ⟨h, Step.refl _ _ _ _, Un.refl _, fun L' o' n' e hf => ?_⟩
      cases e
      simp only [frzOk] at hf
  · rename_i hn
    exact ⟨h, Step.refl _ _ _ _, Un.refl _, fun L' o' n' e _ => absurd e (hn L' o' n')⟩

theorem frz_un {os os' : List AO} (h : Un os os') (x : AV) (hf : frzOk os x) : frz os' x = frz os x ∧ frzOk os' x := by
  cases x <;> try exact ⟨rfl, hf⟩
  rename_i L o n
  simp only [frzOk] at hf
  split at hf
  · rename_i b s xs hL
    obtain ⟨b', hL'⟩ := h.arr hL
    exact ⟨by simp only [frz, esz, elems, hL, hL'], by simp only [frzOk, hL']⟩
  · exact hf.elim

theorem unownAll_ok : ∀ (vs : List AV) {os : List AO}, SRel X os g w → allP (frzOk os) vs → SRel X (unownAll os vs) g w ∧ Step X os g w (unownAll os vs) g w ∧ Un os (unownAll os vs) ∧
    (∀ L o n, AV.sl L o n ∈ vs → ∃ s xs, (unownAll os vs)[L]? = some (.arr false s xs))
  | [], os, h, _ => ⟨h, Step.refl _ _ _ _, Un.refl _, fun _ _ _ hm => by cases hm⟩
  | x :: r, os, h, hf => by
    obtain ⟨h1, h2, h3, h4⟩ := unown_ok h x
    have hr : allP (frzOk (unown os x)) r := by
      have := hf.2
      clear h1 h2 h4 hf
      induction r with
      | nil => trivial
      | cons y r ih => exact ⟨(frz_un h3 y this.1).2, ih this.2⟩
    obtain ⟨k1, k2, k3, k4⟩ := unownAll_ok r h1 hr
    refine ⟨k1, h2.trans k2, h3.trans k3, fun L o n hm => ?_⟩
    cases hm with
    | head _ =>
      obtain ⟨s, xs, e⟩ := h4 L o n rfl hf.1
      rcases k3.2 L with k5 | ⟨s', xs', k5, k6⟩
      · exact ⟨s, xs, by simp only [unownAll]; rw [k5]; exact e⟩
      · rw [e] at k5; cases k5
    | tail _ hm => exact k4 L o n hm

/-- A value that is given up reads as it did for good. -/
theorem frz_ok (h : SRel X os g w) {x : AV} {v : Value} (hf : frzOk os x) (hu : ∀ L o n, x = .sl L o n → ∃ s xs, os[L]? = some (.arr false s xs)) (hr : RepC (rdF X os g w) os g w x v) : RepP (rdF X os g w) (frz os x) v := by
  unfold frzOk at hf
  split at hf
  · rename_i u; have : v = u := hr; subst this; exact .sc hf
  · exact hr
  · rename_i L off n
    obtain ⟨s, xs, hL⟩ := hu L off n rfl
    simp only [RepC, hL] at hr
    obtain ⟨cap, hc, hn, hv⟩ := hr
    have ho := h.obj L
    rw [hL] at ho
    simp only [frz, esz, elems, hL]
    have hlen : ((xs.drop off).take n).length = n := by simp; omega
    rcases hv with ⟨b1, hb1, rfl, hr⟩ | ⟨rfl, a, rfl⟩
    · have hp := Row.part (ho b1 hb1) off (off + n)
      have e : (xs.take (off + n)).drop off = (xs.drop off).take n := by rw [List.drop_take]; congr 1; omega
      rw [e, Nat.zero_add] at hp
      have := RepP.of_row hp (c := cap) (by omega)
      rw [hlen] at this
      exact this
    · have : n = 0 := by omega
      subst this
      exact .nil
  · exact hf.elim

/-- Cells of ours. -/
theorem SRel.pushRc (h : SRel X os g w) {cs : List AV} {vs : List Value} (hr : RepL (rdF X os g w) os g w cs vs) (t : TypeId) :
    SRel X (os ++ [.rc cs]) (updG g os.length [w.heap.size]) (w.alloc (.cells vs.toArray t)) ∧ Step X os g w (os ++ [.rc cs]) (updG g os.length [w.heap.size]) (w.alloc (.cells vs.toArray t)) := by
  refine h.push [w.heap.size] (.rc cs) rfl rfl rfl (by simp) (fun k hk => heap_alloc_old w _ hk) (fun _ => by simp) (fun _ k hk => by simp at hk; omega) fun hrd st => ?_
  rw [show os.length = os.length from rfl]
  refine ⟨_, updG_same _ _ _, .inr h.size, vs.toArray, t, ?_, by simp [hr.1], fun k y hy => ?_⟩
  · exact heap_alloc_new w _
  · obtain ⟨u, hu, hu2⟩ := hr.2 k y hy
    exact ⟨u, by simpa using hu, st.repC hu2⟩

/-- A row of ours. -/
theorem SRel.pushArr (h : SRel X os g w) {s : Nat} {xs : List (List AV)} {vs : Array Value} (hs : 0 < s) (hl : ∀ x ∈ xs, x.length = s) (hn : xs.length * s ≤ vs.size)
    (hr : ∀ (i k : Nat) x y, xs[i]? = some x → x[k]? = some y → ∃ v, vs[i * s + k]? = some v ∧ RepP (rdF X os g w) y v) (t : TypeId) {w0 : World} (hw0 : w0.heap = w.heap) (e1 : w0.os = w.os) (e2 : w0.tape = w.tape) (e3 : w0.output = w.output) :
    SRel X (os ++ [.arr true s xs]) (updG g os.length [w.heap.size]) (w0.alloc (.cells vs t)) ∧ Step X os g w (os ++ [.arr true s xs]) (updG g os.length [w.heap.size]) (w0.alloc (.cells vs t)) := by
  have hsz : w0.heap.size = w.heap.size := by rw [hw0]
  refine h.push [w.heap.size] (.arr true s xs) e1 e2 e3 (by simp [hsz]) (fun k hk => by rw [heap_alloc_old w0 _ (by omega), hw0]) (fun _ => by simp [hsz]) (fun _ k hk => by simp at hk; omega) fun hrd st => ?_
  refine ⟨hs, .inr ⟨_, updG_same _ _ _, .inr h.size, vs, t, ?_, hn, hl, fun i k x y hx hy => ?_⟩⟩
  · rw [← hsz]; exact heap_alloc_new w0 _
  · obtain ⟨u, hu, hu2⟩ := hr i k x y hx hy
    exact ⟨u, hu, hu2.mono hrd⟩

theorem setCells_len {cs vs : List AV} {k : Nat} (h : k + vs.length ≤ cs.length) : (setCells cs k vs).length = cs.length := by
  simp [setCells]; omega

/-- Cells of a record are written. -/
theorem SRel.storeRc (h : SRel X os g w) (hX : X.Ok) {L k b1 : Nat} {cs ds : List AV} {us : List Value} (hb1 : (g L).head? = some b1) (hL : os[L]? = some (.rc cs)) (hl : k + ds.length ≤ cs.length) (hr : RepL (rdF X os g w) os g w ds us) (hone : ∀ u ∈ us, u.oneCell' = true) :
    ∃ w', (storeCells ⟨b1, k, none⟩ us).run P w = .ok () w' ∧ SRel X (os.set L (.rc (setCells cs k ds))) g w' ∧ Step X os g w (os.set L (.rc (setCells cs k ds))) g w' ∧ ∀ b : Nat, b ≠ b1 → w'.heap[b]? = w.heap[b]? := by
  have ho := h.obj L
  rw [hL] at ho
  obtain ⟨b2, p0, p1, cur, t, p3, p4, p5⟩ := ho
  obtain rfl : b2 = b1 := by rw [p0] at hb1; simpa using hb1
  have hlen : us.length = ds.length := hr.1
  have hrun := run_storeCells_at P b2 k t us 0 cur w p3 (by omega) hone
  simp only [Nat.add_zero] at hrun
  have hst := h.write (by simp [p0]) p1 hX (o' := .rc (setCells cs k ds)) hL trivial trivial (cur.toList.take k ++ us ++ cur.toList.drop (k + us.length)).toArray cur t p3 (by simp; omega) (.inr ⟨_, _, rfl, rfl⟩) fun hrd st => by
    refine ⟨b2, p0, p1, _, t, setRow_heap w b2 cur _ t _ p3, by rw [setCells_len hl]; simp; omega, fun j y hy => ?_⟩
    have hrl : RepL (rdF X os g w) os g w cs (cur.toList.take cs.length) := ⟨by simp; omega, fun i y hy => by
      obtain ⟨v, hv, hv2⟩ := p5 i y hy
      refine ⟨v, ?_, hv2⟩
      rw [List.getElem?_take, if_pos (lt_of_get hy)]
      simpa using hv⟩
    obtain ⟨u, hu, hu2⟩ := (hrl.splice hr k hl).2 j y hy
    refine ⟨u, ?_, st.repC hu2⟩
    have hjl : j < cs.length := by have := lt_of_get hy; rw [setCells_len hl] at this; exact this
    simp only [List.getElem?_toArray]
    rw [← hu]
    simp only [List.getElem?_append, List.length_append, List.length_take, List.getElem?_take, List.getElem?_drop, List.length_drop, Array.length_toList]
    have a1 : min k cur.size = k := by omega
    have a2 : min k (min cs.length cur.size) = k := by omega
    simp only [a1, a2]
    by_cases b1 : j < k + us.length
    · simp only [if_pos b1]
      by_cases b2 : j < k
      · simp only [if_pos b2]; rw [if_pos (by omega)]
      · simp only [if_neg b2]
    · simp only [if_neg b1]
      rw [if_pos (by omega)]
  exact ⟨_, hrun, hst.1, hst.2, fun b hb => setRow_other w b2 b _ hb⟩

theorem row_apart {i j s k m : Nat} (h : i ≠ j) (hk : k < s) (hm : m < s) : i * s + k ≠ j * s + m := by
  intro e
  rcases Nat.lt_or_gt_of_ne h with h' | h'
  · have := Nat.mul_le_mul_right s (show i + 1 ≤ j from h')
    rw [Nat.add_mul] at this
    omega
  · have := Nat.mul_le_mul_right s (show j + 1 ≤ i from h')
    rw [Nat.add_mul] at this
    omega

/-- A splice, cell by cell. -/
theorem splice_get {α : Type} (a b : List α) (o j : Nat) (h : o + b.length ≤ a.length) : (a.take o ++ b ++ a.drop (o + b.length))[j]? = if o ≤ j ∧ j < o + b.length then b[j - o]? else a[j]? := by
  simp only [List.getElem?_append, List.length_append, List.length_take, List.getElem?_take, List.getElem?_drop]
  have hm : min o a.length = o := by omega
  simp only [hm]
  by_cases h1 : j < o + b.length
  · by_cases h2 : j < o
    · simp only [if_pos h1, if_pos h2]; rw [if_neg (by omega)]
    · simp only [if_pos h1, if_neg h2]; rw [if_pos (by omega)]
  · simp only [if_neg h1]; rw [if_neg (by omega)]; congr 1; omega

theorem SRel.storeArr (h : SRel X os g w) (hX : X.Ok) {L i k s b1 : Nat} {xs : List (List AV)} {x0 ds : List AV} {us : List Value} (hb1 : (g L).head? = some b1) (hL : os[L]? = some (.arr true s xs)) (hx0 : xs[i]? = some x0) (hl : k + ds.length ≤ x0.length)
    (hlen : us.length = ds.length) (hr : ∀ (j : Nat) y, ds[j]? = some y → ∃ u, us[j]? = some u ∧ RepP (rdF X os g w) y u) (hone : ∀ u ∈ us, u.oneCell' = true) :
    ∃ w', (storeCells ⟨b1, i * s + k, none⟩ us).run P w = .ok () w' ∧ SRel X (os.set L (.arr true s (xs.set i (setCells x0 k ds)))) g w' ∧ Step X os g w (os.set L (.arr true s (xs.set i (setCells x0 k ds)))) g w' ∧
      ∀ b : Nat, b ≠ b1 → w'.heap[b]? = w.heap[b]? := by
  have ho := h.obj L
  rw [hL] at ho
  obtain ⟨p2, ⟨p0, p1⟩ | ⟨b2, p0, p1, cur, t, p3, p4, p5, p6⟩⟩ := ho
  · rw [p0] at hb1; cases hb1
  obtain rfl : b2 = b1 := by rw [p0] at hb1; simpa using hb1
  have hil : i < xs.length := lt_of_get hx0
  have hx0l : x0.length = s := p5 x0 (List.mem_of_getElem? hx0)
  have hroom : i * s + s ≤ cur.size := by
    have := Nat.mul_le_mul_right s (show i + 1 ≤ xs.length from hil)
    rw [Nat.add_mul] at this
    omega
  have hrun := run_storeCells_at P b2 (i * s + k) t us 0 cur w p3 (by omega) hone
  simp only [Nat.add_zero] at hrun
  have hst := h.write (by simp [p0]) p1 hX (o' := .arr true s (xs.set i (setCells x0 k ds))) hL trivial trivial (cur.toList.take (i * s + k) ++ us ++ cur.toList.drop (i * s + k + us.length)).toArray cur t p3 (by simp; omega) (.inl ⟨_, _, rfl, rfl, rfl, by simp⟩) fun hrd st => by
    refine ⟨p2, .inr ⟨b2, p0, p1, _, t, setRow_heap w b2 cur _ t _ p3, by simp; omega, fun x hx => ?_, fun i' k' x y hx hy => ?_⟩⟩
    · rcases List.mem_or_eq_of_mem_set hx with hx | hx
      · exact p5 x hx
      · rw [hx, setCells_len hl, hx0l]
    · simp only [List.getElem?_toArray]
      rw [splice_get _ _ _ _ (by simp; omega)]
      by_cases e : i = i'
      · subst e
        rw [List.getElem?_set_self hil] at hx
        cases hx
        have hk' : k' < s := by have := lt_of_get hy; rw [setCells_len hl, hx0l] at this; exact this
        unfold setCells at hy
        rw [splice_get _ _ _ _ hl] at hy
        by_cases c1 : k ≤ k' ∧ k' < k + ds.length
        · rw [if_pos c1] at hy
          rw [if_pos (by omega)]
          obtain ⟨u, hu, hu2⟩ := hr _ _ hy
          exact ⟨u, by rw [show i * s + k' - (i * s + k) = k' - k by omega]; exact hu, hu2.mono hrd⟩
        · rw [if_neg c1] at hy
          rw [if_neg (by omega)]
          obtain ⟨u, hu, hu2⟩ := p6 _ _ _ _ hx0 hy
          exact ⟨u, by simpa using hu, hu2.mono hrd⟩
      · rw [List.getElem?_set_ne e] at hx
        have hk' : k' < s := by have := lt_of_get hy; rw [p5 x (List.mem_of_getElem? hx)] at this; exact this
        rw [if_neg (by
          rintro ⟨c1, c2⟩
          have := row_apart (s := s) (k := k') (m := i' * s + k' - i * s) (Ne.symm e) hk' (by omega)
          omega)]
        obtain ⟨u, hu, hu2⟩ := p6 _ _ _ _ hx hy
        exact ⟨u, by simpa using hu, hu2.mono hrd⟩
  exact ⟨_, hrun, hst.1, hst.2, fun b hb => setRow_other w b2 b _ hb⟩

/-- Cells of an open row are written. -/
theorem SRel.storeN (h : SRel X os g w) (hX : X.Ok) {L i k s b1 : Nat} {xs : List (List AV)} {row ds : List AV} {us : List Value} (hb1 : (g L).head? = some b1) (hL : os[L]? = some (.nst s xs (some (i, row)))) (hl : k + ds.length ≤ row.length)
    (hr : RepL (rdF X os g w) os g w ds us) (hone : ∀ u ∈ us, u.oneCell' = true) :
    ∃ w', (storeCells ⟨b1, i * s + k, none⟩ us).run P w = .ok () w' ∧ SRel X (os.set L (.nst s xs (some (i, setCells row k ds)))) g w' ∧ Step X os g w (os.set L (.nst s xs (some (i, setCells row k ds)))) g w' ∧
      ∀ b : Nat, b ≠ b1 → w'.heap[b]? = w.heap[b]? := by
  have ho := h.obj L
  rw [hL] at ho
  obtain ⟨p2, ⟨_, _, h1⟩ | ⟨b2, nb, F, p0, p1, cur, t, p3, p4, p5, p6, p7, p8, p9, p10⟩⟩ := ho
  · cases h1
  obtain rfl : b2 = b1 := by rw [p0] at hb1; simpa using hb1
  obtain ⟨hil, hrl, q⟩ := p7 _ _ rfl
  have hroom : i * s + s ≤ cur.size := by
    have := Nat.mul_le_mul_right s (show i + 1 ≤ xs.length from hil)
    rw [Nat.add_mul] at this
    omega
  have hlen := hr.1
  have hrun := run_storeCells_at P b2 (i * s + k) t us 0 cur w p3 (by omega) hone
  simp only [Nat.add_zero] at hrun
  have hst := h.write (by simp [p0]) p1 hX (o' := .nst s xs (some (i, setCells row k ds))) hL trivial trivial (cur.toList.take (i * s + k) ++ us ++ cur.toList.drop (i * s + k + us.length)).toArray cur t p3 (by simp; omega) (.inl ⟨_, _, rfl, rfl, rfl, Nat.le_refl _⟩) fun hrd st => by
    refine ⟨p2, .inr ⟨b2, nb, F, p0, p1, _, t, setRow_heap w b2 cur _ t _ p3, by simp; omega, p5, fun i' k' x y hx hy hn => ?_, fun j row' e => ?_, p8, p9, p10⟩⟩
    · obtain ⟨v, hv, hc⟩ := p6 i' k' x y hx hy hn
      refine ⟨v, ?_, hc.mono hrd fun b' hb' => setRow_other w b2 b' _ fun e => p10.1 (e ▸ p8 i' k' b' hb')⟩
      have hk' : k' < s := by have := lt_of_get hy; rw [p5 x (List.mem_of_getElem? hx)] at this; exact this
      simp only [List.getElem?_toArray]
      rw [splice_get _ _ _ _ (by simp; omega), if_neg]
      · simpa using hv
      · rintro ⟨c1, c2⟩
        exact row_apart (i := i') (j := i) (m := i' * s + k' - i * s) hn hk' (by omega) (by omega)
    · cases e
      refine ⟨hil, by rw [setCells_len hl]; exact hrl, fun m y hy => ?_⟩
      unfold setCells at hy
      rw [splice_get _ _ _ _ hl] at hy
      simp only [List.getElem?_toArray]
      rw [splice_get _ _ _ _ (by simp; omega)]
      by_cases c1 : k ≤ m ∧ m < k + ds.length
      · rw [if_pos c1] at hy
        obtain ⟨u, hu, hu2⟩ := hr.2 _ _ hy
        refine ⟨u, ?_, st.repC hu2⟩
        rw [if_pos ⟨by omega, by omega⟩, show i * s + m - (i * s + k) = m - k by omega]; exact hu
      · rw [if_neg c1] at hy
        obtain ⟨v, hv, hr2⟩ := q m y hy
        refine ⟨v, ?_, st.repC hr2⟩
        rw [if_neg (by omega)]; simpa using hv
  exact ⟨_, hrun, hst.1, hst.2, fun b hb => setRow_other w b2 b _ hb⟩

end Go.AM
end
section
/- append, make, literals: what they do in memory is what they do here. Conditions: none. -/
namespace Go.AM
open Go

variable {P : Program} {c : Cx} {X : Ctx} {os : List AO} {g : Nat → List Nat} {w : World}

theorem run_app_room (t u ty e : TypeId) (i : TypeInfo) (ht : P.underlying t = some (.slice e)) (hi : P.info? e = some i) (hu : (∃ e, P.underlying u = some (.slice e)) ∨ P.underlying u = some .string)
    (base : Option Addr) (sLen sCap n : Nat) (x : Value) (news : List Value) (hn : (Builtin.lenOf x).run P w = .ok n w) (hx : (Builtin.firstCells i.size n x).run P w = .ok news.toArray w)
    (hroom : sLen + n ≤ sCap) (w' : World) (hst : (match base with | some a => storeCells (a.add (sLen * i.size)) news | none => pure () : Sem Unit).run P w = .ok () w') :
    (Builtin.append_ #[t, u] ty #[.slice base sLen sCap, x]).run P w = .ok (.slice base (sLen + n) sCap) w' := by
  cases base with
  | none =>
    simp at hst
    subst hst
    rcases hu with ⟨e', hu⟩ | hu <;> simp [Builtin.append_, run_underlying ht, run_underlying hu, sizeOf, typeInfo, hi, hn, hroom, hx]
  | some a =>
    simp only at hst
    rcases hu with ⟨e', hu⟩ | hu <;> simp [Builtin.append_, run_underlying ht, run_underlying hu, sizeOf, typeInfo, hi, hn, hroom, hx, hst]

theorem run_app_grow (t u ty e : TypeId) (i : TypeInfo) (z : Value) (ht : P.underlying t = some (.slice e)) (hi : P.info? e = some i) (hz : i.zero = some z) (hu : (∃ e, P.underlying u = some (.slice e)) ∨ P.underlying u = some .string)
    (base : Option Addr) (sLen sCap n : Nat) (x : Value) (olds news : List Value) (hold : (Builtin.firstCells i.size sLen (.slice base sLen sCap)).run P w.drew = .ok olds.toArray w.drew)
    (hn : (Builtin.lenOf x).run P w = .ok n w) (hx : (Builtin.firstCells i.size n x).run P w.drew = .ok news.toArray w.drew)
    (hg : sCap < sLen + n) (h63 : ((sLen + n : Nat) : Int) ≤ 9223372036854775807) (hfit : Builtin.nextslicecap (sLen + n) sCap * i.bytes ≤ 281474976710656) :
    (Builtin.append_ #[t, u] ty #[.slice base sLen sCap, x]).run P w =
      .ok (.slice (some ⟨w.heap.size, 0, none⟩) (sLen + n) (grownCap w (sLen + n) sCap e))
        (w.drew.alloc (.cells (olds.toArray ++ news.toArray ++ Builtin.zeroCells z.cells (grownCap w (sLen + n) sCap e - (sLen + n))) e)) := by
  have hn' : ¬ (sLen + n ≤ sCap) := by omega
  have h63' : ¬ (9223372036854775807 < ((sLen : Int) + (n : Int))) := by omega
  have h48' : ¬ (281474976710656 < Builtin.nextslicecap (sLen + n) sCap * i.bytes) := by omega
  have fin : ∀ (r : Result Value), r = .ok (.slice (some ⟨w.heap.size, 0, none⟩) (sLen + n) (grownCap w (sLen + n) sCap e))
        (w.drew.alloc (.cells (olds.toArray ++ (news.toArray ++ Builtin.zeroCells z.cells (grownCap w (sLen + n) sCap e - (sLen + n)))) e)) → r = .ok (.slice (some ⟨w.heap.size, 0, none⟩) (sLen + n) (grownCap w (sLen + n) sCap e))
        (w.drew.alloc (.cells (olds.toArray ++ news.toArray ++ Builtin.zeroCells z.cells (grownCap w (sLen + n) sCap e - (sLen + n))) e)) := fun r h => by rw [h, Array.append_assoc]
  apply fin
  rcases hu with ⟨e', hu⟩ | hu <;> simp [Builtin.append_, run_underlying ht, run_underlying hu, sizeOf, typeInfo, zeroValue, hi, hz, hn, hn', h63', h48', Question.forced, hold, hx, newRow, grownCap]


/-- What is added: its values. -/
theorem Rep_new (h : SRel X os g w) {x : AV} {v : Value} {sz : Nat} (hx : RepV (rdF X os g w) os g w x v) (hk : appNewOk os sz x) :
    ∃ news : List Value, (Builtin.lenOf v).run P w = .ok (appNew os x).length w ∧ ((appNew os x = [] ∧ news = []) ∨ RepE (rdF X os g w) sz (appNew os x) news) ∧
      ∀ w' : World, w'.heap = w.heap → (Builtin.firstCells sz (appNew os x).length v).run P w' = .ok news.toArray w' := by
  by_cases hs : ∃ s, x = .sc (.string s)
  · obtain ⟨s, rfl⟩ := hs
    obtain rfl : v = .string s := hx
    have : sz = 1 := hk
    subst this
    have hl : (strElems s).length = s.size := by simp [strElems]
    refine ⟨s.data.toList.map fun b => .int .u8 (b.toNat : Int), by simp [Builtin.lenOf, appNew, hl], .inr ⟨by simp [appNew, strElems], fun y hy => ?_, fun i k y z hy hz => ?_⟩, fun w' _ => ?_⟩
    · simp only [appNew, strElems, List.mem_map] at hy
      obtain ⟨b, _, rfl⟩ := hy; rfl
    · simp only [appNew, strElems, List.getElem?_map] at hy
      cases hb : s.data.toList[i]? with
      | none => simp [hb] at hy
      | some b =>
        simp only [hb, Option.map_some, Option.some.injEq] at hy
        subst hy
        cases k with
        | succ k => simp at hz
        | zero =>
          simp at hz; subst hz
          exact ⟨_, by simp only [Nat.mul_one, Nat.add_zero, List.getElem?_map, hb, Option.map_some], .sc rfl⟩
    · simp only [appNew, hl]
      simp only [Builtin.firstCells, Sem.run_pure]
      congr 1
      have e1 : s.extract 0 s.size = s := by
        simp
      rw [e1]
      apply Array.ext'
      simp
  · have hlen : lenOk os x := by
      unfold appNewOk at hk
      split at hk
      · exact absurd ⟨_, rfl⟩ hs
      · trivial
      · trivial
      · rename_i L off n
        split at hk
        · rename_i b s xs hL; simp only [lenOk, hL]
        · exact hk.elim
      · exact hk.elim
    obtain ⟨a, cap, vs, rfl, h1, h2, h3, h4⟩ := Rep_elems h hx hlen (fun s e => hs ⟨s, e⟩) (fun L off n s xs op e hL => by subst e; simp [appNewOk, hL] at hk)
    have hn : appNew os x = elems os x := by
      unfold appNew
      split
      · exact absurd ⟨_, rfl⟩ hs
      · rfl
    rw [hn, h2]
    have he : elems os x = [] ∨ esz os x = sz := by
      unfold appNewOk at hk
      split at hk
      · exact absurd ⟨_, rfl⟩ hs
      · exact .inl rfl
      · rcases hk with rfl | rfl
        · exact .inr rfl
        · exact .inl rfl
      · rename_i L off n
        split at hk
        · rename_i b s xs hL; subst hk; exact .inr (by simp [esz, hL])
        · exact hk.elim
      · exact hk.elim
    have h3' : (elems os x = [] ∧ vs = []) ∨ RepE (rdF X os g w) sz (elems os x) vs := by
      rcases h3 with h3 | h3
      · exact .inl h3
      · rcases he with e | e
        · have := h3.1; rw [e] at this; exact .inl ⟨e, List.eq_nil_of_length_eq_zero (by simpa using this)⟩
        · rw [e] at h3; exact .inr h3
    have hvl : vs.length = lenA x * sz := by
      rcases h3' with ⟨e1, e2⟩ | h3'
      · rw [e2]; rw [e1] at h2; simp at h2; simp [← h2]
      · rw [h3'.1, h2]
    refine ⟨vs, by simp [Builtin.lenOf], h3', fun w' hw => ?_⟩
    rcases h4 with rfl | ⟨b, o, rfl, h4⟩
    · cases a with
      | none => simp [Builtin.firstCells]
      | some ad =>
        simp only [Builtin.firstCells]
        have : lenA x * sz = 0 := by simpa using hvl.symm
        rw [this]
        simp [loadCells, loadCellsFrom]
    · exact run_firstCells_some w' sz (lenA x) ⟨b, o, none⟩ (lenA x) cap vs hvl fun j u hu => by rw [addr_add, cell_heap (w := w) (w' := w') (by rw [hw])]; exact h4 j u hu

end Go.AM
end
section
/- append, make, literals, stores: whole operations. Conditions: none. -/
namespace Go.AM
open Go

variable {P : Program} {c : Cx} {X : Ctx} {os : List AO} {g : Nat → List Nat} {w : World}

/-- Nothing but the blocks of these names has turned. -/
def Loc (os : List AO) (g : Nat → List Nat) (w : World) (os' : List AO) (g' : Nat → List Nat) (w' : World) (ns : List Nat) : Prop :=
  (∀ b : Nat, b < w.heap.size → (∀ L ∈ ns, b ∉ g L) → w'.heap[b]? = w.heap[b]?) ∧
    ∀ L, own os' L → ∀ b ∈ g' L, b < w.heap.size → (own os L ∧ b ∈ g L) ∨ ∃ M ∈ ns, b ∈ g M

theorem Loc.push {o : AO} {w' : World} {ns : List Nat} (h : ∀ b : Nat, b < w.heap.size → w'.heap[b]? = w.heap[b]?) : Loc os g w (os ++ [o]) (updG g os.length [w.heap.size]) w' ns :=
  ⟨fun b hb _ => h b hb, fun L hL b hm hb => by
    rcases own_push hL with h1 | ⟨h1, _⟩
    · rw [updG_other _ (Nat.ne_of_lt (own_lt h1))] at hm; exact .inl ⟨h1, hm⟩
    · rw [h1, updG_same] at hm; simp at hm; omega⟩

theorem own_kill {s : AV} {L : Nat} (h : own (kill os s) L) : own os L := by
  unfold kill at h
  split at h
  · rename_i M _ _
    unfold own at h ⊢
    rw [set_get] at h
    split at h
    · split at h <;> exact h.elim
    · exact h
  · exact h

theorem RepE.of_nil_or {rd : Nat → Nat → Option Value} {s : Nat} {xs : List (List AV)} {vs : List Value} (h : (xs = [] ∧ vs = []) ∨ RepE rd s xs vs) : RepE rd s xs vs := by
  rcases h with ⟨rfl, rfl⟩ | h
  · exact ⟨by simp, by simp, by simp⟩
  · exact h

theorem room_cells {b : Nat} {cur : Array Value} {t : TypeId} {fr : Nat × Nat} (h : w.heap[b]? = some (.cells cur t fr)) : room w b = cur.size := by
  unfold room; rw [h]

/-- A row that has grown into a new block. -/
theorem SRel.grown (h : SRel X os g w) {s : Nat} {xs : List (List AV)} {vs rest : List Value} (hs : 0 < s) (hr : RepE (rdF X os g w) s xs vs) (t : TypeId) (cap : Nat) (hcap : xs.length ≤ cap) (hrest : rest.length = (cap - xs.length) * s) {w0 : World}
    (hw0 : w0.heap = w.heap) (e1 : w0.os = w.os) (e2 : w0.tape = w.tape) (e3 : w0.output = w.output) (arr : Array Value) (harr : arr.toList = vs ++ rest) :
    SRel X (os ++ [.arr true s xs]) (updG g os.length [w.heap.size]) (w0.alloc (.cells arr t)) ∧ Step X os g w (os ++ [.arr true s xs]) (updG g os.length [w.heap.size]) (w0.alloc (.cells arr t)) ∧
      RepC (rdF X (os ++ [.arr true s xs]) (updG g os.length [w.heap.size]) (w0.alloc (.cells arr t))) (os ++ [.arr true s xs]) (updG g os.length [w.heap.size]) (w0.alloc (.cells arr t)) (.sl os.length 0 xs.length) (.slice (some ⟨w.heap.size, 0, none⟩) xs.length cap) ∧
      Loc os g w (os ++ [.arr true s xs]) (updG g os.length [w.heap.size]) (w0.alloc (.cells arr t)) [] := by
  have hsz : w0.heap.size = w.heap.size := by rw [hw0]
  have hal : arr.size = cap * s := by
    rw [← Array.length_toList, harr, List.length_append, hr.1, hrest, ← Nat.add_mul]
    congr 1; omega
  have hp := h.pushArr (vs := arr) (t := t) hs hr.2.1 (by rw [hal]; exact Nat.mul_le_mul_right s hcap) (fun i k x y hx hy => by
    obtain ⟨v, hv, hr2⟩ := hr.2.2 i k x y hx hy
    refine ⟨v, ?_, hr2⟩
    rw [← Array.getElem?_toList, harr, List.getElem?_append_left (lt_of_get hv)]
    exact hv) hw0 e1 e2 e3
  refine ⟨hp.1, hp.2, ?_, Loc.push fun b hb => by rw [heap_alloc_old w0 _ (by omega), hw0]⟩
  simp only [RepC]
  rw [push_get, if_neg (by omega), if_pos rfl]
  refine ⟨cap, hcap, by omega, .inl ⟨w.heap.size, by rw [updG_same]; rfl, by simp, ?_⟩⟩
  rw [← hsz, room_cells (heap_alloc_new w0 _), hal]
  simp

theorem app_ok (hP : PrOk P c) (hX : X.Ok) (h : SRel X os g w) {t u : TypeId} (ty : TypeId) {s x : AV} {vs vx : Value} (hs : RepV (rdF X os g w) os g w s vs) (hx : RepV (rdF X os g w) os g w x vx)
    (k0 : 0 < (c.T t).sz) (k1 : isSliceT c t) (k2 : 0 < (c.T (elemOf c t)).sz) (k3 : seqT c (some u)) (k4 : appBase os s) (k5 : appNewOk os (c.T (elemOf c t)).sz x) (k6 : isNil s = false → esz os s = (c.T (elemOf c t)).sz)
    (k7 : (elems os s ++ appNew os x).length * (c.T (elemOf c t)).bytes ≤ appBound) (k8 : (elems os s ++ appNew os x).length ≤ appBound) :
    (isNil s = true ∧ elems os s ++ appNew os x = [] ∧ (Builtin.append_ #[t, u] ty #[vs, vx]).run P w = .ok (.slice none 0 0) w) ∨
    ((isNil s = true → elems os s ++ appNew os x ≠ []) ∧ ∃ v g' w', (Builtin.append_ #[t, u] ty #[vs, vx]).run P w = .ok v w' ∧
      SRel X (kill os s ++ [.arr true (c.T (elemOf c t)).sz (elems os s ++ appNew os x)]) g' w' ∧ Step X os g w (kill os s ++ [.arr true (c.T (elemOf c t)).sz (elems os s ++ appNew os x)]) g' w' ∧
      RepC (rdF X (kill os s ++ [.arr true (c.T (elemOf c t)).sz (elems os s ++ appNew os x)]) g' w') (kill os s ++ [.arr true (c.T (elemOf c t)).sz (elems os s ++ appNew os x)]) g' w' (.sl os.length 0 (elems os s ++ appNew os x).length) v ∧
      Loc os g w (kill os s ++ [.arr true (c.T (elemOf c t)).sz (elems os s ++ appNew os x)]) g' w' (names s)) := by
  obtain ⟨_, d, _, i1, _, _, i4, _, _, _, i8, _⟩ := (hP.ty t k0).ex
  obtain ⟨e, hk⟩ : ∃ e, (c.T t).kind = .slice e := by
    unfold isSliceT at k1; split at k1
    · exact ⟨_, by assumption⟩
    · exact k1.elim
  rw [hk] at i8
  obtain rfl : d = .slice e := i8
  have hel : elemOf c t = e := by simp [elemOf, hk]
  rw [hel] at k2 k5 k6 k7 ⊢
  obtain ⟨j, dj, z, j1, j2, j3, j4, j5, j6, j7, j8, j9, _, hzl⟩ := (hP.ty e k2).ex
  have hu : (∃ e, P.underlying u = some (.slice e)) ∨ P.underlying u = some .string := by
    obtain ⟨q1, q2⟩ := k3
    obtain ⟨_, du, _, _, _, _, q4, _, _, _, q8, _⟩ := (hP.ty u q1).ex
    cases hku : (c.T u).kind with
    | slice e' => rw [hku] at q8; obtain rfl : du = .slice e' := q8; exact .inl ⟨_, q4⟩
    | str => rw [hku] at q8; obtain rfl : du = .string := q8; exact .inr q4
    | _ => rw [hku] at q2; exact q2.elim
  obtain ⟨news, n1, n2, n3⟩ := Rep_new h hx k5
  unfold appBase at k4
  split at k4
  · -- nil
    obtain rfl : vs = .slice none 0 0 := hs
    have he : elems os (.sc (.slice none 0 0)) = [] := rfl
    simp only [he, List.nil_append] at k7 k8 ⊢
    by_cases hnil : appNew os x = []
    · refine .inl ⟨rfl, hnil, ?_⟩
      rw [hnil] at n1 n3
      have hn0 : news = [] := by
        rcases n2 with ⟨_, e⟩ | n2
        · exact e
        · have := n2.1; rw [hnil] at this; exact List.eq_nil_of_length_eq_zero (by simpa using this)
      subst hn0
      have := run_app_room (w := w) t u ty e j i4 j1 hu none 0 0 0 vx [] (by simpa using n1) (by rw [j2]; simpa using n3 w rfl) (by omega) w (by simp)
      simpa using this
    · refine .inr ⟨fun _ => hnil, ?_⟩
      have hr := RepE.of_nil_or n2
      have hpos : 0 < (appNew os x).length := List.length_pos_iff.2 hnil
      have hrun := run_app_grow (w := w) t u ty e j z i4 j1 j6 hu none 0 0 (appNew os x).length vx [] news (by simp [Builtin.firstCells]) n1 (by rw [j2]; exact n3 w.drew rfl) (by omega) (by simp only [appBound] at k8; omega) (by
        rw [j3]
        refine growslice_fits (by omega) ?_
        simpa [appBound] using k7)
      obtain ⟨g1, g2, g3, g4⟩ := h.grown (w0 := w.drew) k2 hr e (grownCap w (0 + (appNew os x).length) 0 e) (by have := grownCap_ge w (0 + (appNew os x).length) 0 e; omega) (rest := (Builtin.zeroCells z.cells (grownCap w (0 + (appNew os x).length) 0 e - (0 + (appNew os x).length))).toList)
        (by rw [Array.length_toList, size_zeroCells, hzl, j2, Nat.zero_add]) rfl rfl rfl rfl ([].toArray ++ news.toArray ++ Builtin.zeroCells z.cells (grownCap w (0 + (appNew os x).length) 0 e - (0 + (appNew os x).length))) (by simp)
      refine ⟨_, _, _, hrun, g1, g2, ?_, g4⟩
      simpa [kill] using g3
  · -- one of ours
    rename_i L off n
    obtain ⟨rfl, k4⟩ := k4
    split at k4
    · rename_i s0 xs hL
      have hez : s0 = (c.T e).sz := by have := k6 rfl; simpa [esz, hL] using this
      subst hez
      refine .inr ⟨fun h => by simp [isNil] at h, ?_⟩
      obtain ⟨ea, ecap, olds, hva, _, o3, o4, o5⟩ := Rep_elems h hs (by simp [lenOk, hL]) (fun s e => by cases e) (fun L' off' n' s' xs' op e hL' => by cases e; rw [hL] at hL'; cases hL')
      have hro := RepE.of_nil_or (s := (c.T e).sz) (o4.imp id (fun o4 => by simpa [esz, hL] using o4))
      have hrn := RepE.of_nil_or n2
      have hall := hro.app hrn
      simp only [lenA] at o3
      have hs' : RepC (rdF X os g w) os g w (.sl L 0 n) vs := hs
      simp only [RepC, hL] at hs'
      obtain ⟨cap, q1, q2, q3⟩ := hs'
      have hlt := lt_of_get hL
      have hklen : (kill os (.sl L 0 n)).length = os.length := by simp [kill]
      have hlen : (elems os (.sl L 0 n) ++ appNew os x).length = n + (appNew os x).length := by simp [o3]
      have hoL := h.obj L
      rw [hL] at hoL
      have hmoved : ∀ (q : List Nat), (∀ b ∈ q, b ∈ g L) → ∀ M, own (kill os (.sl L 0 n) ++ [.arr true (c.T e).sz (elems os (.sl L 0 n) ++ appNew os x)]) M → ∀ b ∈ updG g os.length q M, b < w.heap.size →
          (own os M ∧ b ∈ g M) ∨ ∃ K ∈ names (.sl L 0 n), b ∈ g K := by
        intro q hq M hM b hb _
        rcases own_push hM with h1 | ⟨h1, _⟩
        · have h2 := own_kill h1
          rw [updG_other _ (Nat.ne_of_lt (own_lt h2))] at hb; exact .inl ⟨h2, hb⟩
        · rw [h1, hklen, updG_same] at hb; exact .inr ⟨L, by simp [names], hq b hb⟩
      -- what it holds as it grows
      have hgrow : ∀ base, cap < n + (appNew os x).length → (Builtin.firstCells j.size n (.slice base n cap)).run P w.drew = .ok olds.toArray w.drew → vs = .slice base n cap →
          ∃ v g' w', (Builtin.append_ #[t, u] ty #[vs, vx]).run P w = .ok v w' ∧
      SRel X (kill os (.sl L 0 n) ++ [.arr true (c.T e).sz (elems os (.sl L 0 n) ++ appNew os x)]) g' w' ∧ Step X os g w (kill os (.sl L 0 n) ++ [.arr true (c.T e).sz (elems os (.sl L 0 n) ++ appNew os x)]) g' w' ∧
      RepC (rdF X (kill os (.sl L 0 n) ++ [.arr true (c.T e).sz (elems os (.sl L 0 n) ++ appNew os x)]) g' w') (kill os (.sl L 0 n) ++ [.arr true (c.T e).sz (elems os (.sl L 0 n) ++ appNew os x)]) g' w' (.sl os.length 0 (elems os (.sl L 0 n) ++ appNew os x).length) v ∧
      Loc os g w (kill os (.sl L 0 n) ++ [.arr true (c.T e).sz (elems os (.sl L 0 n) ++ appNew os x)]) g' w' (names (.sl L 0 n)) := by
        intro base hg hfo hvs
        subst hvs
        have hrun := run_app_grow (w := w) t u ty e j z i4 j1 j6 hu base n cap (appNew os x).length vx olds news hfo n1 (by rw [j2]; exact n3 w.drew rfl) hg (by simp only [appBound] at k8; rw [hlen] at k8; omega) (by
          rw [j3]
          refine growslice_fits hg ?_
          rw [hlen] at k7
          exact k7)
        obtain ⟨kk1, kk2⟩ := h.kill1 hL
        obtain ⟨g1, g2, g3, g4⟩ := kk1.grown (w0 := w.drew) k2 (hall.mono kk2.rd) e (grownCap w (n + (appNew os x).length) cap e) (by rw [hlen]; exact grownCap_ge w _ _ e) (rest := (Builtin.zeroCells z.cells (grownCap w (n + (appNew os x).length) cap e - (n + (appNew os x).length))).toList)
          (by rw [Array.length_toList, size_zeroCells, hzl, j2, hlen]) rfl rfl rfl rfl (olds.toArray ++ news.toArray ++ Builtin.zeroCells z.cells (grownCap w (n + (appNew os x).length) cap e - (n + (appNew os x).length))) (by simp)
        rw [List.length_set] at g1 g2 g3
        refine ⟨_, _, _, hrun, g1, kk2.trans g2, ?_, fun b hb _ => g4.1 b hb (fun _ hm => by cases hm), fun M hM b hm hb => ?_⟩
        rotate_left
        · have g5 := g4.2 M hM
          rw [List.length_set] at g5
          rcases g5 b hm hb with ⟨h1, h2⟩ | ⟨_, hm, _⟩
          · exact .inl ⟨own_kill (s := .sl L 0 n) h1, h2⟩
          · cases hm
        rw [hlen] at g3
        rw [hlen]
        exact g3
      rcases q3 with ⟨b1, hb1, rfl, q3⟩ | ⟨rfl, a, rfl⟩
      · obtain ⟨p2, ⟨p0, p1⟩ | ⟨b2, p0, p1, cur, tt, p3, p4, p5, p6⟩⟩ := hoL
        · rw [p0] at hb1; cases hb1
        obtain rfl : b2 = b1 := by rw [p0] at hb1; simpa using hb1
        rw [room_cells p3, Nat.zero_add] at q3
        by_cases hroom : n + (appNew os x).length ≤ cap
        · have hnl : news.length = (appNew os x).length * (c.T e).sz := hrn.1
          have hfit : n * (c.T e).sz + news.length ≤ cur.size := by
            rw [hnl, ← Nat.add_mul]; exact Nat.le_trans (Nat.mul_le_mul_right _ hroom) q3
          have hone : ∀ v ∈ news, v.oneCell' = true := by
            intro v hv
            obtain ⟨m, hm, e1⟩ := List.mem_iff_getElem.1 hv
            have hs0 : 0 < (c.T e).sz := k2
            have hlt2 : m / (c.T e).sz < (appNew os x).length := (Nat.div_lt_iff_lt_mul hs0).2 (by omega)
            have h1 : (appNew os x)[m / (c.T e).sz]? = some _ := List.getElem?_eq_getElem hlt2
            have h2 := hrn.2.1 _ (List.getElem_mem hlt2)
            have h3 : m % (c.T e).sz < ((appNew os x)[m / (c.T e).sz]).length := by rw [h2]; exact Nat.mod_lt _ hs0
            obtain ⟨v', hv', hr'⟩ := hrn.2.2 _ _ _ _ h1 (List.getElem?_eq_getElem h3)
            rw [Nat.div_add_mod', List.getElem?_eq_getElem hm] at hv'
            simp only [Option.some.injEq] at hv'
            rw [← e1, hv']; exact hr'.one
          have hst := run_storeCells_at P b2 (n * (c.T e).sz) tt news 0 cur w p3 (by omega) hone
          simp only [Nat.add_zero] at hst
          have hrun := run_app_room (w := w) t u ty e j i4 j1 hu (some ⟨b2, 0 * (c.T e).sz, none⟩) n cap (appNew os x).length vx news n1 (by rw [j2]; exact n3 w rfl) hroom _ (by simp only [addr_add, Nat.zero_mul, Nat.zero_add, j2]; exact hst)
          have hmv := h.move (ys := elems os (.sl L 0 n) ++ appNew os x) p0 hL (cur.toList.take (n * (c.T e).sz) ++ news ++ cur.toList.drop (n * (c.T e).sz + news.length)).toArray cur tt p3 (by simp; omega) fun hrd => by
            refine ⟨p2, .inr ⟨b2, by rw [updG_same]; exact p0, p1, _, tt, setRow_heap w b2 cur _ tt _ p3, ?_, hall.2.1, fun i k y y2 hy hy2 => ?_⟩⟩
            · rw [hlen, Nat.add_mul]; simp; omega
            · obtain ⟨v, hv, hr⟩ := hall.2.2 i k y y2 hy hy2
              refine ⟨v, ?_, hr.mono hrd⟩
              simp only [List.getElem?_toArray]
              rw [splice_get _ _ _ _ (by simpa using hfit)]
              rw [List.getElem?_append] at hv
              have hol : olds.length = n * (c.T e).sz := by rw [hro.1, o3]
              rw [hol] at hv
              by_cases c1 : i * (c.T e).sz + k < n * (c.T e).sz
              · rw [if_pos c1] at hv
                rw [if_neg (by omega)]
                rcases o5 with rfl | ⟨b, o, e1, o5⟩
                · simp at hv
                · simp only [Value.slice.injEq] at hva
                  rw [← hva.1] at e1
                  simp only [Option.some.injEq, Addr.mk.injEq, Nat.zero_mul, and_true] at e1
                  have h5 := o5 _ _ hv
                  rw [← e1.1, ← e1.2, Nat.zero_add, cell_of_row w b2 _ cur tt (0, 0) p3] at h5
                  simpa using h5
              · rw [if_neg c1] at hv
                have := lt_of_get hv
                rw [if_pos ⟨by omega, by omega⟩]
                exact hv
          refine ⟨_, _, _, hrun, hmv.1, hmv.2, ?_, fun b hb hne => setRow_other w b2 b _ (fun e => hne L (by simp [names]) (by rw [p0]; simp [e])), hmoved _ (fun b hb => hb)⟩
          have hgetn : (kill os (.sl L 0 n) ++ [AO.arr true (c.T e).sz (elems os (.sl L 0 n) ++ appNew os x)])[os.length]? = some (.arr true (c.T e).sz (elems os (.sl L 0 n) ++ appNew os x)) := by
            rw [push_get, if_neg (by rw [hklen]; omega), if_pos hklen.symm]
          simp only [RepC, hgetn]
          refine ⟨cap, by rw [hlen]; exact hroom, by omega, .inl ⟨b2, by rw [updG_same, p0]; rfl, by rw [hlen], ?_⟩⟩
          rw [room_cells (setRow_heap w b2 cur _ tt _ p3)]
          simp; omega
        · refine hgrow _ (by omega) ?_ rfl
          have hol : olds.length = n * j.size := by rw [hro.1, o3, j2]
          refine run_firstCells_some w.drew j.size n _ n cap olds hol fun m v hv => ?_
          rcases o5 with rfl | ⟨b, o, e1, o5⟩
          · simp at hv
          · simp only [Value.slice.injEq] at hva
            rw [← hva.1] at e1
            simp only [Option.some.injEq, Addr.mk.injEq, and_true] at e1
            rw [addr_add, e1.1, e1.2]
            exact o5 m v hv
      · obtain rfl : n = 0 := by omega
        have he0 : elems os (.sl L 0 0) = [] := List.eq_nil_of_length_eq_zero o3
        have hol : olds = [] := List.eq_nil_of_length_eq_zero (by rw [hro.1, o3]; simp)
        by_cases hz : appNew os x = []
        · have hn0 : news = [] := List.eq_nil_of_length_eq_zero (by rw [hrn.1, hz]; simp)
          subst hn0
          have hrun := run_app_room (w := w) t u ty e j i4 j1 hu a 0 0 0 vx [] (by simpa [hz] using n1) (by rw [j2]; simpa [hz] using n3 w rfl) (by omega) w (by cases a <;> simp [storeCells])
          obtain ⟨kk1, kk2⟩ := h.kill1 hL
          have hmv := kk1.push [] (.arr true (c.T e).sz (elems os (.sl L 0 0) ++ appNew os x)) rfl rfl rfl (Nat.le_refl _) (fun _ _ => rfl) (fun _ _ hk => by cases hk) (fun _ _ hk => by cases hk) fun _ _ => by
            exact ⟨k2, .inl ⟨updG_same _ _ _, by simp [he0, hz]⟩⟩
          rw [List.length_set] at hmv
          refine ⟨_, _, _, hrun, hmv.1, kk2.trans hmv.2, ?_, fun b _ _ => rfl, hmoved [] (fun _ hb => by cases hb)⟩
          have hgetn : (kill os (.sl L 0 0) ++ [AO.arr true (c.T e).sz (elems os (.sl L 0 0) ++ appNew os x)])[os.length]? = some (.arr true (c.T e).sz (elems os (.sl L 0 0) ++ appNew os x)) := by
            rw [push_get, if_neg (by rw [hklen]; omega), if_pos hklen.symm]
          simp only [RepC, hgetn]
          exact ⟨0, by simp [he0, hz], by simp [he0, hz], .inr ⟨rfl, a, by simp⟩⟩
        · have hpos : 0 < (appNew os x).length := List.length_pos_iff.2 hz
          refine hgrow a (by omega) ?_ rfl
          rw [hol]
          cases a <;> simp [Builtin.firstCells, loadCells, loadCellsFrom]
    · exact k4.elim
  · exact k4.elim

end Go.AM
end
