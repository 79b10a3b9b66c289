/- Images: how both packages write lists. Conditions: none. -/
import Derived.Test.YtkafcijfljjlaabAmPuP
set_option linter.unusedSimpArgs false
set_option linter.unusedVariables false
namespace Go.AM
open Go
theorem take1G {α : Type} [Inhabited α] {l : List α} {i : Int} (h0 : 0 ≤ i) (h1 : i < l.length) {y : α} (hy : l.getD i.toNat default = y) : l.take (i + 1).toNat = l.take i.toNat ++ [y] := by
  have e : (i + 1).toNat = i.toNat + 1 := by omega
  have hlt : i.toNat < l.length := by omega
  rw [e, List.take_succ_eq_append_getElem hlt, ← hy, List.getD_eq_getElem?_getD, List.getElem?_eq_getElem hlt]
  rfl
theorem fm_len {l : List DevArg} : (l.flatMap encA).length ≤ 6 * l.length := by
  induction l with
  | nil => simp
  | cons a l ih => have := encA_len a; rw [List.flatMap_cons, List.length_append, List.length_cons]; omega
theorem fm_by8 (l : List DevArg) : by8 (l.flatMap encA) := fun y hy => by
  obtain ⟨a, _, ha⟩ := List.mem_flatMap.1 hy
  exact encA_by8 a y ha
theorem encI_by8 (i : Inst) : by8 (encI i) := by
  unfold encI
  intro y hy
  rcases List.mem_cons.1 hy with rfl | hy
  · omega
  · split at hy
    · rcases List.mem_cons.1 hy with rfl | hy
      · omega
      · exact fm_by8 _ y hy
    · cases hy
theorem argOk_bd {a : DevArg} (h : argOk a = true) : -2147483648 ≤ a.N ∧ a.N ≤ 2147483647 := by
  unfold argOk at h
  split at h
  · simp at h; omega
  · split at h <;> · simp at h; omega
theorem wro_zero {i : Inst} (h : wro i = 0) : 1 ≤ i.Code ∧ i.Code ≤ 11 ∧ (isHas i.Code = false → i.One_Op = 0 ∧ i.One_Args = []) ∧ (isHas i.Code = true → known i.Code i.One_Op = true ∧ (i.One_Args.length : Int) = ar i.One_Op ∧ i.One_Args.all argOk = true) := by
  unfold wro at h
  split at h
  · cases h
  · rename_i h1
    split at h
    · rename_i h2
      split at h
      · cases h
      · rename_i h3
        refine ⟨by omega, by omega, fun _ => ⟨by omega, List.eq_nil_of_length_eq_zero (by omega)⟩, fun e => (by rw [h2] at e; cases e)⟩
    · rename_i h2
      split at h
      · cases h
      · rename_i h3
        split at h
        · rename_i h4
          refine ⟨by omega, by omega, fun e => absurd e h2, fun _ => ⟨by simpa using fun e => h3 (.inl e), by
            rcases Decidable.em ((i.One_Args.length : Int) = ar i.One_Op) with q | q
            · exact q
            · exact absurd (.inr q) h3, h4⟩⟩
        · cases h
theorem encI_len {i : Inst} (h : wro i = 0) : 1 ≤ (encI i).length ∧ (encI i).length ≤ 20 := by
  obtain ⟨_, _, h3, h4⟩ := wro_zero h
  unfold encI
  split
  · rename_i hh
    have := (h4 hh).2.1
    have := ar_bd i.One_Op
    have := @fm_len i.One_Args
    simp only [List.length_cons]; omega
  · simp
theorem sInst_ok {i : Inst} (h : wro i = 0) : OK (spec_l17Inst i) (fun l => l = encI i) := by
  obtain ⟨c1, c2, h3, h4⟩ := wro_zero h
  unfold spec_l17Inst
  rw [sHas_eq, Option.bind_some]
  refine OK.cond (fun hc => ?_) (fun hc => ?_)
  · simp only [Bool.not_eq_true'] at hc
    exact OK.mk (by rw [encI, hc, u8w_eq]; rfl)
  · simp only [Bool.not_eq_false'] at hc
    obtain ⟨k1, k2, k3⟩ := h4 hc
    have hab := ar_bd i.One_Op
    have hE : encI i = [i.Code % 256, i.One_Op % 256] ++ i.One_Args.flatMap encA := by rw [encI, hc]; rfl
    rw [hE]
    refine OK.gd rfl ?_
    refine OK.loop (Q := fun l => l = [i.Code % 256, i.One_Op % 256] ++ i.One_Args.flatMap encA) (fun z : List Int × Int => 0 ≤ z.2 ∧ z.2 ≤ i.One_Args.length ∧ z.1 = [i.Code % 256, i.One_Op % 256] ++ (i.One_Args.take z.2.toNat).flatMap encA) (fun z => (i.One_Args.length - z.2).toNat) ⟨Int.le_refl _, by dsimp only; omega, by rw [u8w_eq, u8w_eq]; rfl⟩ ?_ ?_
    · rintro ⟨l, k⟩ ⟨g1, g2, g3⟩
      dsimp only at g1 g2 g3
      have hlen := @fm_len (i.One_Args.take k.toNat)
      rw [List.length_take] at hlen
      have hll : l.length = 2 + ((i.One_Args.take k.toNat).flatMap encA).length := by rw [g3]; simp; omega
      simp only [spec_l17Inst_s19]
      refine OK.cond (fun hd => ?_) (fun hd => ?_)
      · simp only [decide_eq_true_eq] at hd
        refine OK.idx g1 hd fun a ha had => ?_
        have hok := List.all_eq_true.1 k3 a ha
        have hbd := argOk_bd hok
        have e : IntKind.i64.wrap (k + 1) = k + 1 := w64 (by omega) (by omega)
        have ht := take1G g1 hd had
        have hfin : ∀ m : List Int, m = encA a → OK (some (Sum.inl (l ++ m, k + 1)) : Option ((List Int × Int) ⊕ List Int)) (Sum.elim (fun a' => (0 ≤ a'.2 ∧ a'.2 ≤ i.One_Args.length ∧ a'.1 = [i.Code % 256, i.One_Op % 256] ++ (i.One_Args.take a'.2.toNat).flatMap encA) ∧ (i.One_Args.length - a'.2).toNat < (i.One_Args.length - k).toNat) (fun l => l = [i.Code % 256, i.One_Op % 256] ++ i.One_Args.flatMap encA)) := by
          rintro m rfl
          refine OK.mk ⟨⟨by dsimp only; omega, by dsimp only; omega, ?_⟩, by dsimp only; omega⟩
          dsimp only
          rw [ht, g3, List.flatMap_append]; simp
        refine OK.gd (apOk_of (by simp; omega) (by simp; omega)) ?_
        have hA : encA a = a.Kind % 256 :: (if a.Kind = 11 then be2 a.N else if a.Kind = 12 then be4 a.N ++ [a.P % 256] else [a.N % 256]) := rfl
        by_cases q1 : a.Kind = 11
        · have w1 : spec_l17Wide a.Kind = some 2 := by unfold spec_l17Wide; rw [q1]; rfl
          rw [w1, Option.bind_some, num2 (by omega) (by omega), Option.bind_some]
          refine OK.gd (apOk_of (by simp [be2]; omega) (by simp [be2]; omega)) ?_
          refine OK.cond (fun hz => by simp [q1] at hz) (fun _ => ?_)
          simp only [spec_l17Inst_j26, e, List.append_assoc]
          exact hfin _ (by rw [hA, if_pos q1, u8w_eq]; rfl)
        · by_cases q2 : a.Kind = 12
          · have w1 : spec_l17Wide a.Kind = some 4 := by unfold spec_l17Wide; rw [q2]; rfl
            rw [w1, Option.bind_some, num4 (by omega) (by omega), Option.bind_some]
            refine OK.gd (apOk_of (by simp [be4]; omega) (by simp [be4]; omega)) ?_
            refine OK.cond (fun _ => ?_) (fun hz => by simp [q2] at hz)
            refine OK.gd (apOk_of (by simp [be4]; omega) (by simp [be4]; omega)) ?_
            simp only [spec_l17Inst_j26, e, List.append_assoc]
            exact hfin _ (by rw [hA, if_neg q1, if_pos q2, u8w_eq, u8w_eq]; rfl)
          · have w1 : spec_l17Wide a.Kind = some 1 := by
              unfold spec_l17Wide
              rw [show (a.Kind == 11) = false by simpa using q1, show (a.Kind == 12) = false by simpa using q2]; rfl
            rw [w1, Option.bind_some, num1 (by omega) (by omega), Option.bind_some]
            refine OK.gd (apOk_of (by simp; omega) (by simp; omega)) ?_
            refine OK.cond (fun hz => by simp [q2] at hz) (fun _ => ?_)
            simp only [spec_l17Inst_j26, e, List.append_assoc]
            exact hfin _ (by rw [hA, if_neg q1, if_neg q2, u8w_eq]; rfl)
      · simp only [decide_eq_false_iff_not] at hd
        refine OK.mk (show l = _ from ?_)
        rw [g3, List.take_of_length_le (by omega)]
    · rintro l rfl
      exact OK.mk rfl
theorem all_snoc {l : List DevArg} {a : DevArg} (h : l.all argOk = true) (ha : argOk a = true) : (l ++ [a]).all argOk = true := by simp [List.all_append, h, ha]
theorem all_not {l : List DevArg} {a : DevArg} (h : a ∈ l) (ha : argOk a = false) : ¬ l.all argOk = true := fun e => by
  have := List.all_eq_true.1 e a h; rw [ha] at this; cases this
theorem sWrong_ok {i : Inst} (hl : i.One_Args.length ≤ 1000) : OK (spec_l17Wrong i) (fun x => x = wro i) := by
  unfold spec_l17Wrong
  refine OK.cond (fun h => OK.mk ?_) (fun h => ?_)
  · simp only [Bool.or_eq_true, decide_eq_true_eq] at h
    rw [wro, if_pos (by omega)]
  simp only [Bool.or_eq_false_iff, decide_eq_false_iff_not] at h
  rw [sHas_eq, Option.bind_some]
  refine OK.cond (fun h2 => ?_) (fun h2 => ?_)
  · simp only [Bool.not_eq_true'] at h2
    refine OK.cond (fun h3 => OK.mk ?_) (fun h3 => OK.mk ?_)
    · simp only [Bool.or_eq_true, bne_iff_ne, decide_eq_true_eq] at h3
      rw [wro, if_neg (by omega), if_pos h2, if_pos (by omega)]
    · simp only [Bool.or_eq_false_iff, bne_eq_false_iff_eq, decide_eq_false_iff_not] at h3
      rw [wro, if_neg (by omega), if_pos h2, if_neg (by omega)]
  simp only [Bool.not_eq_false'] at h2
  have hw : wro i = if known i.Code i.One_Op = false ∨ (i.One_Args.length : Int) ≠ ar i.One_Op then 2 else if i.One_Args.all argOk = true then 0 else 3 := by
    rw [wro, if_neg (by omega), if_neg (by rw [h2]; simp)]
  rw [hw, sKnown_eq, Option.bind_some]
  refine OK.cond (fun h3 => ?_) (fun h3 => OK.mk (by rw [if_pos (.inl h3)]))
  refine OK.bind (sArity_ok _) ?_
  rintro _ rfl
  refine OK.cond (fun h4 => OK.mk ?_) (fun h4 => ?_)
  · simp only [bne_iff_ne, ne_eq] at h4
    rw [if_pos (.inr h4)]
  simp only [bne_eq_false_iff_eq] at h4
  rw [if_neg (fun q => q.elim (fun e => by rw [h3] at e; cases e) (fun e => e h4))]
  refine OK.loop (Q := Sum.elim (fun _ : Unit => ¬ i.One_Args.all argOk = true) (fun _ : Unit => i.One_Args.all argOk = true)) (fun z : Int => 0 ≤ z ∧ z ≤ i.One_Args.length ∧ (i.One_Args.take z.toNat).all argOk = true) (fun z => (i.One_Args.length - z).toNat) ⟨Int.le_refl _, by omega, rfl⟩ ?_ ?_
  · rintro k ⟨g1, g2, g3⟩
    simp only [spec_l17Wrong_s39]
    refine OK.cond (fun hc => ?_) (fun hc => ?_)
    · simp only [decide_eq_true_eq] at hc
      refine OK.idx g1 hc fun a ha had => ?_
      rw [sField_eq, Option.bind_some]
      refine OK.cond (fun hf => OK.mk ?_) (fun hf => ?_)
      · exact all_not ha (by simpa using hf)
      · have e : IntKind.i64.wrap (k + 1) = k + 1 := w64 (by omega) (by omega)
        rw [e]
        exact OK.mk ⟨⟨by omega, by omega, by rw [take1G g1 hc had]; exact all_snoc g3 (by simpa using hf)⟩, by omega⟩
    · simp only [decide_eq_false_iff_not] at hc
      rw [List.take_of_length_le (by omega)] at g3
      exact OK.mk g3
  · rintro (_ | _) hx
    · exact OK.mk (by rw [if_neg (show ¬ i.One_Args.all argOk = true from hx)])
    · exact OK.mk (by rw [if_pos (show i.One_Args.all argOk = true from hx)])
end Go.AM
