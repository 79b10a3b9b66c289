/- Images: how both packages write instructions. Conditions: none. -/
import Derived.Test.YtkafcijfljjlaabAmPuO
set_option linter.unusedSimpArgs false
set_option linter.unusedVariables false
namespace Go.AM
open Go
def be2 (v : Int) : List Int := [v / 256 % 256, v % 256]
def be4 (v : Int) : List Int := [v / 16777216 % 256, v / 65536 % 256, v / 256 % 256, v % 256]
def ar (op : Int) : Int := if op = 1 ∨ op = 2 ∨ op = 21 ∨ op = 22 ∨ op = 23 ∨ op = 25 then 1 else if 31 ≤ op ∧ op ≤ 35 then 3 else if (1 ≤ op ∧ op ≤ 10) ∨ (21 ≤ op ∧ op ≤ 37) then 2 else 0
def isHas (c : Int) : Bool := c == 1 || c == 2 || c == 3 || c == 10
def known (c op : Int) : Bool := if c = 10 then decide (21 ≤ op ∧ op ≤ 37) else decide (1 ≤ op ∧ op ≤ 10)
def argOk (a : DevArg) : Bool :=
  if a.Kind = 11 then decide (-32768 ≤ a.N ∧ a.N ≤ 32767 ∧ a.P = 0)
  else if a.Kind = 12 then decide (-2147483648 ≤ a.N ∧ a.N ≤ 2147483647 ∧ 0 ≤ a.P ∧ a.P ≤ 255)
  else decide (((1 ≤ a.Kind ∧ a.Kind ≤ 10) ∨ a.Kind = 13) ∧ 0 ≤ a.N ∧ a.N ≤ 255 ∧ a.P = 0)
def encA (a : DevArg) : List Int := a.Kind % 256 :: (if a.Kind = 11 then be2 a.N else if a.Kind = 12 then be4 a.N ++ [a.P % 256] else [a.N % 256])
def encI (i : Inst) : List Int := i.Code % 256 :: (if isHas i.Code = true then i.One_Op % 256 :: i.One_Args.flatMap encA else [])
def wro (i : Inst) : Int :=
  if i.Code < 1 ∨ i.Code > 11 then 2
  else if isHas i.Code = false then (if i.One_Op ≠ 0 ∨ i.One_Args.length > 0 then 2 else 0)
  else if known i.Code i.One_Op = false ∨ (i.One_Args.length : Int) ≠ ar i.One_Op then 2
  else if i.One_Args.all argOk = true then 0 else 3
theorem ar_bd (op : Int) : 0 ≤ ar op ∧ ar op ≤ 3 := by unfold ar; repeat' split <;> omega
theorem sArity_ok (op : Int) : OK (spec_ElemArity op) (fun x => x = ar op) := by
  unfold spec_ElemArity
  repeat' (first
    | (refine OK.mk ?_; simp only [beq_iff_eq, beq_eq_false_iff_ne, ne_eq, Bool.or_eq_true, Bool.and_eq_true, decide_eq_true_eq, Bool.or_eq_false_iff, Bool.and_eq_false_iff, decide_eq_false_iff_not] at *; unfold ar; repeat' split <;> omega)
    | simp only [spec_ElemArity_j7, spec_ElemArity_j33]
    | refine OK.cond (fun _ => ?_) (fun _ => ?_))
theorem in_eq (a b c : Int) : impl_in a b c = some (decide (b ≤ a ∧ a ≤ c)) := by unfold impl_in; simp [Bool.decide_and]
theorem iArity_ok (op : Int) : OK (impl_ElemArity op) (fun x => x = ar op) := by
  unfold impl_ElemArity
  simp only [in_eq, Option.bind_some]
  repeat' (first
    | (refine OK.mk ?_; simp only [beq_iff_eq, beq_eq_false_iff_ne, ne_eq, Bool.or_eq_true, Bool.and_eq_true, decide_eq_true_eq, Bool.or_eq_false_iff, Bool.and_eq_false_iff, decide_eq_false_iff_not] at *; unfold ar; repeat' split <;> omega)
    | simp only [impl_ElemArity_j5, impl_ElemArity_j29, in_eq, Option.bind_some]
    | refine OK.cond (fun _ => ?_) (fun _ => ?_))
theorem sHas_eq (c : Int) : spec_l17Has c = some (isHas c) := rfl
theorem iHas_eq (c : Int) : impl_hasOne c = some (isHas c) := by
  unfold impl_hasOne
  rw [in_eq, Option.bind_some]
  congr 1
  unfold isHas
  rw [Bool.eq_iff_iff]
  simp
  omega
theorem sKnown_eq (c op : Int) : spec_l17Known c op = some (known c op) := by
  refine OK.eq ?_
  unfold spec_l17Known known
  refine OK.cond (fun h => OK.mk ?_) (fun h => OK.mk ?_)
  · rw [if_pos (by simpa using h)]; simp [Bool.decide_and]
  · rw [if_neg (by simpa using h)]; simp [Bool.decide_and]
theorem iFits_eq (c op : Int) : impl_opFits c op = some (known c op) := by
  refine OK.eq ?_
  unfold impl_opFits known
  simp only [in_eq, Option.bind_some]
  refine OK.cond (fun h => OK.mk ?_) (fun h => OK.mk ?_)
  · rw [if_pos (by simpa using h)]
  · rw [if_neg (by simpa using h)]
theorem sField_eq (a : DevArg) : spec_l17Field a = some (argOk a) := by
  refine OK.eq ?_
  unfold spec_l17Field argOk
  refine OK.cond (fun h => OK.mk ?_) (fun h => ?_)
  · rw [if_pos (by simpa using h), Bool.eq_iff_iff]; simp [and_assoc]
  have h : ¬ a.Kind = 11 := by simpa using h
  rw [if_neg h]
  refine OK.cond (fun h2 => OK.mk ?_) (fun h2 => ?_)
  · rw [if_pos (by simpa using h2), Bool.eq_iff_iff]; simp [and_assoc]
  have h2 : ¬ a.Kind = 12 := by simpa using h2
  rw [if_neg h2]
  refine OK.cond (fun h3 => OK.mk ?_) (fun h3 => OK.mk ?_)
  · have h3 : a.Kind = 13 := by simpa using h3
    rw [Bool.eq_iff_iff]; simp [h3, and_assoc]
  · have h3 : ¬ a.Kind = 13 := by simpa using h3
    rw [Bool.eq_iff_iff]; simp [h3, and_assoc]
/-! numbers in bytes -/
theorem tmod256 (v : Int) : (v.tmod 256 < 0 → v.tmod 256 + 256 = v % 256) ∧ (¬ v.tmod 256 < 0 → v.tmod 256 = v % 256) ∧ -256 < v.tmod 256 ∧ v.tmod 256 < 256 := by
  rw [Int.tmod_eq_emod]
  split <;> omega
theorem num_step {v : Int} {l : List Int} {i : Int} (hv : -4611686018427387904 ≤ v) (hv2 : v ≤ 4611686018427387904) (h0 : 0 ≤ i) (h1 : i < l.length) (hi : i ≤ 100) : spec_l17Num_s9 (v, l, i) = some (.inl (v / 256, l.set i.toNat (v % 256), i - 1)) := by
  refine OK.eq ?_
  simp only [spec_l17Num_s9]
  have fin : ∀ d, d = v % 256 → OK (spec_l17Num_j20 v l i d) (fun y => y = .inl (v / 256, l.set i.toNat (v % 256), i - 1)) := by
    rintro d rfl
    simp only [spec_l17Num_j20]
    refine OK.idx h0 h1 fun y _ _ => ?_
    have e1 : IntKind.i64.wrap (v - v % 256) = v - v % 256 := w64 (by omega) (by omega)
    have e2 : IntKind.i64.wrap ((v - v % 256).tdiv 256) = v / 256 := by
      have : (v - v % 256).tdiv 256 = v / 256 := by
        have h : v - v % 256 = v / 256 * 256 := by omega
        rw [h, Int.mul_tdiv_cancel _ (by omega)]
      rw [this]; exact w64 (by omega) (by omega)
    have e3 : IntKind.i64.wrap (i - 1) = i - 1 := w64 (by omega) (by omega)
    have e4 : IntKind.u8.wrap (v % 256) = v % 256 := by rw [u8w_eq]; omega
    rw [e1, e2, e3, e4]
    exact OK.mk rfl
  obtain ⟨t1, t2, t3, t4⟩ := tmod256 v
  refine OK.cond (fun _ => ?_) (fun hc => ?_)
  · refine OK.cond (fun hd => ?_) (fun hd => ?_)
    · simp only [decide_eq_true_eq] at hd
      refine fin _ ?_
      rw [w64 (by omega) (by omega)]; exact t1 hd
    · simp only [decide_eq_false_iff_not] at hd
      exact fin _ (t2 hd)
  · simp only [decide_eq_false_iff_not] at hc; omega
theorem num_out {v : Int} {l : List Int} {i : Int} (h : i < 0) : spec_l17Num_s9 (v, l, i) = some (.inr l) := by
  simp only [spec_l17Num_s9]
  rw [show decide (i ≥ 0) = false from decide_eq_false (by omega)]; rfl
theorem num1 {v : Int} (hv : -4611686018427387904 ≤ v) (hv2 : v ≤ 4611686018427387904) : spec_l17Num v 1 = some [v % 256] := by
  unfold spec_l17Num
  rw [show mkOk 1 1 1 = true from rfl, gd_t, show IntKind.i64.wrap (1 - 1) = 0 from rfl, show List.replicate (1 : Int).toNat (0 : Int) = [0] from rfl]
  rw [loop_on (num_step hv hv2 (by omega) (by simp) (by omega)), loop_out (num_out (by omega))]; rfl
theorem num2 {v : Int} (hv : -4611686018427387904 ≤ v) (hv2 : v ≤ 4611686018427387904) : spec_l17Num v 2 = some (be2 v) := by
  unfold spec_l17Num
  rw [show mkOk 2 2 1 = true from rfl, gd_t, show IntKind.i64.wrap (2 - 1) = 1 from rfl, show List.replicate (2 : Int).toNat (0 : Int) = [0, 0] from rfl]
  rw [loop_on (num_step hv hv2 (by omega) (by simp) (by omega)), loop_on (num_step (by omega) (by omega) (by omega) (by simp) (by omega)), loop_out (num_out (by omega))]; rfl
theorem num4 {v : Int} (hv : -4611686018427387904 ≤ v) (hv2 : v ≤ 4611686018427387904) : spec_l17Num v 4 = some (be4 v) := by
  unfold spec_l17Num
  rw [show mkOk 4 4 1 = true from rfl, gd_t, show IntKind.i64.wrap (4 - 1) = 3 from rfl, show List.replicate (4 : Int).toNat (0 : Int) = [0, 0, 0, 0] from rfl]
  rw [loop_on (num_step hv hv2 (by omega) (by simp) (by omega)), loop_on (num_step (by omega) (by omega) (by omega) (by simp) (by omega)), loop_on (num_step (by omega) (by omega) (by omega) (by simp) (by omega)), loop_on (num_step (by omega) (by omega) (by omega) (by simp) (by omega)), loop_out (num_out (by omega))]
  show some [_, _, _, _] = some (be4 v)
  unfold be4
  have e1 : v / 256 / 256 = v / 65536 := by omega
  have e2 : v / 256 / 256 / 256 = v / 16777216 := by omega
  rw [e2, e1]
/-! an operand, an instruction -/
theorem encA_len (a : DevArg) : 2 ≤ (encA a).length ∧ (encA a).length ≤ 6 := by
  unfold encA
  split
  · simp [be2]
  · split <;> simp [be4]
theorem encA_by8 (a : DevArg) : by8 (encA a) := by
  unfold encA
  intro y hy
  split at hy
  · simp [be2] at hy; omega
  · split at hy
    · simp [be4] at hy; omega
    · simp at hy; omega
end Go.AM
