/- Images: how both packages write instructions. Conditions: none. -/
import Derived.Test.YtcnlhdaeeeolbaaAmPuO
set_option linter.unusedSimpArgs false
set_option linter.unusedVariables false
namespace Go.AM
open Go
def be2 (v : Int) : List Int := [v / 256 % 256, v % 256]
def be4 (v : Int) : List Int := [v / 16777216 % 256, v / 65536 % 256, v / 256 % 256, v % 256]
def ar (op : Int) : Int := if op = 1 ∨ op = 2 ∨ op = 21 ∨ op = 22 ∨ op = 23 ∨ op = 25 then 1 else if 31 ≤ op ∧ op ≤ 35 then 3 else if (1 ≤ op ∧ op ≤ 10) ∨ (21 ≤ op ∧ op ≤ 37) then 2 else 0
def isHas (c : Int) : Bool := c == 1 || c == 2 || c == 3 || c == 10
def known (c op : Int) : Bool := if c = 10 then decide (21 ≤ op ∧ op ≤ 37) else decide (1 ≤ op ∧ op ≤ 10)
def argOk (a : DevArg) : Bool :=
  if a.Kind = 11 then decide (-32768 ≤ a.N ∧ a.N ≤ 32767 ∧ a.P = 0)
  else if a.Kind = 12 then decide (-2147483648 ≤ a.N ∧ a.N ≤ 2147483647 ∧ 0 ≤ a.P ∧ a.P ≤ 255)
  else decide (((1 ≤ a.Kind ∧ a.Kind ≤ 10) ∨ a.Kind = 13) ∧ 0 ≤ a.N ∧ a.N ≤ 255 ∧ a.P = 0)
def encA (a : DevArg) : List Int := a.Kind % 256 :: (if a.Kind = 11 then be2 a.N else if a.Kind = 12 then be4 a.N ++ [a.P % 256] else [a.N % 256])
def encI (i : Inst) : List Int := i.Code % 256 :: (if isHas i.Code = true then i.One_Op % 256 :: i.One_Args.flatMap encA else [])
def wro (i : Inst) : Int :=
  if i.Code < 1 ∨ i.Code > 11 then 2
  else if isHas i.Code = false then (if i.One_Op ≠ 0 ∨ i.One_Args.length > 0 then 2 else 0)
  else if known i.Code i.One_Op = false ∨ (i.One_Args.length : Int) ≠ ar i.One_Op then 2
  else if i.One_Args.all argOk = true then 0 else 3
theorem ar_bd (op : Int) : 0 ≤ ar op ∧ ar op ≤ 3 := by unfold ar; repeat' split <;> omega
theorem sArity_ok (op : Int) : OK (spec_ElemArity op) (fun x => x = ar op) := by
  unfold spec_ElemArity
  repeat' (first
    | (refine OK.mk ?_; simp only [beq_iff_eq, beq_eq_false_iff_ne, ne_eq, Bool.or_eq_true, Bool.and_eq_true, decide_eq_true_eq, Bool.or_eq_false_iff, Bool.and_eq_false_iff, decide_eq_false_iff_not] at *; unfold ar; repeat' split <;> omega)
    | simp only [spec_ElemArity_j7, spec_ElemArity_j33]
    | refine OK.cond (fun _ => ?_) (fun _ => ?_))
theorem in_eq (a b c : Int) : impl_in a b c = some (decide (b ≤ a ∧ a ≤ c)) := by unfold impl_in; simp [Bool.decide_and]
theorem iArity_ok (op : Int) : OK (impl_ElemArity op) (fun x => x = ar op) := by
  unfold impl_ElemArity
  simp only [in_eq, Option.bind_some]
  repeat' (first
    | (refine OK.mk ?_; simp only [beq_iff_eq, beq_eq_false_iff_ne, ne_eq, Bool.or_eq_true, Bool.and_eq_true, decide_eq_true_eq, Bool.or_eq_false_iff, Bool.and_eq_false_iff, decide_eq_false_iff_not] at *; unfold ar; repeat' split <;> omega)
    | simp only [impl_ElemArity_j5, impl_ElemArity_j29, in_eq, Option.bind_some]
    | refine OK.cond (fun _ => ?_) (fun _ => ?_))
theorem sHas_eq (c : Int) : spec_l17Has c = some (isHas c) := rfl
theorem iHas_eq (c : Int) : impl_hasOne c = some (isHas c) := by
  unfold impl_hasOne
  rw [in_eq, Option.bind_some]
  congr 1
  unfold isHas
  rw [Bool.eq_iff_iff]
  simp
  omega
theorem sKnown_eq (c op : Int) : spec_l17Known c op = some (known c op) := by
  refine OK.eq ?_
  unfold spec_l17Known known
  refine OK.cond (fun h => OK.mk ?_) (fun h => OK.mk ?_)
  · rw [if_pos (by simpa using h)]; simp [Bool.decide_and]
  · rw [if_neg (by simpa using h)]; simp [Bool.decide_and]
theorem iFits_eq (c op : Int) : impl_opFits c op = some (known c op) := by
  refine OK.eq ?_
  unfold impl_opFits known
  simp only [in_eq, Option.bind_some]
  refine OK.cond (fun h => OK.mk ?_) (fun h => OK.mk ?_)
  · rw [if_pos (by simpa using h)]
  · rw [if_neg (by simpa using h)]
/-! numbers in bytes -/
/-! an operand, an instruction -/
end Go.AM
