/- The draws end well: elements. Conditions: none. -/
import Derived.Test.YtbmoclfnkefomaaDoorAmPuB
set_option linter.unusedSimpArgs false
set_option linter.unusedVariables false
namespace Go.AM
open Go
theorem l4Bit_ok {N : Int} {r : l26Rd} (h : G N r) (hN : N ≤ 90000000000) : OK (spec_l4Bit r) (fun x => G (N + 5) x.2) := by
  unfold spec_l4Bit
  repeat' (first
    | (refine OK.mk ?_; (refine G.up (by assumption) ?_; omega))
    | (refine OK.bind (num_ok (by assumption) (by omega) (by simp)) ?_; rintro x ⟨_, _⟩)
    | (refine OK.bind (l2Arg_ok (by assumption) (by omega)) ?_; rintro x _)
    | refine OK.cond (fun _ => ?_) (fun _ => ?_))
theorem l4Whole_ok {N : Int} {r : l26Rd} (h : G N r) (hN : N ≤ 90000000000) : OK (spec_l4Whole r) (fun x => G (N + 5) x.2) := by
  unfold spec_l4Whole
  repeat' (first
    | (refine OK.mk ?_; (refine G.up (by assumption) ?_; omega))
    | (refine OK.bind (num_ok (by assumption) (by omega) (by simp)) ?_; rintro x ⟨_, _⟩)
    | (refine OK.bind (l2Arg_ok (by assumption) (by omega)) ?_; rintro x _)
    | refine OK.cond (fun _ => ?_) (fun _ => ?_))
theorem l4Real_ok {N : Int} {r : l26Rd} (h : G N r) (hN : N ≤ 90000000000) : OK (spec_l4Real r) (fun x => G (N + 5) x.2) := by
  unfold spec_l4Real
  repeat' (first
    | (refine OK.mk ?_; (refine G.up (by assumption) ?_; omega))
    | (refine OK.bind (num_ok (by assumption) (by omega) (by simp)) ?_; rintro x ⟨_, _⟩)
    | (refine OK.bind (l2Arg_ok (by assumption) (by omega)) ?_; rintro x _)
    | refine OK.cond (fun _ => ?_) (fun _ => ?_))
theorem l4Contact_ok {N : Int} {r : l26Rd} (h : G N r) (hN : N ≤ 80000000000) : OK (spec_l4Contact r) (fun x => G (N + 30) x.2 ∧ x.1.Args.length ≤ 3 ∧ 1 ≤ x.1.Args.length) := by
  unfold spec_l4Contact
  repeat' (first
    | (refine OK.mk ?_; (refine ⟨G.up (by assumption) ?_, ?_, ?_⟩ <;> first | omega | simp))
    | (refine OK.bind (pick_ok (by assumption) (by omega)) ?_; rintro x ⟨_, _, _⟩)
    | (refine OK.bind (l4Bit_ok (by assumption) (by omega)) ?_; rintro x _)
    | (refine OK.bind (l4Whole_ok (by assumption) (by omega)) ?_; rintro x _)
    | (refine OK.bind (l4Real_ok (by assumption) (by omega)) ?_; rintro x _)
    | (refine OK.bind (l2Arg_ok (by assumption) (by omega)) ?_; rintro x _)
    | simp only [spec_l4Contact_j7, spec_l4Contact_j21, spec_l4Contact_j42, spec_l4Contact_j50]
    | refine OK.cond (fun _ => ?_) (fun _ => ?_))
theorem ElemArity_ok (k : Int) : OK (spec_ElemArity k) (fun x => 0 ≤ x ∧ x ≤ 3 ∧ (21 ≤ k → k ≤ 37 → 1 ≤ x)) := by
  unfold spec_ElemArity
  repeat' (first
    | (refine OK.mk ?_; (refine ⟨by omega, by omega, fun _ _ => ?_⟩; first | omega | (simp at *; omega)))
    | simp only [spec_ElemArity_j7, spec_ElemArity_j33]
    | refine OK.cond (fun _ => ?_) (fun _ => ?_))
set_option maxHeartbeats 4000000 in
theorem l4Coil_ok {N : Int} {r : l26Rd} (h : G N r) (hN : N ≤ 80000000000) : OK (spec_l4Coil r) (fun x => G (N + 30) x.2 ∧ x.1.Args.length ≤ 3 ∧ 1 ≤ x.1.Args.length) := by
  unfold spec_l4Coil
  repeat' (first
    | (refine OK.mk ?_; (refine ⟨G.up (by assumption) ?_, ?_, ?_⟩ <;> first | omega | (simp; done) | (simp; omega) | (simp at *; omega)))
    | (refine OK.bind (pick_ok (by assumption) (by omega)) ?_; rintro x ⟨_, _, _⟩)
    | (refine OK.bind (num_ok (by assumption) (by omega) (by simp)) ?_; rintro x ⟨_, _⟩)
    | (refine OK.bind (l4Whole_ok (by assumption) (by omega)) ?_; rintro x _)
    | (refine OK.bind (l4Real_ok (by assumption) (by omega)) ?_; rintro x _)
    | (refine OK.bind (l2Arg_ok (by assumption) (by omega)) ?_; rintro x _)
    | (refine OK.bind (ElemArity_ok _) ?_; rintro x ⟨_, _, _⟩)
    | refine OK.gd (by simp; omega) ?_
    | simp only [spec_l4Coil_j9, spec_l4Coil_j49]
    | refine OK.cond (fun _ => ?_) (fun _ => ?_))
def okI (i : Inst) : Prop := i.One_Args.length ≤ 5
theorem l11Inst_ok {N : Int} {r : l26Rd} (h : G N r) (hN : N ≤ 70000000000) : OK (spec_l11Inst r) (fun x => G (N + 40) x.2 ∧ okI x.1) := by
  unfold spec_l11Inst
  repeat' (first
    | (refine OK.mk ?_; (refine ⟨G.up (by assumption) ?_, ?_⟩ <;> first | omega | (simp only [okI]; omega) | (simp [okI]; done)))
    | (refine OK.bind (num_ok (by assumption) (by omega) (by simp)) ?_; rintro x ⟨_, _⟩)
    | (refine OK.bind (l4Contact_ok (by assumption) (by omega)) ?_; rintro x ⟨_, _⟩)
    | (refine OK.bind (l4Coil_ok (by assumption) (by omega)) ?_; rintro x ⟨_, _⟩)
    | refine OK.cond (fun _ => ?_) (fun _ => ?_))
theorem l2Spoilt_ok {N : Int} {r : l26Rd} {d : DevArg} (h : G N r) (hN : N ≤ 70000000000) : OK (spec_l2Spoilt r d) (fun x => G (N + 3) x.2) := by
  unfold spec_l2Spoilt
  repeat' (first
    | (refine OK.mk ?_; (refine G.up (by assumption) ?_; omega))
    | (refine OK.bind (pick_ok (by assumption) (by omega)) ?_; rintro x ⟨_, _, _⟩)
    | (refine OK.bind (num_ok (by assumption) (by omega) (by simp)) ?_; rintro x ⟨_, _⟩)
    | (refine OK.bind (DevSize_ok _) ?_; rintro x _)
    | simp only [spec_l2Spoilt_j3]
    | refine OK.cond (fun _ => ?_) (fun _ => ?_))
theorem l2Any_ok {N : Int} {r : l26Rd} (h : G N r) (hN : N ≤ 60000000000) : OK (spec_l2Any r) (fun x => G (N + 12) x.2) := by
  unfold spec_l2Any
  repeat' (first
    | (refine OK.mk ?_; (refine G.up (by assumption) ?_; omega))
    | (refine OK.bind (pick_ok (by assumption) (by omega)) ?_; rintro x ⟨_, _, _⟩)
    | (refine OK.bind (l2Arg_ok (by assumption) (by omega)) ?_; rintro x _)
    | (refine OK.bind (l2Spoilt_ok (by assumption) (by omega)) ?_; rintro x _)
    | refine OK.cond (fun _ => ?_) (fun _ => ?_))
theorem l4Spoil_ok {N : Int} {r : l26Rd} {e : Elem} (h : G N r) (hN : N ≤ 50000000000) (he : e.Args.length ≤ 10) : OK (spec_l4Spoil r e) (fun x => G (N + 40) x.2 ∧ x.1.Args.length ≤ e.Args.length + 1) := by
  unfold spec_l4Spoil
  refine OK.gd (apOk_of (by omega) (by omega)) ?_
  repeat' (first
    | (refine OK.mk ?_; (refine ⟨G.up (by assumption) ?_, ?_⟩ <;> first | omega | (simp; done)))
    | (refine OK.bind (pick_ok (by assumption) (by omega)) ?_; rintro x ⟨_, _, _⟩)
    | (refine OK.bind (num_ok (by assumption) (by omega) (by simp)) ?_; rintro x ⟨_, _⟩)
    | (refine OK.bind (l2Any_ok (by assumption) (by omega)) ?_; rintro x _)
    | (refine OK.bind (l2Spoilt_ok (by assumption) (by omega)) ?_; rintro x _)
    | refine OK.gd (apOk_of (by simp; omega) (by simp; omega)) ?_
    | (refine OK.idx (by omega) (by simp only [decide_eq_true_eq, List.length_set] at *; omega) ?_; rintro x _ _)
    | simp only [spec_l4Spoil_j28]
    | refine OK.cond (fun _ => ?_) (fun _ => ?_))
theorem l4Any_ok {N : Int} {r : l26Rd} (h : G N r) (hN : N ≤ 40000000000) : OK (spec_l4Any r) (fun x => G (N + 120) x.2 ∧ x.1.Args.length ≤ 4) := by
  unfold spec_l4Any
  repeat' (first
    | (refine OK.mk ?_; (refine ⟨G.up (by assumption) ?_, ?_⟩ <;> first | omega | (dsimp only at *; omega)))
    | (refine OK.bind (pick_ok (by assumption) (by omega)) ?_; rintro x ⟨_, _, _⟩)
    | (refine OK.bind (l4Contact_ok (by assumption) (by omega)) ?_; rintro x ⟨_, _⟩)
    | (refine OK.bind (l4Coil_ok (by assumption) (by omega)) ?_; rintro x ⟨_, _⟩)
    | (refine OK.bind (l4Spoil_ok (by assumption) (by omega) (by dsimp only; omega)) ?_; rintro x ⟨_, _⟩)
    | simp only [spec_l4Any_j5]
    | refine OK.cond (fun _ => ?_) (fun _ => ?_))
end Go.AM
