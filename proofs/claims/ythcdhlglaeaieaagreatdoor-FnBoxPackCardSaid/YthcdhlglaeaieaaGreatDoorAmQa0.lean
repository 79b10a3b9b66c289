/- Structures and cells. Conditions: none. -/
import Derived.Test.YthcdhlglaeaieaaGreatDoorAmTy
import Derived.Test.YthcdhlglaeaieaaGreatDoorAmB5
set_option linter.unusedSimpArgs false
set_option linter.unusedVariables false
namespace Go.AM
open Go Go.Proofs
def e_i64 (x : Int) : List AV := [.sc (.int .i64 (x))]
theorem e_i64_eq (x : Int) : e_i64 x = [.sc (.int .i64 (x))] := rfl
theorem e_i64_one (a : Int) : [[.sc (.int .i64 (a))]] = R e_i64 [a] := rfl
theorem e_i64_cons (a : Int) (l : List Int) : [.sc (.int .i64 (a))] :: R e_i64 l = R e_i64 (a :: l) := rfl
theorem e_i64_frz (os : List AO) (l : List Int) : ((R e_i64 l).map fun x => x.map (frz os)) = R e_i64 l := by simp [R, e_i64, frz]
attribute [go_sem] e_i64_eq e_i64_frz e_i64_one e_i64_cons
def e_u8 (x : Int) : List AV := [.sc (.int .u8 (x))]
theorem e_u8_eq (x : Int) : e_u8 x = [.sc (.int .u8 (x))] := rfl
theorem e_u8_one (a : Int) : [[.sc (.int .u8 (a))]] = R e_u8 [a] := rfl
theorem e_u8_cons (a : Int) (l : List Int) : [.sc (.int .u8 (a))] :: R e_u8 l = R e_u8 (a :: l) := rfl
theorem e_u8_set (a : Int) (l : List Int) (n : Nat) : (R e_u8 l).set n [.sc (.int .u8 (a))] = R e_u8 (l.set n a) := R_set e_u8 l n a
theorem e_u8_frz (os : List AO) (l : List Int) : ((R e_u8 l).map fun x => x.map (frz os)) = R e_u8 l := by simp [R, e_u8, frz]
theorem e_u8_nofz (l : List Int) : allP (allP noFzC) (R e_u8 l) = True := noFz_R e_u8 (fun _ => by simp [e_u8, allP, noFzC]) l
theorem e_u8_rep (a : Int) (n : Nat) : List.replicate n [.sc (.int .u8 (a))] = R e_u8 (List.replicate n a) := R_rep e_u8 n a
theorem e_u8_str (l : List Int) : strOf (R e_u8 l) = bstr l := by rw [strOf_R e_u8 (fun x => x) (fun _ => rfl), List.map_id']
theorem e_u8_row (l : List Int) : allP byteRow (R e_u8 l) = True := byteRow_R e_u8 (fun _ => trivial) l
attribute [go_sem] e_u8_eq e_u8_frz e_u8_one e_u8_cons e_u8_set e_u8_nofz e_u8_rep e_u8_str e_u8_row
def e_str (x : ByteArray) : List AV := [.sc (.string (x))]
def e_L_u8 (x : (List Int)) : List AV := [.fz 1 (R e_u8 (x))]
theorem e_L_u8_eq (x : (List Int)) : e_L_u8 x = [.fz 1 (R e_u8 (x))] := rfl
theorem e_L_u8_one (a : (List Int)) : [[.fz 1 (R e_u8 (a))]] = R e_L_u8 [a] := rfl
theorem e_L_u8_cons (a : (List Int)) (l : List (List Int)) : [.fz 1 (R e_u8 (a))] :: R e_L_u8 l = R e_L_u8 (a :: l) := rfl
attribute [go_sem] e_L_u8_eq e_L_u8_one e_L_u8_cons
structure DevArg where
 Kind : Int
 N : Int
 P : Int
deriving Inhabited
def aa (x : DevArg) : List AV := [.sc (.int .i64 (x.Kind)), .sc (.int .i64 (x.N)), .sc (.int .i64 (x.P))]
theorem e_DevArg_eq (x : DevArg) : aa x = [.sc (.int .i64 (x.Kind)), .sc (.int .i64 (x.N)), .sc (.int .i64 (x.P))] := rfl
theorem e_DevArg_one (a0 : Int) (a1 : Int) (a2 : Int) : [[.sc (.int .i64 (a0)), .sc (.int .i64 (a1)), .sc (.int .i64 (a2))]] = R aa [⟨a0, a1, a2⟩] := rfl
theorem e_DevArg_cons (a0 : Int) (a1 : Int) (a2 : Int) (l : List DevArg) : [.sc (.int .i64 (a0)), .sc (.int .i64 (a1)), .sc (.int .i64 (a2))] :: R aa l = R aa (⟨a0, a1, a2⟩ :: l) := rfl
theorem e_DevArg_set (a0 : Int) (a1 : Int) (a2 : Int) (l : List DevArg) (n : Nat) : (R aa l).set n [.sc (.int .i64 (a0)), .sc (.int .i64 (a1)), .sc (.int .i64 (a2))] = R aa (l.set n ⟨a0, a1, a2⟩) := R_set aa l n ⟨a0, a1, a2⟩
theorem e_DevArg_frz (os : List AO) (l : List DevArg) : ((R aa l).map fun x => x.map (frz os)) = R aa l := by simp [R, aa, frz]
theorem e_DevArg_nofz (l : List DevArg) : allP (allP noFzC) (R aa l) = True := noFz_R aa (fun _ => by simp [aa, allP, noFzC]) l
theorem e_DevArg_rep (a0 : Int) (a1 : Int) (a2 : Int) (n : Nat) : List.replicate n [.sc (.int .i64 (a0)), .sc (.int .i64 (a1)), .sc (.int .i64 (a2))] = R aa (List.replicate n ⟨a0, a1, a2⟩) := R_rep aa n ⟨a0, a1, a2⟩
attribute [go_sem] e_DevArg_eq e_DevArg_frz e_DevArg_one e_DevArg_cons e_DevArg_set e_DevArg_nofz e_DevArg_rep
structure Elem where
 Op : Int
 Args : (List DevArg)
deriving Inhabited
def aE (x : Elem) : List AV := [.sc (.int .i64 (x.Op)), .fz 3 (R aa (x.Args))]
theorem e_Elem_eq (x : Elem) : aE x = [.sc (.int .i64 (x.Op)), .fz 3 (R aa (x.Args))] := rfl
theorem e_Elem_one (a0 : Int) (a1 : (List DevArg)) : [[.sc (.int .i64 (a0)), .fz 3 (R aa (a1))]] = R aE [⟨a0, a1⟩] := rfl
theorem e_Elem_frz (os : List AO) (l : List Elem) : ((R aE l).map fun x => x.map (frz os)) = R aE l := by simp [R, aE, frz]
attribute [go_sem] e_Elem_eq e_Elem_frz e_Elem_one
structure Inst where
 Code : Int
 One_Op : Int
 One_Args : (List DevArg)
deriving Inhabited
def ao (x : Inst) : List AV := [.sc (.int .i64 (x.Code)), .sc (.int .i64 (x.One_Op)), .fz 3 (R aa (x.One_Args))]
theorem e_Inst_eq (x : Inst) : ao x = [.sc (.int .i64 (x.Code)), .sc (.int .i64 (x.One_Op)), .fz 3 (R aa (x.One_Args))] := rfl
theorem e_Inst_one (a0 : Int) (a1 : Int) (a2 : (List DevArg)) : [[.sc (.int .i64 (a0)), .sc (.int .i64 (a1)), .fz 3 (R aa (a2))]] = R ao [⟨a0, a1, a2⟩] := rfl
theorem e_Inst_set (a0 : Int) (a1 : Int) (a2 : (List DevArg)) (l : List Inst) (n : Nat) : (R ao l).set n [.sc (.int .i64 (a0)), .sc (.int .i64 (a1)), .fz 3 (R aa (a2))] = R ao (l.set n ⟨a0, a1, a2⟩) := R_set ao l n ⟨a0, a1, a2⟩
theorem e_Inst_frz (os : List AO) (l : List Inst) : ((R ao l).map fun x => x.map (frz os)) = R ao l := by simp [R, ao, frz]
attribute [go_sem] e_Inst_eq e_Inst_frz e_Inst_one e_Inst_set
structure Net where
 Kind : Int
 One_Op : Int
 One_Args : (List DevArg)
 Kids : (List Net)
deriving Inhabited
def aq (x : Net) : List AV := [.sc (.int .i64 (x.Kind)), .sc (.int .i64 (x.One_Op)), .fz 3 (R aa (x.One_Args)), .fz 4 (x.Kids.attach.map fun y => aq y.1)]
termination_by SizeOf.sizeOf x
decreasing_by
 all_goals (have hy := List.sizeOf_lt_of_mem y.2; cases x; simp only [Net.mk.sizeOf_spec] at *; simp at hy ⊢; omega)
theorem e_Net_eq (x : Net) : aq x = [.sc (.int .i64 (x.Kind)), .sc (.int .i64 (x.One_Op)), .fz 3 (R aa (x.One_Args)), .fz 4 (R aq (x.Kids))] := by
 rw [aq]; simp [R]
theorem e_Net_one (a0 : Int) (a1 : Int) (a2 : (List DevArg)) (a3 : (List Net)) : [[.sc (.int .i64 (a0)), .sc (.int .i64 (a1)), .fz 3 (R aa (a2)), .fz 4 (R aq (a3))]] = R aq [⟨a0, a1, a2, a3⟩] := by simp [R, e_Net_eq]
theorem e_Net_cons (a0 : Int) (a1 : Int) (a2 : (List DevArg)) (a3 : (List Net)) (l : List Net) : [.sc (.int .i64 (a0)), .sc (.int .i64 (a1)), .fz 3 (R aa (a2)), .fz 4 (R aq (a3))] :: R aq l = R aq (⟨a0, a1, a2, a3⟩ :: l) := by simp [R, e_Net_eq]
theorem e_Net_frz (os : List AO) (l : List Net) : ((R aq l).map fun x => x.map (frz os)) = R aq l := by
 simp only [R, List.map_map]; refine List.map_congr_left fun x _ => ?_; simp [e_Net_eq, frz]
theorem e_Net_eta (x : Net) : (⟨x.Kind, x.One_Op, x.One_Args, x.Kids⟩ : Net) = x := by cases x; rfl
attribute [go_sem] e_Net_eta
attribute [go_sem] e_Net_eq e_Net_frz e_Net_one e_Net_cons
structure Arm where
 Net_Kind : Int
 Net_One_Op : Int
 Net_One_Args : (List DevArg)
 Net_Kids : (List Net)
 Coils : (List Elem)
 Kids : (List Arm)
deriving Inhabited
def aO (x : Arm) : List AV := [.sc (.int .i64 (x.Net_Kind)), .sc (.int .i64 (x.Net_One_Op)), .fz 3 (R aa (x.Net_One_Args)), .fz 4 (R aq (x.Net_Kids)), .fz 2 (R aE (x.Coils)), .fz 6 (x.Kids.attach.map fun y => aO y.1)]
termination_by SizeOf.sizeOf x
decreasing_by
 all_goals (have hy := List.sizeOf_lt_of_mem y.2; cases x; simp only [Arm.mk.sizeOf_spec] at *; simp at hy ⊢; omega)
theorem e_Arm_eq (x : Arm) : aO x = [.sc (.int .i64 (x.Net_Kind)), .sc (.int .i64 (x.Net_One_Op)), .fz 3 (R aa (x.Net_One_Args)), .fz 4 (R aq (x.Net_Kids)), .fz 2 (R aE (x.Coils)), .fz 6 (R aO (x.Kids))] := by
 rw [aO]; simp [R]
theorem e_Arm_one (a0 : Int) (a1 : Int) (a2 : (List DevArg)) (a3 : (List Net)) (a4 : (List Elem)) (a5 : (List Arm)) : [[.sc (.int .i64 (a0)), .sc (.int .i64 (a1)), .fz 3 (R aa (a2)), .fz 4 (R aq (a3)), .fz 2 (R aE (a4)), .fz 6 (R aO (a5))]] = R aO [⟨a0, a1, a2, a3, a4, a5⟩] := by simp [R, e_Arm_eq]
theorem e_Arm_frz (os : List AO) (l : List Arm) : ((R aO l).map fun x => x.map (frz os)) = R aO l := by
 simp only [R, List.map_map]; refine List.map_congr_left fun x _ => ?_; simp [e_Arm_eq, frz]
theorem e_Arm_eta (x : Arm) : (⟨x.Net_Kind, x.Net_One_Op, x.Net_One_Args, x.Net_Kids, x.Coils, x.Kids⟩ : Arm) = x := by cases x; rfl
attribute [go_sem] e_Arm_eta
attribute [go_sem] e_Arm_eq e_Arm_frz e_Arm_one
structure l26Rd where
 b : (List Int)
 p : Int
deriving Inhabited
structure TreeFault where
 Code : Int
 Rung : Int
deriving Inhabited
structure PicFault where
 Code : Int
 At : Int
deriving Inhabited
structure picReader where
 left : (List Int)
 code : Int
deriving Inhabited
structure SureFault where
 Code : Int
 At : Int
deriving Inhabited
structure SureState where
 Bits : Int
 Forks : Int
deriving Inhabited
structure l17In where
 b : (List Int)
 at_ : Int
deriving Inhabited
structure l12At where
 bits : Int
 forks : Int
 base : Bool
 coil : Bool
deriving Inhabited
structure l11Play where
 r : l26Rd
 out : (List Inst)
 bits : Int
 forks : Int
 base : Bool
 fresh : Bool
deriving Inhabited
def pt_devSizes : List Int := [0, 32, 32, 64, 16, 32, 5, 16, 16, 32, 16]
theorem gl_devSizes_R : gl_devSizes = R e_i64 pt_devSizes := rfl
attribute [go_sem] gl_devSizes_R
def pt_devWords : List ByteArray := [⟨#[110, 97, 110]⟩, ⟨#[105, 110, 102]⟩, ⟨#[45, 105, 110, 102]⟩, ⟨#[45, 48, 46, 48]⟩]
theorem gl_devWords_R : gl_devWords = R e_str pt_devWords := rfl
attribute [go_sem] gl_devWords_R
end Go.AM
