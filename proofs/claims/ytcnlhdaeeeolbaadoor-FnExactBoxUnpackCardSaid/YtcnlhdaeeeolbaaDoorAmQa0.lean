/- Structures and cells. Conditions: none. -/
import Derived.Test.YtcnlhdaeeeolbaaDoorAmTy
import Derived.Test.YtcnlhdaeeeolbaaDoorAmB6
set_option linter.unusedSimpArgs false
set_option linter.unusedVariables false
namespace Go.AM
open Go Go.Proofs
def e_i64 (x : Int) : List AV := [.sc (.int .i64 (x))]
theorem e_i64_eq (x : Int) : e_i64 x = [.sc (.int .i64 (x))] := rfl
theorem e_i64_one (a : Int) : [[.sc (.int .i64 (a))]] = R e_i64 [a] := rfl
theorem e_i64_cons (a : Int) (l : List Int) : [.sc (.int .i64 (a))] :: R e_i64 l = R e_i64 (a :: l) := rfl
theorem e_i64_set (a : Int) (l : List Int) (n : Nat) : (R e_i64 l).set n [.sc (.int .i64 (a))] = R e_i64 (l.set n a) := R_set e_i64 l n a
theorem e_i64_frz (os : List AO) (l : List Int) : ((R e_i64 l).map fun x => x.map (frz os)) = R e_i64 l := by simp [R, e_i64, frz]
theorem e_i64_nofz (l : List Int) : allP (allP noFzC) (R e_i64 l) = True := noFz_R e_i64 (fun _ => by simp [e_i64, allP, noFzC]) l
theorem e_i64_rep (a : Int) (n : Nat) : List.replicate n [.sc (.int .i64 (a))] = R e_i64 (List.replicate n a) := R_rep e_i64 n a
attribute [go_sem] e_i64_eq e_i64_frz e_i64_one e_i64_cons e_i64_set e_i64_nofz e_i64_rep
def e_u8 (x : Int) : List AV := [.sc (.int .u8 (x))]
theorem e_u8_eq (x : Int) : e_u8 x = [.sc (.int .u8 (x))] := rfl
theorem e_u8_one (a : Int) : [[.sc (.int .u8 (a))]] = R e_u8 [a] := rfl
theorem e_u8_cons (a : Int) (l : List Int) : [.sc (.int .u8 (a))] :: R e_u8 l = R e_u8 (a :: l) := rfl
theorem e_u8_set (a : Int) (l : List Int) (n : Nat) : (R e_u8 l).set n [.sc (.int .u8 (a))] = R e_u8 (l.set n a) := R_set e_u8 l n a
theorem e_u8_frz (os : List AO) (l : List Int) : ((R e_u8 l).map fun x => x.map (frz os)) = R e_u8 l := by simp [R, e_u8, frz]
theorem e_u8_nofz (l : List Int) : allP (allP noFzC) (R e_u8 l) = True := noFz_R e_u8 (fun _ => by simp [e_u8, allP, noFzC]) l
theorem e_u8_rep (a : Int) (n : Nat) : List.replicate n [.sc (.int .u8 (a))] = R e_u8 (List.replicate n a) := R_rep e_u8 n a
theorem e_u8_str (l : List Int) : strOf (R e_u8 l) = bstr l := by rw [strOf_R e_u8 (fun x => x) (fun _ => rfl), List.map_id']
theorem e_u8_row (l : List Int) : allP byteRow (R e_u8 l) = True := byteRow_R e_u8 (fun _ => trivial) l
theorem e_u8_bts (s : ByteArray) : strElems s = R e_u8 (bts s) := by simp only [strElems, R, bts, List.map_map]; rfl
attribute [go_sem] e_u8_eq e_u8_frz e_u8_one e_u8_cons e_u8_set e_u8_nofz e_u8_rep e_u8_str e_u8_row e_u8_bts
def e_str (x : ByteArray) : List AV := [.sc (.string (x))]
theorem e_str_eq (x : ByteArray) : e_str x = [.sc (.string (x))] := rfl
theorem e_str_one (a : ByteArray) : [[.sc (.string (a))]] = R e_str [a] := rfl
theorem e_str_cons (a : ByteArray) (l : List ByteArray) : [.sc (.string (a))] :: R e_str l = R e_str (a :: l) := rfl
theorem e_str_set (a : ByteArray) (l : List ByteArray) (n : Nat) : (R e_str l).set n [.sc (.string (a))] = R e_str (l.set n a) := R_set e_str l n a
theorem e_str_frz (os : List AO) (l : List ByteArray) : ((R e_str l).map fun x => x.map (frz os)) = R e_str l := by simp [R, e_str, frz]
theorem e_str_nofz (l : List ByteArray) : allP (allP noFzC) (R e_str l) = True := noFz_R e_str (fun _ => by simp [e_str, allP, noFzC]) l
theorem e_str_rep (a : ByteArray) (n : Nat) : List.replicate n [.sc (.string (a))] = R e_str (List.replicate n a) := R_rep e_str n a
attribute [go_sem] e_str_eq e_str_frz e_str_one e_str_cons e_str_set e_str_nofz e_str_rep
structure DevArg where
  Kind : Int
  N : Int
  P : Int
deriving Inhabited
def e_DevArg (x : DevArg) : List AV := [.sc (.int .i64 (x.Kind)), .sc (.int .i64 (x.N)), .sc (.int .i64 (x.P))]
theorem e_DevArg_eq (x : DevArg) : e_DevArg x = [.sc (.int .i64 (x.Kind)), .sc (.int .i64 (x.N)), .sc (.int .i64 (x.P))] := rfl
theorem e_DevArg_one (a0 : Int) (a1 : Int) (a2 : Int) : [[.sc (.int .i64 (a0)), .sc (.int .i64 (a1)), .sc (.int .i64 (a2))]] = R e_DevArg [⟨a0, a1, a2⟩] := rfl
theorem e_DevArg_cons (a0 : Int) (a1 : Int) (a2 : Int) (l : List DevArg) : [.sc (.int .i64 (a0)), .sc (.int .i64 (a1)), .sc (.int .i64 (a2))] :: R e_DevArg l = R e_DevArg (⟨a0, a1, a2⟩ :: l) := rfl
theorem e_DevArg_set (a0 : Int) (a1 : Int) (a2 : Int) (l : List DevArg) (n : Nat) : (R e_DevArg l).set n [.sc (.int .i64 (a0)), .sc (.int .i64 (a1)), .sc (.int .i64 (a2))] = R e_DevArg (l.set n ⟨a0, a1, a2⟩) := R_set e_DevArg l n ⟨a0, a1, a2⟩
theorem e_DevArg_frz (os : List AO) (l : List DevArg) : ((R e_DevArg l).map fun x => x.map (frz os)) = R e_DevArg l := by simp [R, e_DevArg, frz]
theorem e_DevArg_nofz (l : List DevArg) : allP (allP noFzC) (R e_DevArg l) = True := noFz_R e_DevArg (fun _ => by simp [e_DevArg, allP, noFzC]) l
theorem e_DevArg_rep (a0 : Int) (a1 : Int) (a2 : Int) (n : Nat) : List.replicate n [.sc (.int .i64 (a0)), .sc (.int .i64 (a1)), .sc (.int .i64 (a2))] = R e_DevArg (List.replicate n ⟨a0, a1, a2⟩) := R_rep e_DevArg n ⟨a0, a1, a2⟩
attribute [go_sem] e_DevArg_eq e_DevArg_frz e_DevArg_one e_DevArg_cons e_DevArg_set e_DevArg_nofz e_DevArg_rep
structure Inst where
  Code : Int
  One_Op : Int
  One_Args : (List DevArg)
deriving Inhabited
def e_Inst (x : Inst) : List AV := [.sc (.int .i64 (x.Code)), .sc (.int .i64 (x.One_Op)), .fz 3 (R e_DevArg (x.One_Args))]
theorem e_Inst_eq (x : Inst) : e_Inst x = [.sc (.int .i64 (x.Code)), .sc (.int .i64 (x.One_Op)), .fz 3 (R e_DevArg (x.One_Args))] := rfl
theorem e_Inst_one (a0 : Int) (a1 : Int) (a2 : (List DevArg)) : [[.sc (.int .i64 (a0)), .sc (.int .i64 (a1)), .fz 3 (R e_DevArg (a2))]] = R e_Inst [⟨a0, a1, a2⟩] := rfl
theorem e_Inst_cons (a0 : Int) (a1 : Int) (a2 : (List DevArg)) (l : List Inst) : [.sc (.int .i64 (a0)), .sc (.int .i64 (a1)), .fz 3 (R e_DevArg (a2))] :: R e_Inst l = R e_Inst (⟨a0, a1, a2⟩ :: l) := rfl
theorem e_Inst_set (a0 : Int) (a1 : Int) (a2 : (List DevArg)) (l : List Inst) (n : Nat) : (R e_Inst l).set n [.sc (.int .i64 (a0)), .sc (.int .i64 (a1)), .fz 3 (R e_DevArg (a2))] = R e_Inst (l.set n ⟨a0, a1, a2⟩) := R_set e_Inst l n ⟨a0, a1, a2⟩
theorem e_Inst_frz (os : List AO) (l : List Inst) : ((R e_Inst l).map fun x => x.map (frz os)) = R e_Inst l := by simp [R, e_Inst, frz]
attribute [go_sem] e_Inst_eq e_Inst_frz e_Inst_one e_Inst_cons e_Inst_set
def eO_Inst (x : Inst) : List AV := [.sc (.int .i64 (x.Code)), .sc (.int .i64 (x.One_Op)), .own 3 (R e_DevArg (x.One_Args))]
theorem eO_Inst_eq (x : Inst) : eO_Inst x = [.sc (.int .i64 (x.Code)), .sc (.int .i64 (x.One_Op)), .own 3 (R e_DevArg (x.One_Args))] := rfl
theorem eO_Inst_set (a0 : Int) (a1 : Int) (a2 : (List DevArg)) (l : List Inst) (n : Nat) : (R eO_Inst l).set n [.sc (.int .i64 (a0)), .sc (.int .i64 (a1)), .own 3 (R e_DevArg (a2))] = R eO_Inst (l.set n ⟨a0, a1, a2⟩) := R_set eO_Inst l n ⟨a0, a1, a2⟩
theorem eO_Inst_unO (l : List Inst) : ((R eO_Inst l).map fun x => x.map unO) = R e_Inst l := unO_R eO_Inst e_Inst (fun _ => rfl) l
theorem eO_Inst_mk (n : Nat) : (List.replicate n [.sc (.int .i64 (0)), .sc (.int .i64 (0)), .sc (.slice none 0 0)]).map (mkRow 2 3) = R eO_Inst (List.replicate n (⟨0, 0, []⟩ : Inst)) := mk_R eO_Inst 2 3 _ ⟨0, 0, []⟩ rfl n
theorem eO_Inst_nofz (l : List Inst) : allP (allP noFzC) (R eO_Inst l) = True := noFz_R eO_Inst (fun x => by simp [eO_Inst, allP, noFzC, noFz0_R e_DevArg (fun y => by simp [e_DevArg, allP, noFz0])]) l
attribute [go_sem] eO_Inst_eq eO_Inst_set eO_Inst_unO eO_Inst_mk eO_Inst_nofz
structure PicFault where
  Code : Int
  At : Int
deriving Inhabited
structure l17In where
  b : (List Int)
  at_ : Int
deriving Inhabited
structure SureFault where
  Code : Int
  At : Int
deriving Inhabited
structure l12At where
  bits : Int
  forks : Int
  base : Bool
  coil : Bool
deriving Inhabited
structure Elem where
  Op : Int
  Args : (List DevArg)
deriving Inhabited
structure picReader where
  left : (List Int)
  code : Int
deriving Inhabited
structure SureState where
  Bits : Int
  Forks : Int
deriving Inhabited
def pt_devWords : List ByteArray := [⟨#[110, 97, 110]⟩, ⟨#[105, 110, 102]⟩, ⟨#[45, 105, 110, 102]⟩, ⟨#[45, 48, 46, 48]⟩]
theorem gl_devWords_R : gl_devWords = R e_str pt_devWords := rfl
attribute [go_sem] gl_devWords_R
def pt_devSizes : List Int := [0, 32, 32, 64, 16, 32, 5, 16, 16, 32, 16]
theorem gl_devSizes_R : gl_devSizes = R e_i64 pt_devSizes := rfl
attribute [go_sem] gl_devSizes_R
end Go.AM
