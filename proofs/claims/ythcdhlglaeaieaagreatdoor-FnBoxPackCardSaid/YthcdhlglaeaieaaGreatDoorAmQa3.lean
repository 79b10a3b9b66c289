/- Pure functions and their contracts. Conditions: none. -/
import Derived.Test.YthcdhlglaeaieaaGreatDoorAmQa2
set_option linter.unusedSimpArgs false
set_option linter.unusedVariables false
set_option maxRecDepth 10000
set_option maxHeartbeats 4000000
namespace Go.AM
open Go Go.Proofs
noncomputable section
def s_WayDown (v1 : (List Arm)) : Option ((List Inst) × Int) :=
 ((s_TreeCheck v1).bind fun v2 => (cond (decide (v2.Code > 0)) (some ([], 1)) ((s_WayBits v1).bind fun v3 => (cond (decide (v3 > 16)) (some ([], 2)) ((s_WayForks v1).bind fun v4 => (cond (decide (v4 > 8)) (some ([], 2)) ((s_WayPlain v1).bind fun v5 => (some (v5, 0)))))))))
theorem con_s_WayDown (v1 : (List Arm)) (rz : ((List Inst) × Int)) (h : s_WayDown v1 = some rz) : Con Tryz.prog C0 62 [.fz 6 (R aO (v1))] []
  (fun x σ' => x = .tup [.sl 0 0 ((rz.1).length), .sc (.int .i64 (rz.2))] ∧ σ' = [.arr true 3 (R ao (rz.1))]) := by
 refine zCon hP 0 [0, 2, 3, 7, 15] [.tmp 2, .tmp 3] Tryz.func62 (by unfold Tryz.f62; rfl) fun Q hQ => ?_
 unfold s_WayDown at h
 refine zS z0 (sC fun k2 hk2 => ?_)
 obtain ⟨v2, c4H, h⟩ := bS h
 refine zS (zC1 (lF [] (con_s_TreeCheck _ _ c4H))) ?_
 revert h; refine zI rfl ?_ ?_ <;> intro h
 ·refine zS z0 (ab ?_)
  refine r_cR hk2 ?_
  cases h
  refine zVRw [2000002] hQ
 ·refine ae (r_cN hk2 ?_)
  refine sC fun k6 hk6 => sC fun k7 hk7 => ?_
  obtain ⟨v3, c8H, h⟩ := bS h
  rcases bE (decide (v3 > 16)) with g9 | g9
  ·replace h := ak h g9
   refine zU (zC1F (lF [] (con_s_WayBits _ _ c8H)) g9) (r_cN hk7 ?_)
   refine bM rfl ?_
   try replace h := ak h rfl
   refine zS z0 (ab ?_)
   refine r_cR hk6 ?_
   cases h
   refine zVRw [2000002] hQ
  ·replace h := av h g9
   obtain ⟨v4, c11H, h⟩ := bS h
   refine zU (zC2F (lF [] (con_s_WayBits _ _ c8H)) (lF [] (con_s_WayForks _ _ c11H)) g9) (r_cN hk7 ?_)
   revert h; refine zI rfl ?_ ?_ <;> intro h
   ·refine zS z0 (ab ?_)
    refine r_cR hk6 ?_
    cases h
    refine zVRw [2000002] hQ
   ·refine ae (r_cN hk6 ?_)
    obtain ⟨v5, c14H, h⟩ := bS h
    refine zS (zC1 (lC [] (con_s_WayPlain _ _ c14H))) (ab ?_)
    cases h
    refine zOR hQ
def s_l17Has (v1 : Int) : Option Bool :=
 (some ((((v1 == 1) || (v1 == 2)) || (v1 == 3)) || (v1 == 10)))
theorem con_s_l17Has (v1 : Int) (rz : Bool) (h : s_l17Has v1 = some rz) : Con Tryz.prog C0 106 [.sc (.int .i64 (v1))] []
  (fun x σ' => x = .sc (.bool (rz)) ∧ σ' = []) := by
 refine zCon hP 0 [0, 2] [.tmp 2] Tryz.func106 (by unfold Tryz.f106; rfl) fun Q hQ => ?_
 unfold s_l17Has at h
 refine zS z0 (zS zR ?_)
 refine ab ?_
 cases h
 refine zAR hQ
def s_l17Known (v1 : Int) (v2 : Int) : Option Bool :=
 (cond (v1 == 10) (some ((decide (v2 ≥ 21)) && (decide (v2 ≤ 37)))) (some ((decide (v2 ≥ 1)) && (decide (v2 ≤ 10)))))
theorem con_s_l17Known (v1 : Int) (v2 : Int) (rz : Bool) (h : s_l17Known v1 v2 = some rz) : Con Tryz.prog C0 107 [.sc (.int .i64 (v1)), .sc (.int .i64 (v2))] []
  (fun x σ' => x = .sc (.bool (rz)) ∧ σ' = []) := by
 refine zCon hP 0 [0, 1, 4, 6] [.tmp 4] Tryz.func107 (by unfold Tryz.f107; rfl) fun Q hQ => ?_
 unfold s_l17Known at h
 refine zS z0 (sC fun k2 hk2 => ?_)
 refine zS z0 ?_
 revert h; refine zI rfl ?_ ?_ <;> intro h
 ·refine zS zR (ab ?_)
  refine r_cR hk2 ?_
  cases h
  refine zAR hQ
 ·refine ae (r_cN hk2 ?_)
  refine zS zR (ab ?_)
  cases h
  refine zAR hQ
def s_l17Field (v1 : DevArg) : Option Bool :=
 (cond (v1.Kind == 11) (some (((decide (v1.N ≥ (-32768))) && (decide (v1.N ≤ 32767))) && (v1.P == 0))) (cond (v1.Kind == 12) (some ((((decide (v1.N ≥ (-2147483648))) && (decide (v1.N ≤ 2147483647))) && (decide (v1.P ≥ 0))) && (decide (v1.P ≤ 255)))) (cond (v1.Kind == 13) (some (((decide (v1.N ≥ 0)) && (decide (v1.N ≤ 255))) && (v1.P == 0))) (some (((((decide (v1.Kind ≥ 1)) && (decide (v1.Kind ≤ 10))) && (decide (v1.N ≥ 0))) && (decide (v1.N ≤ 255))) && (v1.P == 0))))))
theorem con_s_l17Field (v1 : DevArg) (rz : Bool) (h : s_l17Field v1 = some rz) : Con Tryz.prog C0 237 [.agg [.sc (.int .i64 (v1.Kind)), .sc (.int .i64 (v1.N)), .sc (.int .i64 (v1.P))]] []
  (fun x σ' => x = .sc (.bool (rz)) ∧ σ' = []) := by
 refine zCon hP 0 [0, 1, 2, 4, 5, 20, 40] [.tmp 2] Tryz.func237 (by unfold Tryz.f237; rfl) fun Q hQ => ?_
 unfold s_l17Field at h
 refine zS z0 (sC fun k2 hk2 => ?_)
 refine zS z0 (sB fun k4 hk4 => ?_)
 refine zS z0 ?_
 revert h; refine zI rfl ?_ ?_ <;> intro h
 ·refine zS zR (ab ?_)
  refine r_bR hk4 (r_cR hk2 ?_)
  cases h
  refine zAR hQ
 ·refine zS z0 ?_
  revert h; refine zI rfl ?_ ?_ <;> intro h
  ·refine zS zR (ab ?_)
   refine r_bR hk4 (r_cR hk2 ?_)
   cases h
   refine zAR hQ
  ·refine zS z0 ?_
   revert h; refine zI rfl ?_ ?_ <;> intro h
   ·refine zS zR (ab ?_)
    refine r_bR hk4 (r_cR hk2 ?_)
    cases h
    refine zAR hQ
   ·refine ae (r_bN hk4 ?_)
    refine r_cN hk2 (zS zR ?_)
    refine ab ?_
    cases h
    refine zAR hQ
def s_l17Wrong_j35 : Unit → Option Int
 | () => (some 0)
def hO (v1 : Inst) : Int → Option (Int ⊕ (Unit ⊕ Unit))
 | v16 => (cond (decide (v16 < ((v1.One_Args).length : Int))) ((idx v1.One_Args (v16)).bind fun v21 => ((s_l17Field v21).bind fun v22 => (cond (!v22) (some (.inr (.inl ()))) (some (.inl (IntKind.i64.wrap (v16 + 1))))))) (some (.inr (.inr ()))))
def s_l17Wrong (v1 : Inst) : Option Int :=
 (cond ((decide (v1.Code < 1)) || (decide (v1.Code > 11))) (some 2) ((s_l17Has v1.Code).bind fun v2 => (cond (!v2) (cond ((v1.One_Op != 0) || (decide (((v1.One_Args).length : Int) > 0))) (some 2) (some 0)) ((s_l17Known v1.Code v1.One_Op).bind fun v3 => (cond v3 ((cj v1.One_Op).bind fun v4 => (cond (((v1.One_Args).length : Int) != v4) (some 2) ((loop (hO v1) 0).bind (Sum.elim (fun v19 => (some 3)) (fun v20 => (s_l17Wrong_j35 ())))))) (some 2))))))
theorem con_s_l17Wrong (v1 : Inst) (rz : Int) (h : s_l17Wrong v1 = some rz) : Con Tryz.prog C0 185 [.agg [.sc (.int .i64 (v1.Code)), .sc (.int .i64 (v1.One_Op)), .fz 3 (R aa (v1.One_Args))]] []
  (fun x σ' => x = .sc (.int .i64 (rz)) ∧ σ' = []) := by
 refine zCon hP 0 [0, 1, 2, 3, 11, 15, 26, 44, 50, 60] [.tmp 2] Tryz.func185 (by unfold Tryz.f185; rfl) fun Q hQ => ?_
 unfold s_l17Wrong at h
 refine zS z0 (sC fun k2 hk2 => ?_)
 refine zS zR ?_
 revert h; refine zI rfl ?_ ?_ <;> intro h
 ·refine zS z0 (ab ?_)
  refine r_cR hk2 ?_
  cases h
  refine zAR hQ
 ·refine ae (r_cN hk2 ?_)
  refine sC fun k5 hk5 => ?_
  obtain ⟨v2, c7H, h⟩ := bS h
  refine zS (zC1 (lF [] (con_s_l17Has _ _ c7H))) ?_
  revert h; refine zI rfl ?_ ?_ <;> intro h
  ·refine sC fun k8 hk8 => zS zR ?_
   revert h; refine zI rfl ?_ ?_ <;> intro h
   ·refine zS z0 (ab ?_)
    refine r_cR hk8 (r_cR hk5 ?_)
    cases h
    refine zAR hQ
   ·refine ae (r_cN hk8 ?_)
    refine zS z0 (ab ?_)
    refine r_cR hk5 ?_
    cases h
    refine zAR hQ
  ·refine ae (r_cN hk5 ?_)
   refine sC fun k12 hk12 => sC fun k13 hk13 => ?_
   obtain ⟨v3, c14H, h⟩ := bS h
   rcases bE v3 with g15 | g15
   ·replace h := ak h g15
    obtain ⟨v4, c16H, h⟩ := bS h
    refine zU (zPC2F (.take 0 (.take 1 (.take 2 (.take 3 (.take 4 (.one 5 (.take 6 (.take 7 (.take 8 (.take 9 (.take 10 (.take 11 (.take 12 (.take 13 (.take 14 (.one 15 (.take 16 (.take 17 .done)))))))))))))))))) [0] (lF [] (con_s_l17Known _ _ _ c14H)) (lF [] (ei _ _ c16H)) g15) (r_cN hk13 ?_)
    revert h; refine zI rfl ?_ ?_ <;> intro h
    ·refine zS z0 (ab ?_)
     refine r_cR hk12 ?_
     cases h
     refine zAR hQ
    ·refine ae (r_cN hk12 ?_)
     refine zCut (fun (x : Unit) => ⟨[], []⟩) s_l17Wrong_j35 rz ?_ ?_
     ·rintro _ _ h
      simp only [s_l17Wrong_j35] at h
      refine zS z0 (ab ?_)
      cases h
      refine zAR hQ
     ·intro k47 hk47 J46
      refine zS z0 (sB fun k49 hk49 => ?_)
      obtain ⟨oq66, hLq66, hKq66⟩ := bS h
      clear h
      refine ay [1, 3] (fun (_ : Unit) (x : Int) => (⟨[(1, .pt 0 0), (3, .sc (.int .i64 (x)))], [.rc [.sc (.int .i64 (v1.Code)), .sc (.int .i64 (v1.One_Op)), .fz 3 (R aa (v1.One_Args))]]⟩ : St)) (fun (_ : Unit) (x : Int) => True) (hO v1) () 0 hLq66 (by rfl) (by rfl) ⟨?_, trivial⟩ ?_
      ·exact zSa
      ·rintro nq66 _ v16 xq66 kq66 hkq66 - h hIq66 hEq66
       simp only [hO] at h
       refine sC fun k67 hk67 => zS z0 ?_
       revert h; refine zI rfl ?_ ?_ <;> intro h
       ·refine ae (r_cN hk67 ?_)
        refine sC fun k69 hk69 => sB fun k70 hk70 => ?_
        obtain ⟨v21, h, c72⟩ := bI h
        obtain ⟨v22, c73H, h⟩ := bS h
        refine zS (zC1F (lF [] (con_s_l17Field _ _ c73H)) c72) ?_
        revert h; refine zI rfl ?_ ?_ <;> intro h
        ·refine zS z0 (ab ?_)
         refine r_bR hk70 (r_cR hk69 ?_)
         replace h := zX h hEq66 hKq66
         simp only [Sum.elim_inl, Sum.elim_inr] at h
         refine r_kR hkq66 (r_bR hk49 ?_)
         refine r_jR hk47 ?_
         cases h
         refine zAR hQ
        ·refine ae (r_bN hk70 ?_)
         refine r_cN hk69 (zU z0 ?_)
         refine zB hkq66 h hIq66 () trivial
       ·refine aK (r_cE hk67 ?_)
        replace h := zX h hEq66 hKq66
        simp only [Sum.elim_inl, Sum.elim_inr] at h
        refine r_kE hkq66 (r_bE hk49 ?_)
        refine zJ J46 [] () _ h
   ·replace h := av h g15
    refine zU (zPC1F (.take 0 (.take 1 (.take 2 (.take 3 (.take 4 (.one 5 (.take 6 (.take 7 (.take 8 (.take 9 (.take 10 (.take 11 (.take 12 (.take 13 (.take 14 (.one 15 (.take 16 (.take 17 .done)))))))))))))))))) [0] (lF [] (con_s_l17Known _ _ _ c14H)) g15) (r_cN hk13 ?_)
    refine bM rfl ?_
    try replace h := ak h rfl
    refine zS z0 (ab ?_)
    refine r_cR hk12 ?_
    cases h
    refine zAR hQ
def db (v1 : Int) : Option Int :=
 (cond (v1 == 11) (some 2) (cond (v1 == 12) (some 4) (some 1)))
theorem con_s_l17Wide (v1 : Int) (rz : Int) (h : db v1 = some rz) : Con Tryz.prog C0 188 [.sc (.int .i64 (v1))] []
  (fun x σ' => x = .sc (.int .i64 (rz)) ∧ σ' = []) := by
 refine zCon hP 0 [0, 2, 3, 4, 6] [.tmp 2] Tryz.func188 (by unfold Tryz.f188; rfl) fun Q hQ => ?_
 unfold db at h
 refine zS z0 (sC fun k2 hk2 => ?_)
 refine zS z0 (sB fun k4 hk4 => ?_)
 refine zS z0 ?_
 revert h; refine zI rfl ?_ ?_ <;> intro h
 ·refine zS z0 (ab ?_)
  refine r_bR hk4 (r_cR hk2 ?_)
  cases h
  refine zAR hQ
 ·refine zS z0 ?_
  revert h; refine zI rfl ?_ ?_ <;> intro h
  ·refine zS z0 (ab ?_)
   refine r_bR hk4 (r_cR hk2 ?_)
   cases h
   refine zAR hQ
  ·refine ae (r_bN hk4 ?_)
   refine r_cN hk2 (zS z0 ?_)
   refine ab ?_
   cases h
   refine zAR hQ
def s_l17Num_j5 : (List Int) → Option (List Int)
 | v13 => (some v13)
def ff (v16 : Int) (v17 : (List Int)) (v18 : Int) : Int → Option ((Int × (List Int) × Int) ⊕ (List Int))
 | v22 => ((idx v17 (v18)).bind fun v23 => (some (.inl ((IntKind.i64.wrap (((IntKind.i64.wrap (v16 - v22))).tdiv 256)), ((v17).set (v18).toNat (IntKind.u8.wrap (v22))), (IntKind.i64.wrap (v18 - 1))))))
def eE : (Int × (List Int) × Int) → Option ((Int × (List Int) × Int) ⊕ (List Int))
 | (v16, v17, v18) => (cond (decide (v18 ≥ 0)) (cond (decide (((v16).tmod 256) < 0)) (ff v16 v17 v18 (IntKind.i64.wrap (((v16).tmod 256) + 256))) (ff v16 v17 v18 ((v16).tmod 256))) (some (.inr v17)))
def dU (v1 : Int) (v2 : Int) : Option (List Int) :=
 (gd (mkOk (v2) (v2) 1) ((loop eE (v1, (List.replicate (v2).toNat 0), (IntKind.i64.wrap (v2 - 1)))).bind (fun v21 => (s_l17Num_j5 v21))))
theorem iy (v1 : Int) (v2 : Int) (rz : (List Int)) (h : dU v1 v2 = some rz) : Con Tryz.prog C0 40 [.sc (.int .i64 (v1)), .sc (.int .i64 (v2))] []
  (fun x σ' => x = .sl 0 0 ((rz).length) ∧ σ' = [.arr true 1 (R e_u8 (rz))]) := by
 refine zCon hP 0 [0, 1, 4, 5, 6, 7, 13, 19] [.tmp 4] Tryz.func40 (by unfold Tryz.f40; rfl) fun Q hQ => ?_
 unfold dU at h
 refine zS z0 ?_
 obtain ⟨g3, h⟩ := gMk h
 refine zS (zRF g3) (zCut (fun (x : (List Int)) => ⟨[(5, .sl 0 0 ((x).length))], [.arr true 1 (R e_u8 (x))]⟩) s_l17Num_j5 rz ?_ ?_)
 ·rintro _ v13 h
  simp only [s_l17Num_j5] at h
  refine zS z0 (ab ?_)
  cases h
  refine zOR hQ
 ·intro k42 hk42 J41
  refine zS z0 (sB fun k44 hk44 => ?_)
  obtain ⟨oq67, hLq67, hKq67⟩ := bS h
  clear h
  refine ay [0, 5, 6] (fun (_ : Unit) (x : (Int × (List Int) × Int)) => (⟨[(0, .sc (.int .i64 (x.1))), (5, .sl 0 0 ((x.2.1).length)), (6, .sc (.int .i64 (x.2.2)))], [.arr true 1 (R e_u8 (x.2.1))]⟩ : St)) (fun (_ : Unit) (x : (Int × (List Int) × Int)) => True) eE () (v1, (List.replicate (v2).toNat 0), (IntKind.i64.wrap (v2 - 1))) hLq67 (by rfl) (by rfl) ⟨?_, trivial⟩ ?_
  ·exact zSa
  ·rintro nq67 _ ⟨v16, v17, v18⟩ xq67 kq67 hkq67 - h hIq67 hEq67
   simp only [eE] at h
   refine sC fun k68 hk68 => zS z0 ?_
   revert h; refine zI rfl ?_ ?_ <;> intro h
   ·refine ae (r_cN hk68 ?_)
    refine sC fun k70 hk70 => sB fun k71 hk71 => zS zR (zCut (fun (x : Int) => ⟨[(0, .sc (.int .i64 (v16))), (5, .sl 0 0 ((v17).length)), (6, .sc (.int .i64 (v18))), (7, .sc (.int .i64 (x)))], [.arr true 1 (R e_u8 (v17))]⟩) (ff v16 v17 v18) xq67 ?_ ?_)
    ·rintro _ v22 h
     simp only [ff] at h
     obtain ⟨v23, h, c75⟩ := bI h
     refine zS (zRF c75) (zU zR ?_)
     refine r_bN hk71 (r_cN hk70 ?_)
     refine zU z0 (zB hkq67 h hIq67 () trivial)
    ·intro k77 hk77 J76
     refine zS z0 ?_
     revert h; refine zI rfl ?_ ?_ <;> intro h
     ·refine zU z0 (zJ J76 [0, 5, 6, 7] () _ h)
     ·refine ae (zJ J76 [0, 5, 6, 7] () _ h)
   ·refine aK (r_cE hk68 ?_)
    replace h := zX h hEq67 hKq67
    refine r_kE hkq67 (r_bE hk44 ?_)
    refine zJ J41 [5] () _ h
def s_l17Inst_j15 : (List Int) → Option (List Int)
 | v27 => (some v27)
def dP (v36 : Int) : (List Int) → Option (((List Int) × Int) ⊕ (List Int))
 | v48 => (some (.inl (v48, (IntKind.i64.wrap (v36 + 1)))))
def iH (v1 : Inst) : ((List Int) × Int) → Option (((List Int) × Int) ⊕ (List Int))
 | (v35, v36) => (cond (decide (v36 < ((v1.One_Args).length : Int))) ((idx v1.One_Args (v36)).bind fun v49 => (gd (apOk ((v35 ++ [(IntKind.u8.wrap (v49.Kind))])).length 1) ((db v49.Kind).bind fun v50 => ((dU v49.N v50).bind fun v51 => (gd (apOk (((v35 ++ [(IntKind.u8.wrap (v49.Kind))]) ++ v51)).length 1) (cond (v49.Kind == 12) (gd (apOk ((((v35 ++ [(IntKind.u8.wrap (v49.Kind))]) ++ v51) ++ [(IntKind.u8.wrap (v49.P))])).length 1) (dP v36 (((v35 ++ [(IntKind.u8.wrap (v49.Kind))]) ++ v51) ++ [(IntKind.u8.wrap (v49.P))]))) (dP v36 ((v35 ++ [(IntKind.u8.wrap (v49.Kind))]) ++ v51)))))))) (some (.inr v35)))
def s_l17Inst (v1 : Inst) : Option (List Int) :=
 ((s_l17Has v1.Code).bind fun v2 => (cond (!v2) (some [(IntKind.u8.wrap (v1.Code))]) (gd (apOk (([(IntKind.u8.wrap (v1.Code))] ++ [(IntKind.u8.wrap (v1.One_Op))])).length 1) ((loop (iH v1) (([(IntKind.u8.wrap (v1.Code))] ++ [(IntKind.u8.wrap (v1.One_Op))]), 0)).bind (fun v44 => (s_l17Inst_j15 v44))))))
theorem con_s_l17Inst (v1 : Inst) (rz : (List Int)) (h : s_l17Inst v1 = some rz) : Con Tryz.prog C0 186 [.agg [.sc (.int .i64 (v1.Code)), .sc (.int .i64 (v1.One_Op)), .fz 3 (R aa (v1.One_Args))]] []
  (fun x σ' => x = .sl 0 0 ((rz).length) ∧ σ' = [.arr true 1 (R e_u8 (rz))]) := by
 refine zCon hP 0 [0, 1, 2, 3, 4, 5, 13, 27, 52] [.tmp 2] Tryz.func186 (by unfold Tryz.f186; rfl) fun Q hQ => ?_
 unfold s_l17Inst at h
 refine zS z0 (zS z0 ?_)
 refine sC fun k3 hk3 => ?_
 obtain ⟨v2, c5H, h⟩ := bS h
 refine zS (zC1 (lF [] (con_s_l17Has _ _ c5H))) ?_
 revert h; refine zI rfl ?_ ?_ <;> intro h
 ·refine zS z0 (ab ?_)
  refine r_cR hk3 ?_
  cases h
  refine zOR hQ
 ·refine ae (r_cN hk3 ?_)
  obtain ⟨g8, h⟩ := gAp h
  refine zS (zRFn g8) (zCut (fun (x : (List Int)) => ⟨[(3, .sl 0 0 ((x).length))], [.arr true 1 (R e_u8 (x))]⟩) s_l17Inst_j15 rz ?_ ?_)
  ·rintro _ v27 h
   simp only [s_l17Inst_j15] at h
   refine zS z0 (ab ?_)
   cases h
   refine zOR hQ
  ·intro k92 hk92 J91
   refine zS z0 (sB fun k94 hk94 => ?_)
   obtain ⟨oq147, hLq147, hKq147⟩ := bS h
   clear h
   refine ay [1, 3, 4] (fun (_ : Unit) (x : ((List Int) × Int)) => (⟨[(1, .pt 0 0), (3, .sl 1 0 ((x.1).length)), (4, .sc (.int .i64 (x.2)))], [.rc [.sc (.int .i64 (v1.Code)), .sc (.int .i64 (v1.One_Op)), .fz 3 (R aa (v1.One_Args))], .arr true 1 (R e_u8 (x.1))]⟩ : St)) (fun (_ : Unit) (x : ((List Int) × Int)) => True) (iH v1) () (([(IntKind.u8.wrap (v1.Code))] ++ [(IntKind.u8.wrap (v1.One_Op))]), 0) hLq147 (by rfl) (by rfl) ⟨?_, trivial⟩ ?_
   ·exact zSa
   ·rintro nq147 _ ⟨v35, v36⟩ xq147 kq147 hkq147 - h hIq147 hEq147
    simp only [iH] at h
    refine sC fun k148 hk148 => zS z0 ?_
    revert h; refine zI rfl ?_ ?_ <;> intro h
    ·refine ae (r_cN hk148 ?_)
     refine zCut (fun (x : (List Int)) => ⟨[(1, .pt 0 0), (3, .sl 1 0 ((x).length)), (4, .sc (.int .i64 (v36)))], [.rc [.sc (.int .i64 (v1.Code)), .sc (.int .i64 (v1.One_Op)), .fz 3 (R aa (v1.One_Args))], .arr true 1 (R e_u8 (x))]⟩) (dP v36) xq147 ?_ ?_
     ·rintro _ v48 h
      simp only [dP] at h
      refine zU z0 (zB hkq147 h hIq147 () trivial)
     ·intro k162 hk162 J161
      refine sB fun k163 hk163 => ?_
      obtain ⟨v49, h, c165⟩ := bI h
      refine zS (zRF c165) ?_
      obtain ⟨g167, h⟩ := gAp h
      refine zS (zRF g167) ?_
      obtain ⟨v50, c169H, h⟩ := bS h
      obtain ⟨v51, c170H, h⟩ := bS h
      obtain ⟨g171, h⟩ := gAp h
      refine zS (zPC2F (.take 0 (.take 1 (.take 2 (.take 3 (.take 4 (.one 5 (.one 6 (.one 7 (.take 8 .done))))))))) [2] (lF [] (con_s_l17Wide _ _ c169H)) (lF [] (iy _ _ _ c170H)) g171) (zS z0 ?_)
      revert h; refine zI rfl ?_ ?_ <;> intro h
      ·obtain ⟨g173, h⟩ := gAp h
       refine zU (zRF g173) (r_bN hk163 ?_)
       refine zJ J161 [1, 3, 4] () _ h
      ·refine ae (r_bN hk163 ?_)
       refine zJ J161 [1, 3, 4] () _ h
    ·refine aK (r_cE hk148 ?_)
     replace h := zX h hEq147 hKq147
     refine r_kE hkq147 (r_bE hk94 ?_)
     refine zJ J91 [3] () _ h
def s_l17Xor_j7 : Int → Option Int
 | v11 => (some v11)
def fm (v13 : Int) (v14 : Int) (v16 : Int) : Int → Option ((Int × Int × Int × Int) ⊕ Int)
 | v19 => (some (.inl ((IntKind.i64.wrap ((v13).tdiv 2)), (IntKind.i64.wrap ((v14).tdiv 2)), v19, (IntKind.i64.wrap (v16 * 2)))))
def s_l17Xor_s9 : (Int × Int × Int × Int) → Option ((Int × Int × Int × Int) ⊕ Int)
 | (v13, v14, v15, v16) => (cond (decide (v16 < 65536)) (cond (((v13).tmod 2) != ((v14).tmod 2)) (fm v13 v14 v16 (IntKind.i64.wrap (v15 + v16))) (fm v13 v14 v16 v15)) (some (.inr v15)))
def s_l17Xor (v1 : Int) (v2 : Int) : Option Int :=
 ((loop s_l17Xor_s9 (v1, v2, 0, 1)).bind (fun v18 => (s_l17Xor_j7 v18)))
theorem con_s_l17Xor (v1 : Int) (v2 : Int) (rz : Int) (h : s_l17Xor v1 v2 = some rz) : Con Tryz.prog C0 103 [.sc (.int .i64 (v1)), .sc (.int .i64 (v2))] []
  (fun x σ' => x = .sc (.int .i64 (rz)) ∧ σ' = []) := by
 refine zCon hP 0 [0, 1, 4, 5, 6, 8, 13] [.tmp 4] Tryz.func103 (by unfold Tryz.f103; rfl) fun Q hQ => ?_
 unfold s_l17Xor at h
 refine zS z0 (zS z0 ?_)
 refine zS z0 (zCut (fun (x : Int) => ⟨[(5, .sc (.int .i64 (x)))], []⟩) s_l17Xor_j7 rz ?_ ?_)
 ·rintro _ v11 h
  simp only [s_l17Xor_j7] at h
  refine zS z0 (ab ?_)
  cases h
  refine zAR hQ
 ·intro k35 hk35 J34
  refine sB fun k36 hk36 => ?_
  obtain ⟨oq55, hLq55, hKq55⟩ := bS h
  clear h
  refine ay [0, 1, 5, 6] (fun (_ : Unit) (x : (Int × Int × Int × Int)) => (⟨[(0, .sc (.int .i64 (x.1))), (1, .sc (.int .i64 (x.2.1))), (5, .sc (.int .i64 (x.2.2.1))), (6, .sc (.int .i64 (x.2.2.2)))], []⟩ : St)) (fun (_ : Unit) (x : (Int × Int × Int × Int)) => True) s_l17Xor_s9 () (v1, v2, 0, 1) hLq55 (by rfl) (by rfl) ⟨?_, trivial⟩ ?_
  ·exact zSa
  ·rintro nq55 _ ⟨v13, v14, v15, v16⟩ xq55 kq55 hkq55 - h hIq55 hEq55
   simp only [s_l17Xor_s9] at h
   refine sC fun k56 hk56 => zS z0 ?_
   revert h; refine zI rfl ?_ ?_ <;> intro h
   ·refine ae (r_cN hk56 ?_)
    refine sB fun k58 hk58 => zCut (fun (x : Int) => ⟨[(0, .sc (.int .i64 (v13))), (1, .sc (.int .i64 (v14))), (5, .sc (.int .i64 (x))), (6, .sc (.int .i64 (v16)))], []⟩) (fm v13 v14 v16) xq55 ?_ ?_
    ·rintro _ v19 h
     simp only [fm] at h
     refine zS zR (zS zR ?_)
     refine zU z0 (r_bN hk58 ?_)
     refine zB hkq55 h hIq55 () trivial
    ·intro k63 hk63 J62
     refine zS zR ?_
     revert h; refine zI rfl ?_ ?_ <;> intro h
     ·refine zU z0 (zJ J62 [0, 1, 5, 6] () _ h)
     ·refine ae (zJ J62 [0, 1, 5, 6] () _ h)
   ·refine aK (r_cE hk56 ?_)
    replace h := zX h hEq55 hKq55
    refine r_kE hkq55 (r_bE hk36 ?_)
    refine zJ J34 [5] () _ h
def s_l17Round (v1 : Int) : Option Int :=
 (cond (decide ((IntKind.i64.wrap (v1 * 2)) ≥ 65536)) ((s_l17Xor (IntKind.i64.wrap ((IntKind.i64.wrap (v1 * 2)) - 65536)) 4129).bind fun v2 => (some v2)) (some (IntKind.i64.wrap (v1 * 2))))
theorem con_s_l17Round (v1 : Int) (rz : Int) (h : s_l17Round v1 = some rz) : Con Tryz.prog C0 104 [.sc (.int .i64 (v1))] []
  (fun x σ' => x = .sc (.int .i64 (rz)) ∧ σ' = []) := by
 refine zCon hP 0 [0, 2, 6] [.tmp 2] Tryz.func104 (by unfold Tryz.f104; rfl) fun Q hQ => ?_
 unfold s_l17Round at h
 refine zS z0 (zS z0 ?_)
 refine sC fun k3 hk3 => zS z0 ?_
 revert h; refine zI rfl ?_ ?_ <;> intro h
 ·obtain ⟨v2, c6H, h⟩ := bS h
  refine zS (zC1 (lF [] (con_s_l17Xor _ _ _ c6H))) (ab ?_)
  refine r_cR hk3 ?_
  cases h
  refine zAR hQ
 ·refine ae (r_cN hk3 ?_)
  refine zS z0 (ab ?_)
  cases h
  refine zAR hQ
def s_PicSum_j5 : Int → Option Int
 | v56 => (some (IntKind.u16.wrap (v56)))
def s_PicSum_j16 (v75 : Int) : Int → Option ((Int × Int) ⊕ Int)
 | v102 => (some (.inl (v102, (IntKind.i64.wrap (v75 + 1)))))
def s_PicSum_s23 : (Int × Int) → Option ((Int × Int) ⊕ Int)
 | (v106, v107) => (cond (decide (v107 < 8)) ((s_l17Round v106).bind fun v110 => (some (.inl (v110, (IntKind.i64.wrap (v107 + 1)))))) (some (.inr v106)))
def s_PicSum_s9 (v1 : (List Int)) : (Int × Int) → Option ((Int × Int) ⊕ Int)
 | (v74, v75) => (cond (decide (v75 < ((v1).length : Int))) ((idx v1 (v75)).bind fun v103 => ((s_l17Xor v74 (IntKind.i64.wrap ((IntKind.i64.wrap (v103)) * 256))).bind fun v104 => ((loop s_PicSum_s23 (v104, 0)).bind (fun v109 => (s_PicSum_j16 v75 v109))))) (some (.inr v74)))
def s_PicSum (v1 : (List Int)) : Option Int :=
 ((loop (s_PicSum_s9 v1) (65535, 0)).bind (fun v93 => (s_PicSum_j5 v93)))
theorem con_s_PicSum (v1 : (List Int)) (rz : Int) (h : s_PicSum v1 = some rz) : Con Tryz.prog C0 44 [.fz 1 (R e_u8 (v1))] []
  (fun x σ' => x = .sc (.int .u16 (rz)) ∧ σ' = []) := by
 refine zCon hP 0 [0, 2, 3, 4, 5, 9, 21] [.tmp 2] Tryz.func44 (by unfold Tryz.f44; rfl) fun Q hQ => ?_
 unfold s_PicSum at h
 refine zS z0 (zS z0 ?_)
 refine zCut (fun (x : Int) => ⟨[(3, .sc (.int .i64 (x)))], []⟩) s_PicSum_j5 rz ?_ ?_
 ·rintro _ v56 h
  simp only [s_PicSum_j5] at h
  refine zS z0 (ab ?_)
  cases h
  refine zAR hQ
 ·intro k152 hk152 J151
  refine zS z0 (sB fun k154 hk154 => ?_)
  obtain ⟨oq251, hLq251, hKq251⟩ := bS h
  clear h
  refine ay [0, 3, 4] (fun (_ : Unit) (x : (Int × Int)) => (⟨[(0, .fz 1 (R e_u8 (v1))), (3, .sc (.int .i64 (x.1))), (4, .sc (.int .i64 (x.2)))], []⟩ : St)) (fun (_ : Unit) (x : (Int × Int)) => True) (s_PicSum_s9 v1) () (65535, 0) hLq251 (by rfl) (by rfl) ⟨?_, trivial⟩ ?_
  ·exact zSa
  ·rintro nq251 _ ⟨v74, v75⟩ xq251 kq251 hkq251 - h hIq251 hEq251
   simp only [s_PicSum_s9] at h
   refine sC fun k252 hk252 => zS z0 ?_
   revert h; refine zI rfl ?_ ?_ <;> intro h
   ·refine ae (r_cN hk252 ?_)
    refine zCut (fun (x : Int) => ⟨[(0, .fz 1 (R e_u8 (v1))), (3, .sc (.int .i64 (x))), (4, .sc (.int .i64 (v75)))], []⟩) (s_PicSum_j16 v75) xq251 ?_ ?_
    ·rintro _ v102 h
     simp only [s_PicSum_j16] at h
     refine zU z0 (zB hkq251 h hIq251 () trivial)
    ·intro k277 hk277 J276
     refine sB fun k278 hk278 => ?_
     obtain ⟨v103, h, c280⟩ := bI h
     obtain ⟨v104, c281H, h⟩ := bS h
     refine zS (zC1F (lF [] (con_s_l17Xor _ _ _ c281H)) c280) (zS z0 ?_)
     refine sB fun k283 hk283 => ?_
     obtain ⟨oq294, hLq294, hKq294⟩ := bS h
     clear h
     refine ay [0, 3, 4, 5] (fun (_ : Unit) (x : (Int × Int)) => (⟨[(0, .fz 1 (R e_u8 (v1))), (3, .sc (.int .i64 (x.1))), (4, .sc (.int .i64 (v75))), (5, .sc (.int .i64 (x.2)))], []⟩ : St)) (fun (_ : Unit) (x : (Int × Int)) => True) s_PicSum_s23 () (v104, 0) hLq294 (by rfl) (by rfl) ⟨?_, trivial⟩ ?_
     ·exact zSa
     ·rintro nq294 _ ⟨v106, v107⟩ xq294 kq294 hkq294 - h hIq294 hEq294
      simp only [s_PicSum_s23] at h
      refine sC fun k295 hk295 => zS z0 ?_
      revert h; refine zI rfl ?_ ?_ <;> intro h
      ·refine ae (r_cN hk295 ?_)
       refine sC fun k297 hk297 => sB fun k298 hk298 => ?_
       obtain ⟨v110, c299H, h⟩ := bS h
       refine zU (zC1 (lF [] (con_s_l17Round _ _ c299H))) (r_bN hk298 ?_)
       refine r_cN hk297 (zU z0 ?_)
       refine zB hkq294 h hIq294 () trivial
      ·refine aK (r_cE hk295 ?_)
       replace h := zX h hEq294 hKq294
       refine r_kE hkq294 (r_bE hk283 ?_)
       refine r_bN hk278 (zJ J276 [0, 3, 4] () _ h)
   ·refine aK (r_cE hk252 ?_)
    replace h := zX h hEq251 hKq251
    refine r_kE hkq251 (r_bE hk154 ?_)
    refine zJ J151 [3] () _ h
def iJ (v1 : (List Inst)) : (List Int) → Option ((List Int) × PicFault)
 | v18 => ((dU (IntKind.i64.wrap ((((v18).length : Nat) : Int) + 8)) 2).bind fun v19 => (gd (apOk (([83, 116] ++ v19)).length 1) ((dU ((v1).length : Int) 2).bind fun v20 => (gd (apOk ((([83, 116] ++ v19) ++ v20)).length 1) (gd (apOk (((([83, 116] ++ v19) ++ v20) ++ v18)).length 1) ((s_PicSum ((([83, 116] ++ v19) ++ v20) ++ v18)).bind fun v21 => ((dU (IntKind.i64.wrap (v21)) 2).bind fun v22 => (gd (apOk ((((([83, 116] ++ v19) ++ v20) ++ v18) ++ v22)).length 1) (some ((((([83, 116] ++ v19) ++ v20) ++ v18) ++ v22), (⟨0, 0⟩ : PicFault)))))))))))
def iQ (v1 : (List Inst)) : ((List Int) × Int) → Option (((List Int) × Int) ⊕ ((Int × Int) ⊕ (List Int)))
 | (v27, v28) => (cond (decide (v28 < ((v1).length : Int))) ((idx v1 (v28)).bind fun v35 => ((s_l17Wrong v35).bind fun v36 => (cond (decide (v36 > 0)) (some (.inr (.inl (v36, v28)))) ((idx v1 (v28)).bind fun v37 => ((s_l17Inst v37).bind fun v38 => (gd (apOk ((v27 ++ v38)).length 1) (some (.inl ((v27 ++ v38), (IntKind.i64.wrap (v28 + 1))))))))))) (some (.inr (.inr v27))))
def iu (v1 : (List Inst)) : Option ((List Int) × PicFault) :=
 (cond (decide (((v1).length : Int) > 1000)) (some ([], (⟨1, 0⟩ : PicFault))) ((loop (iQ v1) ([], 0)).bind (Sum.elim (fun v33 => (some ([], (⟨v33.1, v33.2⟩ : PicFault)))) (fun v34 => (iJ v1 v34)))))
theorem con_s_PicMake (v1 : (List Inst)) (rz : ((List Int) × PicFault)) (h : iu v1 = some rz) : Con Tryz.prog C0 99 [.fz 3 (R ao (v1))] []
  (fun x σ' => x = .tup [.sl 0 0 ((rz.1).length), .agg [.sc (.int .i64 (rz.2.Code)), .sc (.int .i64 (rz.2.At))]] ∧ σ' = [.arr true 1 (R e_u8 (rz.1))]) := by
 refine zCon hP 0 [0, 2, 3, 4, 5, 6, 7, 10, 16, 25] [.tmp 2, .cell 3 31] Tryz.func99 (by unfold Tryz.f99; rfl) fun Q hQ => ?_
 unfold iu at h
 refine zS z0 (sC fun k2 hk2 => ?_)
 refine zS z0 ?_
 revert h; refine zI rfl ?_ ?_ <;> intro h
 ·refine zS z0 (ab ?_)
  refine r_cR hk2 ?_
  cases h
  refine zVRw [2000000] hQ
 ·refine ae (r_cN hk2 ?_)
  refine zS z0 (zCut (fun (x : (List Int)) => ⟨[(0, .fz 3 (R ao (v1))), (3, .pt 0 0), (4, .sl 1 0 ((x).length))], [.rc [.sc (.int .i64 (0)), .sc (.int .i64 (0))], .arr true 1 (R e_u8 (x))]⟩) (iJ v1) rz ?_ ?_)
  ·rintro _ v18 h
   simp only [iJ] at h
   obtain ⟨v19, c49H, h⟩ := bS h
   obtain ⟨g50, h⟩ := gAp h
   refine zS (zC1Fn (lF [] (iy _ _ _ c49H)) g50) ?_
   obtain ⟨v20, c52H, h⟩ := bS h
   obtain ⟨g53, h⟩ := gAp h
   refine zS (zC1Fn (lF [] (iy _ _ _ c52H)) g53) ?_
   obtain ⟨g55, h⟩ := gAp h
   refine zS (zRFn g55) ?_
   obtain ⟨v21, c57H, h⟩ := bS h
   obtain ⟨v22, c58H, h⟩ := bS h
   obtain ⟨g59, h⟩ := gAp h
   refine zS (zC2Fn (lF [] (con_s_PicSum _ _ c57H)) (lF [] (iy _ _ _ c58H)) g59) (ab ?_)
   cases h
   refine zOR hQ
  ·intro k61 hk61 J60
   refine zS z0 (sB fun k63 hk63 => ?_)
   obtain ⟨oq90, hLq90, hKq90⟩ := bS h
   clear h
   refine ay [0, 3, 4, 5] (fun (_ : Unit) (x : ((List Int) × Int)) => (⟨[(0, .fz 3 (R ao (v1))), (3, .pt 0 0), (4, .sl 1 0 ((x.1).length)), (5, .sc (.int .i64 (x.2)))], [.rc [.sc (.int .i64 (0)), .sc (.int .i64 (0))], .arr true 1 (R e_u8 (x.1))]⟩ : St)) (fun (_ : Unit) (x : ((List Int) × Int)) => True) (iQ v1) () ([], 0) hLq90 (by rfl) (by rfl) ⟨?_, trivial⟩ ?_
   ·exact zSa
   ·rintro nq90 _ ⟨v27, v28⟩ xq90 kq90 hkq90 - h hIq90 hEq90
    simp only [iQ] at h
    refine sC fun k91 hk91 => zS z0 ?_
    revert h; refine zI rfl ?_ ?_ <;> intro h
    ·refine ae (r_cN hk91 ?_)
     refine sC fun k93 hk93 => sB fun k94 hk94 => ?_
     obtain ⟨v35, h, c96⟩ := bI h
     obtain ⟨v36, c97H, h⟩ := bS h
     refine zS (zC1F (lF [] (con_s_l17Wrong _ _ c97H)) c96) (sC fun k98 hk98 => ?_)
     refine zS z0 ?_
     revert h; refine zI rfl ?_ ?_ <;> intro h
     ·refine zS z0 (ab ?_)
      refine r_cR hk98 (r_bR hk94 ?_)
      refine r_cR hk93 ?_
      replace h := zX h hEq90 hKq90
      simp only [Sum.elim_inl, Sum.elim_inr] at h
      refine r_kR hkq90 (r_bR hk63 ?_)
      refine r_jR hk61 ?_
      cases h
      refine zVRw [2000000] hQ
     ·refine ae (r_cN hk98 ?_)
      obtain ⟨v37, h, c101⟩ := bI h
      obtain ⟨v38, c102H, h⟩ := bS h
      obtain ⟨g103, h⟩ := gAp h
      refine zU (zC1F (lF [] (con_s_l17Inst _ _ c102H)) (a2 c101 g103)) (r_bN hk94 ?_)
      refine r_cN hk93 (zU z0 ?_)
      refine zB hkq90 h hIq90 () trivial
    ·refine aK (r_cE hk91 ?_)
     replace h := zX h hEq90 hKq90
     simp only [Sum.elim_inl, Sum.elim_inr] at h
     refine r_kE hkq90 (r_bE hk63 ?_)
     refine zJ J60 [0, 3, 4] () _ h
def fK : ((List Int) × Int × (List Inst)) → Option ((List Int) × l26Rd)
 | (v11, v12, v13) => ((iu v13).bind fun v14 => (some (v14.1, (⟨v11, v12⟩ : l26Rd))))
def eG : ((List Int) × Int × (List Inst)) → Option ((List Int) × l26Rd)
 | (v5, v6, v7) => ((ai (⟨v5, v6⟩ : l26Rd) 24).bind fun v15 => (cond (v15.1 == 0) ((ai v15.2 11).bind fun v16 => ((cd v16.2).bind fun v17 => (fK (v17.2.b, v17.2.p, [(⟨(IntKind.i64.wrap (1 + v16.1)), v17.1.Op, v17.1.Args⟩ : Inst)])))) (fK (v15.2.b, v15.2.p, v7))))
def s_l21Image (v1 : l26Rd) : Option ((List Int) × l26Rd) :=
 ((s_l7Ladder v1).bind fun v2 => ((s_WayDown v2.1).bind fun v3 => (cond (decide (v3.2 > 0)) (eG (v2.2.b, v2.2.p, [])) (cond (decide ((((v3.1).length : Nat) : Int) > 60)) (eG (v2.2.b, v2.2.p, [])) ((ai v2.2 12).bind fun v18 => (cond (v18.1 == 0) (eG (v18.2.b, v18.2.p, [])) (eG (v18.2.b, v18.2.p, v3.1))))))))
theorem con_s_l21Image (v1 : l26Rd) (rz : ((List Int) × l26Rd)) (h : s_l21Image v1 = some rz) : Con Tryz.prog C0 36 [.pt 0 0] [.rc [.fz 1 (R e_u8 (v1.b)), .sc (.int .i64 (v1.p))]]
  (fun x σ' => x = .sl 1 0 ((rz.1).length) ∧ σ' = [.rc [.fz 1 (R e_u8 (rz.2.b)), .sc (.int .i64 (rz.2.p))], .arr true 1 (R e_u8 (rz.1))]) := by
 refine zCon hP 1 [0, 2, 3, 4, 5, 24, 27] [.tmp 2] Tryz.func36 (by unfold Tryz.f36; rfl) fun Q hQ => ?_
 unfold s_l21Image at h
 refine zS z0 ?_
 obtain ⟨v2, c3H, h⟩ := bS h
 obtain ⟨v3, c4H, h⟩ := bS h
 refine zS (zC2 (lC [[0]] (con_s_l7Ladder _ _ c3H)) (lC [] (con_s_WayDown _ _ c4H))) (zCut (fun (x : ((List Int) × Int × (List Inst))) => ⟨[(0, .pt 0 0), (3, .sl 1 0 ((x.2.2).length))], [.rc [.fz 1 (R e_u8 (x.1)), .sc (.int .i64 (x.2.1))], .arr true 3 (R ao (x.2.2))]⟩) eG rz ?_ ?_)
 ·rintro _ ⟨v5, v6, v7⟩ h
  simp only [eG] at h
  refine zCut (fun (x : ((List Int) × Int × (List Inst))) => ⟨[(3, .sl 1 0 ((x.2.2).length))], [.rc [.fz 1 (R e_u8 (x.1)), .sc (.int .i64 (x.2.1))], .arr true 3 (R ao (x.2.2))]⟩) fK rz ?_ ?_
  ·rintro _ ⟨v11, v12, v13⟩ h
   simp only [fK] at h
   obtain ⟨v14, c14H, h⟩ := bS h
   refine zS (zC1 (lF [] (con_s_PicMake _ _ c14H))) (zS z0 ?_)
   refine ab ?_
   cases h
   refine zOR hQ
  ·intro k17 hk17 J16
   obtain ⟨v15, c19H, h⟩ := bS h
   refine zS (zC1 (lC [[0]] (ah _ _ _ c19H))) ?_
   revert h; refine zI rfl ?_ ?_ <;> intro h
   ·obtain ⟨v16, c20H, h⟩ := bS h
    obtain ⟨v17, c21H, h⟩ := bS h
    refine zU (zC2 (lC [[0]] (ah _ _ _ c20H)) (lC [[0]] (bU _ _ c21H))) (zJ J16 [3] () _ h)
   ·refine ae (zJ J16 [3] () _ h)
 ·intro k23 hk23 J22
  refine sC fun k24 hk24 => ?_
  rcases bE (decide (v3.2 > 0)) with g25 | g25
  ·replace h := ak h g25
   refine zU (zRF g25) (r_cN hk24 ?_)
   refine bM rfl ?_
   try replace h := ak h rfl
   refine zU z0 (zJvw J22 [0, 3] [0, 2000002] () _ h)
  ·replace h := av h g25
   rcases bE (decide ((((v3.1).length : Nat) : Int) > 60)) with g26 | g26
   ·replace h := ak h g26
    refine zU (zRF (a2 g25 g26)) (r_cN hk24 ?_)
    refine bM rfl ?_
    try replace h := ak h rfl
    refine zU z0 (zJvw J22 [0, 3] [0, 2000002] () _ h)
   ·replace h := av h g26
    obtain ⟨v18, c27H, h⟩ := bS h
    refine zU (zC1F (lC [[0]] (ah _ _ _ c27H)) (a2 g25 g26)) (r_cN hk24 ?_)
    revert h; refine zI rfl ?_ ?_ <;> intro h
    ·refine zU z0 (zJvw J22 [0, 3] [0, 2000002] () _ h)
    ·refine ae (zJ J22 [0, 3] () _ h)
def eM : ((List Int) × Int × Int) → Option (Int × (List Int))
 | (v6, v7, v8) => ((ai (⟨v6, v7⟩ : l26Rd) 30).bind fun v9 => (cond (v9.1 == 0) ((ai v9.2 2).bind fun v10 => (gd (mkOk ((IntKind.i64.wrap (20008 + v10.1))) ((IntKind.i64.wrap (20008 + v10.1))) 1) (some (v8, (List.replicate ((IntKind.i64.wrap (20008 + v10.1))).toNat 0))))) ((s_l21Image v9.2).bind fun v11 => (some (v8, v11.1)))))
def iI (v1 : (List Int)) : Option (Int × (List Int)) :=
 ((s_l26Open v1).bind fun v2 => ((s_l20Number v2).bind fun v3 => ((ai v3.2 8).bind fun v12 => (cond (v12.1 == 0) ((bb v12.2 [(-1), 0, 1000001]).bind fun v13 => (eM (v13.2.b, v13.2.p, v13.1))) (eM (v12.2.b, v12.2.p, v3.1))))))
theorem con_s_DrawBoxPack (v1 : (List Int)) (rz : (Int × (List Int))) (h : iI v1 = some rz) : Con Tryz.prog C0 7 [.fz 1 (R e_u8 (v1))] []
  (fun x σ' => x = .tup [.sc (.int .i64 (rz.1)), .sl 0 0 ((rz.2).length)] ∧ σ' = [.arr true 1 (R e_u8 (rz.2))]) := by
 refine zCon hP 0 [0, 2, 3, 4, 5, 12, 18] [.tmp 2, .tmp 3] Tryz.func7 (by unfold Tryz.f7; rfl) fun Q hQ => ?_
 unfold iI at h
 refine zS z0 ?_
 obtain ⟨v2, c3H, h⟩ := bS h
 refine zS (zC1 (lC [] (con_s_l26Open _ _ c3H))) ?_
 obtain ⟨v3, c5H, h⟩ := bS h
 refine zS (zC1 (lC [[0]] (con_s_l20Number _ _ c5H))) (zCut (fun (x : ((List Int) × Int × Int)) => ⟨[(4, .pt 0 0), (5, .sc (.int .i64 (x.2.2)))], [.rc [.fz 1 (R e_u8 (x.1)), .sc (.int .i64 (x.2.1))]]⟩) eM rz ?_ ?_)
 ·rintro _ ⟨v6, v7, v8⟩ h
  simp only [eM] at h
  refine sC fun k9 hk9 => ?_
  obtain ⟨v9, c11H, h⟩ := bS h
  refine zS (zC1 (lC [[0]] (ah _ _ _ c11H))) ?_
  revert h; refine zI rfl ?_ ?_ <;> intro h
  ·obtain ⟨v10, c13H, h⟩ := bS h
   obtain ⟨g14, h⟩ := gMk h
   refine zS (zPC1F (.take 0 (.take 1 (.last 2 (.take 3 (.take 5 (.last 4 (.take 6 .done))))))) [] (lC [[0]] (ah _ _ _ c13H)) g14) (ab ?_)
   refine r_cR hk9 ?_
   cases h
   refine zOR hQ
  ·refine ae (r_cN hk9 ?_)
   obtain ⟨v11, c16H, h⟩ := bS h
   refine zS (zC1 (lC [[0]] (con_s_l21Image _ _ c16H))) (ab ?_)
   cases h
   refine zOR hQ
 ·intro k18 hk18 J17
  obtain ⟨v12, c20H, h⟩ := bS h
  refine zS (zC1 (lC [[0]] (ah _ _ _ c20H))) ?_
  revert h; refine zI rfl ?_ ?_ <;> intro h
  ·obtain ⟨v13, c21H, h⟩ := bS h
   refine zU (zC1 (lC [[0]] (aN _ _ _ c21H))) (zJ J17 [4, 5] () _ h)
  ·refine ae (zJ J17 [4, 5] () _ h)
def m_in (v1 : Int) (v2 : Int) (v3 : Int) : Option Bool :=
 (some ((decide (v1 ≥ v2)) && (decide (v1 ≤ v3))))
theorem bl (v1 : Int) (v2 : Int) (v3 : Int) (rz : Bool) (h : m_in v1 v2 v3 = some rz) : Con Tryz.prog C0 97 [.sc (.int .i64 (v1)), .sc (.int .i64 (v2)), .sc (.int .i64 (v3))] []
  (fun x σ' => x = .sc (.bool (rz)) ∧ σ' = []) := by
 refine zCon hP 0 [0, 1, 2, 6] [.tmp 6] Tryz.func97 (by unfold Tryz.f97; rfl) fun Q hQ => ?_
 unfold m_in at h
 refine zS z0 (zS zR ?_)
 refine ab ?_
 cases h
 refine zAR hQ
def m_isNumber (v1 : Int) : Option Bool :=
 ((m_in v1 1 1000000).bind fun v2 => (some v2))
theorem con_m_isNumber (v1 : Int) (rz : Bool) (h : m_isNumber v1 = some rz) : Con Tryz.prog C0 37 [.sc (.int .i64 (v1))] []
  (fun x σ' => x = .sc (.bool (rz)) ∧ σ' = []) := by
 refine zCon hP 0 [0, 2] [.tmp 2] Tryz.func37 (by unfold Tryz.f37; rfl) fun Q hQ => ?_
 unfold m_isNumber at h
 refine zS z0 ?_
 obtain ⟨v2, c3H, h⟩ := bS h
 refine zS (zC1 (lF [] (bl _ _ _ _ c3H))) (ab ?_)
 cases h
 refine zAR hQ
def m_big_j5 : (List Int) → Option (List Int)
 | v9 => (some v9)
def m_big_s9 (v1 : Int) (v2 : Int) : ((List Int) × Int) → Option (((List Int) × Int) ⊕ (List Int))
 | (v11, v12) => (cond (decide (v12 < (((v2).toNat : Nat) : Int))) (gd (decide (0 ≤ (IntKind.i64.wrap (8 * (IntKind.i64.wrap ((IntKind.i64.wrap (v2 - 1)) - v12)))))) ((idx v11 (v12)).bind fun v15 => (some (.inl (((v11).set (v12).toNat (IntKind.u8.wrap (((v1).fdiv (pw .i64 (IntKind.i64.wrap (8 * (IntKind.i64.wrap ((IntKind.i64.wrap (v2 - 1)) - v12))))))))), (IntKind.i64.wrap (v12 + 1))))))) (some (.inr v11)))
def m_big (v1 : Int) (v2 : Int) : Option (List Int) :=
 (gd (mkOk (v2) (v2) 1) ((loop (m_big_s9 v1 v2) ((List.replicate (v2).toNat 0), 0)).bind (fun v14 => (m_big_j5 v14))))
theorem con_m_big (v1 : Int) (v2 : Int) (rz : (List Int)) (h : m_big v1 v2 = some rz) : Con Tryz.prog C0 39 [.sc (.int .i64 (v1)), .sc (.int .i64 (v2))] []
  (fun x σ' => x = .sl 0 0 ((rz).length) ∧ σ' = [.arr true 1 (R e_u8 (rz))]) := by
 refine zCon hP 0 [0, 1, 4, 5, 6, 10, 11, 12] [.tmp 4] Tryz.func39 (by unfold Tryz.f39; rfl) fun Q hQ => ?_
 unfold m_big at h
 refine zS z0 ?_
 obtain ⟨g3, h⟩ := gMk h
 refine zS (zRF g3) (zCut (fun (x : (List Int)) => ⟨[(5, .sl 0 0 ((x).length))], [.arr true 1 (R e_u8 (x))]⟩) m_big_j5 rz ?_ ?_)
 ·rintro _ v9 h
  simp only [m_big_j5] at h
  refine zS z0 (ab ?_)
  cases h
  refine zOR hQ
 ·intro k30 hk30 J29
  refine zS z0 (sB fun k32 hk32 => ?_)
  obtain ⟨oq47, hLq47, hKq47⟩ := bS h
  clear h
  refine ay [0, 1, 5, 10, 11] (fun (_ : Unit) (x : ((List Int) × Int)) => (⟨[(0, .sc (.int .i64 (v1))), (1, .sc (.int .i64 (v2))), (5, .sl 0 0 ((x.1).length)), (10, .sc (.int .i64 ((((v2).toNat : Nat) : Int)))), (11, .sc (.int .i64 (x.2)))], [.arr true 1 (R e_u8 (x.1))]⟩ : St)) (fun (_ : Unit) (x : ((List Int) × Int)) => True) (m_big_s9 v1 v2) () ((List.replicate (v2).toNat 0), 0) hLq47 (by rfl) (by rfl) ⟨?_, trivial⟩ ?_
  ·exact zSa
  ·rintro nq47 _ ⟨v11, v12⟩ xq47 kq47 hkq47 - h hIq47 hEq47
   simp only [m_big_s9] at h
   refine zS z0 (sC fun k49 hk49 => ?_)
   revert h; refine zI rfl ?_ ?_ <;> intro h
   ·refine ae (r_cN hk49 ?_)
    refine sC fun k50 hk50 => sB fun k51 hk51 => zS z0 ?_
    obtain ⟨g53, h⟩ := gDec h
    obtain ⟨v15, h, c54⟩ := bI h
    refine zU (zRF (a2 g53 c54)) (r_bN hk51 ?_)
    refine r_cN hk50 (zU z0 ?_)
    refine zB hkq47 h hIq47 () trivial
   ·refine aK (r_cE hk49 ?_)
    replace h := zX h hEq47 hKq47
    refine r_kE hkq47 (r_bE hk32 ?_)
    refine zJ J29 [5] () _ h
def eo (v1 : (List Int)) : Option (List Int) :=
 (nilq v1 fun v2 => (cond v2 (some []) (gd (apOk (v1).length 1) (some v1))))
theorem con_slices_Clone_byte_byte (v1 : (List Int)) (rz : (List Int)) (h : eo v1 = some rz) : Con Tryz.prog C0 101 [.fz 1 (R e_u8 (v1))] []
  (fun x σ' => x = .sl 0 0 ((rz).length) ∧ σ' = [.arr true 1 (R e_u8 (rz))]) := by
 refine zCon hP 0 [0, 2, 4] [.tmp 2] Tryz.func101 (by unfold Tryz.f101; rfl) fun Q hQ => ?_
 unfold eo at h
 refine zS z0 (sC fun k2 hk2 => ?_)
 refine sC fun k3 hk3 => ?_
 have c4H := nilq_some h
 clear h
 repeat' (first | with_reducible refine And.intro ?_ ?_ | exact True.intro | with_reducible assumption | exact fun hf => False.elim hf | (intro hg; first | (simp +contextual [hg]; done) | grind) | omega | ((with_reducible refine r_nileq ?_); refine ⟨?_, ?_⟩) | (intro v2 c4B) | simp (decide := true) only [go_sem, reduceIte, Nat.reduceAdd, Int.reduceToNat, Nat.reduceSub, Nat.reduceMul, Nat.reduceMod])
 replace h := c4H v2 (fun e => by have e2 := c4B e; simpa only [go_sem, reduceIte, Nat.reduceEqDiff] using e2)
 refine r_cN hk3 ?_
 revert h; refine zI rfl ?_ ?_ <;> intro h
 ·refine zS z0 (ab ?_)
  refine r_cR hk2 ?_
  cases h
  refine zVRw [2000000] hQ
 ·refine ae (r_cN hk2 ?_)
  obtain ⟨g7, h⟩ := gAp h
  refine zS (zRF g7) (ab ?_)
  cases h
  refine zOR hQ
def e6 (v1 : (List Int)) : Option (List Int) :=
 ((prtH v1 (((v1).length : Int))).bind fun v2 => (some v2))
theorem con_slices_Clip_byte_byte (v1 : (List Int)) (rz : (List Int)) (h : e6 v1 = some rz) : Con Tryz.prog C0 100 [.fz 1 (R e_u8 (v1))] []
  (fun x σ' => x = .fz 1 (R e_u8 (rz)) ∧ σ' = []) := by
 refine zCon hP 0 [0, 2] [.tmp 2] Tryz.func100 (by unfold Tryz.f100; rfl) fun Q hQ => ?_
 unfold e6 at h
 refine zS z0 ?_
 obtain ⟨v2, c3H, h⟩ := bS h
 obtain ⟨c3A, c3B, c3C⟩ := prtH_some c3H
 try simp only [Int.reduceToNat, Int.toNat_zero, Int.toNat_one, Int.toNat_natCast, List.take_length] at c3C
 refine zS (zRF (a3 c3A c3B c3C)) (ab ?_)
 cases h
 refine zAR hQ
def ik (v1 : (List Int)) : Option (List Int) :=
 ((eo v1).bind fun v2 => ((e6 v2).bind fun v3 => (some v3)))
theorem con_m_clone_byte (v1 : (List Int)) (rz : (List Int)) (h : ik v1 = some rz) : Con Tryz.prog C0 38 [.fz 1 (R e_u8 (v1))] []
  (fun x σ' => x = .fz 1 (R e_u8 (rz)) ∧ σ' = []) := by
 refine zCon hP 0 [0, 2] [.tmp 2] Tryz.func38 (by unfold Tryz.f38; rfl) fun Q hQ => ?_
 unfold ik at h
 refine zS z0 ?_
 obtain ⟨v2, c3H, h⟩ := bS h
 obtain ⟨v3, c4H, h⟩ := bS h
 refine zS (zC2 (lF [] (con_slices_Clone_byte_byte _ _ c3H)) (lC [] (con_slices_Clip_byte_byte _ _ c4H))) (ab ?_)
 cases h
 refine zAR hQ
def iz (v1 : Int) (v2 : (List Int)) : Option ((List Int) × Bool) :=
 ((m_isNumber v1).bind fun v3 => (cond ((!v3) || (decide (((v2).length : Int) > 20008))) (some ([], false)) ((m_big v1 4).bind fun v4 => (gd (apOk ((v4 ++ v2)).length 1) ((ik (v4 ++ v2)).bind fun v5 => (some (v5, true)))))))
theorem con_m_BoxPack (v1 : Int) (v2 : (List Int)) (rz : ((List Int) × Bool)) (h : iz v1 v2 = some rz) : Con Tryz.prog C0 8 [.sc (.int .i64 (v1)), .fz 1 (R e_u8 (v2))] []
  (fun x σ' => x = .tup [.fz 1 (R e_u8 (rz.1)), .sc (.bool (rz.2))] ∧ σ' = []) := by
 refine zCon hP 0 [0, 1, 4, 5, 13] [.tmp 4, .tmp 5] Tryz.func8 (by unfold Tryz.f8; rfl) fun Q hQ => ?_
 unfold iz at h
 refine zS z0 (sC fun k2 hk2 => ?_)
 obtain ⟨v3, c4H, h⟩ := bS h
 refine zS (zC1 (lF [] (con_m_isNumber _ _ c4H))) ?_
 revert h; refine zI rfl ?_ ?_ <;> intro h
 ·refine zS z0 (ab ?_)
  refine r_cR hk2 ?_
  cases h
  refine zARw hQ
 ·refine ae (r_cN hk2 ?_)
  obtain ⟨v4, c7H, h⟩ := bS h
  obtain ⟨g8, h⟩ := gAp h
  obtain ⟨v5, c9H, h⟩ := bS h
  refine zS (zC2F (lF [] (con_m_big _ _ _ c7H)) (lC [] (con_m_clone_byte _ _ c9H)) g8) (ab ?_)
  cases h
  refine zAR hQ
def s_BoxPack (v1 : Int) (v2 : (List Int)) : Option ((List Int) × Bool) :=
 (cond (((decide (v1 < 1)) || (decide (v1 > 1000000))) || (decide (((v2).length : Int) > 20008))) (some ([], false)) ((dU v1 4).bind fun v3 => (gd (apOk ((v3 ++ v2)).length 1) (some ((v3 ++ v2), true)))))
theorem con_s_BoxPack (v1 : Int) (v2 : (List Int)) (rz : ((List Int) × Bool)) (h : s_BoxPack v1 v2 = some rz) : Con Tryz.prog C0 9 [.sc (.int .i64 (v1)), .fz 1 (R e_u8 (v2))] []
  (fun x σ' => x = .tup [.sl 0 0 ((rz.1).length), .sc (.bool (rz.2))] ∧ σ' = [.arr true 1 (R e_u8 (rz.1))]) := by
 refine zCon hP 0 [0, 1, 4, 5, 16] [.tmp 4, .tmp 5] Tryz.func9 (by unfold Tryz.f9; rfl) fun Q hQ => ?_
 unfold s_BoxPack at h
 refine zS z0 (sC fun k2 hk2 => ?_)
 refine zS zR ?_
 revert h; refine zI rfl ?_ ?_ <;> intro h
 ·refine zS z0 (ab ?_)
  refine r_cR hk2 ?_
  cases h
  refine zVRw [2000000] hQ
 ·refine ae (r_cN hk2 ?_)
  obtain ⟨v3, c6H, h⟩ := bS h
  obtain ⟨g7, h⟩ := gAp h
  refine zS (zC1F (lF [] (iy _ _ _ c6H)) g7) (ab ?_)
  cases h
  refine zOR hQ
def m_fromBig_j5 : Int → Option Int
 | v8 => (some v8)
def gw (v1 : (List Int)) : (Int × Int) → Option ((Int × Int) ⊕ Int)
 | (v10, v11) => (cond (decide (v11 < ((v1).length : Int))) ((idx v1 (v11)).bind fun v14 => (some (.inl ((bor .i64 (IntKind.i64.wrap (v10 * 256)) (IntKind.i64.wrap (v14))), (IntKind.i64.wrap (v11 + 1)))))) (some (.inr v10)))
def fR (v1 : (List Int)) : Option Int :=
 ((loop (gw v1) (0, 0)).bind (fun v13 => (m_fromBig_j5 v13)))
theorem iO (v1 : (List Int)) (rz : Int) (h : fR v1 = some rz) : Con Tryz.prog C0 41 [.fz 1 (R e_u8 (v1))] []
  (fun x σ' => x = .sc (.int .i64 (rz)) ∧ σ' = []) := by
 refine zCon hP 0 [0, 2, 3, 5, 6, 7, 8, 9] [.tmp 2] Tryz.func41 (by unfold Tryz.f41; rfl) fun Q hQ => ?_
 unfold fR at h
 refine zS z0 (zS z0 ?_)
 refine zCut (fun (x : Int) => ⟨[(3, .sc (.int .i64 (x)))], []⟩) m_fromBig_j5 rz ?_ ?_
 ·rintro _ v8 h
  simp only [m_fromBig_j5] at h
  refine zS z0 (ab ?_)
  cases h
  refine zAR hQ
 ·intro k26 hk26 J25
  refine zS z0 (sB fun k28 hk28 => ?_)
  obtain ⟨oq41, hLq41, hKq41⟩ := bS h
  clear h
  refine ay [3, 6, 7, 8] (fun (_ : Unit) (x : (Int × Int)) => (⟨[(3, .sc (.int .i64 (x.1))), (6, .fz 1 (R e_u8 (v1))), (7, .sc (.int .i64 (((v1).length : Int)))), (8, .sc (.int .i64 (x.2)))], []⟩ : St)) (fun (_ : Unit) (x : (Int × Int)) => True) (gw v1) () (0, 0) hLq41 (by rfl) (by rfl) ⟨?_, trivial⟩ ?_
  ·exact zSa
  ·rintro nq41 _ ⟨v10, v11⟩ xq41 kq41 hkq41 - h hIq41 hEq41
   simp only [gw] at h
   refine zS z0 (sC fun k43 hk43 => ?_)
   revert h; refine zI rfl ?_ ?_ <;> intro h
   ·refine ae (r_cN hk43 ?_)
    refine sC fun k44 hk44 => sB fun k45 hk45 => ?_
    obtain ⟨v14, h, c47⟩ := bI h
    refine zS (zRF c47) (zU zR ?_)
    refine r_bN hk45 (r_cN hk44 ?_)
    refine zU z0 (zB hkq41 h hIq41 () trivial)
   ·refine aK (r_cE hk43 ?_)
    replace h := zX h hEq41 hKq41
    refine r_kE hkq41 (r_bE hk28 ?_)
    refine zJ J25 [3] () _ h
def m_PicSum_j5 : Int → Option Int
 | v50 => (some v50)
def m_PicSum_j16 (v67 : Int) : Int → Option ((Int × Int) ⊕ Int)
 | v91 => (some (.inl (v91, (IntKind.i64.wrap (v67 + 1)))))
def ib (v95 : Int) : Int → Option ((Int × Int) ⊕ Int)
 | v98 => (some (.inl (v98, (IntKind.i64.wrap (v95 + 1)))))
def m_PicSum_s25 : (Int × Int) → Option ((Int × Int) ⊕ Int)
 | (v94, v95) => (cond (decide (v95 < 8)) (cond (((v94).fdiv 32768) == 1) (ib v95 (bxor .u16 (IntKind.u16.wrap (v94 * 2)) 4129)) (ib v95 (IntKind.u16.wrap (v94 * 2)))) (some (.inr v94)))
def m_PicSum_s9 (v1 : (List Int)) : (Int × Int) → Option ((Int × Int) ⊕ Int)
 | (v66, v67) => (cond (decide (v67 < ((v1).length : Int))) ((idx v1 (v67)).bind fun v92 => ((loop m_PicSum_s25 ((bxor .u16 v66 (IntKind.u16.wrap ((IntKind.u16.wrap (v92)) * 256))), 0)).bind (fun v97 => (m_PicSum_j16 v67 v97)))) (some (.inr v66)))
def m_PicSum (v1 : (List Int)) : Option Int :=
 ((loop (m_PicSum_s9 v1) (65535, 0)).bind (fun v83 => (m_PicSum_j5 v83)))
theorem con_m_PicSum (v1 : (List Int)) (rz : Int) (h : m_PicSum v1 = some rz) : Con Tryz.prog C0 56 [.fz 1 (R e_u8 (v1))] []
  (fun x σ' => x = .sc (.int .u16 (rz)) ∧ σ' = []) := by
 refine zCon hP 0 [0, 2, 3, 5, 6, 7, 8, 9, 10, 18, 19, 25] [.tmp 2] Tryz.func56 (by unfold Tryz.f56; rfl) fun Q hQ => ?_
 unfold m_PicSum at h
 refine zS z0 (zS z0 ?_)
 refine zCut (fun (x : Int) => ⟨[(3, .sc (.int .u16 (x)))], []⟩) m_PicSum_j5 rz ?_ ?_
 ·rintro _ v50 h
  simp only [m_PicSum_j5] at h
  refine zS z0 (ab ?_)
  cases h
  refine zAR hQ
 ·intro k278 hk278 J277
  refine zS z0 (sB fun k280 hk280 => ?_)
  obtain ⟨oq461, hLq461, hKq461⟩ := bS h
  clear h
  refine ay [3, 7, 8, 9] (fun (_ : Unit) (x : (Int × Int)) => (⟨[(3, .sc (.int .u16 (x.1))), (7, .fz 1 (R e_u8 (v1))), (8, .sc (.int .i64 (((v1).length : Int)))), (9, .sc (.int .i64 (x.2)))], []⟩ : St)) (fun (_ : Unit) (x : (Int × Int)) => True) (m_PicSum_s9 v1) () (65535, 0) hLq461 (by rfl) (by rfl) ⟨?_, trivial⟩ ?_
  ·exact zSa
  ·rintro nq461 _ ⟨v66, v67⟩ xq461 kq461 hkq461 - h hIq461 hEq461
   simp only [m_PicSum_s9] at h
   refine zS z0 (sC fun k463 hk463 => ?_)
   revert h; refine zI rfl ?_ ?_ <;> intro h
   ·refine ae (r_cN hk463 ?_)
    refine zCut (fun (x : Int) => ⟨[(3, .sc (.int .u16 (x))), (7, .fz 1 (R e_u8 (v1))), (8, .sc (.int .i64 (((v1).length : Int)))), (9, .sc (.int .i64 (v67)))], []⟩) (m_PicSum_j16 v67) xq461 ?_ ?_
    ·rintro _ v91 h
     simp only [m_PicSum_j16] at h
     refine zU z0 (zB hkq461 h hIq461 () trivial)
    ·intro k508 hk508 J507
     refine sB fun k509 hk509 => ?_
     obtain ⟨v92, h, c511⟩ := bI h
     refine zS (zRF c511) (zS zR ?_)
     refine zS z0 (sB fun k514 hk514 => ?_)
     obtain ⟨oq539, hLq539, hKq539⟩ := bS h
     clear h
     refine ay [3, 7, 8, 9, 18] (fun (_ : Unit) (x : (Int × Int)) => (⟨[(3, .sc (.int .u16 (x.1))), (7, .fz 1 (R e_u8 (v1))), (8, .sc (.int .i64 (((v1).length : Int)))), (9, .sc (.int .i64 (v67))), (18, .sc (.int .i64 (x.2)))], []⟩ : St)) (fun (_ : Unit) (x : (Int × Int)) => True) m_PicSum_s25 () ((bxor .u16 v66 (IntKind.u16.wrap ((IntKind.u16.wrap (v92)) * 256))), 0) hLq539 (by rfl) (by rfl) ⟨?_, trivial⟩ ?_
     ·exact zSa
     ·rintro nq539 _ ⟨v94, v95⟩ xq539 kq539 hkq539 - h hIq539 hEq539
      simp only [m_PicSum_s25] at h
      refine zS z0 (sC fun k541 hk541 => ?_)
      revert h; refine zI rfl ?_ ?_ <;> intro h
      ·refine ae (r_cN hk541 ?_)
       refine zCut (fun (x : Int) => ⟨[(3, .sc (.int .u16 (x))), (7, .fz 1 (R e_u8 (v1))), (8, .sc (.int .i64 (((v1).length : Int)))), (9, .sc (.int .i64 (v67))), (18, .sc (.int .i64 (v95)))], []⟩) (ib v95) xq539 ?_ ?_
       ·rintro _ v98 h
        simp only [ib] at h
        refine zU z0 (zB hkq539 h hIq539 () trivial)
       ·intro k547 hk547 J546
        refine sB fun k548 hk548 => zS zR (zS zR ?_)
        refine zS z0 ?_
        revert h; refine zI rfl ?_ ?_ <;> intro h
        ·refine zU z0 (r_bN hk548 ?_)
         refine zJ J546 [3, 7, 8, 9, 18] () _ h
        ·refine ae (r_bN hk548 ?_)
         refine zJ J546 [3, 7, 8, 9, 18] () _ h
      ·refine aK (r_cE hk541 ?_)
       replace h := zX h hEq539 hKq539
       refine r_kE hkq539 (r_bE hk514 ?_)
       refine r_bN hk509 (zJ J507 [3, 7, 8, 9] () _ h)
   ·refine aK (r_cE hk463 ?_)
    replace h := zX h hEq461 hKq461
    refine r_kE hkq461 (r_bE hk280 ?_)
    refine zJ J277 [3] () _ h
def dD (v1 : picReader) (v2 : Int) : Int → Option ((List Int) × picReader)
 | v3 => (gd (mkOk (v2) (v2) 1) (some ((List.replicate (v2).toNat 0), (⟨v1.left, v3⟩ : picReader))))
def bd (v1 : picReader) (v2 : Int) : Option ((List Int) × picReader) :=
 (cond ((v1.code != 0) || (decide (((v1.left).length : Int) < v2))) (cond (v1.code == 0) (dD v1 v2 6) (dD v1 v2 v1.code)) ((prtH v1.left (v2)).bind fun v4 => ((prtL v1.left (v2)).bind fun v5 => (some (v4, (⟨v5, v1.code⟩ : picReader))))))
theorem cg (v1 : picReader) (v2 : Int) (rz : ((List Int) × picReader)) (h : bd v1 v2 = some rz) : Con Tryz.prog C0 238 [.pt 0 0, .sc (.int .i64 (v2))] [.rc [.fz 1 (R e_u8 (v1.left)), .sc (.int .i64 (v1.code))]]
  (fun x σ' => x = .fz 1 (R e_u8 (rz.1)) ∧ σ' = [.rc [.fz 1 (R e_u8 (rz.2.left)), .sc (.int .i64 (rz.2.code))]]) := by
 refine zCon hP 1 [0, 1, 4, 5, 19, 24] [.tmp 4] Tryz.func238 (by unfold Tryz.f238; rfl) fun Q hQ => ?_
 unfold bd at h
 refine zS z0 (sC fun k2 hk2 => ?_)
 refine zS zR ?_
 revert h; refine zI rfl ?_ ?_ <;> intro h
 ·refine zCut (fun (x : Int) => ⟨[(1, .sc (.int .i64 (v2)))], [.rc [.fz 1 (R e_u8 (v1.left)), .sc (.int .i64 (x))]]⟩) (dD v1 v2) rz ?_ ?_
  ·rintro _ v3 h
   simp only [dD] at h
   obtain ⟨g6, h⟩ := gMk h
   refine zS (zRF g6) (ab ?_)
   refine r_cR hk2 ?_
   cases h
   refine zVRw [0] hQ
  ·intro k8 hk8 J7
   refine zS z0 ?_
   revert h; refine zI rfl ?_ ?_ <;> intro h
   ·refine zU z0 (zJ J7 [1] () _ h)
   ·refine ae (zJ J7 [1] () _ h)
 ·refine ae (r_cN hk2 ?_)
  obtain ⟨v4, c11H, h⟩ := bS h
  obtain ⟨c11A, c11B, c11C⟩ := prtH_some c11H
  try simp only [Int.reduceToNat, Int.toNat_zero, Int.toNat_one, Int.toNat_natCast, List.take_length] at c11C
  refine zS (zRF (a3 c11A c11B c11C)) ?_
  obtain ⟨v5, c13H, h⟩ := bS h
  obtain ⟨c13A, c13B, c13C⟩ := prtL_some c13H
  try simp only [Int.reduceToNat, Int.toNat_zero, Int.toNat_one, Int.toNat_natCast, List.take_length] at c13C
  refine zS (zRF (a3 c13A c13B c13C)) (zS z0 ?_)
  refine ab ?_
  cases h
  refine zOR hQ
def m_hasOne (v1 : Int) : Option Bool :=
 ((m_in v1 1 3).bind fun v2 => (some (v2 || (v1 == 10))))
theorem ez (v1 : Int) (rz : Bool) (h : m_hasOne v1 = some rz) : Con Tryz.prog C0 114 [.sc (.int .i64 (v1))] []
  (fun x σ' => x = .sc (.bool (rz)) ∧ σ' = []) := by
 refine zCon hP 0 [0, 2] [.tmp 2] Tryz.func114 (by unfold Tryz.f114; rfl) fun Q hQ => ?_
 unfold m_hasOne at h
 refine zS z0 ?_
 obtain ⟨v2, c3H, h⟩ := bS h
 refine zS (zC1 (lF [] (bl _ _ _ _ c3H))) (ab ?_)
 cases h
 refine zAR hQ
def m_opFits (v1 : Int) (v2 : Int) : Option Bool :=
 (cond (v1 == 10) ((m_in v2 21 37).bind fun v3 => (some v3)) ((m_in v2 1 10).bind fun v4 => (some v4)))
theorem con_m_opFits (v1 : Int) (v2 : Int) (rz : Bool) (h : m_opFits v1 v2 = some rz) : Con Tryz.prog C0 115 [.sc (.int .i64 (v1)), .sc (.int .i64 (v2))] []
  (fun x σ' => x = .sc (.bool (rz)) ∧ σ' = []) := by
 refine zCon hP 0 [0, 1, 4, 6] [.tmp 4] Tryz.func115 (by unfold Tryz.f115; rfl) fun Q hQ => ?_
 unfold m_opFits at h
 refine zS z0 (sC fun k2 hk2 => ?_)
 refine zS z0 ?_
 revert h; refine zI rfl ?_ ?_ <;> intro h
 ·obtain ⟨v3, c5H, h⟩ := bS h
  refine zS (zC1 (lF [] (bl _ _ _ _ c5H))) (ab ?_)
  refine r_cR hk2 ?_
  cases h
  refine zAR hQ
 ·refine ae (r_cN hk2 ?_)
  obtain ⟨v4, c7H, h⟩ := bS h
  refine zS (zC1 (lF [] (bl _ _ _ _ c7H))) (ab ?_)
  cases h
  refine zAR hQ
def fb : Bool → Option Int
 | v7 => (cond v7 (some 2) (some 0))
def dV (v1 : Int) : Bool → Option Int
 | v3 => (cond v3 (some 1) ((m_in v1 31 35).bind fun v4 => (cond v4 (some 3) ((m_in v1 3 10).bind fun v8 => (cond v8 (fb v8) ((m_in v1 24 37).bind fun v9 => (fb v9)))))))
def eF (v1 : Int) : Option Int :=
 (cond (v1 == 1) (dV v1 (v1 == 1)) (cond (v1 == 2) (dV v1 (v1 == 2)) ((m_in v1 21 23).bind fun v10 => (cond v10 (dV v1 v10) (dV v1 (v1 == 25))))))
theorem iV (v1 : Int) (rz : Int) (h : eF v1 = some rz) : Con Tryz.prog C0 116 [.sc (.int .i64 (v1))] []
  (fun x σ' => x = .sc (.int .i64 (rz)) ∧ σ' = []) := by
 refine zCon hP 0 [0, 2, 3, 12, 15] [.tmp 2] Tryz.func116 (by unfold Tryz.f116; rfl) fun Q hQ => ?_
 unfold eF at h
 refine zS z0 (sC fun k2 hk2 => ?_)
 refine sB fun k3 hk3 => zCut (fun (x : Bool) => ⟨[(0, .sc (.int .i64 (v1))), (3, .sc (.bool (x)))], []⟩) (dV v1) rz ?_ ?_
 ·rintro _ v3 h
  simp only [dV] at h
  revert h; refine zI rfl ?_ ?_ <;> intro h
  ·refine zS z0 (ab ?_)
   refine r_bR hk3 (r_cR hk2 ?_)
   cases h
   refine zAR hQ
  ·obtain ⟨v4, c10H, h⟩ := bS h
   refine zS (zC1 (lF [] (bl _ _ _ _ c10H))) ?_
   revert h; refine zI rfl ?_ ?_ <;> intro h
   ·refine zS z0 (ab ?_)
    refine r_bR hk3 (r_cR hk2 ?_)
    cases h
    refine zAR hQ
   ·refine zCut (fun (x : Bool) => ⟨[(15, .sc (.bool (x)))], []⟩) fb rz ?_ ?_
    ·rintro _ v7 h
     simp only [fb] at h
     revert h; refine zI rfl ?_ ?_ <;> intro h
     ·refine zS z0 (ab ?_)
      refine r_bR hk3 (r_cR hk2 ?_)
      cases h
      refine zAR hQ
     ·refine ae (r_bN hk3 ?_)
      refine r_cN hk2 (zS z0 ?_)
      refine ab ?_
      cases h
      refine zAR hQ
    ·intro k18 hk18 J17
     obtain ⟨v8, c20H, h⟩ := bS h
     refine zS (zC1 (lF [] (bl _ _ _ _ c20H))) ?_
     revert h; refine zI rfl ?_ ?_ <;> intro h
     ·refine ae (zJ J17 [15] () _ h)
     ·obtain ⟨v9, c21H, h⟩ := bS h
      refine zU (zC1 (lF [] (bl _ _ _ _ c21H))) (zJ J17 [15] () _ h)
 ·intro k23 hk23 J22
  refine zS z0 ?_
  revert h; refine zI rfl ?_ ?_ <;> intro h
  ·refine ae (zJ J22 [0, 3] () _ h)
  ·refine zS z0 ?_
   revert h; refine zI rfl ?_ ?_ <;> intro h
   ·refine ae (zJ J22 [0, 3] () _ h)
   ·obtain ⟨v10, c27H, h⟩ := bS h
    refine zS (zC1 (lF [] (bl _ _ _ _ c27H))) ?_
    revert h; refine zI rfl ?_ ?_ <;> intro h
    ·refine ae (zJ J22 [0, 3] () _ h)
    ·refine zU z0 (zJ J22 [0, 3] () _ h)
def m_signed_j5 : Int → Option Int
 | v4 => (some v4)
def m_signed (v1 : (List Int)) : Option Int :=
 ((fR v1).bind fun v2 => ((idx v1 (0)).bind fun v5 => (cond (decide (v5 ≥ 128)) (gd (decide (0 ≤ (IntKind.i64.wrap (8 * ((v1).length : Int))))) (m_signed_j5 (IntKind.i64.wrap (v2 - (IntKind.i64.wrap (1 * (pw .i64 (IntKind.i64.wrap (8 * ((v1).length : Int)))))))))) (m_signed_j5 v2))))
theorem con_m_signed (v1 : (List Int)) (rz : Int) (h : m_signed v1 = some rz) : Con Tryz.prog C0 269 [.fz 1 (R e_u8 (v1))] []
  (fun x σ' => x = .sc (.int .i64 (rz)) ∧ σ' = []) := by
 refine zCon hP 0 [0, 2, 3, 9] [.tmp 2] Tryz.func269 (by unfold Tryz.f269; rfl) fun Q hQ => ?_
 unfold m_signed at h
 refine zS z0 ?_
 obtain ⟨v2, c3H, h⟩ := bS h
 refine zS (zC1 (lF [] (iO _ _ c3H))) (zCut (fun (x : Int) => ⟨[(3, .sc (.int .i64 (x)))], []⟩) m_signed_j5 rz ?_ ?_)
 ·rintro _ v4 h
  simp only [m_signed_j5] at h
  refine zS z0 (ab ?_)
  cases h
  refine zAR hQ
 ·intro k9 hk9 J8
  obtain ⟨v5, h, c11⟩ := bN 0 h
  refine zS (zRF c11) ?_
  revert h; refine zI rfl ?_ ?_ <;> intro h
  ·obtain ⟨g12, h⟩ := gDec h
   refine zU (zRF g12) (zJ J8 [3] () _ h)
  ·refine ae (zJ J8 [3] () _ h)
def aS (v3 : Int) : ((List Int) × Int × Int × Int) → Option (DevArg × picReader)
 | (v13, v14, v15, v16) => (some ((⟨(IntKind.i64.wrap (v3)), v15, v16⟩ : DevArg), (⟨v13, v14⟩ : picReader)))
def gA (v1 : picReader) : Option (DevArg × picReader) :=
 ((bd v1 1).bind fun v2 => ((idx v2.1 (0)).bind fun v3 => (cond (v2.2.code != 0) (aS v3 (v2.2.left, v2.2.code, 0, 0)) ((m_in (IntKind.i64.wrap (v3)) 1 10).bind fun v17 => (cond (v17 || ((IntKind.i64.wrap (v3)) == 13)) ((bd v2.2 1).bind fun v18 => ((idx v18.1 (0)).bind fun v19 => (aS v3 (v18.2.left, v18.2.code, (IntKind.i64.wrap (v19)), 0)))) (cond ((IntKind.i64.wrap (v3)) == 11) ((bd v2.2 2).bind fun v20 => ((m_signed v20.1).bind fun v21 => (aS v3 (v20.2.left, v20.2.code, v21, 0)))) (cond ((IntKind.i64.wrap (v3)) == 12) ((bd v2.2 4).bind fun v22 => ((m_signed v22.1).bind fun v23 => ((bd v22.2 1).bind fun v24 => ((idx v24.1 (0)).bind fun v25 => (aS v3 (v24.2.left, v24.2.code, v23, (IntKind.i64.wrap (v25)))))))) (aS v3 (v2.2.left, 3, 0, 0)))))))))
theorem con_m_picReader_arg (v1 : picReader) (rz : (DevArg × picReader)) (h : gA v1 = some rz) : Con Tryz.prog C0 239 [.pt 0 0] [.rc [.fz 1 (R e_u8 (v1.left)), .sc (.int .i64 (v1.code))]]
  (fun x σ' => x = .agg [.sc (.int .i64 (rz.1.Kind)), .sc (.int .i64 (rz.1.N)), .sc (.int .i64 (rz.1.P))] ∧ σ' = [.rc [.fz 1 (R e_u8 (rz.2.left)), .sc (.int .i64 (rz.2.code))]]) := by
 refine zCon hP 1 [0, 2, 3, 13, 19, 34, 42] [.cell 2 171] Tryz.func239 (by unfold Tryz.f239; rfl) fun Q hQ => ?_
 unfold gA at h
 refine zS z0 ?_
 obtain ⟨v2, c3H, h⟩ := bS h
 obtain ⟨v3, h, c4⟩ := bN 0 h
 refine zS (zC1F (lC [[0]] (cg _ _ _ c3H)) c4) (zCut (fun (x : ((List Int) × Int × Int × Int)) => ⟨[(2, .pt 1 0), (3, .pt 2 0)], [.rc [.fz 1 (R e_u8 (x.1)), .sc (.int .i64 (x.2.1))], .rc [.sc (.int .i64 (0)), .sc (.int .i64 (0)), .sc (.int .i64 (0))], .rc [.sc (.int .i64 ((IntKind.i64.wrap (v3)))), .sc (.int .i64 (x.2.2.1)), .sc (.int .i64 (x.2.2.2))]]⟩) (aS v3) rz ?_ ?_)
 ·rintro _ ⟨v13, v14, v15, v16⟩ h
  simp only [aS] at h
  refine zS z0 (ab ?_)
  cases h
  refine zAR hQ
 ·intro k22 hk22 J21
  refine sB fun k23 hk23 => zS z0 ?_
  revert h; refine zI rfl ?_ ?_ <;> intro h
  ·refine ae (r_bN hk23 ?_)
   refine zJ J21 [2, 3] () _ h
  ·obtain ⟨v17, c26H, h⟩ := bS h
   refine zS (zC1 (lF [] (bl _ _ _ _ c26H))) ?_
   revert h; refine zI rfl ?_ ?_ <;> intro h
   ·obtain ⟨v18, c27H, h⟩ := bS h
    obtain ⟨v19, h, c28⟩ := bN 0 h
    refine zU (zC1F (lC [[0]] (cg _ _ _ c27H)) c28) (r_bN hk23 ?_)
    refine zJ J21 [2, 3] () _ h
   ·refine zS z0 ?_
    revert h; refine zI rfl ?_ ?_ <;> intro h
    ·obtain ⟨v20, c30H, h⟩ := bS h
     obtain ⟨v21, c31H, h⟩ := bS h
     refine zU (zC2 (lC [[0]] (cg _ _ _ c30H)) (lF [] (con_m_signed _ _ c31H))) (r_bN hk23 ?_)
     refine zJ J21 [2, 3] () _ h
    ·refine zS z0 ?_
     revert h; refine zI rfl ?_ ?_ <;> intro h
     ·obtain ⟨v22, c34H, h⟩ := bS h
      obtain ⟨v23, c35H, h⟩ := bS h
      refine zS (zC2 (lC [[0]] (cg _ _ _ c34H)) (lF [] (con_m_signed _ _ c35H))) ?_
      obtain ⟨v24, c36H, h⟩ := bS h
      obtain ⟨v25, h, c37⟩ := bN 0 h
      refine zU (zC1F (lC [[0]] (cg _ _ _ c36H)) c37) (r_bN hk23 ?_)
      refine zJ J21 [2, 3] () _ h
     ·refine zU z0 (r_bN hk23 ?_)
      refine zJ J21 [2, 3] () _ h
def fc (v3 : Int) (v8 : Int) : ((List Int) × Int × (List DevArg)) → Option (Inst × picReader)
 | (v22, v23, v24) => (some ((⟨(IntKind.i64.wrap (v3)), (IntKind.i64.wrap (v8)), v24⟩ : Inst), (⟨v22, v23⟩ : picReader)))
def bz (v8 : Int) : ((List Int) × Int × (List DevArg) × Int) → Option (((List Int) × Int × (List DevArg) × Int) ⊕ ((List Int) × Int × (List DevArg)))
 | (v27, v28, v29, v30) => ((eF (IntKind.i64.wrap (v8))).bind fun v34 => (cond ((decide (v30 < v34)) && (v28 == 0)) ((gA (⟨v27, v28⟩ : picReader)).bind fun v35 => (gd (apOk ((v29 ++ [v35.1])).length 24) (some (.inl (v35.2.left, v35.2.code, (v29 ++ [v35.1]), (IntKind.i64.wrap (v30 + 1))))))) (some (.inr (v27, v28, v29)))))
def bP (v3 : Int) (v7 : ((List Int) × picReader)) (v8 : Int) : Int → Option (Inst × picReader)
 | v10 => ((loop (bz v8) (v7.2.left, v10, [], 0)).bind (fun v33 => (fc v3 v8 (v33.1, v33.2.1, v33.2.2))))
def bY (v2 : ((List Int) × picReader)) (v3 : Int) : Int → Option (Inst × picReader)
 | v5 => (cond (v5 != 0) (some ((⟨(IntKind.i64.wrap (v3)), 0, []⟩ : Inst), (⟨v2.2.left, v5⟩ : picReader))) ((m_hasOne (IntKind.i64.wrap (v3))).bind fun v6 => (cond (!v6) (some ((⟨(IntKind.i64.wrap (v3)), 0, []⟩ : Inst), (⟨v2.2.left, v5⟩ : picReader))) ((bd (⟨v2.2.left, v5⟩ : picReader) 1).bind fun v7 => ((idx v7.1 (0)).bind fun v8 => (cond (v7.2.code == 0) ((m_opFits (IntKind.i64.wrap (v3)) (IntKind.i64.wrap (v8))).bind fun v36 => (cond (!v36) (bP v3 v7 v8 2) (bP v3 v7 v8 v7.2.code))) (bP v3 v7 v8 v7.2.code)))))))
def fQ (v1 : picReader) : Option (Inst × picReader) :=
 ((bd v1 1).bind fun v2 => ((idx v2.1 (0)).bind fun v3 => (cond (v2.2.code == 0) ((m_in (IntKind.i64.wrap (v3)) 1 11).bind fun v37 => (cond (!v37) (bY v2 v3 2) (bY v2 v3 v2.2.code))) (bY v2 v3 v2.2.code))))
theorem con_m_picReader_inst (v1 : picReader) (rz : (Inst × picReader)) (h : fQ v1 = some rz) : Con Tryz.prog C0 187 [.pt 0 0] [.rc [.fz 1 (R e_u8 (v1.left)), .sc (.int .i64 (v1.code))]]
  (fun x σ' => x = .agg [.sc (.int .i64 (rz.1.Code)), .sc (.int .i64 (rz.1.One_Op)), .sl 1 0 ((rz.1.One_Args).length)] ∧ σ' = [.rc [.fz 1 (R e_u8 (rz.2.left)), .sc (.int .i64 (rz.2.code))], .arr true 3 (R aa (rz.1.One_Args))]) := by
 refine zCon hP 1 [0, 2, 3, 4, 21, 35, 57, 73] [.cell 2 89] Tryz.func187 (by unfold Tryz.f187; rfl) fun Q hQ => ?_
 unfold fQ at h
 refine zS z0 ?_
 obtain ⟨v2, c3H, h⟩ := bS h
 obtain ⟨v3, h, c4⟩ := bN 0 h
 refine zS (zC1F (lC [[0]] (cg _ _ _ c3H)) c4) (zCut (fun (x : Int) => ⟨[(0, .pt 0 0), (2, .pt 1 0), (3, .pt 2 0)], [.rc [.fz 1 (R e_u8 (v2.2.left)), .sc (.int .i64 (x))], .rc [.sc (.int .i64 (0)), .sc (.int .i64 (0)), .sc (.slice none 0 0)], .rc [.sc (.int .i64 ((IntKind.i64.wrap (v3)))), .sc (.int .i64 (0)), .sc (.slice none 0 0)]]⟩) (bY v2 v3) rz ?_ ?_)
 ·rintro _ v5 h
  simp only [bY] at h
  refine sC fun k8 hk8 => sC fun k9 hk9 => ?_
  rcases bE (v5 != 0) with g10 | g10
  ·replace h := ak h g10
   refine zU (zRF g10) (r_cN hk9 ?_)
   refine bM rfl ?_
   try replace h := ak h rfl
   refine zS z0 (ab ?_)
   refine r_cR hk8 ?_
   cases h
   refine zVRw [0, 2000002] hQ
  ·replace h := av h g10
   obtain ⟨v6, c12H, h⟩ := bS h
   refine zU (zC1F (lF [] (ez _ _ c12H)) g10) (r_cN hk9 ?_)
   revert h; refine zI rfl ?_ ?_ <;> intro h
   ·refine zS z0 (ab ?_)
    refine r_cR hk8 ?_
    cases h
    refine zVRw [0, 2000002] hQ
   ·refine ae (r_cN hk8 ?_)
    obtain ⟨v7, c15H, h⟩ := bS h
    obtain ⟨v8, h, c16⟩ := bN 0 h
    refine zS (zC1F (lC [[0]] (cg _ _ _ c15H)) c16) (zCut (fun (x : Int) => ⟨[(0, .pt 0 0), (2, .pt 1 0), (3, .pt 2 0)], [.rc [.fz 1 (R e_u8 (v7.2.left)), .sc (.int .i64 (x))], .rc [.sc (.int .i64 (0)), .sc (.int .i64 (0)), .sc (.slice none 0 0)], .rc [.sc (.int .i64 ((IntKind.i64.wrap (v3)))), .sc (.int .i64 ((IntKind.i64.wrap (v8)))), .sc (.slice none 0 0)]]⟩) (bP v3 v7 v8) rz ?_ ?_)
    ·rintro _ v10 h
     simp only [bP] at h
     refine zCut (fun (x : ((List Int) × Int × (List DevArg))) => ⟨[(2, .pt 1 0), (3, .pt 2 0)], [.rc [.fz 1 (R e_u8 (x.1)), .sc (.int .i64 (x.2.1))], .rc [.sc (.int .i64 (0)), .sc (.int .i64 (0)), .sc (.slice none 0 0)], .rc [.sc (.int .i64 ((IntKind.i64.wrap (v3)))), .sc (.int .i64 ((IntKind.i64.wrap (v8)))), .sl 3 0 ((x.2.2).length)], .arr true 3 (R aa (x.2.2))]⟩) (fc v3 v8) rz ?_ ?_
     ·rintro _ ⟨v22, v23, v24⟩ h
      simp only [fc] at h
      refine zS z0 (ab ?_)
      cases h
      refine zOR hQ
     ·intro k46 hk46 J45
      refine zS z0 (sB fun k48 hk48 => ?_)
      obtain ⟨oq63, hLq63, hKq63⟩ := bS h
      clear h
      refine eg [0, 2, 3, 4] [0, 1, 2, 2000002] (fun (_ : Unit) (x : ((List Int) × Int × (List DevArg) × Int)) => (⟨[(0, .pt 0 0), (2, .pt 1 0), (3, .pt 2 0), (4, .sc (.int .i64 (x.2.2.2)))], [.rc [.fz 1 (R e_u8 (x.1)), .sc (.int .i64 (x.2.1))], .rc [.sc (.int .i64 (0)), .sc (.int .i64 (0)), .sc (.slice none 0 0)], .rc [.sc (.int .i64 ((IntKind.i64.wrap (v3)))), .sc (.int .i64 ((IntKind.i64.wrap (v8)))), .sl 3 0 ((x.2.2.1).length)], .arr true 3 (R aa (x.2.2.1))]⟩ : St)) (fun (_ : Unit) (x : ((List Int) × Int × (List DevArg) × Int)) => True) (bz v8) () (v7.2.left, v10, [], 0) hLq63 (by rfl) (by rfl) ⟨?_, trivial⟩ ?_
      ·exact zSd
      ·rintro nq63 _ ⟨v27, v28, v29, v30⟩ xq63 kq63 hkq63 - h hIq63 hEq63
       simp only [bz] at h
       refine sC fun k64 hk64 => ?_
       obtain ⟨v34, c66H, h⟩ := bS h
       refine zS (zC1 (lF [] (iV _ _ c66H))) ?_
       revert h; refine zI rfl ?_ ?_ <;> intro h
       ·refine ae (r_cN hk64 ?_)
        refine sC fun k67 hk67 => sB fun k68 hk68 => ?_
        obtain ⟨v35, c69H, h⟩ := bS h
        obtain ⟨g70, h⟩ := gAp h
        refine zU (zPC1F (.take 0 (.take 1 (.take 2 (.take 3 (.one 4 (.one 5 (.last 6 (.take 7 (.take 8 (.last 9 .done)))))))))) [2] (lC [[0]] (con_m_picReader_arg _ _ c69H)) g70) (r_bN hk68 ?_)
        refine r_cN hk67 (zU z0 ?_)
        refine zB hkq63 h hIq63 () trivial
       ·refine aK (r_cE hk64 ?_)
        replace h := zX h hEq63 hKq63
        refine r_kE hkq63 (r_bE hk48 ?_)
        refine zJ J45 [2, 3] () _ h
    ·intro k72 hk72 J71
     refine sC fun k73 hk73 => ?_
     rcases bE (v7.2.code == 0) with g74 | g74
     ·replace h := ak h g74
      obtain ⟨v36, c75H, h⟩ := bS h
      refine zU (zC1F (lF [] (con_m_opFits _ _ _ c75H)) g74) (r_cN hk73 ?_)
      revert h; refine zI rfl ?_ ?_ <;> intro h
      ·refine zU z0 (zJ J71 [0, 2, 3] () _ h)
      ·refine ae (zJ J71 [0, 2, 3] () _ h)
     ·replace h := av h g74
      refine zU (zRF g74) (r_cN hk73 ?_)
      refine sem_ifF rfl ?_
      try replace h := av h rfl
      refine ae (zJ J71 [0, 2, 3] () _ h)
 ·intro k77 hk77 J76
  refine sC fun k78 hk78 => ?_
  rcases bE (v2.2.code == 0) with g79 | g79
  ·replace h := ak h g79
   obtain ⟨v37, c80H, h⟩ := bS h
   refine zU (zC1F (lF [] (bl _ _ _ _ c80H)) g79) (r_cN hk78 ?_)
   revert h; refine zI rfl ?_ ?_ <;> intro h
   ·refine zU z0 (zJ J76 [0, 2, 3] () _ h)
   ·refine ae (zJ J76 [0, 2, 3] () _ h)
  ·replace h := av h g79
   refine zU (zRF g79) (r_cN hk78 ?_)
   refine sem_ifF rfl ?_
   try replace h := av h rfl
   refine ae (zJ J76 [0, 2, 3] () _ h)
def cr (v1 : (List DevArg)) : Option (List DevArg) :=
 (nilq v1 fun v2 => (cond v2 (some []) (gd (apOk (v1).length 24) (some v1))))
theorem iZ (v1 : (List DevArg)) (rz : (List DevArg)) (h : cr v1 = some rz) : Con Tryz.prog C0 274 [.fz 3 (R aa (v1))] []
  (fun x σ' => x = .sl 0 0 ((rz).length) ∧ σ' = [.arr true 3 (R aa (rz))]) := by
 refine zCon hP 0 [0, 2, 4] [.tmp 2] Tryz.func274 (by unfold Tryz.f274; rfl) fun Q hQ => ?_
 unfold cr at h
 refine zS z0 (sC fun k2 hk2 => ?_)
 refine sC fun k3 hk3 => ?_
 have c4H := nilq_some h
 clear h
 repeat' (first | with_reducible refine And.intro ?_ ?_ | exact True.intro | with_reducible assumption | exact fun hf => False.elim hf | (intro hg; first | (simp +contextual [hg]; done) | grind) | omega | ((with_reducible refine r_nileq ?_); refine ⟨?_, ?_⟩) | (intro v2 c4B) | simp (decide := true) only [go_sem, reduceIte, Nat.reduceAdd, Int.reduceToNat, Nat.reduceSub, Nat.reduceMul, Nat.reduceMod])
 replace h := c4H v2 (fun e => by have e2 := c4B e; simpa only [go_sem, reduceIte, Nat.reduceEqDiff] using e2)
 refine r_cN hk3 ?_
 revert h; refine zI rfl ?_ ?_ <;> intro h
 ·refine zS z0 (ab ?_)
  refine r_cR hk2 ?_
  cases h
  refine zVRw [2000002] hQ
 ·refine ae (r_cN hk2 ?_)
  obtain ⟨g7, h⟩ := gAp h
  refine zS (zRF g7) (ab ?_)
  cases h
  refine zOR hQ
def cB (v1 : (List DevArg)) : Option (List DevArg) :=
 ((prtH v1 (((v1).length : Int))).bind fun v2 => (some v2))
theorem jb (v1 : (List DevArg)) (rz : (List DevArg)) (h : cB v1 = some rz) : Con Tryz.prog C0 273 [.fz 3 (R aa (v1))] []
  (fun x σ' => x = .fz 3 (R aa (rz)) ∧ σ' = []) := by
 refine zCon hP 0 [0, 2] [.tmp 2] Tryz.func273 (by unfold Tryz.f273; rfl) fun Q hQ => ?_
 unfold cB at h
 refine zS z0 ?_
 obtain ⟨v2, c3H, h⟩ := bS h
 obtain ⟨c3A, c3B, c3C⟩ := prtH_some c3H
 try simp only [Int.reduceToNat, Int.toNat_zero, Int.toNat_one, Int.toNat_natCast, List.take_length] at c3C
 refine zS (zRF (a3 c3A c3B c3C)) (ab ?_)
 cases h
 refine zAR hQ
def fW (v1 : (List DevArg)) : Option (List DevArg) :=
 ((cr v1).bind fun v2 => ((cB v2).bind fun v3 => (some v3)))
theorem con_m_clone_m_DevArg (v1 : (List DevArg)) (rz : (List DevArg)) (h : fW v1 = some rz) : Con Tryz.prog C0 253 [.fz 3 (R aa (v1))] []
  (fun x σ' => x = .fz 3 (R aa (rz)) ∧ σ' = []) := by
 refine zCon hP 0 [0, 2] [.tmp 2] Tryz.func253 (by unfold Tryz.f253; rfl) fun Q hQ => ?_
 unfold fW at h
 refine zS z0 ?_
 obtain ⟨v2, c3H, h⟩ := bS h
 obtain ⟨v3, c4H, h⟩ := bS h
 refine zS (zC2 (lF [] (iZ _ _ c3H)) (lC [] (jb _ _ c4H))) (ab ?_)
 cases h
 refine zAR hQ
def iD (v1 : Elem) : Option Elem :=
 ((fW v1.Args).bind fun v2 => (some (⟨v1.Op, v2⟩ : Elem)))
theorem con_m_Elem_copyOf (v1 : Elem) (rz : Elem) (h : iD v1 = some rz) : Con Tryz.prog C0 208 [.agg [.sc (.int .i64 (v1.Op)), .fz 3 (R aa (v1.Args))]] []
  (fun x σ' => x = .agg [.sc (.int .i64 (rz.Op)), .fz 3 (R aa (rz.Args))] ∧ σ' = []) := by
 refine zCon hP 0 [0, 1, 2] [.cell 2 87] Tryz.func208 (by unfold Tryz.f208; rfl) fun Q hQ => ?_
 unfold iD at h
 refine zS z0 ?_
 obtain ⟨v2, c3H, h⟩ := bS h
 refine zS (zPC1 (.take 0 (.take 1 (.take 2 (.take 3 (.one 4 (.take 5 (.last 6 .done))))))) [0] (lC [] (con_m_clone_m_DevArg _ _ c3H))) (ab ?_)
 cases h
 refine zAR hQ
def m_copyList_j5 : (List Inst) → Option (List Inst)
 | v14 => (some v14)
def m_copyList_s9 (v1 : (List Inst)) : ((List Inst) × Int) → Option (((List Inst) × Int) ⊕ (List Inst))
 | (v18, v19) => (cond (decide (v19 < ((v1).length : Int))) ((idx v1 (v19)).bind fun v24 => ((iD (⟨v24.One_Op, v24.One_Args⟩ : Elem)).bind fun v25 => ((idx v18 (v19)).bind fun v26 => (some (.inl (((v18).set (v19).toNat (⟨v24.Code, v25.Op, v25.Args⟩ : Inst)), (IntKind.i64.wrap (v19 + 1)))))))) (some (.inr v18)))
def m_copyList (v1 : (List Inst)) : Option (List Inst) :=
 (gd (mkOk (((v1).length : Int)) (((v1).length : Int)) 40) ((loop (m_copyList_s9 v1) ((List.replicate (((v1).length : Int)).toNat (⟨0, 0, []⟩ : Inst)), 0)).bind (fun v23 => (m_copyList_j5 v23))))
theorem con_m_copyList (v1 : (List Inst)) (rz : (List Inst)) (h : m_copyList v1 = some rz) : Con Tryz.prog C0 134 [.fz 3 (R ao (v1))] []
  (fun x σ' => x = .sl 0 0 ((rz).length) ∧ σ' = [.arr true 3 (R ao (rz))]) := by
 refine zCon hP 0 [0, 2, 3, 4, 5, 9, 10, 11, 12] [.tmp 2] Tryz.func134 (by unfold Tryz.f134; rfl) fun Q hQ => ?_
 unfold m_copyList at h
 refine zS z0 ?_
 obtain ⟨g3, h⟩ := gMk h
 refine zS (zRF g3) (zCut (fun (x : (List Inst)) => ⟨[(3, .sl 0 0 ((x).length))], [.arr true 3 (R ao (x))]⟩) m_copyList_j5 rz ?_ ?_)
 ·rintro _ v14 h
  simp only [m_copyList_j5] at h
  refine zS z0 (ab ?_)
  cases h
  refine zOR hQ
 ·intro k33 hk33 J32
  refine zS z0 (sB fun k35 hk35 => ?_)
  obtain ⟨oq52, hLq52, hKq52⟩ := bS h
  clear h
  refine ay [3, 9, 10, 11] (fun (_ : Unit) (x : ((List Inst) × Int)) => (⟨[(3, .sl 0 0 ((x.1).length)), (9, .fz 3 (R ao (v1))), (10, .sc (.int .i64 (((v1).length : Int)))), (11, .sc (.int .i64 (x.2)))], [.arr true 3 (R ao (x.1))]⟩ : St)) (fun (_ : Unit) (x : ((List Inst) × Int)) => True) (m_copyList_s9 v1) () ((List.replicate (((v1).length : Int)).toNat (⟨0, 0, []⟩ : Inst)), 0) hLq52 (by rfl) (by rfl) ⟨?_, trivial⟩ ?_
  ·exact zSd
  ·rintro nq52 _ ⟨v18, v19⟩ xq52 kq52 hkq52 - h hIq52 hEq52
   simp only [m_copyList_s9] at h
   refine zS z0 (sC fun k54 hk54 => ?_)
   revert h; refine zI rfl ?_ ?_ <;> intro h
   ·refine ae (r_cN hk54 ?_)
    refine sC fun k55 hk55 => sB fun k56 hk56 => ?_
    obtain ⟨v24, h, c58⟩ := bI h
    refine zS (zRF c58) ?_
    obtain ⟨v25, c59H, h⟩ := bS h
    obtain ⟨v26, h, c60⟩ := bI h
    refine zU (zPC1F (.take 0 (.take 1 (.take 2 (.take 3 (.take 4 (.take 5 (.one 6 (.take 7 (.take 8 (.last 9 .done)))))))))) [1] (lC [] (con_m_Elem_copyOf _ _ c59H)) c60) (r_bN hk56 ?_)
    refine r_cN hk55 (zU z0 ?_)
    refine zB hkq52 h hIq52 () trivial
   ·refine aK (r_cE hk54 ?_)
    replace h := zX h hEq52 hKq52
    refine r_kE hkq52 (r_bE hk35 ?_)
    refine zJ J32 [3] () _ h
def m_PicRead_j34 (v8 : Int) : ((List Int) × Int × (List Inst)) → Option ((List Inst) × PicFault)
 | (v23, v24, v25) => (cond (decide (((v23).length : Int) > 0)) (some ([], (⟨7, v8⟩ : PicFault))) ((m_copyList v25).bind fun v26 => (some (v26, (⟨0, 0⟩ : PicFault)))))
def iN (v8 : Int) : ((List Int) × Int × (List Inst) × Int) → Option (((List Int) × Int × (List Inst) × Int) ⊕ ((Int × Int) ⊕ ((List Int) × Int × (List Inst))))
 | (v28, v29, v30, v31) => (cond (decide (v31 < v8)) ((fQ (⟨v28, v29⟩ : picReader)).bind fun v35 => (cond (v35.2.code != 0) (some (.inr (.inl (v35.2.code, v31)))) (gd (apOk ((v30 ++ [v35.1])).length 40) (some (.inl (v35.2.left, v35.2.code, (v30 ++ [v35.1]), (IntKind.i64.wrap (v31 + 1)))))))) (some (.inr (.inr (v28, v29, v30)))))
def ig (v1 : (List Int)) : Option ((List Inst) × PicFault) :=
 ((m_in ((v1).length : Int) 8 20008).bind fun v2 => (cond v2 ((idx v1 (0)).bind fun v3 => (cond (v3 != 83) (some ([], (⟨4, 0⟩ : PicFault))) ((idx v1 (1)).bind fun v4 => (cond (v4 != 116) (some ([], (⟨4, 0⟩ : PicFault))) ((prt v1 (2) (4)).bind fun v5 => ((fR v5).bind fun v6 => (cond (v6 != ((v1).length : Int)) (some ([], (⟨4, 0⟩ : PicFault))) ((prt v1 (4) (6)).bind fun v7 => ((fR v7).bind fun v8 => ((prtL v1 ((IntKind.i64.wrap (((v1).length : Int) - 2)))).bind fun v9 => ((prtH v1 ((IntKind.i64.wrap (((v1).length : Int) - 2)))).bind fun v10 => ((fR v9).bind fun v11 => ((m_PicSum v10).bind fun v12 => (cond (v11 != (IntKind.i64.wrap (v12))) (some ([], (⟨5, 0⟩ : PicFault))) (cond (decide (v8 > 1000)) (some ([], (⟨1, 0⟩ : PicFault))) ((prt v1 (6) ((IntKind.i64.wrap (((v1).length : Int) - 2)))).bind fun v13 => ((loop (iN v8) (v13, 0, [], 0)).bind (Sum.elim (fun v33 => (some ([], (⟨v33.1, v33.2⟩ : PicFault)))) (fun v34 => (m_PicRead_j34 v8 (v34.1, v34.2.1, v34.2.2))))))))))))))))))))) (some ([], (⟨4, 0⟩ : PicFault)))))
theorem con_m_PicRead (v1 : (List Int)) (rz : ((List Inst) × PicFault)) (h : ig v1 = some rz) : Con Tryz.prog C0 102 [.fz 1 (R e_u8 (v1))] []
  (fun x σ' => x = .tup [.sl 0 0 ((rz.1).length), .agg [.sc (.int .i64 (rz.2.Code)), .sc (.int .i64 (rz.2.At))]] ∧ σ' = [.arr true 3 (R ao (rz.1))]) := by
 refine zCon hP 0 [0, 2, 3, 4, 5, 6, 7, 8, 9, 33, 38, 52, 62, 63, 64, 72, 89] [.tmp 2, .cell 3 31] Tryz.func102 (by unfold Tryz.f102; rfl) fun Q hQ => ?_
 unfold ig at h
 refine zS z0 (zS z0 ?_)
 refine sC fun k3 hk3 => sC fun k4 hk4 => ?_
 obtain ⟨v2, c5H, h⟩ := bS h
 rcases bE v2 with g6 | g6
 ·replace h := ak h g6
  obtain ⟨v3, h, c7⟩ := bN 0 h
  rcases bE (v3 != 83) with g8 | g8
  ·replace h := ak h g8
   refine zU (zC1F (lF [] (bl _ _ _ _ c5H)) (a3 g6 c7 g8)) (r_cN hk4 ?_)
   refine bM rfl ?_
   try replace h := ak h rfl
   refine zS z0 (ab ?_)
   refine r_cR hk3 ?_
   cases h
   refine zVRw [2000002] hQ
  ·replace h := av h g8
   obtain ⟨v4, h, c10⟩ := bN 1 h
   rcases bE (v4 != 116) with g11 | g11
   ·replace h := ak h g11
    refine zU (zC1F (lF [] (bl _ _ _ _ c5H)) (a4 g6 c7 g8 (a2 c10 g11))) (r_cN hk4 ?_)
    refine bM rfl ?_
    try replace h := ak h rfl
    refine zS z0 (ab ?_)
    refine r_cR hk3 ?_
    cases h
    refine zVRw [2000002] hQ
   ·replace h := av h g11
    obtain ⟨v5, c13H, h⟩ := bS h
    obtain ⟨c13A, c13B, c13C, c13D⟩ := prt_some c13H
    try simp only [Int.reduceToNat, Int.toNat_zero, Int.toNat_one, Int.toNat_natCast, List.take_length] at c13D
    obtain ⟨v6, c14H, h⟩ := bS h
    refine zU (zC2F (lF [] (bl _ _ _ _ c5H)) (lF [] (iO _ _ c14H)) (a4 g6 c7 g8 (a4 c10 g11 c13A (a3 c13B c13C c13D)))) (r_cN hk4 ?_)
    revert h; refine zI rfl ?_ ?_ <;> intro h
    ·refine zS z0 (ab ?_)
     refine r_cR hk3 ?_
     cases h
     refine zVRw [2000002] hQ
    ·refine ae (r_cN hk3 ?_)
     obtain ⟨v7, c17H, h⟩ := bS h
     obtain ⟨c17A, c17B, c17C, c17D⟩ := prt_some c17H
     try simp only [Int.reduceToNat, Int.toNat_zero, Int.toNat_one, Int.toNat_natCast, List.take_length] at c17D
     obtain ⟨v8, c18H, h⟩ := bS h
     refine zS (zC1F (lF [] (iO _ _ c18H)) (a4 c17A c17B c17C c17D)) (sC fun k19 hk19 => ?_)
     refine sB fun k20 hk20 => ?_
     obtain ⟨v9, c22H, h⟩ := bS h
     obtain ⟨c22A, c22B, c22C⟩ := prtL_some c22H
     try simp only [Int.reduceToNat, Int.toNat_zero, Int.toNat_one, Int.toNat_natCast, List.take_length] at c22C
     obtain ⟨v10, c23H, h⟩ := bS h
     obtain ⟨c23A, c23B, c23C⟩ := prtH_some c23H
     try simp only [Int.reduceToNat, Int.toNat_zero, Int.toNat_one, Int.toNat_natCast, List.take_length] at c23C
     obtain ⟨v11, c24H, h⟩ := bS h
     obtain ⟨v12, c25H, h⟩ := bS h
     refine zS (zPC2F (.take 0 (.take 1 (.take 2 (.take 3 (.take 5 (.take 6 (.take 7 (.take 8 (.last 4 (.last 9 (.take 10 (.take 11 (.take 12 .done))))))))))))) [] (lF [] (iO _ _ c24H)) (lF [] (con_m_PicSum _ _ c25H)) (a4 c22A c22B c22C (a3 c23A c23B c23C))) ?_
     revert h; refine zI rfl ?_ ?_ <;> intro h
     ·refine zS z0 (ab ?_)
      refine r_bR hk20 (r_cR hk19 ?_)
      cases h
      refine zVRw [2000002] hQ
     ·refine zS z0 ?_
      revert h; refine zI rfl ?_ ?_ <;> intro h
      ·refine zS z0 (ab ?_)
       refine r_bR hk20 (r_cR hk19 ?_)
       cases h
       refine zVRw [2000002] hQ
      ·refine ae (r_bN hk20 ?_)
       refine r_cN hk19 ?_
       obtain ⟨v13, c30H, h⟩ := bS h
       obtain ⟨c30A, c30B, c30C, c30D⟩ := prt_some c30H
       try simp only [Int.reduceToNat, Int.toNat_zero, Int.toNat_one, Int.toNat_natCast, List.take_length] at c30D
       refine zS (zRF (a4 c30A c30B c30C c30D)) (zS z0 ?_)
       refine zCut (fun (x : ((List Int) × Int × (List Inst))) => ⟨[(3, .pt 0 0), (5, .sc (.int .i64 (v8))), (6, .pt 1 0), (7, .sl 2 0 ((x.2.2).length))], [.rc [.sc (.int .i64 (0)), .sc (.int .i64 (0))], .rc [.fz 1 (R e_u8 (x.1)), .sc (.int .i64 (x.2.1))], .arr true 3 (R ao (x.2.2))]⟩) (m_PicRead_j34 v8) rz ?_ ?_
       ·rintro _ ⟨v23, v24, v25⟩ h
        simp only [m_PicRead_j34] at h
        refine sC fun k68 hk68 => zS z0 ?_
        revert h; refine zI rfl ?_ ?_ <;> intro h
        ·refine zS z0 (ab ?_)
         refine r_cR hk68 ?_
         cases h
         refine zVRw [2000002] hQ
        ·refine ae (r_cN hk68 ?_)
         obtain ⟨v26, c72H, h⟩ := bS h
         refine zS (zC1 (lC [] (con_m_copyList _ _ c72H))) (ab ?_)
         cases h
         refine zOR hQ
       ·intro k74 hk74 J73
        refine zS z0 (sB fun k76 hk76 => ?_)
        obtain ⟨oq99, hLq99, hKq99⟩ := bS h
        clear h
        refine eg [3, 5, 6, 7, 62, 63] [0, 1, 2000002] (fun (_ : Unit) (x : ((List Int) × Int × (List Inst) × Int)) => (⟨[(3, .pt 0 0), (5, .sc (.int .i64 (v8))), (6, .pt 1 0), (7, .sl 2 0 ((x.2.2.1).length)), (62, .sc (.int .i64 (v8))), (63, .sc (.int .i64 (x.2.2.2)))], [.rc [.sc (.int .i64 (0)), .sc (.int .i64 (0))], .rc [.fz 1 (R e_u8 (x.1)), .sc (.int .i64 (x.2.1))], .arr true 3 (R ao (x.2.2.1))]⟩ : St)) (fun (_ : Unit) (x : ((List Int) × Int × (List Inst) × Int)) => True) (iN v8) () (v13, 0, [], 0) hLq99 (by rfl) (by rfl) ⟨?_, trivial⟩ ?_
        ·exact zSd
        ·rintro nq99 _ ⟨v28, v29, v30, v31⟩ xq99 kq99 hkq99 - h hIq99 hEq99
         simp only [iN] at h
         refine zS z0 (sC fun k101 hk101 => ?_)
         revert h; refine zI rfl ?_ ?_ <;> intro h
         ·refine ae (r_cN hk101 ?_)
          refine sC fun k102 hk102 => sB fun k103 hk103 => zS z0 ?_
          obtain ⟨v35, c106H, h⟩ := bS h
          refine zS (zC1 (lC [[0]] (con_m_picReader_inst _ _ c106H))) (sC fun k107 hk107 => ?_)
          refine zS z0 ?_
          revert h; refine zI rfl ?_ ?_ <;> intro h
          ·refine zS (zPR (.take 0 (.take 1 (.take 2 (.take 3 (.take 4 (.take 5 (.take 6 (.last 7 .done)))))))) [1]) (ab ?_)
           refine r_cR hk107 (r_bR hk103 ?_)
           refine r_cR hk102 ?_
           replace h := zX h hEq99 hKq99
           simp only [Sum.elim_inl, Sum.elim_inr] at h
           refine r_kR hkq99 (r_bR hk76 ?_)
           refine r_jR hk74 ?_
           cases h
           refine zVRw [2000002] hQ
          ·refine ae (r_cN hk107 ?_)
           obtain ⟨g110, h⟩ := gAp h
           refine zU (zRF g110) (r_bN hk103 ?_)
           refine r_cN hk102 (zU z0 ?_)
           refine zB hkq99 h hIq99 () trivial
         ·refine aK (r_cE hk101 ?_)
          replace h := zX h hEq99 hKq99
          simp only [Sum.elim_inl, Sum.elim_inr] at h
          refine r_kE hkq99 (r_bE hk76 ?_)
          refine zJ J73 [3, 5, 6, 7] () _ h
 ·replace h := av h g6
  refine zU (zC1F (lF [] (bl _ _ _ _ c5H)) g6) (r_cN hk4 ?_)
  refine bM rfl ?_
  try replace h := ak h rfl
  refine zS z0 (ab ?_)
  refine r_cR hk3 ?_
  cases h
  refine zVRw [2000002] hQ
def m_DevSize (v1 : Int) : Option Int :=
 ((m_in v1 1 10).bind fun v2 => (cond (!v2) (some 0) ((idx pt_devSizes (v1)).bind fun v3 => (some v3))))
theorem con_m_DevSize (v1 : Int) (rz : Int) (h : m_DevSize v1 = some rz) : Con Tryz.prog C0 230 [.sc (.int .i64 (v1))] []
  (fun x σ' => x = .sc (.int .i64 (rz)) ∧ σ' = []) := by
 refine zCon hP 0 [0, 2, 5] [.tmp 2] Tryz.func230 (by unfold Tryz.f230; rfl) fun Q hQ => ?_
 unfold m_DevSize at h
 refine zS z0 (sC fun k2 hk2 => ?_)
 obtain ⟨v2, c4H, h⟩ := bS h
 refine zS (zC1 (lF [] (bl _ _ _ _ c4H))) ?_
 revert h; refine zI rfl ?_ ?_ <;> intro h
 ·refine zS z0 (ab ?_)
  refine r_cR hk2 ?_
  cases h
  refine zAR hQ
 ·refine ae (r_cN hk2 ?_)
  obtain ⟨v3, h, c7⟩ := bI h
  refine zS (zRF c7) (ab ?_)
  cases h
  refine zAR hQ
def m_DevOk (v1 : DevArg) : Option Bool :=
 (cond (v1.Kind == 11) ((m_in v1.N (-32768) 32767).bind fun v2 => (some (v2 && (v1.P == 0)))) (cond (v1.Kind == 12) ((m_in v1.N (-999999999) 999999999).bind fun v3 => (cond v3 ((m_in v1.P 1 6).bind fun v4 => (some (v4 && ((v1.P == 1) || (((v1.N).tmod 10) != 0))))) (some false))) (cond (v1.Kind == 13) ((m_in v1.N 0 (IntKind.i64.wrap (((pt_devWords).length : Int) - 1))).bind fun v5 => (some (v5 && (v1.P == 0)))) (cond (decide (v1.N ≥ 0)) ((m_DevSize v1.Kind).bind fun v6 => (some ((decide (v1.N < v6)) && (v1.P == 0)))) (some false)))))
theorem con_m_DevOk (v1 : DevArg) (rz : Bool) (h : m_DevOk v1 = some rz) : Con Tryz.prog C0 256 [.agg [.sc (.int .i64 (v1.Kind)), .sc (.int .i64 (v1.N)), .sc (.int .i64 (v1.P))]] []
  (fun x σ' => x = .sc (.bool (rz)) ∧ σ' = []) := by
 refine zCon hP 0 [0, 1, 2, 4, 5, 15, 36] [.tmp 2] Tryz.func256 (by unfold Tryz.f256; rfl) fun Q hQ => ?_
 unfold m_DevOk at h
 refine zS z0 (sC fun k2 hk2 => ?_)
 refine zS z0 (sB fun k4 hk4 => ?_)
 refine zS z0 ?_
 revert h; refine zI rfl ?_ ?_ <;> intro h
 ·obtain ⟨v2, c7H, h⟩ := bS h
  refine zS (zC1 (lF [] (bl _ _ _ _ c7H))) (ab ?_)
  refine r_bR hk4 (r_cR hk2 ?_)
  cases h
  refine zAR hQ
 ·refine zS z0 ?_
  revert h; refine zI rfl ?_ ?_ <;> intro h
  ·refine sC fun k9 hk9 => ?_
   obtain ⟨v3, c10H, h⟩ := bS h
   rcases bE v3 with g11 | g11
   ·replace h := ak h g11
    obtain ⟨v4, c12H, h⟩ := bS h
    refine zU (zC2F (lF [] (bl _ _ _ _ c10H)) (lF [] (bl _ _ _ _ c12H)) g11) (r_cN hk9 ?_)
    refine ab (r_bR hk4 ?_)
    refine r_cR hk2 ?_
    cases h
    refine zAR hQ
   ·replace h := av h g11
    refine zU (zC1F (lF [] (bl _ _ _ _ c10H)) g11) (r_cN hk9 ?_)
    refine ab (r_bR hk4 ?_)
    refine r_cR hk2 ?_
    cases h
    refine zAR hQ
  ·refine zS z0 ?_
   revert h; refine zI rfl ?_ ?_ <;> intro h
   ·obtain ⟨v5, c15H, h⟩ := bS h
    refine zS (zC1 (lF [] (bl _ _ _ _ c15H))) (ab ?_)
    refine r_bR hk4 (r_cR hk2 ?_)
    cases h
    refine zAR hQ
   ·refine ae (r_bN hk4 ?_)
    refine r_cN hk2 (sC fun k16 hk16 => ?_)
    rcases bE (decide (v1.N ≥ 0)) with g17 | g17
    ·replace h := ak h g17
     obtain ⟨v6, c18H, h⟩ := bS h
     refine zU (zPC1F (.take 0 (.take 1 (.take 2 (.take 3 (.take 4 (.take 5 (.take 6 (.take 7 (.one 8 (.take 9 (.take 10 (.take 11 (.take 12 (.take 13 (.take 14 (.take 15 (.take 16 .done))))))))))))))))) [0] (lF [] (con_m_DevSize _ _ c18H)) g17) (r_cN hk16 ?_)
     refine ab ?_
     cases h
     refine zAR hQ
    ·replace h := av h g17
     refine zU (zPRF (.take 0 (.take 1 (.take 2 (.take 3 (.take 4 (.take 5 (.take 6 (.take 7 (.one 8 (.take 9 (.take 10 (.take 11 (.take 12 (.take 13 (.take 14 (.take 15 (.take 16 .done))))))))))))))))) [0] g17) (r_cN hk16 ?_)
     refine ab ?_
     cases h
     refine zAR hQ
def fS : Unit → Option Int
 | () => (some (-1))
def ec (v1 : (List Int)) (v2 : Int) : Int → Option (Int ⊕ (Int ⊕ Unit))
 | v10 => (cond (decide (v10 < ((v1).length : Int))) ((idx v1 (v10)).bind fun v14 => (cond (v2 == v14) (some (.inr (.inl v10))) (some (.inl (IntKind.i64.wrap (v10 + 1)))))) (some (.inr (.inr ()))))
def dY (v1 : (List Int)) (v2 : Int) : Option Int :=
 ((loop (ec v1 v2) 0).bind (Sum.elim (fun v12 => (some v12)) (fun v13 => (fS ()))))
theorem con_slices_Index_int_int (v1 : (List Int)) (v2 : Int) (rz : Int) (h : dY v1 v2 = some rz) : Con Tryz.prog C0 276 [.fz 1 (R e_i64 (v1)), .sc (.int .i64 (v2))] []
  (fun x σ' => x = .sc (.int .i64 (rz)) ∧ σ' = []) := by
 refine zCon hP 0 [0, 1, 4, 5, 7, 8, 9, 16] [.tmp 4] Tryz.func276 (by unfold Tryz.f276; rfl) fun Q hQ => ?_
 unfold dY at h
 refine zS z0 (zCut (fun (x : Unit) => ⟨[], []⟩) fS rz ?_ ?_)
 ·rintro _ _ h
  simp only [fS] at h
  refine zS z0 (ab ?_)
  cases h
  refine zAR hQ
 ·intro k31 hk31 J30
  refine zS z0 (sB fun k33 hk33 => ?_)
  obtain ⟨oq50, hLq50, hKq50⟩ := bS h
  clear h
  refine ay [0, 1, 7, 8] (fun (_ : Unit) (x : Int) => (⟨[(0, .fz 1 (R e_i64 (v1))), (1, .sc (.int .i64 (v2))), (7, .sc (.int .i64 (((v1).length : Int)))), (8, .sc (.int .i64 (x)))], []⟩ : St)) (fun (_ : Unit) (x : Int) => True) (ec v1 v2) () 0 hLq50 (by rfl) (by rfl) ⟨?_, trivial⟩ ?_
  ·exact zSa
  ·rintro nq50 _ v10 xq50 kq50 hkq50 - h hIq50 hEq50
   simp only [ec] at h
   refine zS z0 (sC fun k52 hk52 => ?_)
   revert h; refine zI rfl ?_ ?_ <;> intro h
   ·refine ae (r_cN hk52 ?_)
    refine sC fun k53 hk53 => sB fun k54 hk54 => zS z0 ?_
    obtain ⟨v14, h, c57⟩ := bI h
    refine zS (zRF c57) ?_
    revert h; refine zI rfl ?_ ?_ <;> intro h
    ·refine zS z0 (ab ?_)
     refine r_bR hk54 (r_cR hk53 ?_)
     replace h := zX h hEq50 hKq50
     simp only [Sum.elim_inl, Sum.elim_inr] at h
     refine r_kR hkq50 (r_bR hk33 ?_)
     refine r_jR hk31 ?_
     cases h
     refine zAR hQ
    ·refine ae (r_bN hk54 ?_)
     refine r_cN hk53 (zU z0 ?_)
     refine zB hkq50 h hIq50 () trivial
   ·refine aK (r_cE hk52 ?_)
    replace h := zX h hEq50 hKq50
    simp only [Sum.elim_inl, Sum.elim_inr] at h
    refine r_kE hkq50 (r_bE hk33 ?_)
    refine zJ J30 [] () _ h
def cV (v1 : (List Int)) (v2 : Int) : Option Bool :=
 ((dY v1 v2).bind fun v3 => (some (decide (v3 ≥ 0))))
theorem con_slices_Contains_int_int (v1 : (List Int)) (v2 : Int) (rz : Bool) (h : cV v1 v2 = some rz) : Con Tryz.prog C0 257 [.fz 1 (R e_i64 (v1)), .sc (.int .i64 (v2))] []
  (fun x σ' => x = .sc (.bool (rz)) ∧ σ' = []) := by
 refine zCon hP 0 [0, 1, 4] [.tmp 4] Tryz.func257 (by unfold Tryz.f257; rfl) fun Q hQ => ?_
 unfold cV at h
 refine zS z0 ?_
 obtain ⟨v3, c3H, h⟩ := bS h
 refine zS (zC1 (lF [] (con_slices_Index_int_int _ _ _ c3H))) (ab ?_)
 cases h
 refine zAR hQ
def aD (v1 : DevArg) (v2 : (List Int)) : Option Bool :=
 ((m_DevOk v1).bind fun v3 => (cond v3 ((cV v2 v1.Kind).bind fun v4 => (some v4)) (some false)))
theorem aj (v1 : DevArg) (v2 : (List Int)) (rz : Bool) (h : aD v1 v2 = some rz) : Con Tryz.prog C0 218 [.agg [.sc (.int .i64 (v1.Kind)), .sc (.int .i64 (v1.N)), .sc (.int .i64 (v1.P))], .fz 1 (R e_i64 (v2))] []
  (fun x σ' => x = .sc (.bool (rz)) ∧ σ' = []) := by
 refine zCon hP 0 [0, 1, 2, 4] [.tmp 4] Tryz.func218 (by unfold Tryz.f218; rfl) fun Q hQ => ?_
 unfold aD at h
 refine zS z0 (sC fun k2 hk2 => ?_)
 obtain ⟨v3, c3H, h⟩ := bS h
 rcases bE v3 with g4 | g4
 ·replace h := ak h g4
  obtain ⟨v4, c5H, h⟩ := bS h
  refine zU (zC2F (lF [] (con_m_DevOk _ _ c3H)) (lF [] (con_slices_Contains_int_int _ _ _ c5H)) g4) (r_cN hk2 ?_)
  refine ab ?_
  cases h
  refine zAR hQ
 ·replace h := av h g4
  refine zU (zC1F (lF [] (con_m_DevOk _ _ c3H)) g4) (r_cN hk2 ?_)
  refine ab ?_
  cases h
  refine zAR hQ
def m_DevIsBit (v1 : DevArg) : Option Bool :=
 ((aD v1 [1, 2, 3, 4, 6, 7, 8]).bind fun v2 => (some v2))
theorem con_m_DevIsBit (v1 : DevArg) (rz : Bool) (h : m_DevIsBit v1 = some rz) : Con Tryz.prog C0 246 [.agg [.sc (.int .i64 (v1.Kind)), .sc (.int .i64 (v1.N)), .sc (.int .i64 (v1.P))]] []
  (fun x σ' => x = .sc (.bool (rz)) ∧ σ' = []) := by
 refine zCon hP 0 [0, 1, 2] [.tmp 2] Tryz.func246 (by unfold Tryz.f246; rfl) fun Q hQ => ?_
 unfold m_DevIsBit at h
 refine zS z0 ?_
 obtain ⟨v2, c3H, h⟩ := bS h
 refine zS (zC1 (lF [] (aj _ _ _ c3H))) (ab ?_)
 cases h
 refine zAR hQ
def iv (v1 : DevArg) : Option Bool :=
 ((aD v1 [7, 8, 9, 11]).bind fun v2 => (some v2))
theorem con_m_DevIsWhole (v1 : DevArg) (rz : Bool) (h : iv v1 = some rz) : Con Tryz.prog C0 220 [.agg [.sc (.int .i64 (v1.Kind)), .sc (.int .i64 (v1.N)), .sc (.int .i64 (v1.P))]] []
  (fun x σ' => x = .sc (.bool (rz)) ∧ σ' = []) := by
 refine zCon hP 0 [0, 1, 2] [.tmp 2] Tryz.func220 (by unfold Tryz.f220; rfl) fun Q hQ => ?_
 unfold iv at h
 refine zS z0 ?_
 obtain ⟨v2, c3H, h⟩ := bS h
 refine zS (zC1 (lF [] (aj _ _ _ c3H))) (ab ?_)
 cases h
 refine zAR hQ
def dR (v1 : DevArg) : Option Bool :=
 ((iv v1).bind fun v2 => (some (!v2)))
theorem con_m_all_1_fimpl_DevIsWhole (v1 : DevArg) (rz : Bool) (h : dR v1 = some rz) : Con Tryz.prog C0 259 [.agg [.sc (.int .i64 (v1.Kind)), .sc (.int .i64 (v1.N)), .sc (.int .i64 (v1.P))], .pt 0 0] [.rc [.sc (.func (.func 220) #[] #[])]]
  (fun x σ' => x = .sc (.bool (rz)) ∧ σ' = [.rc [.sc (.func (.func 220) #[] #[])]]) := by
 refine zCon hP 1 [0, 1, 2, 3] [.tmp 3] Tryz.func259 (by unfold Tryz.f259; rfl) fun Q hQ => ?_
 unfold dR at h
 refine zS z0 ?_
 obtain ⟨v2, c3H, h⟩ := bS h
 refine zS (zC1 (lF [] (con_m_DevIsWhole _ _ c3H))) (ab ?_)
 cases h
 refine zAR hQ
def aZ : Unit → Option Int
 | () => (some (-1))
def aA (v1 : (List DevArg)) : Int → Option (Int ⊕ (Int ⊕ Unit))
 | v13 => (cond (decide (v13 < ((v1).length : Int))) ((idx v1 (v13)).bind fun v18 => ((dR v18).bind fun v19 => (cond v19 (some (.inr (.inl v13))) (some (.inl (IntKind.i64.wrap (v13 + 1))))))) (some (.inr (.inr ()))))
def aQ (v1 : (List DevArg)) : Option Int :=
 ((loop (aA v1) 0).bind (Sum.elim (fun v16 => (some v16)) (fun v17 => (aZ ()))))
theorem dk (v1 : (List DevArg)) (rz : Int) (h : aQ v1 = some rz) : Con Tryz.prog C0 277 [.fz 3 (R aa (v1)), .clo 259 [(0, 0)]] [.rc [.sc (.func (.func 220) #[] #[])]]
  (fun x σ' => x = .sc (.int .i64 (rz)) ∧ σ' = [.rc [.sc (.func (.func 220) #[] #[])]]) := by
 refine zCon hP 1 [0, 1, 4, 5, 7, 8, 9, 16] [.tmp 4] Tryz.func277 (by unfold Tryz.f277; rfl) fun Q hQ => ?_
 unfold aQ at h
 refine zS z0 (zCut (fun (x : Unit) => ⟨[], [.rc [.sc (.func (.func 220) #[] #[])]]⟩) aZ rz ?_ ?_)
 ·rintro _ _ h
  simp only [aZ] at h
  refine zS z0 (ab ?_)
  cases h
  refine zAR hQ
 ·intro k34 hk34 J33
  refine zS z0 (sB fun k36 hk36 => ?_)
  obtain ⟨oq55, hLq55, hKq55⟩ := bS h
  clear h
  refine ay [0, 1, 7, 8] (fun (_ : Unit) (x : Int) => (⟨[(0, .fz 3 (R aa (v1))), (1, .clo 259 [(0, 0)]), (7, .sc (.int .i64 (((v1).length : Int)))), (8, .sc (.int .i64 (x)))], [.rc [.sc (.func (.func 220) #[] #[])]]⟩ : St)) (fun (_ : Unit) (x : Int) => True) (aA v1) () 0 hLq55 (by rfl) (by rfl) ⟨?_, trivial⟩ ?_
  ·exact zSa
  ·rintro nq55 _ v13 xq55 kq55 hkq55 - h hIq55 hEq55
   simp only [aA] at h
   refine zS z0 (sC fun k57 hk57 => ?_)
   revert h; refine zI rfl ?_ ?_ <;> intro h
   ·refine ae (r_cN hk57 ?_)
    refine sC fun k58 hk58 => sB fun k59 hk59 => zS z0 ?_
    obtain ⟨v18, h, c62⟩ := bI h
    obtain ⟨v19, c63H, h⟩ := bS h
    refine zS (zC1F (lF [[1]] (con_m_all_1_fimpl_DevIsWhole _ _ c63H)) c62) ?_
    revert h; refine zI rfl ?_ ?_ <;> intro h
    ·refine zS z0 (ab ?_)
     refine r_bR hk59 (r_cR hk58 ?_)
     replace h := zX h hEq55 hKq55
     simp only [Sum.elim_inl, Sum.elim_inr] at h
     refine r_kR hkq55 (r_bR hk36 ?_)
     refine r_jR hk34 ?_
     cases h
     refine zAR hQ
    ·refine ae (r_bN hk59 ?_)
     refine r_cN hk58 (zU z0 ?_)
     refine zB hkq55 h hIq55 () trivial
   ·refine aK (r_cE hk57 ?_)
    replace h := zX h hEq55 hKq55
    simp only [Sum.elim_inl, Sum.elim_inr] at h
    refine r_kE hkq55 (r_bE hk36 ?_)
    refine zJ J33 [] () _ h
def aJ (v1 : (List DevArg)) : Option Bool :=
 ((aQ v1).bind fun v2 => (some (decide (v2 ≥ 0))))
theorem cO (v1 : (List DevArg)) (rz : Bool) (h : aJ v1 = some rz) : Con Tryz.prog C0 258 [.fz 3 (R aa (v1)), .clo 259 [(0, 0)]] [.rc [.sc (.func (.func 220) #[] #[])]]
  (fun x σ' => x = .sc (.bool (rz)) ∧ σ' = [.rc [.sc (.func (.func 220) #[] #[])]]) := by
 refine zCon hP 1 [0, 1, 4] [.tmp 4] Tryz.func258 (by unfold Tryz.f258; rfl) fun Q hQ => ?_
 unfold aJ at h
 refine zS z0 ?_
 obtain ⟨v2, c3H, h⟩ := bS h
 refine zS (zC1 (lF [[1]] (dk _ _ c3H))) (ab ?_)
 cases h
 refine zAR hQ
def bR (v1 : (List DevArg)) : Option Bool :=
 ((aJ v1).bind fun v2 => (some (!v2)))
theorem bF (v1 : (List DevArg)) (rz : Bool) (h : bR v1 = some rz) : Con Tryz.prog C0 219 [.fz 3 (R aa (v1)), .sc (.func (.func 220) #[] #[])] []
  (fun x σ' => x = .sc (.bool (rz)) ∧ σ' = []) := by
 refine zCon hP 0 [0, 1, 3, 4] [.tmp 4] Tryz.func219 (by unfold Tryz.f219; rfl) fun Q hQ => ?_
 unfold bR at h
 refine zS z0 ?_
 obtain ⟨v2, c3H, h⟩ := bS h
 refine zS (zC1 (lF [[1]] (cO _ _ c3H))) (ab ?_)
 cases h
 refine zAR hQ
def m_DevIsReal (v1 : DevArg) : Option Bool :=
 ((aD v1 [10, 12, 13]).bind fun v2 => (some v2))
theorem con_m_DevIsReal (v1 : DevArg) (rz : Bool) (h : m_DevIsReal v1 = some rz) : Con Tryz.prog C0 221 [.agg [.sc (.int .i64 (v1.Kind)), .sc (.int .i64 (v1.N)), .sc (.int .i64 (v1.P))]] []
  (fun x σ' => x = .sc (.bool (rz)) ∧ σ' = []) := by
 refine zCon hP 0 [0, 1, 2] [.tmp 2] Tryz.func221 (by unfold Tryz.f221; rfl) fun Q hQ => ?_
 unfold m_DevIsReal at h
 refine zS z0 ?_
 obtain ⟨v2, c3H, h⟩ := bS h
 refine zS (zC1 (lF [] (aj _ _ _ c3H))) (ab ?_)
 cases h
 refine zAR hQ
def ef (v1 : DevArg) : Option Bool :=
 ((m_DevIsReal v1).bind fun v2 => (some (!v2)))
theorem con_m_all_1_fimpl_DevIsReal (v1 : DevArg) (rz : Bool) (h : ef v1 = some rz) : Con Tryz.prog C0 259 [.agg [.sc (.int .i64 (v1.Kind)), .sc (.int .i64 (v1.N)), .sc (.int .i64 (v1.P))], .pt 0 0] [.rc [.sc (.func (.func 221) #[] #[])]]
  (fun x σ' => x = .sc (.bool (rz)) ∧ σ' = [.rc [.sc (.func (.func 221) #[] #[])]]) := by
 refine zCon hP 1 [0, 1, 2, 3] [.tmp 3] Tryz.func259 (by unfold Tryz.f259; rfl) fun Q hQ => ?_
 unfold ef at h
 refine zS z0 ?_
 obtain ⟨v2, c3H, h⟩ := bS h
 refine zS (zC1 (lF [] (con_m_DevIsReal _ _ c3H))) (ab ?_)
 cases h
 refine zAR hQ
def a9 : Unit → Option Int
 | () => (some (-1))
def aC (v1 : (List DevArg)) : Int → Option (Int ⊕ (Int ⊕ Unit))
 | v13 => (cond (decide (v13 < ((v1).length : Int))) ((idx v1 (v13)).bind fun v18 => ((ef v18).bind fun v19 => (cond v19 (some (.inr (.inl v13))) (some (.inl (IntKind.i64.wrap (v13 + 1))))))) (some (.inr (.inr ()))))
def aR (v1 : (List DevArg)) : Option Int :=
 ((loop (aC v1) 0).bind (Sum.elim (fun v16 => (some v16)) (fun v17 => (a9 ()))))
theorem dy (v1 : (List DevArg)) (rz : Int) (h : aR v1 = some rz) : Con Tryz.prog C0 277 [.fz 3 (R aa (v1)), .clo 259 [(0, 0)]] [.rc [.sc (.func (.func 221) #[] #[])]]
  (fun x σ' => x = .sc (.int .i64 (rz)) ∧ σ' = [.rc [.sc (.func (.func 221) #[] #[])]]) := by
 refine zCon hP 1 [0, 1, 4, 5, 7, 8, 9, 16] [.tmp 4] Tryz.func277 (by unfold Tryz.f277; rfl) fun Q hQ => ?_
 unfold aR at h
 refine zS z0 (zCut (fun (x : Unit) => ⟨[], [.rc [.sc (.func (.func 221) #[] #[])]]⟩) a9 rz ?_ ?_)
 ·rintro _ _ h
  simp only [a9] at h
  refine zS z0 (ab ?_)
  cases h
  refine zAR hQ
 ·intro k34 hk34 J33
  refine zS z0 (sB fun k36 hk36 => ?_)
  obtain ⟨oq55, hLq55, hKq55⟩ := bS h
  clear h
  refine ay [0, 1, 7, 8] (fun (_ : Unit) (x : Int) => (⟨[(0, .fz 3 (R aa (v1))), (1, .clo 259 [(0, 0)]), (7, .sc (.int .i64 (((v1).length : Int)))), (8, .sc (.int .i64 (x)))], [.rc [.sc (.func (.func 221) #[] #[])]]⟩ : St)) (fun (_ : Unit) (x : Int) => True) (aC v1) () 0 hLq55 (by rfl) (by rfl) ⟨?_, trivial⟩ ?_
  ·exact zSa
  ·rintro nq55 _ v13 xq55 kq55 hkq55 - h hIq55 hEq55
   simp only [aC] at h
   refine zS z0 (sC fun k57 hk57 => ?_)
   revert h; refine zI rfl ?_ ?_ <;> intro h
   ·refine ae (r_cN hk57 ?_)
    refine sC fun k58 hk58 => sB fun k59 hk59 => zS z0 ?_
    obtain ⟨v18, h, c62⟩ := bI h
    obtain ⟨v19, c63H, h⟩ := bS h
    refine zS (zC1F (lF [[1]] (con_m_all_1_fimpl_DevIsReal _ _ c63H)) c62) ?_
    revert h; refine zI rfl ?_ ?_ <;> intro h
    ·refine zS z0 (ab ?_)
     refine r_bR hk59 (r_cR hk58 ?_)
     replace h := zX h hEq55 hKq55
     simp only [Sum.elim_inl, Sum.elim_inr] at h
     refine r_kR hkq55 (r_bR hk36 ?_)
     refine r_jR hk34 ?_
     cases h
     refine zAR hQ
    ·refine ae (r_bN hk59 ?_)
     refine r_cN hk58 (zU z0 ?_)
     refine zB hkq55 h hIq55 () trivial
   ·refine aK (r_cE hk57 ?_)
    replace h := zX h hEq55 hKq55
    simp only [Sum.elim_inl, Sum.elim_inr] at h
    refine r_kE hkq55 (r_bE hk36 ?_)
    refine zJ J33 [] () _ h
def aL (v1 : (List DevArg)) : Option Bool :=
 ((aR v1).bind fun v2 => (some (decide (v2 ≥ 0))))
theorem cT (v1 : (List DevArg)) (rz : Bool) (h : aL v1 = some rz) : Con Tryz.prog C0 258 [.fz 3 (R aa (v1)), .clo 259 [(0, 0)]] [.rc [.sc (.func (.func 221) #[] #[])]]
  (fun x σ' => x = .sc (.bool (rz)) ∧ σ' = [.rc [.sc (.func (.func 221) #[] #[])]]) := by
 refine zCon hP 1 [0, 1, 4] [.tmp 4] Tryz.func258 (by unfold Tryz.f258; rfl) fun Q hQ => ?_
 unfold aL at h
 refine zS z0 ?_
 obtain ⟨v2, c3H, h⟩ := bS h
 refine zS (zC1 (lF [[1]] (dy _ _ c3H))) (ab ?_)
 cases h
 refine zAR hQ
def b6 (v1 : (List DevArg)) : Option Bool :=
 ((aL v1).bind fun v2 => (some (!v2)))
theorem e7 (v1 : (List DevArg)) (rz : Bool) (h : b6 v1 = some rz) : Con Tryz.prog C0 219 [.fz 3 (R aa (v1)), .sc (.func (.func 221) #[] #[])] []
  (fun x σ' => x = .sc (.bool (rz)) ∧ σ' = []) := by
 refine zCon hP 0 [0, 1, 3, 4] [.tmp 4] Tryz.func219 (by unfold Tryz.f219; rfl) fun Q hQ => ?_
 unfold b6 at h
 refine zS z0 ?_
 obtain ⟨v2, c3H, h⟩ := bS h
 refine zS (zC1 (lF [[1]] (cT _ _ c3H))) (ab ?_)
 cases h
 refine zAR hQ
def m_numbers (v1 : (List DevArg)) : Option Bool :=
 ((bR v1).bind fun v2 => (cond v2 (some true) ((b6 v1).bind fun v3 => (some v3))))
theorem con_m_numbers (v1 : (List DevArg)) (rz : Bool) (h : m_numbers v1 = some rz) : Con Tryz.prog C0 247 [.fz 3 (R aa (v1))] []
  (fun x σ' => x = .sc (.bool (rz)) ∧ σ' = []) := by
 refine zCon hP 0 [0, 2] [.tmp 2] Tryz.func247 (by unfold Tryz.f247; rfl) fun Q hQ => ?_
 unfold m_numbers at h
 refine zS z0 (sC fun k2 hk2 => ?_)
 obtain ⟨v2, c3H, h⟩ := bS h
 rcases bE v2 with g4 | g4
 ·replace h := ak h g4
  refine zU (zC1F (lF [] (bF _ _ c3H)) g4) (r_cN hk2 ?_)
  refine ab ?_
  cases h
  refine zAR hQ
 ·replace h := av h g4
  obtain ⟨v3, c5H, h⟩ := bS h
  refine zU (zC2F (lF [] (bF _ _ c3H)) (lF [] (e7 _ _ c5H)) g4) (r_cN hk2 ?_)
  refine ab ?_
  cases h
  refine zAR hQ
def cy (v1 : Elem) : Bool → Option Bool
 | v7 => (cond v7 ((idx v1.Args (0)).bind fun v8 => ((m_DevIsBit v8).bind fun v9 => (cond v9 ((idx v1.Args (1)).bind fun v10 => ((aD v10 [5]).bind fun v11 => (some v11))) (some false)))) ((m_numbers v1.Args).bind fun v12 => (some v12)))
def bD (v1 : Elem) : Bool → Option Bool
 | v4 => (cond v4 ((idx v1.Args (0)).bind fun v5 => ((m_DevIsBit v5).bind fun v6 => (some v6))) (cond (v1.Op == 3) (cy v1 (v1.Op == 3)) (cy v1 (v1.Op == 4))))
def gH (v1 : Elem) : Option Bool :=
 ((m_in v1.Op 1 10).bind fun v2 => (cond v2 ((eF v1.Op).bind fun v3 => (cond (((v1.Args).length : Int) != v3) (some false) (cond (v1.Op == 1) (bD v1 (v1.Op == 1)) (bD v1 (v1.Op == 2))))) (some false)))
theorem con_m_ElemIsContact (v1 : Elem) (rz : Bool) (h : gH v1 = some rz) : Con Tryz.prog C0 193 [.agg [.sc (.int .i64 (v1.Op)), .fz 3 (R aa (v1.Args))]] []
  (fun x σ' => x = .sc (.bool (rz)) ∧ σ' = []) := by
 refine zCon hP 0 [0, 1, 2, 15, 17, 18, 26] [.tmp 2] Tryz.func193 (by unfold Tryz.f193; rfl) fun Q hQ => ?_
 unfold gH at h
 refine zS z0 (sC fun k2 hk2 => ?_)
 refine sC fun k3 hk3 => ?_
 obtain ⟨v2, c4H, h⟩ := bS h
 rcases bE v2 with g5 | g5
 ·replace h := ak h g5
  obtain ⟨v3, c6H, h⟩ := bS h
  refine zU (zPC2F (.take 0 (.take 1 (.one 2 (.take 3 (.take 4 (.take 5 (.take 6 (.take 7 (.take 8 (.take 9 (.one 10 (.take 11 (.take 12 .done))))))))))))) [0] (lF [] (bl _ _ _ _ c4H)) (lF [] (iV _ _ c6H)) g5) (r_cN hk3 ?_)
  revert h; refine zI rfl ?_ ?_ <;> intro h
  ·refine zS z0 (ab ?_)
   refine r_cR hk2 ?_
   cases h
   refine zAR hQ
  ·refine ae (r_cN hk2 ?_)
   refine sC fun k8 hk8 => zS z0 (sB fun k10 hk10 => ?_)
   refine zCut (fun (x : Bool) => ⟨[(1, .pt 0 0), (17, .sc (.int .i64 (v1.Op))), (18, .sc (.bool (x)))], [.rc [.sc (.int .i64 (v1.Op)), .fz 3 (R aa (v1.Args))]]⟩) (bD v1) rz ?_ ?_
   ·rintro _ v4 h
    simp only [bD] at h
    revert h; refine zI rfl ?_ ?_ <;> intro h
    ·obtain ⟨v5, h, c13⟩ := bN 0 h
     obtain ⟨v6, c14H, h⟩ := bS h
     refine zS (zC1F (lF [] (con_m_DevIsBit _ _ c14H)) c13) (ab ?_)
     refine r_bR hk10 (r_cR hk8 ?_)
     cases h
     refine zAR hQ
    ·refine zCut (fun (x : Bool) => ⟨[(1, .pt 0 0), (26, .sc (.bool (x)))], [.rc [.sc (.int .i64 (v1.Op)), .fz 3 (R aa (v1.Args))]]⟩) (cy v1) rz ?_ ?_
     ·rintro _ v7 h
      simp only [cy] at h
      revert h; refine zI rfl ?_ ?_ <;> intro h
      ·refine sC fun k16 hk16 => ?_
       obtain ⟨v8, h, c17⟩ := bN 0 h
       obtain ⟨v9, c18H, h⟩ := bS h
       rcases bE v9 with g19 | g19
       ·replace h := ak h g19
        obtain ⟨v10, h, c20⟩ := bN 1 h
        obtain ⟨v11, c21H, h⟩ := bS h
        refine zU (zC2F (lF [] (con_m_DevIsBit _ _ c18H)) (lF [] (aj _ _ _ c21H)) (a3 c17 g19 c20)) (r_cN hk16 ?_)
        refine ab (r_bR hk10 ?_)
        refine r_cR hk8 ?_
        cases h
        refine zAR hQ
       ·replace h := av h g19
        refine zU (zC1F (lF [] (con_m_DevIsBit _ _ c18H)) (a2 c17 g19)) (r_cN hk16 ?_)
        refine ab (r_bR hk10 ?_)
        refine r_cR hk8 ?_
        cases h
        refine zAR hQ
      ·refine ae (r_bN hk10 ?_)
       refine r_cN hk8 ?_
       obtain ⟨v12, c23H, h⟩ := bS h
       refine zS (zC1 (lF [] (con_m_numbers _ _ c23H))) (ab ?_)
       cases h
       refine zAR hQ
     ·intro k25 hk25 J24
      refine zS z0 ?_
      revert h; refine zI rfl ?_ ?_ <;> intro h
      ·refine ae (zJ J24 [1, 26] () _ h)
      ·refine zU z0 (zJ J24 [1, 26] () _ h)
   ·intro k28 hk28 J27
    refine zS z0 ?_
    revert h; refine zI rfl ?_ ?_ <;> intro h
    ·refine ae (zJ J27 [1, 17, 18] () _ h)
    ·refine zU z0 (zJ J27 [1, 17, 18] () _ h)
 ·replace h := av h g5
  refine zU (zPC1F (.take 0 (.take 1 (.one 2 (.take 3 (.take 4 (.take 5 (.take 6 (.take 7 (.take 8 (.take 9 (.one 10 (.take 11 (.take 12 .done))))))))))))) [0] (lF [] (bl _ _ _ _ c4H)) g5) (r_cN hk3 ?_)
  refine bM rfl ?_
  try replace h := ak h rfl
  refine zS z0 (ab ?_)
  refine r_cR hk2 ?_
  cases h
  refine zAR hQ
def eZ (v1 : (List DevArg)) : Option (Bool × (List DevArg)) :=
 ((idx v1 (0)).bind fun v2 => ((aD v2 [11]).bind fun v3 => (cond v3 (some ((decide (v2.N ≥ 0)), v1)) (some (false, v1)))))
theorem con_m_ElemIsCoil_1 (v1 : (List DevArg)) (rz : (Bool × (List DevArg))) (h : eZ v1 = some rz) : Con Tryz.prog C0 217 [.pt 0 0] [.rc [.fz 3 (R aa (v1))]]
  (fun x σ' => x = .sc (.bool (rz.1)) ∧ σ' = [.rc [.fz 3 (R aa (rz.2))]]) := by
 refine zCon hP 1 [0, 1] [.tmp 1] Tryz.func217 (by unfold Tryz.f217; rfl) fun Q hQ => ?_
 unfold eZ at h
 refine zS z0 (sC fun k2 hk2 => ?_)
 obtain ⟨v2, h, c3⟩ := bN 0 h
 obtain ⟨v3, c4H, h⟩ := bS h
 rcases bE v3 with g5 | g5
 ·replace h := ak h g5
  refine zU (zC1F (lF [] (aj _ _ _ c4H)) (a2 c3 g5)) (r_cN hk2 ?_)
  refine ab ?_
  cases h
  refine zAR hQ
 ·replace h := av h g5
  refine zU (zC1F (lF [] (aj _ _ _ c4H)) (a2 c3 g5)) (r_cN hk2 ?_)
  refine ab ?_
  cases h
  refine zAR hQ
def bp (v1 : Elem) (v4 : DevArg) (v5 : (List DevArg)) : Bool → Option Bool
 | v13 => (cond v13 ((aD v4 [7]).bind fun v14 => (cond v14 ((eZ v5).bind fun v15 => (some v15.1)) (some false))) (cond (v1.Op == 29) ((aD v4 [8]).bind fun v16 => (cond v16 ((eZ v5).bind fun v17 => (some v17.1)) (some false))) (cond (v1.Op == 35) ((aD v4 [9]).bind fun v18 => (cond v18 ((bR v5).bind fun v19 => (some v19)) (some false))) (cond (v1.Op == 36) ((aD v4 [10]).bind fun v20 => (cond v20 ((idx v5 (0)).bind fun v21 => ((iv v21).bind fun v22 => (some v22))) (some false))) (cond (v1.Op == 37) ((aD v4 [9]).bind fun v23 => (cond v23 ((idx v5 (0)).bind fun v24 => ((m_DevIsReal v24).bind fun v25 => (some v25))) (some false))) ((aD v4 [9]).bind fun v26 => (cond v26 ((bR v5).bind fun v27 => (cond v27 (some true) ((aD v4 [10]).bind fun v28 => (cond v28 ((b6 v5).bind fun v29 => (some v29)) (some false))))) ((aD v4 [10]).bind fun v30 => (cond v30 ((b6 v5).bind fun v31 => (some v31)) (some false))))))))))
def m_ElemIsCoil (v1 : Elem) : Option Bool :=
 ((m_in v1.Op 21 37).bind fun v2 => (cond v2 ((eF v1.Op).bind fun v3 => (cond (((v1.Args).length : Int) != v3) (some false) ((idx v1.Args (0)).bind fun v4 => ((prtL v1.Args (1)).bind fun v5 => (cond (v1.Op == 21) ((aD v4 [2, 3]).bind fun v6 => (some v6)) (cond (v1.Op == 22) ((aD v4 [2, 3, 4]).bind fun v7 => (some v7)) (cond (v1.Op == 23) ((aD v4 [2, 3, 4, 7, 8]).bind fun v8 => (some v8)) (cond (v1.Op == 24) ((aD v4 [2, 3]).bind fun v9 => (cond v9 ((idx v5 (0)).bind fun v10 => ((aD v10 [5]).bind fun v11 => (some v11))) (some false))) (cond (v1.Op == 25) ((aD v4 [4]).bind fun v12 => (some v12)) (cond (v1.Op == 26) (bp v1 v4 v5 (v1.Op == 26)) (cond (v1.Op == 27) (bp v1 v4 v5 (v1.Op == 27)) (bp v1 v4 v5 (v1.Op == 28))))))))))))) (some false)))
theorem con_m_ElemIsCoil (v1 : Elem) (rz : Bool) (h : m_ElemIsCoil v1 = some rz) : Con Tryz.prog C0 161 [.agg [.sc (.int .i64 (v1.Op)), .fz 3 (R aa (v1.Args))]] []
  (fun x σ' => x = .sc (.bool (rz)) ∧ σ' = []) := by
 refine zCon hP 0 [0, 1, 2, 3, 4, 5, 18, 28, 29, 34, 39, 44, 56, 61, 72, 81, 90, 101] [.tmp 2] Tryz.func161 (by unfold Tryz.f161; rfl) fun Q hQ => ?_
 unfold m_ElemIsCoil at h
 refine zS z0 (sC fun k2 hk2 => ?_)
 refine sC fun k3 hk3 => ?_
 obtain ⟨v2, c4H, h⟩ := bS h
 rcases bE v2 with g5 | g5
 ·replace h := ak h g5
  obtain ⟨v3, c6H, h⟩ := bS h
  refine zU (zPC2F (.take 0 (.take 1 (.one 2 (.take 3 (.take 4 (.take 5 (.take 6 (.take 7 (.take 8 (.take 9 (.one 10 (.take 11 (.take 12 .done))))))))))))) [0] (lF [] (bl _ _ _ _ c4H)) (lF [] (iV _ _ c6H)) g5) (r_cN hk3 ?_)
  revert h; refine zI rfl ?_ ?_ <;> intro h
  ·refine zS z0 (ab ?_)
   refine r_cR hk2 ?_
   cases h
   refine zAR hQ
  ·refine ae (r_cN hk2 ?_)
   refine sC fun k8 hk8 => ?_
   obtain ⟨v4, h, c9⟩ := bN 0 h
   obtain ⟨v5, c10H, h⟩ := bS h
   obtain ⟨c10A, c10B, c10C⟩ := prtL_some c10H
   try simp only [Int.reduceToNat, Int.toNat_zero, Int.toNat_one, Int.toNat_natCast, List.take_length] at c10C
   with_reducible refine sem_plan (id := 3) (.take 0 (.take 1 (.take 2 (.take 3 (.take 4 (.take 5 (.take 6 (.two 7 8 (.one 8 (.one 9 (.last 10 .done))) (.one 7 (.one 9 (.last 10 .done))))))))))) [0] ?_ ?_
   focus kernel_rfl
   repeat' (first | with_reducible refine And.intro ?_ ?_ | exact True.intro | with_reducible assumption | exact fun hf => False.elim hf | (intro hg; first | (simp +contextual [hg]; done) | grind) | omega | simp (decide := true) only [go_sem, reduceIte, Nat.reduceAdd, Int.reduceToNat, Nat.reduceSub, Nat.reduceMul, Nat.reduceMod, c9, c10A, c10B, c10C])
   all_goals
    refine r_cN hk8 (zS z0 ?_)
    refine sC fun k12 hk12 => zS z0 (sB fun k14 hk14 => ?_)
    refine zS z0 ?_
    revert h; refine zI rfl ?_ ?_ <;> intro h
    ·obtain ⟨v6, c17H, h⟩ := bS h
     refine zS (zC1 (lF [] (aj _ _ _ c17H))) (ab ?_)
     refine r_bR hk14 (r_cR hk12 ?_)
     cases h
     refine zAR hQ
    ·refine zS z0 ?_
     revert h; refine zI rfl ?_ ?_ <;> intro h
     ·obtain ⟨v7, c20H, h⟩ := bS h
      refine zS (zC1 (lF [] (aj _ _ _ c20H))) (ab ?_)
      refine r_bR hk14 (r_cR hk12 ?_)
      cases h
      refine zAR hQ
     ·refine zS z0 ?_
      revert h; refine zI rfl ?_ ?_ <;> intro h
      ·obtain ⟨v8, c23H, h⟩ := bS h
       refine zS (zC1 (lF [] (aj _ _ _ c23H))) (ab ?_)
       refine r_bR hk14 (r_cR hk12 ?_)
       cases h
       refine zAR hQ
      ·refine zS z0 ?_
       revert h; refine zI rfl ?_ ?_ <;> intro h
       ·refine sC fun k25 hk25 => ?_
        obtain ⟨v9, c26H, h⟩ := bS h
        rcases bE v9 with g27 | g27
        ·replace h := ak h g27
         obtain ⟨v10, h, c28⟩ := bN 0 h
         obtain ⟨v11, c29H, h⟩ := bS h
         refine zU (zC2F (lF [] (aj _ _ _ c26H)) (lF [] (aj _ _ _ c29H)) (a2 g27 c28)) (r_cN hk25 ?_)
         refine ab (r_bR hk14 ?_)
         refine r_cR hk12 ?_
         cases h
         refine zAR hQ
        ·replace h := av h g27
         refine zU (zC1F (lF [] (aj _ _ _ c26H)) g27) (r_cN hk25 ?_)
         refine ab (r_bR hk14 ?_)
         refine r_cR hk12 ?_
         cases h
         refine zAR hQ
       ·refine zS z0 ?_
        revert h; refine zI rfl ?_ ?_ <;> intro h
        ·obtain ⟨v12, c32H, h⟩ := bS h
         refine zS (zC1 (lF [] (aj _ _ _ c32H))) (ab ?_)
         refine r_bR hk14 (r_cR hk12 ?_)
         cases h
         refine zAR hQ
        ·refine zCut (fun (x : Bool) => ⟨[(3, .pt 0 0), (4, .pt 1 0), (5, .clo 217 [(1, 0)]), (28, .sc (.int .i64 (v1.Op))), (61, .sc (.bool (x)))], [.rc [.sc (.int .i64 (v4.Kind)), .sc (.int .i64 (v4.N)), .sc (.int .i64 (v4.P))], .rc [.fz 3 (R aa (v5))]]⟩) (bp v1 v4 v5) rz ?_ ?_
         ·rintro _ v13 h
          simp only [bp] at h
          revert h; refine zI rfl ?_ ?_ <;> intro h
          ·refine sC fun k35 hk35 => ?_
           obtain ⟨v14, c36H, h⟩ := bS h
           rcases bE v14 with g37 | g37
           ·replace h := ak h g37
            obtain ⟨v15, c38H, h⟩ := bS h
            refine zU (zC2F (lF [] (aj _ _ _ c36H)) (lC [[0]] (con_m_ElemIsCoil_1 _ _ c38H)) g37) (r_cN hk35 ?_)
            refine ab (r_bR hk14 ?_)
            refine r_cR hk12 ?_
            cases h
            refine zAR hQ
           ·replace h := av h g37
            refine zU (zC1F (lF [] (aj _ _ _ c36H)) g37) (r_cN hk35 ?_)
            refine ab (r_bR hk14 ?_)
            refine r_cR hk12 ?_
            cases h
            refine zAR hQ
          ·refine zS z0 ?_
           revert h; refine zI rfl ?_ ?_ <;> intro h
           ·refine sC fun k40 hk40 => ?_
            obtain ⟨v16, c41H, h⟩ := bS h
            rcases bE v16 with g42 | g42
            ·replace h := ak h g42
             obtain ⟨v17, c43H, h⟩ := bS h
             refine zU (zC2F (lF [] (aj _ _ _ c41H)) (lC [[0]] (con_m_ElemIsCoil_1 _ _ c43H)) g42) (r_cN hk40 ?_)
             refine ab (r_bR hk14 ?_)
             refine r_cR hk12 ?_
             cases h
             refine zAR hQ
            ·replace h := av h g42
             refine zU (zC1F (lF [] (aj _ _ _ c41H)) g42) (r_cN hk40 ?_)
             refine ab (r_bR hk14 ?_)
             refine r_cR hk12 ?_
             cases h
             refine zAR hQ
           ·refine zS z0 ?_
            revert h; refine zI rfl ?_ ?_ <;> intro h
            ·refine sC fun k45 hk45 => ?_
             obtain ⟨v18, c46H, h⟩ := bS h
             rcases bE v18 with g47 | g47
             ·replace h := ak h g47
              obtain ⟨v19, c48H, h⟩ := bS h
              refine zU (zC2F (lF [] (aj _ _ _ c46H)) (lF [] (bF _ _ c48H)) g47) (r_cN hk45 ?_)
              refine ab (r_bR hk14 ?_)
              refine r_cR hk12 ?_
              cases h
              refine zAR hQ
             ·replace h := av h g47
              refine zU (zC1F (lF [] (aj _ _ _ c46H)) g47) (r_cN hk45 ?_)
              refine ab (r_bR hk14 ?_)
              refine r_cR hk12 ?_
              cases h
              refine zAR hQ
            ·refine zS z0 ?_
             revert h; refine zI rfl ?_ ?_ <;> intro h
             ·refine sC fun k50 hk50 => ?_
              obtain ⟨v20, c51H, h⟩ := bS h
              rcases bE v20 with g52 | g52
              ·replace h := ak h g52
               obtain ⟨v21, h, c53⟩ := bN 0 h
               obtain ⟨v22, c54H, h⟩ := bS h
               refine zU (zC2F (lF [] (aj _ _ _ c51H)) (lF [] (con_m_DevIsWhole _ _ c54H)) (a2 g52 c53)) (r_cN hk50 ?_)
               refine ab (r_bR hk14 ?_)
               refine r_cR hk12 ?_
               cases h
               refine zAR hQ
              ·replace h := av h g52
               refine zU (zC1F (lF [] (aj _ _ _ c51H)) g52) (r_cN hk50 ?_)
               refine ab (r_bR hk14 ?_)
               refine r_cR hk12 ?_
               cases h
               refine zAR hQ
             ·refine zS z0 ?_
              revert h; refine zI rfl ?_ ?_ <;> intro h
              ·refine sC fun k56 hk56 => ?_
               obtain ⟨v23, c57H, h⟩ := bS h
               rcases bE v23 with g58 | g58
               ·replace h := ak h g58
                obtain ⟨v24, h, c59⟩ := bN 0 h
                obtain ⟨v25, c60H, h⟩ := bS h
                refine zU (zC2F (lF [] (aj _ _ _ c57H)) (lF [] (con_m_DevIsReal _ _ c60H)) (a2 g58 c59)) (r_cN hk56 ?_)
                refine ab (r_bR hk14 ?_)
                refine r_cR hk12 ?_
                cases h
                refine zAR hQ
               ·replace h := av h g58
                refine zU (zC1F (lF [] (aj _ _ _ c57H)) g58) (r_cN hk56 ?_)
                refine ab (r_bR hk14 ?_)
                refine r_cR hk12 ?_
                cases h
                refine zAR hQ
              ·refine ae (r_bN hk14 ?_)
               refine r_cN hk12 (sC fun k61 hk61 => ?_)
               obtain ⟨v26, c62H, h⟩ := bS h
               rcases bE v26 with g63 | g63
               ·replace h := ak h g63
                obtain ⟨v27, c64H, h⟩ := bS h
                rcases bE v27 with g65 | g65
                ·replace h := ak h g65
                 refine zU (zC2F (lF [] (aj _ _ _ c62H)) (lF [] (bF _ _ c64H)) (a2 g63 g65)) (r_cN hk61 ?_)
                 refine ab ?_
                 cases h
                 refine zAR hQ
                ·replace h := av h g65
                 obtain ⟨v28, c66H, h⟩ := bS h
                 rcases bE v28 with g67 | g67
                 ·replace h := ak h g67
                  obtain ⟨v29, c68H, h⟩ := bS h
                  refine zU (zC4F (lF [] (aj _ _ _ c62H)) (lF [] (bF _ _ c64H)) (lF [] (aj _ _ _ c66H)) (lF [] (e7 _ _ c68H)) (a3 g63 g65 g67)) (r_cN hk61 ?_)
                  refine ab ?_
                  cases h
                  refine zAR hQ
                 ·replace h := av h g67
                  refine zU (zC3F (lF [] (aj _ _ _ c62H)) (lF [] (bF _ _ c64H)) (lF [] (aj _ _ _ c66H)) (a3 g63 g65 g67)) (r_cN hk61 ?_)
                  refine ab ?_
                  cases h
                  refine zAR hQ
               ·replace h := av h g63
                obtain ⟨v30, c69H, h⟩ := bS h
                rcases bE v30 with g70 | g70
                ·replace h := ak h g70
                 obtain ⟨v31, c71H, h⟩ := bS h
                 refine zU (zC3F (lF [] (aj _ _ _ c62H)) (lF [] (aj _ _ _ c69H)) (lF [] (e7 _ _ c71H)) (a2 g63 g70)) (r_cN hk61 ?_)
                 refine ab ?_
                 cases h
                 refine zAR hQ
                ·replace h := av h g70
                 refine zU (zC2F (lF [] (aj _ _ _ c62H)) (lF [] (aj _ _ _ c69H)) (a2 g63 g70)) (r_cN hk61 ?_)
                 refine ab ?_
                 cases h
                 refine zAR hQ
         ·intro k73 hk73 J72
          refine zS z0 ?_
          revert h; refine zI rfl ?_ ?_ <;> intro h
          ·refine ae (zJ J72 [3, 4, 5, 28, 61] () _ h)
          ·refine zS z0 ?_
           revert h; refine zI rfl ?_ ?_ <;> intro h
           ·refine ae (zJ J72 [3, 4, 5, 28, 61] () _ h)
           ·refine zU z0 (zJ J72 [3, 4, 5, 28, 61] () _ h)
 ·replace h := av h g5
  refine zU (zPC1F (.take 0 (.take 1 (.one 2 (.take 3 (.take 4 (.take 5 (.take 6 (.take 7 (.take 8 (.take 9 (.one 10 (.take 11 (.take 12 .done))))))))))))) [0] (lF [] (bl _ _ _ _ c4H)) g5) (r_cN hk3 ?_)
  refine bM rfl ?_
  try replace h := ak h rfl
  refine zS z0 (ab ?_)
  refine r_cR hk2 ?_
  cases h
  refine zAR hQ
def fZ (v1 : Elem) : Option Bool :=
 (some ((v1.Op == 0) && (((v1.Args).length : Int) == 0)))
theorem con_m_Elem_bare (v1 : Elem) (rz : Bool) (h : fZ v1 = some rz) : Con Tryz.prog C0 117 [.agg [.sc (.int .i64 (v1.Op)), .fz 3 (R aa (v1.Args))]] []
  (fun x σ' => x = .sc (.bool (rz)) ∧ σ' = []) := by
 refine zCon hP 0 [0, 1, 2] [.tmp 2] Tryz.func117 (by unfold Tryz.f117; rfl) fun Q hQ => ?_
 unfold fZ at h
 refine zS z0 (zS zR ?_)
 refine ab ?_
 cases h
 refine zAR hQ
def m_ListOk (v1 : Inst) : Option Bool :=
 ((m_in v1.Code 1 3).bind fun v2 => (cond v2 ((gH (⟨v1.One_Op, v1.One_Args⟩ : Elem)).bind fun v3 => (some v3)) (cond (v1.Code == 10) ((m_ElemIsCoil (⟨v1.One_Op, v1.One_Args⟩ : Elem)).bind fun v4 => (some v4)) ((m_in v1.Code 4 11).bind fun v5 => (cond v5 ((fZ (⟨v1.One_Op, v1.One_Args⟩ : Elem)).bind fun v6 => (some v6)) (some false))))))
theorem con_m_ListOk (v1 : Inst) (rz : Bool) (h : m_ListOk v1 = some rz) : Con Tryz.prog C0 120 [.agg [.sc (.int .i64 (v1.Code)), .sc (.int .i64 (v1.One_Op)), .fz 3 (R aa (v1.One_Args))]] []
  (fun x σ' => x = .sc (.bool (rz)) ∧ σ' = []) := by
 refine zCon hP 0 [0, 1, 2, 3, 10] [.tmp 2] Tryz.func120 (by unfold Tryz.f120; rfl) fun Q hQ => ?_
 unfold m_ListOk at h
 refine zS z0 (sC fun k2 hk2 => ?_)
 refine sB fun k3 hk3 => ?_
 obtain ⟨v2, c5H, h⟩ := bS h
 refine zS (zC1 (lF [] (bl _ _ _ _ c5H))) ?_
 revert h; refine zI rfl ?_ ?_ <;> intro h
 ·obtain ⟨v3, c7H, h⟩ := bS h
  refine zS (zC1 (lF [] (con_m_ElemIsContact _ _ c7H))) (ab ?_)
  refine r_bR hk3 (r_cR hk2 ?_)
  cases h
  refine zAR hQ
 ·refine zS z0 ?_
  revert h; refine zI rfl ?_ ?_ <;> intro h
  ·obtain ⟨v4, c10H, h⟩ := bS h
   refine zS (zC1 (lF [] (con_m_ElemIsCoil _ _ c10H))) (ab ?_)
   refine r_bR hk3 (r_cR hk2 ?_)
   cases h
   refine zAR hQ
  ·refine ae (r_bN hk3 ?_)
   refine r_cN hk2 (sC fun k11 hk11 => ?_)
   obtain ⟨v5, c12H, h⟩ := bS h
   rcases bE v5 with g13 | g13
   ·replace h := ak h g13
    obtain ⟨v6, c14H, h⟩ := bS h
    refine zU (zC2F (lF [] (bl _ _ _ _ c12H)) (lF [] (con_m_Elem_bare _ _ c14H)) g13) (r_cN hk11 ?_)
    refine ab ?_
    cases h
    refine zAR hQ
   ·replace h := av h g13
    refine zU (zC1F (lF [] (bl _ _ _ _ c12H)) g13) (r_cN hk11 ?_)
    refine ab ?_
    cases h
    refine zAR hQ

end
end Go.AM
