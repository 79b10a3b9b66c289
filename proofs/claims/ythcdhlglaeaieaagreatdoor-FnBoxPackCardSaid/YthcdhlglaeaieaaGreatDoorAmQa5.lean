/- Pure functions and their contracts. Conditions: none. -/
import Derived.Test.YthcdhlglaeaieaaGreatDoorAmQa4
set_option linter.unusedSimpArgs false
set_option linter.unusedVariables false
set_option maxRecDepth 10000
set_option maxHeartbeats 4000000
namespace Go.AM
open Go Go.Proofs
noncomputable section
def iK : ((List Int) × Int × (List Inst) × Int × Int × Bool × Bool) → Option ((List Inst) × l26Rd)
 | (v41, v42, v43, v44, v45, v46, v47) => (some (v43, (⟨v41, v42⟩ : l26Rd)))
def s_l11Sure_s33 : ((List Int) × Int × (List Inst) × Int × Int × Bool × Bool) → Option (((List Int) × Int × (List Inst) × Int × Int × Bool × Bool) ⊕ ((List Int) × Int × (List Inst) × Int × Int × Bool × Bool))
 | (v51, v52, v53, v54, v55, v56, v57) => (cond (decide ((((v53).length : Nat) : Int) < 60)) ((ai (⟨v51, v52⟩ : l26Rd) 40).bind fun v61 => ((fU (⟨v61.2, v53, v54, v55, v56, v57⟩ : l11Play) v61.1).bind fun v62 => (some (.inl (v62.r.b, v62.r.p, v62.out, v62.bits, v62.forks, v62.base, v62.fresh))))) (some (.inr (v51, v52, v53, v54, v55, v56, v57))))
def s_l11Sure_j13 : ((List Int) × Int × (List Inst) × Int × Int × Bool × Bool) → Option ((List Inst) × l26Rd)
 | (v19, v20, v21, v22, v23, v24, v25) => ((ai (⟨v19, v20⟩ : l26Rd) 16).bind fun v48 => (cond (v48.1 == 0) ((loop s_l11Sure_s33 (v48.2.b, v48.2.p, v21, v22, v23, v24, v25)).bind (fun v60 => (iK (v60.1, v60.2.1, v60.2.2.1, v60.2.2.2.1, v60.2.2.2.2.1, v60.2.2.2.2.2.1, v60.2.2.2.2.2.2)))) (iK (v48.2.b, v48.2.p, v21, v22, v23, v24, v25))))
def s_l11Sure_s17 : ((List Int) × Int × (List Inst) × Int × Int × Bool × Bool × Int) → Option (((List Int) × Int × (List Inst) × Int × Int × Bool × Bool × Int) ⊕ ((List Int) × Int × (List Inst) × Int × Int × Bool × Bool))
 | (v66, v67, v68, v69, v70, v71, v72, v73) => (cond (decide (v73 > 0)) ((ai (⟨v66, v67⟩ : l26Rd) 14).bind fun v77 => ((fU (⟨v77.2, v68, v69, v70, v71, v72⟩ : l11Play) v77.1).bind fun v78 => (some (.inl (v78.r.b, v78.r.p, v78.out, v78.bits, v78.forks, v78.base, v78.fresh, (IntKind.i64.wrap (v73 - 1))))))) (some (.inr (v66, v67, v68, v69, v70, v71, v72))))
def s_l11Sure (v1 : l26Rd) : Option ((List Inst) × l26Rd) :=
 ((ai v1 30).bind fun v2 => (cond (v2.1 == 0) (some ([], v2.2)) ((ai v2.2 3).bind fun v63 => ((loop s_l11Sure_s17 (v63.2.b, v63.2.p, [], 0, 0, false, false, (IntKind.i64.wrap (1 + v63.1)))).bind (fun v76 => (s_l11Sure_j13 (v76.1, v76.2.1, v76.2.2.1, v76.2.2.2.1, v76.2.2.2.2.1, v76.2.2.2.2.2.1, v76.2.2.2.2.2.2)))))))
theorem con_s_l11Sure (v1 : l26Rd) (rz : ((List Inst) × l26Rd)) (h : s_l11Sure v1 = some rz) : Con Tryz.prog C0 61 [.pt 0 0] [.rc [.fz 1 (R e_u8 (v1.b)), .sc (.int .i64 (v1.p))]]
  (fun x σ' => x = .sl 1 0 ((rz.1).length) ∧ σ' = [.rc [.fz 1 (R e_u8 (rz.2.b)), .sc (.int .i64 (rz.2.p))], .arr true 3 (R ao (rz.1))]) := by
 refine zCon hP 1 [0, 2, 3, 4, 10, 19, 28, 34] [.tmp 2] Tryz.func61 (by unfold Tryz.f61; rfl) fun Q hQ => ?_
 unfold s_l11Sure at h
 refine zS z0 (zS z0 ?_)
 refine sC fun k3 hk3 => ?_
 obtain ⟨v2, c5H, h⟩ := bS h
 refine zS (zC1 (lC [[0]] (ah _ _ _ c5H))) ?_
 revert h; refine zI rfl ?_ ?_ <;> intro h
 ·refine zS z0 (ab ?_)
  refine r_cR hk3 ?_
  cases h
  refine zVRw [0, 2000002] hQ
 ·refine ae (r_cN hk3 ?_)
  refine zCut (fun (x : ((List Int) × Int × (List Inst) × Int × Int × Bool × Bool)) => ⟨[(0, .pt 0 0), (3, .pt 1 0)], [.rc [.fz 1 (R e_u8 (x.1)), .sc (.int .i64 (x.2.1))], .rc [.pt 0 0, .sl 2 0 ((x.2.2.1).length), .sc (.int .i64 (x.2.2.2.1)), .sc (.int .i64 (x.2.2.2.2.1)), .sc (.bool (x.2.2.2.2.2.1)), .sc (.bool (x.2.2.2.2.2.2))], .arr true 3 (R ao (x.2.2.1))]⟩) s_l11Sure_j13 rz ?_ ?_
  ·rintro _ ⟨v19, v20, v21, v22, v23, v24, v25⟩ h
   simp only [s_l11Sure_j13] at h
   refine zCut (fun (x : ((List Int) × Int × (List Inst) × Int × Int × Bool × Bool)) => ⟨[(3, .pt 1 0)], [.rc [.fz 1 (R e_u8 (x.1)), .sc (.int .i64 (x.2.1))], .rc [.pt 0 0, .sl 2 0 ((x.2.2.1).length), .sc (.int .i64 (x.2.2.2.1)), .sc (.int .i64 (x.2.2.2.2.1)), .sc (.bool (x.2.2.2.2.2.1)), .sc (.bool (x.2.2.2.2.2.2))], .arr true 3 (R ao (x.2.2.1))]⟩) iK rz ?_ ?_
   ·rintro _ ⟨v41, v42, v43, v44, v45, v46, v47⟩ h
    simp only [iK] at h
    refine zS z0 (ab ?_)
    cases h
    refine zOR hQ
   ·intro k50 hk50 J49
    obtain ⟨v48, c52H, h⟩ := bS h
    refine zS (zC1 (lC [[0]] (ah _ _ _ c52H))) ?_
    revert h; refine zI rfl ?_ ?_ <;> intro h
    ·refine sB fun k53 hk53 => ?_
     obtain ⟨oq64, hLq64, hKq64⟩ := bS h
     clear h
     refine ay [0, 3] (fun (_ : Unit) (x : ((List Int) × Int × (List Inst) × Int × Int × Bool × Bool)) => (⟨[(0, .pt 0 0), (3, .pt 1 0)], [.rc [.fz 1 (R e_u8 (x.1)), .sc (.int .i64 (x.2.1))], .rc [.pt 0 0, .sl 2 0 ((x.2.2.1).length), .sc (.int .i64 (x.2.2.2.1)), .sc (.int .i64 (x.2.2.2.2.1)), .sc (.bool (x.2.2.2.2.2.1)), .sc (.bool (x.2.2.2.2.2.2))], .arr true 3 (R ao (x.2.2.1))]⟩ : St)) (fun (_ : Unit) (x : ((List Int) × Int × (List Inst) × Int × Int × Bool × Bool)) => True) s_l11Sure_s33 () (v48.2.b, v48.2.p, v21, v22, v23, v24, v25) hLq64 (by rfl) (by rfl) ⟨?_, trivial⟩ ?_
     ·exact zSa
     ·rintro nq64 _ ⟨v51, v52, v53, v54, v55, v56, v57⟩ xq64 kq64 hkq64 - h hIq64 hEq64
      simp only [s_l11Sure_s33] at h
      refine sC fun k65 hk65 => zS z0 ?_
      revert h; refine zI rfl ?_ ?_ <;> intro h
      ·refine ae (r_cN hk65 ?_)
       refine sB fun k67 hk67 => ?_
       obtain ⟨v61, c68H, h⟩ := bS h
       obtain ⟨v62, c69H, h⟩ := bS h
       refine zU (zC2 (lC [[0]] (ah _ _ _ c68H)) (lC [[0], [0, 0], [0, 1]] (con_s_l11Play_rung_1 _ _ _ c69H))) (r_bN hk67 ?_)
       refine zB hkq64 h hIq64 () trivial
      ·refine aK (r_cE hk65 ?_)
       replace h := zX h hEq64 hKq64
       refine r_kE hkq64 (r_bE hk53 ?_)
       refine zJ J49 [3] () _ h
    ·refine ae (zJ J49 [3] () _ h)
  ·intro k71 hk71 J70
   obtain ⟨v63, c73H, h⟩ := bS h
   refine zS (zC1 (lC [[0]] (ah _ _ _ c73H))) (sB fun k74 hk74 => ?_)
   obtain ⟨oq87, hLq87, hKq87⟩ := bS h
   clear h
   refine eg [0, 3, 4] [0, 1, 2000002] (fun (_ : Unit) (x : ((List Int) × Int × (List Inst) × Int × Int × Bool × Bool × Int)) => (⟨[(0, .pt 0 0), (3, .pt 1 0), (4, .sc (.int .i64 (x.2.2.2.2.2.2.2)))], [.rc [.fz 1 (R e_u8 (x.1)), .sc (.int .i64 (x.2.1))], .rc [.pt 0 0, .sl 2 0 ((x.2.2.1).length), .sc (.int .i64 (x.2.2.2.1)), .sc (.int .i64 (x.2.2.2.2.1)), .sc (.bool (x.2.2.2.2.2.1)), .sc (.bool (x.2.2.2.2.2.2.1))], .arr true 3 (R ao (x.2.2.1))]⟩ : St)) (fun (_ : Unit) (x : ((List Int) × Int × (List Inst) × Int × Int × Bool × Bool × Int)) => True) s_l11Sure_s17 () (v63.2.b, v63.2.p, [], 0, 0, false, false, (IntKind.i64.wrap (1 + v63.1))) hLq87 (by rfl) (by rfl) ⟨?_, trivial⟩ ?_
   ·exact zSd
   ·rintro nq87 _ ⟨v66, v67, v68, v69, v70, v71, v72, v73⟩ xq87 kq87 hkq87 - h hIq87 hEq87
    simp only [s_l11Sure_s17] at h
    refine sC fun k88 hk88 => zS z0 ?_
    revert h; refine zI rfl ?_ ?_ <;> intro h
    ·refine ae (r_cN hk88 ?_)
     refine sC fun k90 hk90 => sB fun k91 hk91 => ?_
     obtain ⟨v77, c92H, h⟩ := bS h
     obtain ⟨v78, c93H, h⟩ := bS h
     refine zU (zC2 (lC [[0]] (ah _ _ _ c92H)) (lC [[0], [0, 0], [0, 1]] (con_s_l11Play_rung_1 _ _ _ c93H))) (r_bN hk91 ?_)
     refine r_cN hk90 (zU z0 ?_)
     refine zB hkq87 h hIq87 () trivial
    ·refine aK (r_cE hk88 ?_)
     replace h := zX h hEq87 hKq87
     refine r_kE hkq87 (r_bE hk74 ?_)
     refine zJ J70 [0, 3] () _ h
def gI (v1 : l26Rd) : Option (Inst × l26Rd) :=
 ((bb v1 [1, 1, 1, 2, 2, 2, 3, 3, 4, 5, 6, 7, 8, 9, 10, 10, 10, 11]).bind fun v2 => (cond (decide (v2.1 ≤ 3)) ((cd v2.2).bind fun v3 => (some ((⟨v2.1, v3.1.Op, v3.1.Args⟩ : Inst), v3.2))) (cond (v2.1 == 10) ((gD v2.2).bind fun v4 => (some ((⟨v2.1, v4.1.Op, v4.1.Args⟩ : Inst), v4.2))) (some ((⟨v2.1, 0, []⟩ : Inst), v2.2)))))
theorem con_s_l11Inst (v1 : l26Rd) (rz : (Inst × l26Rd)) (h : gI v1 = some rz) : Con Tryz.prog C0 123 [.pt 0 0] [.rc [.fz 1 (R e_u8 (v1.b)), .sc (.int .i64 (v1.p))]]
  (fun x σ' => x = .agg [.sc (.int .i64 (rz.1.Code)), .sc (.int .i64 (rz.1.One_Op)), .fz 3 (R aa (rz.1.One_Args))] ∧ σ' = [.rc [.fz 1 (R e_u8 (rz.2.b)), .sc (.int .i64 (rz.2.p))]]) := by
 refine zCon hP 1 [0, 2, 3, 7, 14] [.cell 2 89] Tryz.func123 (by unfold Tryz.f123; rfl) fun Q hQ => ?_
 unfold gI at h
 refine zS z0 ?_
 obtain ⟨v2, c3H, h⟩ := bS h
 refine zS (zC1 (lC [[0]] (aN _ _ _ c3H))) (sC fun k4 hk4 => ?_)
 refine sB fun k5 hk5 => zS z0 ?_
 revert h; refine zI rfl ?_ ?_ <;> intro h
 ·obtain ⟨v3, c8H, h⟩ := bS h
  refine zS (zC1 (lC [[0]] (bU _ _ c8H))) (ab ?_)
  refine r_bR hk5 (r_cR hk4 ?_)
  cases h
  refine zVRw [0] hQ
 ·refine zS z0 ?_
  revert h; refine zI rfl ?_ ?_ <;> intro h
  ·obtain ⟨v4, c11H, h⟩ := bS h
   refine zS (zC1 (lC [[0]] (fj _ _ c11H))) (ab ?_)
   refine r_bR hk5 (r_cR hk4 ?_)
   cases h
   refine zOR hQ
  ·refine ae (r_bN hk5 ?_)
   refine r_cN hk4 (zS z0 ?_)
   refine ab ?_
   cases h
   refine zORw hQ
def dS : ((List Int) × Int × Int × Int × Int) → Option (DevArg × l26Rd)
 | (v9, v10, v11, v12, v13) => (some ((⟨v11, v12, v13⟩ : DevArg), (⟨v9, v10⟩ : l26Rd)))
def s_l2Spoilt (v1 : l26Rd) (v2 : DevArg) : Option (DevArg × l26Rd) :=
 ((ai v1 6).bind fun v14 => (cond (v14.1 == 0) ((ai v14.2 16).bind fun v15 => (dS (v15.2.b, v15.2.p, (IntKind.i64.wrap (v15.1 - 1)), v2.N, v2.P))) (cond (v14.1 == 1) ((bb v14.2 [(-1), 4, 5, 15, 16, 31, 32, 63, 64, 255, 32768, (-32769), 1000000000, (-1000000000), 20, 10]).bind fun v16 => (dS (v16.2.b, v16.2.p, v2.Kind, v16.1, v2.P))) (cond (v14.1 == 2) ((bb v14.2 [(-1), 0, 1, 6, 7]).bind fun v17 => (dS (v17.2.b, v17.2.p, v2.Kind, v2.N, v17.1))) (cond (v14.1 == 3) ((fV v2.Kind).bind fun v18 => (dS (v14.2.b, v14.2.p, v2.Kind, v18, v2.P))) (cond (v14.1 == 4) ((fV v2.Kind).bind fun v19 => (dS (v14.2.b, v14.2.p, v2.Kind, (IntKind.i64.wrap (v19 - 1)), v2.P))) (dS (v14.2.b, v14.2.p, v2.Kind, (IntKind.i64.wrap (0 - v2.N)), v2.P))))))))
theorem con_s_l2Spoilt (v1 : l26Rd) (v2 : DevArg) (rz : (DevArg × l26Rd)) (h : s_l2Spoilt v1 v2 = some rz) : Con Tryz.prog C0 195 [.pt 0 0, .agg [.sc (.int .i64 (v2.Kind)), .sc (.int .i64 (v2.N)), .sc (.int .i64 (v2.P))]] [.rc [.fz 1 (R e_u8 (v1.b)), .sc (.int .i64 (v1.p))]]
  (fun x σ' => x = .agg [.sc (.int .i64 (rz.1.Kind)), .sc (.int .i64 (rz.1.N)), .sc (.int .i64 (rz.1.P))] ∧ σ' = [.rc [.fz 1 (R e_u8 (rz.2.b)), .sc (.int .i64 (rz.2.p))]]) := by
 refine zCon hP 1 [0, 1, 3, 4, 6, 11, 17, 23, 29, 35] [.cell 4 171] Tryz.func195 (by unfold Tryz.f195; rfl) fun Q hQ => ?_
 unfold s_l2Spoilt at h
 refine zS z0 (zCut (fun (x : ((List Int) × Int × Int × Int × Int)) => ⟨[(3, .pt 1 0), (4, .pt 2 0)], [.rc [.fz 1 (R e_u8 (x.1)), .sc (.int .i64 (x.2.1))], .rc [.sc (.int .i64 (x.2.2.1)), .sc (.int .i64 (x.2.2.2.1)), .sc (.int .i64 (x.2.2.2.2))], .rc [.sc (.int .i64 (0)), .sc (.int .i64 (0)), .sc (.int .i64 (0))]]⟩) dS rz ?_ ?_)
 ·rintro _ ⟨v9, v10, v11, v12, v13⟩ h
  simp only [dS] at h
  refine zS z0 (ab ?_)
  cases h
  refine zAR hQ
 ·intro k17 hk17 J16
  obtain ⟨v14, c19H, h⟩ := bS h
  refine zS (zC1 (lC [[0]] (ah _ _ _ c19H))) (sB fun k20 hk20 => ?_)
  refine zS z0 ?_
  revert h; refine zI rfl ?_ ?_ <;> intro h
  ·obtain ⟨v15, c22H, h⟩ := bS h
   refine zU (zC1 (lC [[0]] (ah _ _ _ c22H))) (r_bN hk20 ?_)
   refine zJ J16 [3, 4] () _ h
  ·refine zS z0 ?_
   revert h; refine zI rfl ?_ ?_ <;> intro h
   ·obtain ⟨v16, c24H, h⟩ := bS h
    refine zU (zC1 (lC [[0]] (aN _ _ _ c24H))) (r_bN hk20 ?_)
    refine zJ J16 [3, 4] () _ h
   ·refine zS z0 ?_
    revert h; refine zI rfl ?_ ?_ <;> intro h
    ·obtain ⟨v17, c26H, h⟩ := bS h
     refine zU (zC1 (lC [[0]] (aN _ _ _ c26H))) (r_bN hk20 ?_)
     refine zJ J16 [3, 4] () _ h
    ·refine zS z0 ?_
     revert h; refine zI rfl ?_ ?_ <;> intro h
     ·obtain ⟨v18, c28H, h⟩ := bS h
      refine zU (zC1 (lF [] (iM _ _ c28H))) (r_bN hk20 ?_)
      refine zJ J16 [3, 4] () _ h
     ·refine zS z0 ?_
      revert h; refine zI rfl ?_ ?_ <;> intro h
      ·obtain ⟨v19, c30H, h⟩ := bS h
       refine zU (zC1 (lF [] (iM _ _ c30H))) (r_bN hk20 ?_)
       refine zJ J16 [3, 4] () _ h
      ·refine zU z0 (r_bN hk20 ?_)
       refine zJ J16 [3, 4] () _ h
def s_l2Any (v1 : l26Rd) : Option (DevArg × l26Rd) :=
 ((ai v1 13).bind fun v2 => ((dJ v2.2 (IntKind.i64.wrap (1 + v2.1))).bind fun v3 => ((ai v3.2 20).bind fun v4 => (cond (v4.1 == 0) ((s_l2Spoilt v4.2 v3.1).bind fun v5 => (some (v5.1, v5.2))) (some (v3.1, v4.2))))))
theorem con_s_l2Any (v1 : l26Rd) (rz : (DevArg × l26Rd)) (h : s_l2Any v1 = some rz) : Con Tryz.prog C0 194 [.pt 0 0] [.rc [.fz 1 (R e_u8 (v1.b)), .sc (.int .i64 (v1.p))]]
  (fun x σ' => x = .agg [.sc (.int .i64 (rz.1.Kind)), .sc (.int .i64 (rz.1.N)), .sc (.int .i64 (rz.1.P))] ∧ σ' = [.rc [.fz 1 (R e_u8 (rz.2.b)), .sc (.int .i64 (rz.2.p))]]) := by
 refine zCon hP 1 [0, 2, 3, 11] [.cell 2 171] Tryz.func194 (by unfold Tryz.f194; rfl) fun Q hQ => ?_
 unfold s_l2Any at h
 refine zS z0 ?_
 obtain ⟨v2, c3H, h⟩ := bS h
 obtain ⟨v3, c4H, h⟩ := bS h
 refine zS (zC2 (lC [[0]] (ah _ _ _ c3H)) (lC [[0]] (bC _ _ _ c4H))) (sC fun k5 hk5 => ?_)
 obtain ⟨v4, c7H, h⟩ := bS h
 refine zS (zC1 (lC [[0]] (ah _ _ _ c7H))) ?_
 revert h; refine zI rfl ?_ ?_ <;> intro h
 ·obtain ⟨v5, c9H, h⟩ := bS h
  refine zS (zC1 (lC [[0]] (con_s_l2Spoilt _ _ _ c9H))) (ab ?_)
  refine r_cR hk5 ?_
  cases h
  refine zAR hQ
 ·refine ae (r_cN hk5 ?_)
  refine zS z0 (ab ?_)
  cases h
  refine zAR hQ
def gL (v2 : Elem) : ((List Int) × Int × (List DevArg)) → Option (Elem × l26Rd)
 | (v12, v13, v14) => (some ((⟨v2.Op, v14⟩ : Elem), (⟨v12, v13⟩ : l26Rd)))
def s_l4Spoil (v1 : l26Rd) (v2 : Elem) : Option (Elem × l26Rd) :=
 (gd (apOk (v2.Args).length 24) ((ai v1 6).bind fun v3 => (cond (v3.1 == 0) ((bb v3.2 [(-1), 0, 1, 5, 11, 20, 21, 26, 37, 38]).bind fun v4 => (some ((⟨v4.1, v2.Args⟩ : Elem), v4.2))) (cond (v3.1 == 1) ((s_l2Any v3.2).bind fun v5 => (gd (apOk ((v2.Args ++ [v5.1])).length 24) (some ((⟨v2.Op, (v2.Args ++ [v5.1])⟩ : Elem), v5.2)))) (cond (v3.1 == 2) (some ((⟨v2.Op, []⟩ : Elem), v3.2)) (cond (decide ((((v2.Args).length : Nat) : Int) > 0)) ((ai v3.2 (((v2.Args).length : Nat) : Int)).bind fun v15 => ((idx v2.Args (v15.1)).bind fun v16 => ((s_l2Spoilt v15.2 v16).bind fun v17 => ((ai v17.2 2).bind fun v18 => (cond (v18.1 == 0) ((s_l2Any v18.2).bind fun v19 => ((idx ((v2.Args).set (v15.1).toNat v17.1) (v15.1)).bind fun v20 => (gL v2 (v19.2.b, v19.2.p, ((((v2.Args).set (v15.1).toNat v17.1)).set (v15.1).toNat v19.1))))) (gL v2 (v18.2.b, v18.2.p, ((v2.Args).set (v15.1).toNat v17.1)))))))) (gL v2 (v3.2.b, v3.2.p, v2.Args))))))))
theorem con_s_l4Spoil (v1 : l26Rd) (v2 : Elem) (rz : (Elem × l26Rd)) (h : s_l4Spoil v1 v2 = some rz) : Con Tryz.prog C0 124 [.pt 0 0, .agg [.sc (.int .i64 (v2.Op)), .fz 3 (R aa (v2.Args))]] [.rc [.fz 1 (R e_u8 (v1.b)), .sc (.int .i64 (v1.p))]]
  (fun x σ' => x = .agg [.sc (.int .i64 (rz.1.Op)), .sl 1 0 ((rz.1.Args).length)] ∧ σ' = [.rc [.fz 1 (R e_u8 (rz.2.b)), .sc (.int .i64 (rz.2.p))], .arr true 3 (R aa (rz.1.Args))]) := by
 refine zCon hP 1 [0, 1, 3, 4, 5, 6, 12, 13, 20, 30, 37, 53] [.cell 4 87] Tryz.func124 (by unfold Tryz.f124; rfl) fun Q hQ => ?_
 unfold s_l4Spoil at h
 refine zS z0 ?_
 obtain ⟨g3, h⟩ := gAp h
 refine zS (zRF g3) (sC fun k4 hk4 => ?_)
 obtain ⟨v3, c6H, h⟩ := bS h
 refine zS (zC1 (lC [[0]] (ah _ _ _ c6H))) (sB fun k7 hk7 => ?_)
 refine zS z0 ?_
 revert h; refine zI rfl ?_ ?_ <;> intro h
 ·obtain ⟨v4, c10H, h⟩ := bS h
  refine zS (zC1 (lC [[0]] (aN _ _ _ c10H))) (ab ?_)
  refine r_bR hk7 (r_cR hk4 ?_)
  cases h
  refine zOR hQ
 ·refine zS z0 ?_
  revert h; refine zI rfl ?_ ?_ <;> intro h
  ·obtain ⟨v5, c13H, h⟩ := bS h
   obtain ⟨g14, h⟩ := gAp h
   refine zS (zPC1F (.take 0 (.take 1 (.take 2 (.take 3 (.one 4 (.one 5 (.one 6 (.take 7 (.last 8 .done))))))))) [1] (lC [[0]] (con_s_l2Any _ _ c13H)) g14) (ab ?_)
   refine r_bR hk7 (r_cR hk4 ?_)
   cases h
   refine zOR hQ
  ·refine zS z0 ?_
   revert h; refine zI rfl ?_ ?_ <;> intro h
   ·refine zS z0 (ab ?_)
    refine r_bR hk7 (r_cR hk4 ?_)
    cases h
    refine zVRw [0, 2000002] hQ
   ·refine ae (r_bN hk7 ?_)
    refine r_cN hk4 (zCut (fun (x : ((List Int) × Int × (List DevArg))) => ⟨[(3, .pt 1 0), (4, .pt 2 0), (5, .sl 3 0 ((x.2.2).length))], [.rc [.fz 1 (R e_u8 (x.1)), .sc (.int .i64 (x.2.1))], .rc [.sc (.int .i64 (v2.Op)), .fz 3 (R aa (v2.Args))], .rc [.sc (.int .i64 (0)), .sc (.slice none 0 0)], .arr true 3 (R aa (x.2.2))]⟩) (gL v2) rz ?_ ?_)
    ·rintro _ ⟨v12, v13, v14⟩ h
     simp only [gL] at h
     refine zS z0 (ab ?_)
     cases h
     refine zOR hQ
    ·intro k29 hk29 J28
     refine zS z0 ?_
     revert h; refine zI rfl ?_ ?_ <;> intro h
     ·obtain ⟨v15, c32H, h⟩ := bS h
      refine zS (zC1 (lC [[0]] (ah _ _ _ c32H))) ?_
      obtain ⟨v16, h, c34⟩ := bI h
      obtain ⟨v17, c35H, h⟩ := bS h
      refine zS (zC1F (lC [[0]] (con_s_l2Spoilt _ _ _ c35H)) c34) ?_
      obtain ⟨v18, c37H, h⟩ := bS h
      refine zS (zC1 (lC [[0]] (ah _ _ _ c37H))) ?_
      revert h; refine zI rfl ?_ ?_ <;> intro h
      ·obtain ⟨v19, c38H, h⟩ := bS h
       obtain ⟨v20, h, c39⟩ := bI h
       refine zU (zC1F (lC [[0]] (con_s_l2Any _ _ c38H)) c39) (zJ J28 [3, 4, 5] () _ h)
      ·refine ae (zJ J28 [3, 4, 5] () _ h)
     ·refine ae (zJ J28 [3, 4, 5] () _ h)
def s_l4Any_j5 : ((List Int) × Int × Int × (List DevArg)) → Option (Elem × l26Rd)
 | (v5, v6, v7, v8) => ((ai (⟨v5, v6⟩ : l26Rd) 16).bind fun v9 => (cond (v9.1 == 0) ((s_l4Spoil v9.2 (⟨v7, v8⟩ : Elem)).bind fun v10 => (some (v10.1, v10.2))) (some ((⟨v7, v8⟩ : Elem), v9.2))))
def s_l4Any (v1 : l26Rd) : Option (Elem × l26Rd) :=
 ((gD v1).bind fun v2 => ((ai v2.2 2).bind fun v11 => (cond (v11.1 == 0) ((cd v11.2).bind fun v12 => (s_l4Any_j5 (v12.2.b, v12.2.p, v12.1.Op, v12.1.Args))) (s_l4Any_j5 (v11.2.b, v11.2.p, v2.1.Op, v2.1.Args)))))
theorem con_s_l4Any (v1 : l26Rd) (rz : (Elem × l26Rd)) (h : s_l4Any v1 = some rz) : Con Tryz.prog C0 125 [.pt 0 0] [.rc [.fz 1 (R e_u8 (v1.b)), .sc (.int .i64 (v1.p))]]
  (fun x σ' => x = .agg [.sc (.int .i64 (rz.1.Op)), .fz 3 (R aa (rz.1.Args))] ∧ σ' = [.rc [.fz 1 (R e_u8 (rz.2.b)), .sc (.int .i64 (rz.2.p))]]) := by
 refine zCon hP 1 [0, 2, 3, 8, 13] [.cell 2 87] Tryz.func125 (by unfold Tryz.f125; rfl) fun Q hQ => ?_
 unfold s_l4Any at h
 refine zS z0 ?_
 obtain ⟨v2, c3H, h⟩ := bS h
 refine zS (zC1 (lC [[0]] (fj _ _ c3H))) (zCut (fun (x : ((List Int) × Int × Int × (List DevArg))) => ⟨[(0, .pt 0 0), (2, .pt 1 0), (3, .pt 2 0)], [.rc [.fz 1 (R e_u8 (x.1)), .sc (.int .i64 (x.2.1))], .rc [.sc (.int .i64 (0)), .sc (.slice none 0 0)], .rc [.sc (.int .i64 (x.2.2.1)), .fz 3 (R aa (x.2.2.2))]]⟩) s_l4Any_j5 rz ?_ ?_)
 ·rintro _ ⟨v5, v6, v7, v8⟩ h
  simp only [s_l4Any_j5] at h
  refine sC fun k7 hk7 => ?_
  obtain ⟨v9, c9H, h⟩ := bS h
  refine zS (zC1 (lC [[0]] (ah _ _ _ c9H))) ?_
  revert h; refine zI rfl ?_ ?_ <;> intro h
  ·obtain ⟨v10, c11H, h⟩ := bS h
   refine zS (zC1 (lC [[0]] (con_s_l4Spoil _ _ _ c11H))) (ab ?_)
   refine r_cR hk7 ?_
   cases h
   refine zVRw [0] hQ
  ·refine ae (r_cN hk7 ?_)
   refine zS z0 (ab ?_)
   cases h
   refine zOR hQ
 ·intro k14 hk14 J13
  obtain ⟨v11, c16H, h⟩ := bS h
  refine zS (zC1 (lC [[0]] (ah _ _ _ c16H))) ?_
  revert h; refine zI rfl ?_ ?_ <;> intro h
  ·obtain ⟨v12, c17H, h⟩ := bS h
   refine zU (zC1 (lC [[0]] (bU _ _ c17H))) (zJvw J13 [0, 2, 3] [0, 1, 2] () _ h)
  ·refine ae (zJ J13 [0, 2, 3] () _ h)
def dp : ((List Int) × Int × (List Inst)) → Option ((List Inst) × l26Rd)
 | (v28, v29, v30) => (some (v30, (⟨v28, v29⟩ : l26Rd)))
def s_l11Spoil_s55 (v39 : Inst) : ((List Int) × Int × (List Inst)) → Option (((List Int) × Int × (List Inst)) ⊕ ((List Int) × Int × (List Inst)))
 | (v41, v42, v43) => ((ai (⟨v41, v42⟩ : l26Rd) 2).bind fun v46 => (cond (decide ((((v43).length : Nat) : Int) < (IntKind.i64.wrap (1000 + v46.1)))) (gd (apOk ((v43 ++ [v39])).length 40) (some (.inl (v46.2.b, v46.2.p, (v43 ++ [v39]))))) (some (.inr (v46.2.b, v46.2.p, v43)))))
def s_l11Spoil (v1 : l26Rd) (v2 : (List Inst)) : Option ((List Inst) × l26Rd) :=
 (gd (apOk (v2).length 40) (cond ((((v2).length : Nat) : Int) == 0) ((gI v1).bind fun v3 => (gd (apOk ((v2 ++ [v3.1])).length 40) (some ((v2 ++ [v3.1]), v3.2)))) ((ai v1 (((v2).length : Nat) : Int)).bind fun v4 => ((ai v4.2 9).bind fun v31 => (cond (v31.1 == 0) (gd (decide (0 ≤ v4.1) && decide (v4.1 ≤ (((v2).length : Nat) : Int))) (gd (decide (0 ≤ (IntKind.i64.wrap (v4.1 + 1))) && decide ((IntKind.i64.wrap (v4.1 + 1)) ≤ (((v2).length : Nat) : Int)) && decide ((((v2).length : Nat) : Int) ≤ (((v2).length : Nat) : Int))) (gd (apOk (((v2).take ((v4.1).toNat) ++ ((v2).drop (((IntKind.i64.wrap (v4.1 + 1))).toNat)).take ((((v2).length) - ((IntKind.i64.wrap (v4.1 + 1))).toNat)))).length 40) (some (((v2).take ((v4.1).toNat) ++ ((v2).drop (((IntKind.i64.wrap (v4.1 + 1))).toNat)).take ((((v2).length) - ((IntKind.i64.wrap (v4.1 + 1))).toNat))), v31.2))))) (cond (v31.1 == 1) (gd (decide (0 ≤ v4.1) && decide (v4.1 ≤ (((v2).length : Nat) : Int))) (gd (decide (0 ≤ v4.1) && decide (v4.1 ≤ (((v2).length : Nat) : Int)) && decide ((((v2).length : Nat) : Int) ≤ (((v2).length : Nat) : Int))) (gd (apOk ((v2).take ((v4.1).toNat)).length 40) ((gI v31.2).bind fun v32 => (gd (apOk (((v2).take ((v4.1).toNat) ++ [v32.1])).length 40) (gd (apOk ((((v2).take ((v4.1).toNat) ++ [v32.1]) ++ ((v2).drop ((v4.1).toNat)).take ((((v2).length) - (v4.1).toNat)))).length 40) (some ((((v2).take ((v4.1).toNat) ++ [v32.1]) ++ ((v2).drop ((v4.1).toNat)).take ((((v2).length) - (v4.1).toNat))), v32.2)))))))) (cond (v31.1 == 2) ((gI v31.2).bind fun v33 => ((idx v2 (v4.1)).bind fun v34 => (dp (v33.2.b, v33.2.p, ((v2).set (v4.1).toNat v33.1))))) (cond (v31.1 == 3) ((ai v31.2 14).bind fun v35 => ((idx v2 (v4.1)).bind fun v36 => (dp (v35.2.b, v35.2.p, ((v2).set (v4.1).toNat (⟨(IntKind.i64.wrap (v35.1 - 1)), v36.One_Op, v36.One_Args⟩ : Inst)))))) (cond (v31.1 == 4) ((idx v2 (v4.1)).bind fun v37 => ((s_l4Spoil v31.2 (⟨v37.One_Op, v37.One_Args⟩ : Elem)).bind fun v38 => (dp (v38.2.b, v38.2.p, ((v2).set (v4.1).toNat (⟨v37.Code, v38.1.Op, v38.1.Args⟩ : Inst)))))) (cond (v31.1 == 5) (gd (decide (0 ≤ v4.1) && decide (v4.1 ≤ (((v2).length : Nat) : Int))) (some ((v2).take ((v4.1).toNat), v31.2))) (cond (v31.1 == 6) ((idx v2 (v4.1)).bind fun v39 => ((loop (s_l11Spoil_s55 v39) (v31.2.b, v31.2.p, v2)).bind (fun v45 => (dp (v45.1, v45.2.1, v45.2.2))))) (cond (v31.1 == 7) ((ai v31.2 (((v2).length : Nat) : Int)).bind fun v47 => ((idx v2 (v4.1)).bind fun v48 => ((idx v2 (v47.1)).bind fun v49 => ((idx v2 (v4.1)).bind fun v50 => ((idx ((v2).set (v4.1).toNat v49) (v47.1)).bind fun v51 => (dp (v47.2.b, v47.2.p, ((((v2).set (v4.1).toNat v49)).set (v47.1).toNat v48)))))))) ((s_l4Any v31.2).bind fun v52 => ((idx v2 (v4.1)).bind fun v53 => (dp (v52.2.b, v52.2.p, ((v2).set (v4.1).toNat (⟨v53.Code, v52.1.Op, v52.1.Args⟩ : Inst))))))))))))))))))
theorem con_s_l11Spoil (v1 : l26Rd) (v2 : (List Inst)) (rz : ((List Inst) × l26Rd)) (h : s_l11Spoil v1 v2 = some rz) : Con Tryz.prog C0 60 [.pt 0 0, .fz 3 (R ao (v2))] [.rc [.fz 1 (R e_u8 (v1.b)), .sc (.int .i64 (v1.p))]]
  (fun x σ' => x = .fz 3 (R ao (rz.1)) ∧ σ' = [.rc [.fz 1 (R e_u8 (rz.2.b)), .sc (.int .i64 (rz.2.p))]]) := by
 refine zCon hP 1 [0, 1, 4, 5, 6, 7, 8, 9, 15, 26, 33, 43, 58, 65, 74, 87, 92, 103, 108] [.tmp 4] Tryz.func60 (by unfold Tryz.f60; rfl) fun Q hQ => ?_
 unfold s_l11Spoil at h
 refine zS z0 ?_
 obtain ⟨g3, h⟩ := gAp h
 refine zS (zRF g3) (sC fun k4 hk4 => ?_)
 refine zS z0 ?_
 revert h; refine zI rfl ?_ ?_ <;> intro h
 ·obtain ⟨v3, c7H, h⟩ := bS h
  obtain ⟨g8, h⟩ := gAp h
  refine zS (zC1F (lC [[0]] (con_s_l11Inst _ _ c7H)) g8) (ab ?_)
  refine r_cR hk4 ?_
  cases h
  refine zAR hQ
 ·refine ae (r_cN hk4 ?_)
  obtain ⟨v4, c10H, h⟩ := bS h
  refine zS (zC1 (lC [[0]] (ah _ _ _ c10H))) (zCut (fun (x : ((List Int) × Int × (List Inst))) => ⟨[(5, .sl 1 0 ((x.2.2).length))], [.rc [.fz 1 (R e_u8 (x.1)), .sc (.int .i64 (x.2.1))], .arr true 3 (R ao (x.2.2))]⟩) dp rz ?_ ?_)
  ·rintro _ ⟨v28, v29, v30⟩ h
   simp only [dp] at h
   refine zS z0 (ab ?_)
   cases h
   refine zAR hQ
  ·intro k72 hk72 J71
   obtain ⟨v31, c74H, h⟩ := bS h
   refine zS (zC1 (lC [[0]] (ah _ _ _ c74H))) (sB fun k75 hk75 => ?_)
   refine zS z0 ?_
   revert h; refine zI rfl ?_ ?_ <;> intro h
   ·obtain ⟨g78, h⟩ := gD2 h
    obtain ⟨g79, h⟩ := gD3 h
    obtain ⟨g80, h⟩ := gAp h
    refine zS (zPRF (.take 0 (.take 1 (.take 2 (.take 3 (.take 4 (.take 5 (.take 6 (.last 7 (.take 8 .done))))))))) [] (a3 g78 g79 g80)) (ab ?_)
    refine r_bR hk75 (r_jR hk72 ?_)
    cases h
    refine zAR hQ
   ·refine zS z0 ?_
    revert h; refine zI rfl ?_ ?_ <;> intro h
    ·obtain ⟨g83, h⟩ := gD2 h
     obtain ⟨g84, h⟩ := gD3 h
     obtain ⟨g85, h⟩ := gAp h
     obtain ⟨v32, c86H, h⟩ := bS h
     obtain ⟨g87, h⟩ := gAp h
     obtain ⟨g88, h⟩ := gAp h
     refine zS (zPC1F (.take 1 (.take 2 (.take 3 (.take 5 (.take 9 (.take 10 (.take 11 (.last 0 (.last 4 (.last 6 (.last 7 (.last 8 (.last 12 (.take 13 .done)))))))))))))) [] (lC [[0]] (con_s_l11Inst _ _ c86H)) (a4 g83 g84 g85 (a2 g87 g88))) (ab ?_)
     refine r_bR hk75 (r_jR hk72 ?_)
     cases h
     refine zAR hQ
    ·refine zS z0 ?_
     revert h; refine zI rfl ?_ ?_ <;> intro h
     ·obtain ⟨v33, c90H, h⟩ := bS h
      obtain ⟨v34, h, c91⟩ := bI h
      refine zU (zC1F (lC [[0]] (con_s_l11Inst _ _ c90H)) c91) (r_bN hk75 ?_)
      refine zJ J71 [5] () _ h
     ·refine zS z0 ?_
      revert h; refine zI rfl ?_ ?_ <;> intro h
      ·obtain ⟨v35, c93H, h⟩ := bS h
       obtain ⟨v36, h, c94⟩ := bI h
       refine zU (zC1F (lC [[0]] (ah _ _ _ c93H)) c94) (r_bN hk75 ?_)
       refine zJ J71 [5] () _ h
      ·refine zS z0 ?_
       revert h; refine zI rfl ?_ ?_ <;> intro h
       ·obtain ⟨v37, h, c96⟩ := bI h
        obtain ⟨v38, c97H, h⟩ := bS h
        refine zU (zC1F (lC [[0]] (con_s_l4Spoil _ _ _ c97H)) c96) (r_bN hk75 ?_)
        refine zJ J71 [5] () _ h
       ·refine zS z0 ?_
        revert h; refine zI rfl ?_ ?_ <;> intro h
        ·obtain ⟨g100, h⟩ := gD2 h
         refine zS (zRF g100) (ab ?_)
         refine r_bR hk75 (r_jR hk72 ?_)
         cases h
         refine zAR hQ
        ·refine zS z0 ?_
         revert h; refine zI rfl ?_ ?_ <;> intro h
         ·obtain ⟨v39, h, c103⟩ := bI h
          refine zS (zRF c103) (sB fun k104 hk104 => ?_)
          obtain ⟨oq115, hLq115, hKq115⟩ := bS h
          clear h
          refine ay [0, 5, 7] (fun (_ : Unit) (x : ((List Int) × Int × (List Inst))) => (⟨[(0, .pt 0 0), (5, .sl 1 0 ((x.2.2).length)), (7, .pt 2 0)], [.rc [.fz 1 (R e_u8 (x.1)), .sc (.int .i64 (x.2.1))], .arr true 3 (R ao (x.2.2)), .rc [.sc (.int .i64 (v39.Code)), .sc (.int .i64 (v39.One_Op)), .fz 3 (R aa (v39.One_Args))]]⟩ : St)) (fun (_ : Unit) (x : ((List Int) × Int × (List Inst))) => True) (s_l11Spoil_s55 v39) () (v31.2.b, v31.2.p, v2) hLq115 (by rfl) (by rfl) ⟨?_, trivial⟩ ?_
          ·exact zSa
          ·rintro nq115 _ ⟨v41, v42, v43⟩ xq115 kq115 hkq115 - h hIq115 hEq115
           simp only [s_l11Spoil_s55] at h
           refine sC fun k116 hk116 => ?_
           obtain ⟨v46, c118H, h⟩ := bS h
           refine zS (zC1 (lC [[0]] (ah _ _ _ c118H))) ?_
           revert h; refine zI rfl ?_ ?_ <;> intro h
           ·refine ae (r_cN hk116 ?_)
            refine sB fun k119 hk119 => ?_
            obtain ⟨g120, h⟩ := gAp h
            refine zU (zRF g120) (r_bN hk119 ?_)
            refine zB hkq115 h hIq115 () trivial
           ·refine aK (r_cE hk116 ?_)
            replace h := zX h hEq115 hKq115
            refine r_kE hkq115 (r_bE hk104 ?_)
            refine r_bN hk75 (zJ J71 [5] () _ h)
         ·refine zS z0 ?_
          revert h; refine zI rfl ?_ ?_ <;> intro h
          ·obtain ⟨v47, c123H, h⟩ := bS h
           refine zS (zC1 (lC [[0]] (ah _ _ _ c123H))) ?_
           obtain ⟨v48, h, c125⟩ := bI h
           refine zS (zRF c125) ?_
           obtain ⟨v49, h, c127⟩ := bI h
           obtain ⟨v50, h, c128⟩ := bI h
           refine zS (zRF (a2 c127 c128)) ?_
           obtain ⟨v51, h, c129⟩ := bI h
           refine zU (zRF c129) (r_bN hk75 ?_)
           refine zJ J71 [5] () _ h
          ·obtain ⟨v52, c130H, h⟩ := bS h
           obtain ⟨v53, h, c131⟩ := bI h
           refine zU (zC1F (lC [[0]] (con_s_l4Any _ _ c130H)) c131) (r_bN hk75 ?_)
           refine zJ J71 [5] () _ h
def s_l11Any (v1 : l26Rd) : Option ((List Inst) × l26Rd) :=
 ((s_l11Sure v1).bind fun v2 => ((ai v2.2 16).bind fun v3 => (cond (v3.1 == 0) ((s_l11Spoil v3.2 v2.1).bind fun v4 => (some (v4.1, v4.2))) (some (v2.1, v3.2)))))
theorem con_s_l11Any (v1 : l26Rd) (rz : ((List Inst) × l26Rd)) (h : s_l11Any v1 = some rz) : Con Tryz.prog C0 191 [.pt 0 0] [.rc [.fz 1 (R e_u8 (v1.b)), .sc (.int .i64 (v1.p))]]
  (fun x σ' => x = .fz 3 (R ao (rz.1)) ∧ σ' = [.rc [.fz 1 (R e_u8 (rz.2.b)), .sc (.int .i64 (rz.2.p))]]) := by
 refine zCon hP 1 [0, 2, 3, 8] [.tmp 2] Tryz.func191 (by unfold Tryz.f191; rfl) fun Q hQ => ?_
 unfold s_l11Any at h
 refine zS z0 ?_
 obtain ⟨v2, c3H, h⟩ := bS h
 refine zS (zC1 (lC [[0]] (con_s_l11Sure _ _ c3H))) (sC fun k4 hk4 => ?_)
 obtain ⟨v3, c6H, h⟩ := bS h
 refine zS (zC1 (lC [[0]] (ah _ _ _ c6H))) ?_
 revert h; refine zI rfl ?_ ?_ <;> intro h
 ·obtain ⟨v4, c8H, h⟩ := bS h
  refine zS (zC1 (lC [[0]] (con_s_l11Spoil _ _ _ c8H))) (ab ?_)
  refine r_cR hk4 ?_
  cases h
  refine zOR hQ
 ·refine ae (r_cN hk4 ?_)
  refine zS z0 (ab ?_)
  cases h
  refine zVRw [0] hQ
def s_l17Arg (v1 : l26Rd) : Option (DevArg × l26Rd) :=
 ((ai v1 8).bind fun v2 => (cond (v2.1 == 0) ((bb v2.2 [(-2147483648), 2147483647, 0, (-1), 2147483648, (-2147483649)]).bind fun v3 => ((bb v3.2 [0, 7, 255, 255, 256, (-1)]).bind fun v4 => (some ((⟨12, v3.1, v4.1⟩ : DevArg), v4.2)))) (cond (v2.1 == 1) ((bb v2.2 [(-32768), 32767, (-1), 255, 256, 32768, (-32769)]).bind fun v5 => (some ((⟨11, v5.1, 0⟩ : DevArg), v5.2))) (cond (v2.1 == 2) ((bb v2.2 [0, 255, 256, 4]).bind fun v6 => (some ((⟨13, v6.1, 0⟩ : DevArg), v6.2))) (cond (v2.1 == 3) ((bb v2.2 [0, 1, 10, 13, 14, 255]).bind fun v7 => (some ((⟨v7.1, 7, 0⟩ : DevArg), v7.2))) ((ai v2.2 10).bind fun v8 => ((bb v8.2 [0, 255, 64, 100, 256, (-1)]).bind fun v9 => (some ((⟨(IntKind.i64.wrap (1 + v8.1)), v9.1, 0⟩ : DevArg), v9.2)))))))))
theorem con_s_l17Arg (v1 : l26Rd) (rz : (DevArg × l26Rd)) (h : s_l17Arg v1 = some rz) : Con Tryz.prog C0 192 [.pt 0 0] [.rc [.fz 1 (R e_u8 (v1.b)), .sc (.int .i64 (v1.p))]]
  (fun x σ' => x = .agg [.sc (.int .i64 (rz.1.Kind)), .sc (.int .i64 (rz.1.N)), .sc (.int .i64 (rz.1.P))] ∧ σ' = [.rc [.fz 1 (R e_u8 (rz.2.b)), .sc (.int .i64 (rz.2.p))]]) := by
 refine zCon hP 1 [0, 2, 4, 5, 14, 20, 26] [.cell 2 171] Tryz.func192 (by unfold Tryz.f192; rfl) fun Q hQ => ?_
 unfold s_l17Arg at h
 refine zS z0 (sC fun k2 hk2 => ?_)
 obtain ⟨v2, c4H, h⟩ := bS h
 refine zS (zC1 (lC [[0]] (ah _ _ _ c4H))) (sB fun k5 hk5 => ?_)
 refine zS z0 ?_
 revert h; refine zI rfl ?_ ?_ <;> intro h
 ·obtain ⟨v3, c8H, h⟩ := bS h
  obtain ⟨v4, c9H, h⟩ := bS h
  refine zS (zC2 (lC [[0]] (aN _ _ _ c8H)) (lC [[0]] (aN _ _ _ c9H))) (ab ?_)
  refine r_bR hk5 (r_cR hk2 ?_)
  cases h
  refine zAR hQ
 ·refine zS z0 ?_
  revert h; refine zI rfl ?_ ?_ <;> intro h
  ·obtain ⟨v5, c12H, h⟩ := bS h
   refine zS (zC1 (lC [[0]] (aN _ _ _ c12H))) (ab ?_)
   refine r_bR hk5 (r_cR hk2 ?_)
   cases h
   refine zAR hQ
  ·refine zS z0 ?_
   revert h; refine zI rfl ?_ ?_ <;> intro h
   ·obtain ⟨v6, c15H, h⟩ := bS h
    refine zS (zC1 (lC [[0]] (aN _ _ _ c15H))) (ab ?_)
    refine r_bR hk5 (r_cR hk2 ?_)
    cases h
    refine zAR hQ
   ·refine zS z0 ?_
    revert h; refine zI rfl ?_ ?_ <;> intro h
    ·obtain ⟨v7, c18H, h⟩ := bS h
     refine zS (zC1 (lC [[0]] (aN _ _ _ c18H))) (ab ?_)
     refine r_bR hk5 (r_cR hk2 ?_)
     cases h
     refine zAR hQ
    ·refine ae (r_bN hk5 ?_)
     refine r_cN hk2 ?_
     obtain ⟨v8, c20H, h⟩ := bS h
     obtain ⟨v9, c21H, h⟩ := bS h
     refine zS (zC2 (lC [[0]] (ah _ _ _ c20H)) (lC [[0]] (aN _ _ _ c21H))) (ab ?_)
     cases h
     refine zAR hQ
def s_l17List_j13 : ((List Int) × Int × (List Inst)) → Option ((List Inst) × l26Rd)
 | (v52, v53, v54) => (some (v54, (⟨v52, v53⟩ : l26Rd)))
def fC (v72 : (List Inst)) (v73 : Int) (v89 : (Inst × l26Rd)) : ((List Int) × Int × (List DevArg)) → Option (((List Int) × Int × (List Inst) × Int) ⊕ ((List Int) × Int × (List Inst)))
 | (v95, v96, v97) => (gd (apOk ((v72 ++ [(⟨v89.1.Code, v89.1.One_Op, v97⟩ : Inst)])).length 40) (some (.inl (v95, v96, (v72 ++ [(⟨v89.1.Code, v89.1.One_Op, v97⟩ : Inst)]), (IntKind.i64.wrap (v73 - 1))))))
def s_l17List_s17 : ((List Int) × Int × (List Inst) × Int) → Option (((List Int) × Int × (List Inst) × Int) ⊕ ((List Int) × Int × (List Inst)))
 | (v70, v71, v72, v73) => (cond (decide (v73 > 0)) ((gI (⟨v70, v71⟩ : l26Rd)).bind fun v89 => ((s_l17Has v89.1.Code).bind fun v98 => (cond v98 ((ai v89.2 3).bind fun v99 => (cond (v99.1 == 0) (gd (apOk (v89.1.One_Args).length 24) ((ai v99.2 (((v89.1.One_Args).length : Nat) : Int)).bind fun v100 => ((s_l17Arg v100.2).bind fun v101 => ((idx v89.1.One_Args (v100.1)).bind fun v102 => (fC v72 v73 v89 (v101.2.b, v101.2.p, ((v89.1.One_Args).set (v100.1).toNat v101.1))))))) (fC v72 v73 v89 (v99.2.b, v99.2.p, v89.1.One_Args)))) (fC v72 v73 v89 (v89.2.b, v89.2.p, v89.1.One_Args))))) (some (.inr (v70, v71, v72))))
def s_l17List (v1 : l26Rd) : Option ((List Inst) × l26Rd) :=
 ((ai v1 3).bind fun v2 => (cond (v2.1 == 0) ((s_l11Any v2.2).bind fun v3 => (some (v3.1, v3.2))) ((ai v2.2 12).bind fun v55 => ((loop s_l17List_s17 (v55.2.b, v55.2.p, [], v55.1)).bind (fun v88 => (s_l17List_j13 (v88.1, v88.2.1, v88.2.2)))))))
theorem con_s_l17List (v1 : l26Rd) (rz : ((List Inst) × l26Rd)) (h : s_l17List v1 = some rz) : Con Tryz.prog C0 113 [.pt 0 0] [.rc [.fz 1 (R e_u8 (v1.b)), .sc (.int .i64 (v1.p))]]
  (fun x σ' => x = .fz 3 (R ao (rz.1)) ∧ σ' = [.rc [.fz 1 (R e_u8 (rz.2.b)), .sc (.int .i64 (rz.2.p))]]) := by
 refine zCon hP 1 [0, 2, 3, 4, 5, 6, 7, 10, 17, 29] [.tmp 2] Tryz.func113 (by unfold Tryz.f113; rfl) fun Q hQ => ?_
 unfold s_l17List at h
 refine zS z0 (sC fun k2 hk2 => ?_)
 obtain ⟨v2, c4H, h⟩ := bS h
 refine zS (zC1 (lC [[0]] (ah _ _ _ c4H))) ?_
 revert h; refine zI rfl ?_ ?_ <;> intro h
 ·obtain ⟨v3, c6H, h⟩ := bS h
  refine zS (zC1 (lC [[0]] (con_s_l11Any _ _ c6H))) (ab ?_)
  refine r_cR hk2 ?_
  cases h
  refine zOR hQ
 ·refine ae (r_cN hk2 ?_)
  refine zS z0 (zCut (fun (x : ((List Int) × Int × (List Inst))) => ⟨[(3, .sl 1 0 ((x.2.2).length))], [.rc [.fz 1 (R e_u8 (x.1)), .sc (.int .i64 (x.2.1))], .arr true 3 (R ao (x.2.2))]⟩) s_l17List_j13 rz ?_ ?_)
  ·rintro _ ⟨v52, v53, v54⟩ h
   simp only [s_l17List_j13] at h
   refine zS z0 (ab ?_)
   cases h
   refine zVRw [0] hQ
  ·intro k107 hk107 J106
   obtain ⟨v55, c109H, h⟩ := bS h
   refine zS (zC1 (lC [[0]] (ah _ _ _ c109H))) (sB fun k110 hk110 => ?_)
   obtain ⟨oq173, hLq173, hKq173⟩ := bS h
   clear h
   refine ay [0, 3, 4] (fun (_ : Unit) (x : ((List Int) × Int × (List Inst) × Int)) => (⟨[(0, .pt 0 0), (3, .sl 1 0 ((x.2.2.1).length)), (4, .sc (.int .i64 (x.2.2.2)))], [.rc [.fz 1 (R e_u8 (x.1)), .sc (.int .i64 (x.2.1))], .arr true 3 (R ao (x.2.2.1))]⟩ : St)) (fun (_ : Unit) (x : ((List Int) × Int × (List Inst) × Int)) => True) s_l17List_s17 () (v55.2.b, v55.2.p, [], v55.1) hLq173 (by rfl) (by rfl) ⟨?_, trivial⟩ ?_
   ·exact zSa
   ·rintro nq173 _ ⟨v70, v71, v72, v73⟩ xq173 kq173 hkq173 - h hIq173 hEq173
    simp only [s_l17List_s17] at h
    refine sC fun k174 hk174 => zS z0 ?_
    revert h; refine zI rfl ?_ ?_ <;> intro h
    ·refine ae (r_cN hk174 ?_)
     refine sC fun k176 hk176 => sB fun k177 hk177 => ?_
     obtain ⟨v89, c179H, h⟩ := bS h
     refine zS (zC1 (lC [[0]] (con_s_l11Inst _ _ c179H))) (zCut (fun (x : ((List Int) × Int × (List DevArg))) => ⟨[(0, .pt 0 0), (3, .sl 1 0 ((v72).length)), (4, .sc (.int .i64 (v73))), (5, .pt 2 0)], [.rc [.fz 1 (R e_u8 (x.1)), .sc (.int .i64 (x.2.1))], .arr true 3 (R ao (v72)), .rc [.sc (.int .i64 (v89.1.Code)), .sc (.int .i64 (v89.1.One_Op)), .fz 3 (R aa (x.2.2))]]⟩) (fC v72 v73 v89) xq173 ?_ ?_)
     ·rintro _ ⟨v95, v96, v97⟩ h
      simp only [fC] at h
      obtain ⟨g191, h⟩ := gAp h
      refine zU (zRF g191) (r_bN hk177 ?_)
      refine r_cN hk176 (zU z0 ?_)
      refine zB hkq173 h hIq173 () trivial
     ·intro k193 hk193 J192
      refine sC fun k194 hk194 => ?_
      obtain ⟨v98, c195H, h⟩ := bS h
      rcases bE v98 with g196 | g196
      ·replace h := ak h g196
       obtain ⟨v99, c197H, h⟩ := bS h
       refine zU (zC2F (lF [] (con_s_l17Has _ _ c195H)) (lC [[0]] (ah _ _ _ c197H)) g196) (r_cN hk194 ?_)
       revert h; refine zI rfl ?_ ?_ <;> intro h
       ·obtain ⟨g199, h⟩ := gAp h
        refine zS (zRF g199) ?_
        obtain ⟨v100, c201H, h⟩ := bS h
        refine zS (zC1 (lC [[0]] (ah _ _ _ c201H))) ?_
        obtain ⟨v101, c203H, h⟩ := bS h
        obtain ⟨v102, h, c204⟩ := bI h
        refine zS (zC1F (lC [[0]] (con_s_l17Arg _ _ c203H)) c204) (zU z0 ?_)
        refine zJvw J192 [0, 3, 4, 5] [0, 1, 2] () _ h
       ·refine ae (zJ J192 [0, 3, 4, 5] () _ h)
      ·replace h := av h g196
       refine zU (zC1F (lF [] (con_s_l17Has _ _ c195H)) g196) (r_cN hk194 ?_)
       refine sem_ifF rfl ?_
       try replace h := av h rfl
       refine ae (zJ J192 [0, 3, 4, 5] () _ h)
    ·refine aK (r_cE hk174 ?_)
     replace h := zX h hEq173 hKq173
     refine r_kE hkq173 (r_bE hk110 ?_)
     refine zJ J106 [3] () _ h
def s_l17Image_j3 : ((List Int) × Int) → Option ((List Int) × l26Rd)
 | (v13, v14) => ((iu []).bind fun v15 => (some (v15.1, (⟨v13, v14⟩ : l26Rd))))
def s_l17Image_s7 : ((List Int) × Int × Int) → Option (((List Int) × Int × Int) ⊕ (((List Int) × Int × (List Int)) ⊕ ((List Int) × Int)))
 | (v18, v19, v20) => (cond (decide (v20 < 4)) ((s_l17List (⟨v18, v19⟩ : l26Rd)).bind fun v25 => ((iu v25.1).bind fun v26 => (cond (v26.2.Code == 0) (some (.inr (.inl (v25.2.b, v25.2.p, v26.1)))) (some (.inl (v25.2.b, v25.2.p, (IntKind.i64.wrap (v20 + 1)))))))) (some (.inr (.inr (v18, v19)))))
def s_l17Image (v1 : l26Rd) : Option ((List Int) × l26Rd) :=
 ((loop s_l17Image_s7 (v1.b, v1.p, 0)).bind (Sum.elim (fun v23 => (some (v23.2.2, (⟨v23.1, v23.2.1⟩ : l26Rd)))) (fun v24 => (s_l17Image_j3 (v24.1, v24.2)))))
theorem con_s_l17Image (v1 : l26Rd) (rz : ((List Int) × l26Rd)) (h : s_l17Image v1 = some rz) : Con Tryz.prog C0 51 [.pt 0 0] [.rc [.fz 1 (R e_u8 (v1.b)), .sc (.int .i64 (v1.p))]]
  (fun x σ' => x = .sl 1 0 ((rz.1).length) ∧ σ' = [.rc [.fz 1 (R e_u8 (rz.2.b)), .sc (.int .i64 (rz.2.p))], .arr true 1 (R e_u8 (rz.1))]) := by
 refine zCon hP 1 [0, 2, 3, 4, 5, 6, 9, 20] [.tmp 2] Tryz.func51 (by unfold Tryz.f51; rfl) fun Q hQ => ?_
 unfold s_l17Image at h
 refine zS z0 (zCut (fun (x : ((List Int) × Int)) => ⟨[], [.rc [.fz 1 (R e_u8 (x.1)), .sc (.int .i64 (x.2))]]⟩) s_l17Image_j3 rz ?_ ?_)
 ·rintro _ ⟨v13, v14⟩ h
  simp only [s_l17Image_j3] at h
  obtain ⟨v15, c33H, h⟩ := bS h
  refine zS (zC1w (lF [] (con_s_PicMake _ _ c33H))) (zS z0 ?_)
  refine ab ?_
  cases h
  refine zOR hQ
 ·intro k36 hk36 J35
  refine zS z0 (sB fun k38 hk38 => ?_)
  obtain ⟨oq57, hLq57, hKq57⟩ := bS h
  clear h
  refine ay [0, 3] (fun (_ : Unit) (x : ((List Int) × Int × Int)) => (⟨[(0, .pt 0 0), (3, .sc (.int .i64 (x.2.2)))], [.rc [.fz 1 (R e_u8 (x.1)), .sc (.int .i64 (x.2.1))]]⟩ : St)) (fun (_ : Unit) (x : ((List Int) × Int × Int)) => True) s_l17Image_s7 () (v1.b, v1.p, 0) hLq57 (by rfl) (by rfl) ⟨?_, trivial⟩ ?_
  ·exact zSa
  ·rintro nq57 _ ⟨v18, v19, v20⟩ xq57 kq57 hkq57 - h hIq57 hEq57
   simp only [s_l17Image_s7] at h
   refine sC fun k58 hk58 => zS z0 ?_
   revert h; refine zI rfl ?_ ?_ <;> intro h
   ·refine ae (r_cN hk58 ?_)
    refine sC fun k60 hk60 => sB fun k61 hk61 => ?_
    obtain ⟨v25, c63H, h⟩ := bS h
    obtain ⟨v26, c64H, h⟩ := bS h
    refine zS (zC2 (lC [[0]] (con_s_l17List _ _ c63H)) (lF [] (con_s_PicMake _ _ c64H))) (zS z0 ?_)
    revert h; refine zI rfl ?_ ?_ <;> intro h
    ·refine zS z0 (ab ?_)
     refine r_bR hk61 (r_cR hk60 ?_)
     replace h := zX h hEq57 hKq57
     simp only [Sum.elim_inl, Sum.elim_inr] at h
     refine r_kR hkq57 (r_bR hk38 ?_)
     refine r_jR hk36 ?_
     cases h
     refine zOR hQ
    ·refine ae (r_bN hk61 ?_)
     refine r_cN hk60 (zU z0 ?_)
     refine zB hkq57 h hIq57 () trivial
   ·refine aK (r_cE hk58 ?_)
    replace h := zX h hEq57 hKq57
    simp only [Sum.elim_inl, Sum.elim_inr] at h
    refine r_kE hkq57 (r_bE hk38 ?_)
    refine zJ J35 [] () _ h
def eS : (List Int) → Option (List Int)
 | v16 => (some v16)
def dE (v1 : (List Int)) : Option (List Int) :=
 ((s_l26Open v1).bind fun v2 => ((s_l20Number v2).bind fun v3 => ((s_l21Image v3.2).bind fun v4 => ((s_BoxPack v3.1 v4.1).bind fun v5 => ((ai v4.2 8).bind fun v17 => (cond (v17.1 == 0) ((ai v17.2 (((v5.1).length : Nat) : Int)).bind fun v18 => (gd (decide (0 ≤ v18.1) && decide (v18.1 ≤ (((v5.1).length : Nat) : Int))) (some ((v5.1).take ((v18.1).toNat))))) (cond (v17.1 == 1) ((ai v17.2 (((v5.1).length : Nat) : Int)).bind fun v19 => ((ai v19.2 256).bind fun v20 => ((idx v5.1 (v19.1)).bind fun v21 => (eS ((v5.1).set (v19.1).toNat (IntKind.u8.wrap (v20.1))))))) (cond (v17.1 == 2) ((ai v17.2 4).bind fun v22 => ((ai v22.2 256).bind fun v23 => ((idx v5.1 (v22.1)).bind fun v24 => (eS ((v5.1).set (v22.1).toNat (IntKind.u8.wrap (v23.1))))))) (cond (v17.1 == 3) ((dU 1 4).bind fun v25 => ((s_l17Image v17.2).bind fun v26 => (gd (apOk ((v25 ++ v26.1)).length 1) (some (v25 ++ v26.1))))) (eS v5.1))))))))))
theorem iC (v1 : (List Int)) (rz : (List Int)) (h : dE v1 = some rz) : Con Tryz.prog C0 14 [.fz 1 (R e_u8 (v1))] []
  (fun x σ' => x = .fz 1 (R e_u8 (rz)) ∧ σ' = []) := by
 refine zCon hP 0 [0, 2, 3, 4, 17, 18, 26, 37, 46] [.tmp 2] Tryz.func14 (by unfold Tryz.f14; rfl) fun Q hQ => ?_
 unfold dE at h
 refine zS z0 ?_
 obtain ⟨v2, c3H, h⟩ := bS h
 refine zS (zC1 (lC [] (con_s_l26Open _ _ c3H))) ?_
 obtain ⟨v3, c5H, h⟩ := bS h
 obtain ⟨v4, c6H, h⟩ := bS h
 obtain ⟨v5, c7H, h⟩ := bS h
 refine zS (zC3 (lC [[0]] (con_s_l20Number _ _ c5H)) (lC [[0]] (con_s_l21Image _ _ c6H)) (lF [] (con_s_BoxPack _ _ _ c7H))) (zCut (fun (x : (List Int)) => ⟨[(4, .sl 0 0 ((x).length))], [.arr true 1 (R e_u8 (x))]⟩) eS rz ?_ ?_)
 ·rintro _ v16 h
  simp only [eS] at h
  refine zS z0 (ab ?_)
  cases h
  refine zAR hQ
 ·intro k30 hk30 J29
  obtain ⟨v17, c32H, h⟩ := bS h
  refine zS (zC1 (lC [[0]] (ah _ _ _ c32H))) (sB fun k33 hk33 => ?_)
  refine zS z0 ?_
  revert h; refine zI rfl ?_ ?_ <;> intro h
  ·obtain ⟨v18, c36H, h⟩ := bS h
   obtain ⟨g37, h⟩ := gD2 h
   refine zS (zC1F (lC [[0]] (ah _ _ _ c36H)) g37) (ab ?_)
   refine r_bR hk33 (r_jR hk30 ?_)
   cases h
   refine zAR hQ
  ·refine zS z0 ?_
   revert h; refine zI rfl ?_ ?_ <;> intro h
   ·obtain ⟨v19, c39H, h⟩ := bS h
    obtain ⟨v20, c40H, h⟩ := bS h
    obtain ⟨v21, h, c41⟩ := bI h
    refine zU (zC2F (lC [[0]] (ah _ _ _ c39H)) (lC [[0]] (ah _ _ _ c40H)) c41) (r_bN hk33 ?_)
    refine zJ J29 [4] () _ h
   ·refine zS z0 ?_
    revert h; refine zI rfl ?_ ?_ <;> intro h
    ·obtain ⟨v22, c43H, h⟩ := bS h
     obtain ⟨v23, c44H, h⟩ := bS h
     obtain ⟨v24, h, c45⟩ := bI h
     refine zU (zC2F (lC [[0]] (ah _ _ _ c43H)) (lC [[0]] (ah _ _ _ c44H)) c45) (r_bN hk33 ?_)
     refine zJ J29 [4] () _ h
    ·refine zS z0 ?_
     revert h; refine zI rfl ?_ ?_ <;> intro h
     ·obtain ⟨v25, c48H, h⟩ := bS h
      obtain ⟨v26, c49H, h⟩ := bS h
      obtain ⟨g50, h⟩ := gAp h
      refine zS (zC2F (lF [] (iy _ _ _ c48H)) (lC [[0]] (con_s_l17Image _ _ c49H)) g50) (ab ?_)
      refine r_bR hk33 (r_jR hk30 ?_)
      cases h
      refine zAR hQ
     ·refine ae (r_bN hk33 ?_)
      refine zJ J29 [4] () _ h
def s_l21List (v1 : (List Int)) : Option ((List Inst) × Bool) :=
 ((iw v1).bind fun v2 => (cond (decide (v2.2.Code > 0)) (some ([], false)) ((s_SureCheck v2.1).bind fun v3 => (cond (decide (v3.Code > 0)) (some ([], false)) (some (v2.1, true))))))
theorem con_s_l21List (v1 : (List Int)) (rz : ((List Inst) × Bool)) (h : s_l21List v1 = some rz) : Con Tryz.prog C0 53 [.fz 1 (R e_u8 (v1))] []
  (fun x σ' => x = .tup [.sl 0 0 ((rz.1).length), .sc (.bool (rz.2))] ∧ σ' = [.arr true 3 (R ao (rz.1))]) := by
 refine zCon hP 0 [0, 2, 3, 4, 5, 19] [.tmp 2, .tmp 3] Tryz.func53 (by unfold Tryz.f53; rfl) fun Q hQ => ?_
 unfold s_l21List at h
 refine zS z0 ?_
 obtain ⟨v2, c3H, h⟩ := bS h
 refine zS (zC1 (lC [] (con_s_PicRead _ _ c3H))) (sC fun k4 hk4 => ?_)
 refine sC fun k5 hk5 => ?_
 rcases bE (decide (v2.2.Code > 0)) with g6 | g6
 ·replace h := ak h g6
  refine zU (zRF g6) (r_cN hk5 ?_)
  refine bM rfl ?_
  try replace h := ak h rfl
  refine zS z0 (ab ?_)
  refine r_cR hk4 ?_
  cases h
  refine zVRw [2000002] hQ
 ·replace h := av h g6
  obtain ⟨v3, c8H, h⟩ := bS h
  refine zU (zC1F (lF [] (con_s_SureCheck _ _ c8H)) g6) (r_cN hk5 ?_)
  revert h; refine zI rfl ?_ ?_ <;> intro h
  ·refine zS z0 (ab ?_)
   refine r_cR hk4 ?_
   cases h
   refine zVRw [2000002] hQ
  ·refine ae (r_cN hk4 ?_)
   refine zS z0 (ab ?_)
   cases h
   refine zOR hQ
def eB (v1 : (List Int)) : Option (Int × (List Inst) × Bool) :=
 (cond (decide (((v1).length : Int) < 4)) (some (0, [], false)) ((prtH v1 (4)).bind fun v2 => ((s_l17Val v2).bind fun v3 => ((prtL v1 (4)).bind fun v4 => ((s_l21List v4).bind fun v5 => (cond (((!v5.2) || (decide (v3 < 1))) || (decide (v3 > 1000000))) (some (0, [], false)) (some (v3, v5.1, true))))))))
theorem con_s_BoxUnpack (v1 : (List Int)) (rz : (Int × (List Inst) × Bool)) (h : eB v1 = some rz) : Con Tryz.prog C0 15 [.fz 1 (R e_u8 (v1))] []
  (fun x σ' => x = .tup [.sc (.int .i64 (rz.1)), .sl 0 0 ((rz.2.1).length), .sc (.bool (rz.2.2))] ∧ σ' = [.arr true 3 (R ao (rz.2.1))]) := by
 refine zCon hP 0 [0, 2, 3, 4, 5, 6, 7, 10, 29] [.tmp 2, .tmp 3, .tmp 4] Tryz.func15 (by unfold Tryz.f15; rfl) fun Q hQ => ?_
 unfold eB at h
 refine zS z0 (sC fun k2 hk2 => ?_)
 refine zS z0 ?_
 revert h; refine zI rfl ?_ ?_ <;> intro h
 ·refine zS z0 (ab ?_)
  refine r_cR hk2 ?_
  cases h
  refine zVRw [2000002] hQ
 ·refine ae (r_cN hk2 ?_)
  obtain ⟨v2, c6H, h⟩ := bS h
  obtain ⟨c6A, c6B, c6C⟩ := prtH_some c6H
  try simp only [Int.reduceToNat, Int.toNat_zero, Int.toNat_one, Int.toNat_natCast, List.take_length] at c6C
  obtain ⟨v3, c7H, h⟩ := bS h
  refine zS (zC1F (lF [] (con_s_l17Val _ _ c7H)) (a3 c6A c6B c6C)) ?_
  obtain ⟨v4, c9H, h⟩ := bS h
  obtain ⟨c9A, c9B, c9C⟩ := prtL_some c9H
  try simp only [Int.reduceToNat, Int.toNat_zero, Int.toNat_one, Int.toNat_natCast, List.take_length] at c9C
  obtain ⟨v5, c10H, h⟩ := bS h
  refine zS (zC1F (lC [] (con_s_l21List _ _ c10H)) (a3 c9A c9B c9C)) (sC fun k11 hk11 => ?_)
  refine zS zR ?_
  revert h; refine zI rfl ?_ ?_ <;> intro h
  ·refine zS z0 (ab ?_)
   refine r_cR hk11 ?_
   cases h
   refine zVRw [2000002] hQ
  ·refine ae (r_cN hk11 ?_)
   refine zS z0 (ab ?_)
   cases h
   refine zOR hQ
def m_picArg (v1 : DevArg) : Option ((List Int) × Bool) :=
 (cond ((v1.Kind != 12) && (v1.P != 0)) (some ([], false)) ((m_in v1.Kind 1 10).bind fun v2 => (cond (v2 || (v1.Kind == 13)) (gd (apOk (([(IntKind.u8.wrap (v1.Kind))] ++ [(IntKind.u8.wrap (v1.N))])).length 1) ((m_in v1.N 0 255).bind fun v3 => (some (([(IntKind.u8.wrap (v1.Kind))] ++ [(IntKind.u8.wrap (v1.N))]), v3)))) (cond (v1.Kind == 11) ((m_big v1.N 2).bind fun v4 => (gd (apOk (([(IntKind.u8.wrap (v1.Kind))] ++ v4)).length 1) ((m_in v1.N (-32768) 32767).bind fun v5 => (some (([(IntKind.u8.wrap (v1.Kind))] ++ v4), v5))))) (cond (v1.Kind == 12) ((m_big v1.N 4).bind fun v6 => (gd (apOk (([(IntKind.u8.wrap (v1.Kind))] ++ v6)).length 1) (gd (apOk ((([(IntKind.u8.wrap (v1.Kind))] ++ v6) ++ [(IntKind.u8.wrap (v1.P))])).length 1) ((m_in v1.N (-2147483648) 2147483647).bind fun v7 => (cond v7 ((m_in v1.P 0 255).bind fun v8 => (some ((([(IntKind.u8.wrap (v1.Kind))] ++ v6) ++ [(IntKind.u8.wrap (v1.P))]), v8))) (some ((([(IntKind.u8.wrap (v1.Kind))] ++ v6) ++ [(IntKind.u8.wrap (v1.P))]), false))))))) (some ([], false)))))))
theorem con_m_picArg (v1 : DevArg) (rz : ((List Int) × Bool)) (h : m_picArg v1 = some rz) : Con Tryz.prog C0 118 [.agg [.sc (.int .i64 (v1.Kind)), .sc (.int .i64 (v1.N)), .sc (.int .i64 (v1.P))]] []
  (fun x σ' => x = .tup [.sl 0 0 ((rz.1).length), .sc (.bool (rz.2))] ∧ σ' = [.arr true 1 (R e_u8 (rz.1))]) := by
 refine zCon hP 0 [0, 1, 2, 3, 4, 12, 17, 35, 47] [.tmp 2, .tmp 3] Tryz.func118 (by unfold Tryz.f118; rfl) fun Q hQ => ?_
 unfold m_picArg at h
 refine zS z0 (sC fun k2 hk2 => ?_)
 refine zS zR ?_
 revert h; refine zI rfl ?_ ?_ <;> intro h
 ·refine zS z0 (ab ?_)
  refine r_cR hk2 ?_
  cases h
  refine zVRw [2000000] hQ
 ·refine ae (r_cN hk2 ?_)
  refine zS z0 (sC fun k6 hk6 => ?_)
  refine sB fun k7 hk7 => ?_
  obtain ⟨v2, c9H, h⟩ := bS h
  refine zS (zC1 (lF [] (bl _ _ _ _ c9H))) ?_
  revert h; refine zI rfl ?_ ?_ <;> intro h
  ·obtain ⟨g11, h⟩ := gAp h
   obtain ⟨v3, c12H, h⟩ := bS h
   refine zS (zPC1Fn (.take 0 (.take 1 (.take 2 (.take 3 (.take 6 (.take 7 (.one 4 (.one 5 (.one 8 (.take 9 (.take 10 .done))))))))))) [0] (lF [] (bl _ _ _ _ c12H)) g11) (ab ?_)
   refine r_bR hk7 (r_cR hk6 ?_)
   cases h
   refine zOR hQ
  ·refine zS z0 ?_
   revert h; refine zI rfl ?_ ?_ <;> intro h
   ·obtain ⟨v4, c15H, h⟩ := bS h
    obtain ⟨g16, h⟩ := gAp h
    obtain ⟨v5, c17H, h⟩ := bS h
    refine zS (zPC2Fn (.take 0 (.take 1 (.take 2 (.take 5 (.take 6 (.one 3 (.one 4 (.one 7 (.take 8 (.take 9 .done)))))))))) [0] (lF [] (con_m_big _ _ _ c15H)) (lF [] (bl _ _ _ _ c17H)) g16) (ab ?_)
    refine r_bR hk7 (r_cR hk6 ?_)
    cases h
    refine zOR hQ
   ·refine zS z0 ?_
    revert h; refine zI rfl ?_ ?_ <;> intro h
    ·refine sC fun k19 hk19 => ?_
     obtain ⟨v6, c20H, h⟩ := bS h
     obtain ⟨g21, h⟩ := gAp h
     obtain ⟨g22, h⟩ := gAp h
     obtain ⟨v7, c23H, h⟩ := bS h
     rcases bE v7 with g24 | g24
     ·replace h := ak h g24
      obtain ⟨v8, c25H, h⟩ := bS h
      with_reducible refine sem_plan (id := 9) (.take 0 (.take 1 (.take 2 (.take 5 (.take 6 (.take 7 (.take 10 (.take 11 (.two 3 8 (.two 4 8 (.one 8 (.one 9 (.one 12 (.take 13 (.take 14 (.take 15 (.one 16 (.take 17 (.take 18 (.take 19 .done)))))))))) (.one 4 (.one 9 (.one 12 (.take 13 (.take 14 (.take 15 (.one 16 (.take 17 (.take 18 (.take 19 .done))))))))))) (.one 3 (.one 4 (.one 9 (.one 12 (.take 13 (.take 14 (.take 15 (.one 16 (.take 17 (.take 18 (.take 19 .done)))))))))))))))))))) [0] ?_ ?_
      focus kernel_rfl
      repeat' (first | with_reducible refine And.intro ?_ ?_ | ((with_reducible refine i_call (n := 39) ?_); refine call_openF [] ?_) | ((with_reducible refine i_callW (n := 39) ?_); refine dK (con_m_big v1.N 4 v6 c20H) ?_; rintro x σ' ⟨rfl, rfl⟩ <;> ((refine ⟨?_, ?_⟩; (focus simp (decide := true) only [go_sem, reduceIte, Nat.reduceAdd, Int.reduceToNat, Nat.reduceSub, Nat.reduceMul, Nat.reduceMod, g21, g22, g24])); (with_reducible refine bG ?_))) | ((with_reducible refine i_call (n := 97) ?_); refine call_openF [] ?_) | ((with_reducible refine i_callW (n := 97) ?_); refine dK (bl v1.N (-2147483648) 2147483647 v7 c23H) ?_; rintro x σ' ⟨rfl, rfl⟩ <;> ((refine ⟨?_, ?_⟩; (focus simp (decide := true) only [go_sem, reduceIte, Nat.reduceAdd, Int.reduceToNat, Nat.reduceSub, Nat.reduceMul, Nat.reduceMod, g21, g22, g24])); (with_reducible refine bG ?_))) | ((with_reducible refine i_callW (n := 97) ?_); refine dK (bl v1.P 0 255 v8 c25H) ?_; rintro x σ' ⟨rfl, rfl⟩ <;> ((refine ⟨?_, ?_⟩; (focus simp (decide := true) only [go_sem, reduceIte, Nat.reduceAdd, Int.reduceToNat, Nat.reduceSub, Nat.reduceMul, Nat.reduceMod, g21, g22, g24])); (with_reducible refine bG ?_))) | (simp only [List.length_append, List.length_cons, List.length_nil, R_len] at *; omega) | exact True.intro | with_reducible assumption | exact fun hf => False.elim hf | (intro hg; first | (simp +contextual [hg]; done) | grind) | omega | simp (decide := true) only [go_sem, reduceIte, Nat.reduceAdd, Int.reduceToNat, Nat.reduceSub, Nat.reduceMul, Nat.reduceMod, g21, g22, g24])
      all_goals
       refine r_cN hk19 (ab ?_)
       refine r_bR hk7 (r_cR hk6 ?_)
       cases h
       refine zOR hQ
     ·replace h := av h g24
      with_reducible refine sem_plan (id := 9) (.take 0 (.take 1 (.take 2 (.take 5 (.take 6 (.take 7 (.take 10 (.take 11 (.two 3 8 (.two 4 8 (.one 8 (.one 9 (.one 12 (.take 13 (.take 14 (.take 15 (.one 16 (.take 17 (.take 18 (.take 19 .done)))))))))) (.one 4 (.one 9 (.one 12 (.take 13 (.take 14 (.take 15 (.one 16 (.take 17 (.take 18 (.take 19 .done))))))))))) (.one 3 (.one 4 (.one 9 (.one 12 (.take 13 (.take 14 (.take 15 (.one 16 (.take 17 (.take 18 (.take 19 .done)))))))))))))))))))) [0] ?_ ?_
      focus kernel_rfl
      repeat' (first | with_reducible refine And.intro ?_ ?_ | ((with_reducible refine i_call (n := 39) ?_); refine call_openF [] ?_) | ((with_reducible refine i_callW (n := 39) ?_); refine dK (con_m_big v1.N 4 v6 c20H) ?_; rintro x σ' ⟨rfl, rfl⟩ <;> ((refine ⟨?_, ?_⟩; (focus simp (decide := true) only [go_sem, reduceIte, Nat.reduceAdd, Int.reduceToNat, Nat.reduceSub, Nat.reduceMul, Nat.reduceMod, g21, g22, g24])); (with_reducible refine bG ?_))) | ((with_reducible refine i_call (n := 97) ?_); refine call_openF [] ?_) | ((with_reducible refine i_callW (n := 97) ?_); refine dK (bl v1.N (-2147483648) 2147483647 v7 c23H) ?_; rintro x σ' ⟨rfl, rfl⟩ <;> ((refine ⟨?_, ?_⟩; (focus simp (decide := true) only [go_sem, reduceIte, Nat.reduceAdd, Int.reduceToNat, Nat.reduceSub, Nat.reduceMul, Nat.reduceMod, g21, g22, g24])); (with_reducible refine bG ?_))) | (simp only [List.length_append, List.length_cons, List.length_nil, R_len] at *; omega) | exact True.intro | with_reducible assumption | exact fun hf => False.elim hf | (intro hg; first | (simp +contextual [hg]; done) | grind) | omega | simp (decide := true) only [go_sem, reduceIte, Nat.reduceAdd, Int.reduceToNat, Nat.reduceSub, Nat.reduceMul, Nat.reduceMod, g21, g22, g24])
      all_goals
       refine r_cN hk19 (ab ?_)
       refine r_bR hk7 (r_cR hk6 ?_)
       cases h
       refine zOR hQ
    ·refine ae (r_bN hk7 ?_)
     refine r_cN hk6 (zS z0 ?_)
     refine ab ?_
     cases h
     refine zVRw [2000000] hQ
def m_picInst_j32 : (List Int) → Option ((List Int) × Int)
 | v22 => (some (v22, 0))
def m_picInst_s36 (v1 : Inst) : ((List Int) × Int) → Option (((List Int) × Int) ⊕ (Unit ⊕ (List Int)))
 | (v25, v26) => (cond (decide (v26 < ((v1.One_Args).length : Int))) ((idx v1.One_Args (v26)).bind fun v31 => ((m_picArg v31).bind fun v32 => (cond (!v32.2) (some (.inr (.inl ()))) (gd (apOk ((v25 ++ v32.1)).length 1) (some (.inl ((v25 ++ v32.1), (IntKind.i64.wrap (v26 + 1))))))))) (some (.inr (.inr v25))))
def dB (v1 : Inst) : Bool → Option ((List Int) × Int)
 | v10 => (cond v10 (some ([], 2)) ((m_hasOne v1.Code).bind fun v11 => (cond (!v11) (some ([(IntKind.u8.wrap (v1.Code))], 0)) (gd (apOk (([(IntKind.u8.wrap (v1.Code))] ++ [(IntKind.u8.wrap (v1.One_Op))])).length 1) ((loop (m_picInst_s36 v1) (([(IntKind.u8.wrap (v1.Code))] ++ [(IntKind.u8.wrap (v1.One_Op))]), 0)).bind (Sum.elim (fun v29 => (some ([], 3))) (fun v30 => (m_picInst_j32 v30))))))))
def m_picInst (v1 : Inst) : Option ((List Int) × Int) :=
 ((m_in v1.Code 1 11).bind fun v33 => (cond (!v33) (dB v1 (!v33)) ((m_hasOne v1.Code).bind fun v34 => (cond v34 ((m_opFits v1.Code v1.One_Op).bind fun v35 => (cond v35 ((eF v1.One_Op).bind fun v36 => (cond (((v1.One_Args).length : Int) != v36) (dB v1 (((v1.One_Args).length : Int) != v36)) ((m_hasOne v1.Code).bind fun v37 => (cond v37 (dB v1 false) ((fZ (⟨v1.One_Op, v1.One_Args⟩ : Elem)).bind fun v38 => (dB v1 (!v38))))))) (dB v1 true))) ((m_hasOne v1.Code).bind fun v39 => (cond v39 (dB v1 false) ((fZ (⟨v1.One_Op, v1.One_Args⟩ : Elem)).bind fun v40 => (dB v1 (!v40)))))))))
theorem con_m_picInst (v1 : Inst) (rz : ((List Int) × Int)) (h : m_picInst v1 = some rz) : Con Tryz.prog C0 54 [.agg [.sc (.int .i64 (v1.Code)), .sc (.int .i64 (v1.One_Op)), .fz 3 (R aa (v1.One_Args))]] []
  (fun x σ' => x = .tup [.sl 0 0 ((rz.1).length), .sc (.int .i64 (rz.2))] ∧ σ' = [.arr true 1 (R e_u8 (rz.1))]) := by
 refine zCon hP 0 [0, 1, 2, 3, 4, 6, 7, 8, 9, 54, 65, 66, 67, 68, 77] [.tmp 2, .tmp 3] Tryz.func54 (by unfold Tryz.f54; rfl) fun Q hQ => ?_
 unfold m_picInst at h
 refine zS z0 (sC fun k2 hk2 => ?_)
 refine sB fun k3 hk3 => zCut (fun (x : Bool) => ⟨[(1, .pt 0 0), (9, .sc (.bool (x)))], [.rc [.sc (.int .i64 (v1.Code)), .sc (.int .i64 (v1.One_Op)), .fz 3 (R aa (v1.One_Args))]]⟩) (dB v1) rz ?_ ?_
 ·rintro _ v10 h
  simp only [dB] at h
  revert h; refine zI rfl ?_ ?_ <;> intro h
  ·refine zS z0 (ab ?_)
   refine r_bR hk3 (r_cR hk2 ?_)
   cases h
   refine zVRw [2000000] hQ
  ·refine ae (r_bN hk3 ?_)
   refine r_cN hk2 (zS z0 ?_)
   refine sC fun k20 hk20 => ?_
   obtain ⟨v11, c22H, h⟩ := bS h
   refine zS (zC1 (lF [] (ez _ _ c22H))) ?_
   revert h; refine zI rfl ?_ ?_ <;> intro h
   ·refine zS z0 (ab ?_)
    refine r_cR hk20 ?_
    cases h
    refine zOR hQ
   ·refine ae (r_cN hk20 ?_)
    obtain ⟨g25, h⟩ := gAp h
    refine zS (zRFn g25) (zCut (fun (x : (List Int)) => ⟨[(4, .sl 0 0 ((x).length))], [.arr true 1 (R e_u8 (x))]⟩) m_picInst_j32 rz ?_ ?_)
    ·rintro _ v22 h
     simp only [m_picInst_j32] at h
     refine zS z0 (ab ?_)
     cases h
     refine zOR hQ
    ·intro k67 hk67 J66
     refine zS z0 (sB fun k69 hk69 => ?_)
     obtain ⟨oq94, hLq94, hKq94⟩ := bS h
     clear h
     refine ay [4, 65, 66, 67] (fun (_ : Unit) (x : ((List Int) × Int)) => (⟨[(4, .sl 0 0 ((x.1).length)), (65, .fz 3 (R aa (v1.One_Args))), (66, .sc (.int .i64 (((v1.One_Args).length : Int)))), (67, .sc (.int .i64 (x.2)))], [.arr true 1 (R e_u8 (x.1))]⟩ : St)) (fun (_ : Unit) (x : ((List Int) × Int)) => True) (m_picInst_s36 v1) () (([(IntKind.u8.wrap (v1.Code))] ++ [(IntKind.u8.wrap (v1.One_Op))]), 0) hLq94 (by rfl) (by rfl) ⟨?_, trivial⟩ ?_
     ·exact zSa
     ·rintro nq94 _ ⟨v25, v26⟩ xq94 kq94 hkq94 - h hIq94 hEq94
      simp only [m_picInst_s36] at h
      refine zS z0 (sC fun k96 hk96 => ?_)
      revert h; refine zI rfl ?_ ?_ <;> intro h
      ·refine ae (r_cN hk96 ?_)
       refine sC fun k97 hk97 => sB fun k98 hk98 => ?_
       obtain ⟨v31, h, c100⟩ := bI h
       refine zS (zRF c100) ?_
       obtain ⟨v32, c102H, h⟩ := bS h
       refine zS (zC1 (lF [] (con_m_picArg _ _ c102H))) (sC fun k103 hk103 => ?_)
       refine zS z0 ?_
       revert h; refine zI rfl ?_ ?_ <;> intro h
       ·refine zS z0 (ab ?_)
        refine r_cR hk103 (r_bR hk98 ?_)
        refine r_cR hk97 ?_
        replace h := zX h hEq94 hKq94
        simp only [Sum.elim_inl, Sum.elim_inr] at h
        refine r_kR hkq94 (r_bR hk69 ?_)
        refine r_jR hk67 ?_
        cases h
        refine zVRw [2000000] hQ
       ·refine ae (r_cN hk103 ?_)
        obtain ⟨g106, h⟩ := gAp h
        refine zU (zRF g106) (r_bN hk98 ?_)
        refine r_cN hk97 (zU z0 ?_)
        refine zB hkq94 h hIq94 () trivial
      ·refine aK (r_cE hk96 ?_)
       replace h := zX h hEq94 hKq94
       simp only [Sum.elim_inl, Sum.elim_inr] at h
       refine r_kE hkq94 (r_bE hk69 ?_)
       refine zJ J66 [4] () _ h
 ·intro k108 hk108 J107
  obtain ⟨v33, c110H, h⟩ := bS h
  refine zS (zC1 (lF [] (bl _ _ _ _ c110H))) ?_
  revert h; refine zI rfl ?_ ?_ <;> intro h
  ·refine ae (zJ J107 [1, 9] () _ h)
  ·refine sC fun k111 hk111 => ?_
   obtain ⟨v34, c112H, h⟩ := bS h
   rcases bE v34 with g113 | g113
   ·replace h := ak h g113
    obtain ⟨v35, c114H, h⟩ := bS h
    rcases bE v35 with g115 | g115
    ·replace h := ak h g115
     obtain ⟨v36, c116H, h⟩ := bS h
     refine zU (zPC3F (.take 0 (.take 1 (.one 2 (.take 3 (.take 4 (.take 5 (.take 6 (.take 7 (.take 8 (.one 9 (.take 10 (.take 11 (.take 12 (.take 13 (.take 14 (.take 15 (.take 16 (.take 17 (.take 18 (.one 19 (.take 20 (.take 21 (.take 22 (.take 23 .done)))))))))))))))))))))))) [0] (lF [] (ez _ _ c112H)) (lF [] (con_m_opFits _ _ _ c114H)) (lF [] (iV _ _ c116H)) (a2 g113 g115)) (r_cN hk111 ?_)
     revert h; refine zI rfl ?_ ?_ <;> intro h
     ·refine ae (zJ J107 [1, 9] () _ h)
     ·obtain ⟨v37, c117H, h⟩ := bS h
      rcases bE v37 with g118 | g118
      ·replace h := ak h g118
       refine zU (zC1F (lF [] (ez _ _ c117H)) g118) (zJ J107 [1, 9] () _ h)
      ·replace h := av h g118
       obtain ⟨v38, c119H, h⟩ := bS h
       refine zU (zC2F (lF [] (ez _ _ c117H)) (lF [] (con_m_Elem_bare _ _ c119H)) g118) (zJ J107 [1, 9] () _ h)
    ·replace h := av h g115
     refine zU (zPC2F (.take 0 (.take 1 (.one 2 (.take 3 (.take 4 (.take 5 (.take 6 (.take 7 (.take 8 (.one 9 (.take 10 (.take 11 (.take 12 (.take 13 (.take 14 (.take 15 (.take 16 (.take 17 (.take 18 (.one 19 (.take 20 (.take 21 (.take 22 (.take 23 .done)))))))))))))))))))))))) [0] (lF [] (ez _ _ c112H)) (lF [] (con_m_opFits _ _ _ c114H)) (a2 g113 g115)) (r_cN hk111 ?_)
     refine bM rfl ?_
     try replace h := ak h rfl
     refine ae (zJ J107 [1, 9] () _ h)
   ·replace h := av h g113
    refine zU (zPC1F (.take 0 (.take 1 (.one 2 (.take 3 (.take 4 (.take 5 (.take 6 (.take 7 (.take 8 (.one 9 (.take 10 (.take 11 (.take 12 (.take 13 (.take 14 (.take 15 (.take 16 (.take 17 (.take 18 (.one 19 (.take 20 (.take 21 (.take 22 (.take 23 .done)))))))))))))))))))))))) [0] (lF [] (ez _ _ c112H)) g113) (r_cN hk111 ?_)
    refine sem_ifF rfl ?_
    try replace h := av h rfl
    obtain ⟨v39, c120H, h⟩ := bS h
    rcases bE v39 with g121 | g121
    ·replace h := ak h g121
     refine zU (zC1F (lF [] (ez _ _ c120H)) g121) (zJ J107 [1, 9] () _ h)
    ·replace h := av h g121
     obtain ⟨v40, c122H, h⟩ := bS h
     refine zU (zC2F (lF [] (ez _ _ c120H)) (lF [] (con_m_Elem_bare _ _ c122H)) g121) (zJ J107 [1, 9] () _ h)
def cJ (v1 : Int) : Unit → Option ((List Int) × Nat)
 | () => (some ((List.replicate ((IntKind.i64.wrap (v1 - (IntKind.i64.wrap (0 - 0))))).toNat 0), 0))
def cx (v1 : Int) : Option ((List Int) × Nat) :=
 (cond (decide (v1 < 0)) none (cond (decide ((IntKind.i64.wrap (v1 - (IntKind.i64.wrap (0 - 0)))) > 0)) (cond (zq (IntKind.i64.wrap (v1 - (IntKind.i64.wrap (0 - 0))))) (gd (zaOk (IntKind.i64.wrap (v1 - (IntKind.i64.wrap (0 - 0)))) 1) none) (gd (zaOk (IntKind.i64.wrap (v1 - (IntKind.i64.wrap (0 - 0)))) 1) (gd (decide (0 ≤ 0) && decide (0 ≤ ((((IntKind.i64.wrap (v1 - (IntKind.i64.wrap (0 - 0))))).toNat : Nat) : Int))) (cJ v1 ())))) none))
theorem con_slices_Grow_byte_byte_nil (v1 : Int) (rz : ((List Int) × Nat)) (h : cx v1 = some rz) : Con Tryz.prog C0 119 [.sc (.slice none 0 0), .sc (.int .i64 (v1))] []
  (fun x σ' => x = .sl 0 0 (rz.2) ∧ σ' = [.arr true 1 (R e_u8 (rz.1))]) := by
 refine zCon hP 0 [0, 1, 4, 6, 16] [.tmp 4] Tryz.func119 (by unfold Tryz.f119; rfl) fun Q hQ => ?_
 unfold cx at h
 refine zS z0 (sC fun k3 hk3 => ?_)
 refine zS z0 ?_
 revert h; refine zI rfl ?_ ?_ <;> intro h
 ·cases h
 ·refine ae (r_cN hk3 ?_)
  refine zCut (fun (x : Unit) => ⟨[(0, .sl 0 0 (0))], [.arr true 1 (R e_u8 ((List.replicate ((IntKind.i64.wrap (v1 - (IntKind.i64.wrap (0 - 0))))).toNat 0)))]⟩) (cJ v1) rz ?_ ?_
  ·rintro _ _ h
   simp only [cJ] at h
   refine zS z0 (ab ?_)
   cases h
   refine zOR hQ
  ·intro k13 hk13 J12
   refine zS z0 (zS z0 ?_)
   revert h; refine zI rfl ?_ ?_ <;> intro h
   ·rcases bE (zq (IntKind.i64.wrap (v1 - (IntKind.i64.wrap (0 - 0))))) with g16 | g16
    ·replace h := ak h g16
     have g16E := zq_t g16
     obtain ⟨g17, h⟩ := gZa h
     refine zU (zRF (a2 g16E g17)) ?_
     cases h
    ·replace h := av h g16
     have g16E := zq_f g16
     obtain ⟨g18, h⟩ := gZa h
     obtain ⟨g19, h⟩ := gD2 h
     refine zU (zRF (a3 g16E g18 g19)) (zJ J12 [0] () _ h)
   ·refine ae ?_
    cases h
def b8 (v1 : Int) : Option (List Int) :=
 (cx v1).map fun r => r.1.take r.2
theorem con_slices_Grow_byte_byte_nil_w (v1 : Int) (rz : (List Int)) (h : b8 v1 = some rz) : Con Tryz.prog C0 119 [.sc (.slice none 0 0), .sc (.int .i64 (v1))] []
  (fun x σ' => x = .sl 0 0 ((rz).length) ∧ σ' = [.arr true 1 (R e_u8 (rz))]) := by
 unfold b8 at h
 obtain ⟨r, hr, rfl⟩ := Option.map_eq_some_iff.1 h
 refine Con.shrink (con_slices_Grow_byte_byte_nil v1 r hr) fun x σ' hp => ?_
 obtain ⟨rfl, rfl⟩ := hp
 refine .inr ⟨_, _, _, rfl, rfl, fun hn => ⟨?_, ?_⟩⟩
 ·rw [R_len] at hn; rw [List.length_take, Nat.min_eq_left hn]
 ·rw [R_take]
def dg : (List Int) → Option (List Int)
 | v19 => (some v19)
def dh (v1 : (List (List Int))) : ((List Int) × Int) → Option (((List Int) × Int) ⊕ (List Int))
 | (v21, v22) => (cond (decide (v22 < ((v1).length : Int))) ((idx v1 (v22)).bind fun v25 => (gd (apOk ((v21 ++ v25)).length 1) (some (.inl ((v21 ++ v25), (IntKind.i64.wrap (v22 + 1))))))) (some (.inr v21)))
def dt (v1 : (List (List Int))) : Int → Option (List Int)
 | v11 => ((b8 v11).bind fun v12 => ((loop (dh v1) (v12, 0)).bind (fun v24 => (dg v24))))
def slices_Concat_byte_byte_s9 (v1 : (List (List Int))) : (Int × Int) → Option ((Int × Int) ⊕ Int)
 | (v28, v29) => (cond (decide (v29 < ((v1).length : Int))) ((idx v1 (v29)).bind fun v34 => (cond (decide ((IntKind.i64.wrap (v28 + ((v34).length : Int))) < 0)) none (some (.inl ((IntKind.i64.wrap (v28 + ((v34).length : Int))), (IntKind.i64.wrap (v29 + 1))))))) (some (.inr v28)))
def cR (v1 : (List (List Int))) : Option (List Int) :=
 ((loop (slices_Concat_byte_byte_s9 v1) (0, 0)).bind (fun v32 => (dt v1 v32)))
theorem con_slices_Concat_byte_byte (v1 : (List (List Int))) (rz : (List Int)) (h : cR v1 = some rz) : Con Tryz.prog C0 55 [.fz 1 (R e_L_u8 (v1))] []
  (fun x σ' => x = .sl 0 0 ((rz).length) ∧ σ' = [.arr true 1 (R e_u8 (rz))]) := by
 refine zCon hP 0 [0, 2, 3, 5, 6, 8, 9, 10, 11, 12, 20, 25, 26, 27, 28] [.tmp 2] Tryz.func55 (by unfold Tryz.f55; rfl) fun Q hQ => ?_
 unfold cR at h
 refine zS z0 (zS z0 ?_)
 refine zCut (fun (x : Int) => ⟨[(0, .fz 1 (R e_L_u8 (v1))), (3, .sc (.int .i64 (x)))], []⟩) (dt v1) rz ?_ ?_
 ·rintro _ v11 h
  simp only [dt] at h
  obtain ⟨v12, c46H, h⟩ := bS h
  refine zS (zC1w (lF [] (con_slices_Grow_byte_byte_nil_w _ _ c46H))) (zCut (fun (x : (List Int)) => ⟨[(6, .sl 0 0 ((x).length))], [.arr true 1 (R e_u8 (x))]⟩) dg rz ?_ ?_)
  ·rintro _ v19 h
   simp only [dg] at h
   refine zS z0 (ab ?_)
   cases h
   refine zOR hQ
  ·intro k73 hk73 J72
   refine zS z0 (sB fun k75 hk75 => ?_)
   obtain ⟨oq90, hLq90, hKq90⟩ := bS h
   clear h
   refine ay [6, 25, 26, 27] (fun (_ : Unit) (x : ((List Int) × Int)) => (⟨[(6, .sl 0 0 ((x.1).length)), (25, .fz 1 (R e_L_u8 (v1))), (26, .sc (.int .i64 (((v1).length : Int)))), (27, .sc (.int .i64 (x.2)))], [.arr true 1 (R e_u8 (x.1))]⟩ : St)) (fun (_ : Unit) (x : ((List Int) × Int)) => True) (dh v1) () (v12, 0) hLq90 (by rfl) (by rfl) ⟨?_, trivial⟩ ?_
   ·exact zSa
   ·rintro nq90 _ ⟨v21, v22⟩ xq90 kq90 hkq90 - h hIq90 hEq90
    simp only [dh] at h
    refine zS z0 (sC fun k92 hk92 => ?_)
    revert h; refine zI rfl ?_ ?_ <;> intro h
    ·refine ae (r_cN hk92 ?_)
     refine sC fun k93 hk93 => sB fun k94 hk94 => ?_
     obtain ⟨v25, h, c96⟩ := bI h
     refine zS (zRF c96) ?_
     obtain ⟨g97, h⟩ := gAp h
     refine zU (zRF g97) (r_bN hk94 ?_)
     refine r_cN hk93 (zU z0 ?_)
     refine zB hkq90 h hIq90 () trivial
    ·refine aK (r_cE hk92 ?_)
     replace h := zX h hEq90 hKq90
     refine r_kE hkq90 (r_bE hk75 ?_)
     refine zJ J72 [6] () _ h
 ·intro k99 hk99 J98
  refine zS z0 (sB fun k101 hk101 => ?_)
  obtain ⟨oq128, hLq128, hKq128⟩ := bS h
  clear h
  refine ay [0, 3, 9, 10, 11] (fun (_ : Unit) (x : (Int × Int)) => (⟨[(0, .fz 1 (R e_L_u8 (v1))), (3, .sc (.int .i64 (x.1))), (9, .fz 1 (R e_L_u8 (v1))), (10, .sc (.int .i64 (((v1).length : Int)))), (11, .sc (.int .i64 (x.2)))], []⟩ : St)) (fun (_ : Unit) (x : (Int × Int)) => True) (slices_Concat_byte_byte_s9 v1) () (0, 0) hLq128 (by rfl) (by rfl) ⟨?_, trivial⟩ ?_
  ·exact zSa
  ·rintro nq128 _ ⟨v28, v29⟩ xq128 kq128 hkq128 - h hIq128 hEq128
   simp only [slices_Concat_byte_byte_s9] at h
   refine zS z0 (sC fun k130 hk130 => ?_)
   revert h; refine zI rfl ?_ ?_ <;> intro h
   ·refine ae (r_cN hk130 ?_)
    refine sC fun k136 hk136 => sB fun k137 hk137 => ?_
    obtain ⟨v34, h, c139⟩ := bI h
    refine zS (zRF c139) (zS z0 ?_)
    refine zS z0 ?_
    revert h; refine zI rfl ?_ ?_ <;> intro h
    ·cases h
    ·refine ae (r_bN hk137 ?_)
     refine r_cN hk136 (zU z0 ?_)
     refine zB hkq128 h hIq128 () trivial
   ·refine aK (r_cE hk130 ?_)
    replace h := zX h hEq128 hKq128
    refine r_kE hkq128 (r_bE hk101 ?_)
    refine zJ J98 [0, 3] () _ h
def m_PicMake_j13 (v1 : (List Inst)) : (List Int) → Option ((List Int) × PicFault)
 | v12 => ((m_big (IntKind.i64.wrap ((((v12).length : Nat) : Int) + 8)) 2).bind fun v13 => ((m_big ((v1).length : Int) 2).bind fun v14 => ((cR [[83, 116], v13, v14, v12]).bind fun v15 => ((m_PicSum v15).bind fun v16 => ((m_big (IntKind.i64.wrap (v16)) 2).bind fun v17 => (gd (apOk ((v15 ++ v17)).length 1) ((ik (v15 ++ v17)).bind fun v18 => (some (v18, (⟨0, 0⟩ : PicFault))))))))))
def m_PicMake_s17 (v1 : (List Inst)) : ((List Int) × Int) → Option (((List Int) × Int) ⊕ ((Int × Int) ⊕ (List Int)))
 | (v21, v22) => (cond (decide (v22 < ((v1).length : Int))) ((idx v1 (v22)).bind fun v27 => ((m_picInst v27).bind fun v28 => (cond (v28.2 != 0) (some (.inr (.inl (v28.2, v22)))) (gd (apOk ((v21 ++ v28.1)).length 1) (some (.inl ((v21 ++ v28.1), (IntKind.i64.wrap (v22 + 1))))))))) (some (.inr (.inr v21))))
def m_PicMake (v1 : (List Inst)) : Option ((List Int) × PicFault) :=
 (cond (decide (((v1).length : Int) > 1000)) (some ([], (⟨1, 0⟩ : PicFault))) ((loop (m_PicMake_s17 v1) ([], 0)).bind (Sum.elim (fun v25 => (some ([], (⟨v25.1, v25.2⟩ : PicFault)))) (fun v26 => (m_PicMake_j13 v1 v26)))))
theorem con_m_PicMake (v1 : (List Inst)) (rz : ((List Int) × PicFault)) (h : m_PicMake v1 = some rz) : Con Tryz.prog C0 16 [.fz 3 (R ao (v1))] []
  (fun x σ' => x = .tup [.fz 1 (R e_u8 (rz.1)), .agg [.sc (.int .i64 (rz.2.Code)), .sc (.int .i64 (rz.2.At))]] ∧ σ' = []) := by
 refine zCon hP 0 [0, 2, 3, 4, 5, 6, 7, 8, 9, 12, 14, 15, 16, 17, 27] [.tmp 2, .cell 3 31] Tryz.func16 (by unfold Tryz.f16; rfl) fun Q hQ => ?_
 unfold m_PicMake at h
 refine zS z0 (sC fun k2 hk2 => ?_)
 refine zS z0 ?_
 revert h; refine zI rfl ?_ ?_ <;> intro h
 ·refine zS z0 (ab ?_)
  refine r_cR hk2 ?_
  cases h
  refine zARw hQ
 ·refine ae (r_cN hk2 ?_)
  refine zS z0 (zCut (fun (x : (List Int)) => ⟨[(0, .fz 3 (R ao (v1))), (3, .pt 0 0), (4, .sl 1 0 ((x).length))], [.rc [.sc (.int .i64 (0)), .sc (.int .i64 (0))], .arr true 1 (R e_u8 (x))]⟩) (m_PicMake_j13 v1) rz ?_ ?_)
  ·rintro _ v12 h
   simp only [m_PicMake_j13] at h
   obtain ⟨v13, c48H, h⟩ := bS h
   obtain ⟨v14, c49H, h⟩ := bS h
   obtain ⟨v15, c50H, h⟩ := bS h
   refine zS (zC3 (lF [] (con_m_big _ _ _ c48H)) (lF [] (con_m_big _ _ _ c49H)) (lF [] (con_slices_Concat_byte_byte _ _ c50H))) ?_
   obtain ⟨v16, c52H, h⟩ := bS h
   obtain ⟨v17, c53H, h⟩ := bS h
   obtain ⟨g54, h⟩ := gAp h
   obtain ⟨v18, c55H, h⟩ := bS h
   refine zS (zC3F (lF [] (con_m_PicSum _ _ c52H)) (lF [] (con_m_big _ _ _ c53H)) (lC [] (con_m_clone_byte _ _ c55H)) g54) (ab ?_)
   cases h
   refine zAR hQ
  ·intro k57 hk57 J56
   refine zS z0 (sB fun k59 hk59 => ?_)
   obtain ⟨oq86, hLq86, hKq86⟩ := bS h
   clear h
   refine eg [0, 3, 4, 14, 15, 16] [0, 2000000] (fun (_ : Unit) (x : ((List Int) × Int)) => (⟨[(0, .fz 3 (R ao (v1))), (3, .pt 0 0), (4, .sl 1 0 ((x.1).length)), (14, .fz 3 (R ao (v1))), (15, .sc (.int .i64 (((v1).length : Int)))), (16, .sc (.int .i64 (x.2)))], [.rc [.sc (.int .i64 (0)), .sc (.int .i64 (0))], .arr true 1 (R e_u8 (x.1))]⟩ : St)) (fun (_ : Unit) (x : ((List Int) × Int)) => True) (m_PicMake_s17 v1) () ([], 0) hLq86 (by rfl) (by rfl) ⟨?_, trivial⟩ ?_
   ·exact zSd
   ·rintro nq86 _ ⟨v21, v22⟩ xq86 kq86 hkq86 - h hIq86 hEq86
    simp only [m_PicMake_s17] at h
    refine zS z0 (sC fun k88 hk88 => ?_)
    revert h; refine zI rfl ?_ ?_ <;> intro h
    ·refine ae (r_cN hk88 ?_)
     refine sC fun k89 hk89 => sB fun k90 hk90 => ?_
     obtain ⟨v27, h, c92⟩ := bI h
     refine zS (zRF c92) ?_
     obtain ⟨v28, c94H, h⟩ := bS h
     refine zS (zC1 (lF [] (con_m_picInst _ _ c94H))) (sC fun k95 hk95 => ?_)
     refine zS z0 ?_
     revert h; refine zI rfl ?_ ?_ <;> intro h
     ·refine zS z0 (ab ?_)
      refine r_cR hk95 (r_bR hk90 ?_)
      refine r_cR hk89 ?_
      replace h := zX h hEq86 hKq86
      simp only [Sum.elim_inl, Sum.elim_inr] at h
      refine r_kR hkq86 (r_bR hk59 ?_)
      refine r_jR hk57 ?_
      cases h
      refine zARw hQ
     ·refine ae (r_cN hk95 ?_)
      obtain ⟨g98, h⟩ := gAp h
      refine zU (zRF g98) (r_bN hk90 ?_)
      refine r_cN hk89 (zU z0 ?_)
      refine zB hkq86 h hIq86 () trivial
    ·refine aK (r_cE hk88 ?_)
     replace h := zX h hEq86 hKq86
     simp only [Sum.elim_inl, Sum.elim_inr] at h
     refine r_kE hkq86 (r_bE hk59 ?_)
     refine zJ J56 [0, 3, 4] () _ h
def laws_FnBoxPack (v1 : (List Int)) (v2 : (List Int)) : Option Bool :=
 (cond ((decide (((v1).length : Int) > 1048576)) || (decide (((v2).length : Int) > 1048576))) (some true) ((iI v1).bind fun v3 => ((iz v3.1 v3.2).bind fun v4 => ((s_BoxPack v3.1 v3.2).bind fun v5 => ((m_BoxUnpack v4.1).bind fun v6 => ((iw v3.2).bind fun v7 => (cond (v7.2.Code == 0) ((s_SureCheck v7.1).bind fun v8 => (cond (v4.2 == v5.2) (cond (v6.2.2 == (v4.2 && (v8.Code == 0))) (cond v6.2.2 (cond (v6.1 != v3.1) (some false) ((m_ListSame v6.2.1 v7.1).bind fun v9 => (cond (!v9) (some false) ((dE v2).bind fun v10 => ((m_BoxUnpack v10).bind fun v11 => ((eB v10).bind fun v12 => (cond (!(v11.2.2 == v12.2.2)) (some false) (cond (!v11.2.2) (some ((v11.1 == 0) && ((((v11.2.1).length : Nat) : Int) == 0))) ((m_PicMake v11.2.1).bind fun v13 => ((iz v11.1 v13.1).bind fun v14 => (cond (v13.2.Code == 0) ((fq v11.2.1).bind fun v15 => (some (((v15.Code == 0) && v14.2) && ((bstr v14.1).toList == (bstr v10).toList)))) (some false)))))))))))) ((dE v2).bind fun v16 => ((m_BoxUnpack v16).bind fun v17 => ((eB v16).bind fun v18 => (cond (!(v17.2.2 == v18.2.2)) (some false) (cond (!v17.2.2) (some ((v17.1 == 0) && ((((v17.2.1).length : Nat) : Int) == 0))) ((m_PicMake v17.2.1).bind fun v19 => ((iz v17.1 v19.1).bind fun v20 => (cond (v19.2.Code == 0) ((fq v17.2.1).bind fun v21 => (some (((v21.Code == 0) && v20.2) && ((bstr v20.1).toList == (bstr v16).toList)))) (some false)))))))))) (some false)) (some false))) (cond (v4.2 == v5.2) (cond v6.2.2 (some false) ((dE v2).bind fun v22 => ((m_BoxUnpack v22).bind fun v23 => ((eB v22).bind fun v24 => (cond (!(v23.2.2 == v24.2.2)) (some false) (cond (!v23.2.2) (some ((v23.1 == 0) && ((((v23.2.1).length : Nat) : Int) == 0))) ((m_PicMake v23.2.1).bind fun v25 => ((iz v23.1 v25.1).bind fun v26 => (cond (v25.2.Code == 0) ((fq v23.2.1).bind fun v27 => (some (((v27.Code == 0) && v26.2) && ((bstr v26.1).toList == (bstr v22).toList)))) (some false)))))))))) (some false)))))))))
theorem con_laws_FnBoxPack (v1 : (List Int)) (v2 : (List Int)) (rz : Bool) (h : laws_FnBoxPack v1 v2 = some rz) : Con Tryz.prog C0 3 [.fz 1 (R e_u8 (v1)), .fz 1 (R e_u8 (v2))] []
  (fun x σ' => x = .sc (.bool (rz)) ∧ σ' = []) := by
 refine zCon hP 0 [0, 1, 4, 5, 6, 7, 8, 10, 11, 12, 13, 14, 15, 16, 17, 18, 19, 20, 23, 24, 25, 26, 27, 35, 97, 114, 116] [.tmp 4] Tryz.func3 (by unfold Tryz.f3; rfl) fun Q hQ => ?_
 unfold laws_FnBoxPack at h
 refine zS z0 (sC fun k2 hk2 => ?_)
 refine zS zR ?_
 revert h; refine zI rfl ?_ ?_ <;> intro h
 ·refine zS z0 (ab ?_)
  refine r_cR hk2 ?_
  cases h
  refine zAR hQ
 ·refine ae (r_cN hk2 ?_)
  obtain ⟨v3, c6H, h⟩ := bS h
  refine zS (zC1 (lF [] (con_s_DrawBoxPack _ _ c6H))) ?_
  obtain ⟨v4, c8H, h⟩ := bS h
  refine zS (zC1 (lC [] (con_m_BoxPack _ _ _ c8H))) ?_
  obtain ⟨v5, c10H, h⟩ := bS h
  refine zS (zC1 (lF [] (con_s_BoxPack _ _ _ c10H))) ?_
  obtain ⟨v6, c12H, h⟩ := bS h
  refine zS (zC1 (lC [] (iX _ _ c12H))) ?_
  obtain ⟨v7, c14H, h⟩ := bS h
  refine zS (zC1 (lC [] (con_s_PicRead _ _ c14H))) (sC fun k15 hk15 => ?_)
  rcases bE (v7.2.Code == 0) with g16 | g16
  ·replace h := ak h g16
   obtain ⟨v8, c17H, h⟩ := bS h
   refine zU (zC1F (lF [] (con_s_SureCheck _ _ c17H)) g16) (r_cN hk15 ?_)
   refine sC fun k18 hk18 => sC fun k19 hk19 => ?_
   rcases bE (v4.2 == v5.2) with g20 | g20
   ·replace h := ak h g20
    rcases bE (v6.2.2 == (v4.2 && (v8.Code == 0))) with g21 | g21
    ·replace h := ak h g21
     rcases bE v6.2.2 with g22 | g22
     ·replace h := ak h g22
      have g23 := g21; rw [g22] at g23
      rcases bE (v6.1 != v3.1) with g24 | g24
      ·replace h := ak h g24
       refine zU (zRF (a4 g20 g21 g22 (a2 g23 g24))) (r_cN hk19 ?_)
       refine bM rfl ?_
       try replace h := ak h rfl
       refine zS z0 (ab ?_)
       refine r_cR hk18 ?_
       cases h
       refine zAR hQ
      ·replace h := av h g24
       obtain ⟨v9, c26H, h⟩ := bS h
       refine zU (zC1F (lF [] (con_m_ListSame _ _ _ c26H)) (a4 g20 g21 g22 (a2 g23 g24))) (r_cN hk19 ?_)
       revert h; refine zI rfl ?_ ?_ <;> intro h
       ·refine zS z0 (ab ?_)
        refine r_cR hk18 ?_
        cases h
        refine zAR hQ
       ·refine ae (r_cN hk18 ?_)
        obtain ⟨v10, c29H, h⟩ := bS h
        refine zS (zC1 (lC [] (iC _ _ c29H))) ?_
        obtain ⟨v11, c31H, h⟩ := bS h
        refine zS (zC1 (lC [] (iX _ _ c31H))) ?_
        obtain ⟨v12, c33H, h⟩ := bS h
        refine zS (zC1 (lC [] (con_s_BoxUnpack _ _ c33H))) (sC fun k34 hk34 => ?_)
        refine zS z0 ?_
        revert h; refine zI rfl ?_ ?_ <;> intro h
        ·refine zS z0 (ab ?_)
         refine r_cR hk34 ?_
         cases h
         refine zAR hQ
        ·refine ae (r_cN hk34 ?_)
         refine sC fun k37 hk37 => zS z0 ?_
         revert h; refine zI rfl ?_ ?_ <;> intro h
         ·refine zS zR (ab ?_)
          refine r_cR hk37 ?_
          cases h
          refine zAR hQ
         ·refine ae (r_cN hk37 ?_)
          obtain ⟨v13, c41H, h⟩ := bS h
          refine zS (zC1 (lC [] (con_m_PicMake _ _ c41H))) ?_
          obtain ⟨v14, c43H, h⟩ := bS h
          refine zS (zC1 (lC [] (con_m_BoxPack _ _ _ c43H))) (sC fun k44 hk44 => ?_)
          rcases bE (v13.2.Code == 0) with g45 | g45
          ·replace h := ak h g45
           obtain ⟨v15, c46H, h⟩ := bS h
           refine zU (zC1F (lF [] (iS _ _ c46H)) g45) (r_cN hk44 ?_)
           refine ab ?_
           cases h
           refine zAR hQ
          ·replace h := av h g45
           refine zU (zRF g45) (r_cN hk44 ?_)
           refine ab ?_
           cases h
           refine zAR hQ
     ·replace h := av h g22
      have g23 := g21; rw [g22] at g23
      refine zU (zRF (a4 g20 g21 g22 g23)) (r_cN hk19 ?_)
      refine sem_ifF rfl ?_
      try replace h := av h rfl
      refine ae (r_cN hk18 ?_)
      obtain ⟨v16, c48H, h⟩ := bS h
      refine zS (zC1 (lC [] (iC _ _ c48H))) ?_
      obtain ⟨v17, c50H, h⟩ := bS h
      refine zS (zC1 (lC [] (iX _ _ c50H))) ?_
      obtain ⟨v18, c52H, h⟩ := bS h
      refine zS (zC1 (lC [] (con_s_BoxUnpack _ _ c52H))) (sC fun k53 hk53 => ?_)
      refine zS z0 ?_
      revert h; refine zI rfl ?_ ?_ <;> intro h
      ·refine zS z0 (ab ?_)
       refine r_cR hk53 ?_
       cases h
       refine zAR hQ
      ·refine ae (r_cN hk53 ?_)
       refine sC fun k56 hk56 => zS z0 ?_
       revert h; refine zI rfl ?_ ?_ <;> intro h
       ·refine zS zR (ab ?_)
        refine r_cR hk56 ?_
        cases h
        refine zAR hQ
       ·refine ae (r_cN hk56 ?_)
        obtain ⟨v19, c60H, h⟩ := bS h
        refine zS (zC1 (lC [] (con_m_PicMake _ _ c60H))) ?_
        obtain ⟨v20, c62H, h⟩ := bS h
        refine zS (zC1 (lC [] (con_m_BoxPack _ _ _ c62H))) (sC fun k63 hk63 => ?_)
        rcases bE (v19.2.Code == 0) with g64 | g64
        ·replace h := ak h g64
         obtain ⟨v21, c65H, h⟩ := bS h
         refine zU (zC1F (lF [] (iS _ _ c65H)) g64) (r_cN hk63 ?_)
         refine ab ?_
         cases h
         refine zAR hQ
        ·replace h := av h g64
         refine zU (zRF g64) (r_cN hk63 ?_)
         refine ab ?_
         cases h
         refine zAR hQ
    ·replace h := av h g21
     refine zU (zRF (a2 g20 g21)) (r_cN hk19 ?_)
     refine bM rfl ?_
     try replace h := ak h rfl
     refine zS z0 (ab ?_)
     refine r_cR hk18 ?_
     cases h
     refine zAR hQ
   ·replace h := av h g20
    refine zU (zRF g20) (r_cN hk19 ?_)
    refine bM rfl ?_
    try replace h := ak h rfl
    refine zS z0 (ab ?_)
    refine r_cR hk18 ?_
    cases h
    refine zAR hQ
  ·replace h := av h g16
   refine zU (zRF g16) (r_cN hk15 ?_)
   refine sC fun k68 hk68 => sC fun k69 hk69 => ?_
   rcases bE (v4.2 == v5.2) with g70 | g70
   ·replace h := ak h g70
    rcases bE v6.2.2 with g71 | g71
    ·replace h := ak h g71
     refine zU (zRF (a2 g70 g71)) (r_cN hk69 ?_)
     refine bM rfl ?_
     try replace h := ak h rfl
     refine zS z0 (ab ?_)
     refine r_cR hk68 ?_
     cases h
     refine zAR hQ
    ·replace h := av h g71
     refine zU (zRF (a2 g70 g71)) (r_cN hk69 ?_)
     refine sem_ifF rfl ?_
     try replace h := av h rfl
     refine ae (r_cN hk68 ?_)
     obtain ⟨v22, c74H, h⟩ := bS h
     refine zS (zC1 (lC [] (iC _ _ c74H))) ?_
     obtain ⟨v23, c76H, h⟩ := bS h
     refine zS (zC1 (lC [] (iX _ _ c76H))) ?_
     obtain ⟨v24, c78H, h⟩ := bS h
     refine zS (zC1 (lC [] (con_s_BoxUnpack _ _ c78H))) (sC fun k79 hk79 => ?_)
     refine zS z0 ?_
     revert h; refine zI rfl ?_ ?_ <;> intro h
     ·refine zS z0 (ab ?_)
      refine r_cR hk79 ?_
      cases h
      refine zAR hQ
     ·refine ae (r_cN hk79 ?_)
      refine sC fun k82 hk82 => zS z0 ?_
      revert h; refine zI rfl ?_ ?_ <;> intro h
      ·refine zS zR (ab ?_)
       refine r_cR hk82 ?_
       cases h
       refine zAR hQ
      ·refine ae (r_cN hk82 ?_)
       obtain ⟨v25, c86H, h⟩ := bS h
       refine zS (zC1 (lC [] (con_m_PicMake _ _ c86H))) ?_
       obtain ⟨v26, c88H, h⟩ := bS h
       refine zS (zC1 (lC [] (con_m_BoxPack _ _ _ c88H))) (sC fun k89 hk89 => ?_)
       rcases bE (v25.2.Code == 0) with g90 | g90
       ·replace h := ak h g90
        obtain ⟨v27, c91H, h⟩ := bS h
        refine zU (zC1F (lF [] (iS _ _ c91H)) g90) (r_cN hk89 ?_)
        refine ab ?_
        cases h
        refine zAR hQ
       ·replace h := av h g90
        refine zU (zRF g90) (r_cN hk89 ?_)
        refine ab ?_
        cases h
        refine zAR hQ
   ·replace h := av h g70
    refine zU (zRF g70) (r_cN hk69 ?_)
    refine bM rfl ?_
    try replace h := ak h rfl
    refine zS z0 (ab ?_)
    refine r_cR hk68 ?_
    cases h
    refine zAR hQ

end
end Go.AM
