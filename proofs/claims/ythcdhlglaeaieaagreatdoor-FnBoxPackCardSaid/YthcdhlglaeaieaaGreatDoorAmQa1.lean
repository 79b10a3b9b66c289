/- Pure functions and their contracts. Conditions: none. -/
import Derived.Test.YthcdhlglaeaieaaGreatDoorAmZ
set_option linter.unusedSimpArgs false
set_option linter.unusedVariables false
set_option maxRecDepth 10000
set_option maxHeartbeats 4000000
namespace Go.AM
open Go Go.Proofs
noncomputable section
def ia : (List Int) → Option l26Rd
 | v3 => (some (⟨v3, 0⟩ : l26Rd))
def s_l26Open (v1 : (List Int)) : Option l26Rd :=
 (cond (decide (((v1).length : Int) > 2000)) ((prtH v1 (2000)).bind fun v4 => (ia v4)) (ia v1))
theorem con_s_l26Open (v1 : (List Int)) (rz : l26Rd) (h : s_l26Open v1 = some rz) : Con Tryz.prog C0 32 [.fz 1 (R e_u8 (v1))] []
  (fun x σ' => x = .pt 0 0 ∧ σ' = [.rc [.fz 1 (R e_u8 (rz.b)), .sc (.int .i64 (rz.p))]]) := by
 refine zCon hP 0 [0, 2, 5] [.tmp 2] Tryz.func32 (by unfold Tryz.f32; rfl) fun Q hQ => ?_
 unfold s_l26Open at h
 refine zS z0 (zCut (fun (x : (List Int)) => ⟨[(0, .fz 1 (R e_u8 (x)))], []⟩) ia rz ?_ ?_)
 ·rintro _ v3 h
  simp only [ia] at h
  refine zS z0 (ab ?_)
  cases h
  refine zOR hQ
 ·intro k6 hk6 J5
  refine zS z0 ?_
  revert h; refine zI rfl ?_ ?_ <;> intro h
  ·obtain ⟨v4, c8H, h⟩ := bS h
   obtain ⟨c8A, c8B, c8C⟩ := prtH_some c8H
   try simp only [Int.reduceToNat, Int.toNat_zero, Int.toNat_one, Int.toNat_natCast, List.take_length] at c8C
   refine zU (zRF (a3 c8A c8B c8C)) (zJ J5 [0] () _ h)
  ·refine ae (zJ J5 [0] () _ h)
def ai (v1 : l26Rd) (v2 : Int) : Option (Int × l26Rd) :=
 (cond ((decide (v2 < 1)) || (((v1.b).length : Int) == 0)) (some (0, (⟨v1.b, (IntKind.i64.wrap (v1.p + 1))⟩ : l26Rd))) (cond (decide ((IntKind.i64.wrap ((IntKind.i64.wrap (v1.p + 1)) - 1)) < ((v1.b).length : Int))) ((idx v1.b ((IntKind.i64.wrap ((IntKind.i64.wrap (v1.p + 1)) - 1)))).bind fun v3 => (gd (v2 != 0) (some ((((IntKind.i64.wrap (v3))).tmod v2), (⟨v1.b, (IntKind.i64.wrap (v1.p + 1))⟩ : l26Rd))))) (gd (((v1.b).length : Int) != 0) ((idx v1.b ((((IntKind.i64.wrap ((IntKind.i64.wrap (v1.p + 1)) - 1))).tmod ((v1.b).length : Int)))).bind fun v4 => (gd (((v1.b).length : Int) != 0) ((idx v1.b ((((IntKind.i64.wrap ((IntKind.i64.wrap ((IntKind.i64.wrap ((IntKind.i64.wrap (v1.p + 1)) - 1)) * 7)) + 3))).tmod ((v1.b).length : Int)))).bind fun v5 => (gd (((v1.b).length : Int) != 0) (gd (v2 != 0) (some ((((bxor .i64 (IntKind.i64.wrap ((IntKind.i64.wrap ((IntKind.i64.wrap ((IntKind.i64.wrap ((IntKind.i64.wrap (v4)) * 131)) + (IntKind.i64.wrap ((IntKind.i64.wrap (v5)) * 1117)))) + (IntKind.i64.wrap ((IntKind.i64.wrap ((IntKind.i64.wrap (v1.p + 1)) - 1)) * 29)))) + (IntKind.i64.wrap ((IntKind.i64.wrap (((IntKind.i64.wrap ((IntKind.i64.wrap (v1.p + 1)) - 1))).tdiv ((v1.b).length : Int))) * 53)))) (IntKind.i64.wrap (((IntKind.i64.wrap ((IntKind.i64.wrap ((IntKind.i64.wrap ((IntKind.i64.wrap ((IntKind.i64.wrap (v4)) * 131)) + (IntKind.i64.wrap ((IntKind.i64.wrap (v5)) * 1117)))) + (IntKind.i64.wrap ((IntKind.i64.wrap ((IntKind.i64.wrap (v1.p + 1)) - 1)) * 29)))) + (IntKind.i64.wrap ((IntKind.i64.wrap (((IntKind.i64.wrap ((IntKind.i64.wrap (v1.p + 1)) - 1))).tdiv ((v1.b).length : Int))) * 53))))).tdiv 64)))).tmod v2), (⟨v1.b, (IntKind.i64.wrap (v1.p + 1))⟩ : l26Rd)))))))))))
theorem ah (v1 : l26Rd) (v2 : Int) (rz : (Int × l26Rd)) (h : ai v1 v2 = some rz) : Con Tryz.prog C0 34 [.pt 0 0, .sc (.int .i64 (v2))] [.rc [.fz 1 (R e_u8 (v1.b)), .sc (.int .i64 (v1.p))]]
  (fun x σ' => x = .sc (.int .i64 (rz.1)) ∧ σ' = [.rc [.fz 1 (R e_u8 (rz.2.b)), .sc (.int .i64 (rz.2.p))]]) := by
 refine zCon hP 1 [0, 1, 4, 5, 6, 24, 36] [.tmp 4] Tryz.func34 (by unfold Tryz.f34; rfl) fun Q hQ => ?_
 unfold ai at h
 refine zS z0 (zS z0 ?_)
 refine sC fun k3 hk3 => zS zR ?_
 revert h; refine zI rfl ?_ ?_ <;> intro h
 ·refine zS z0 (ab ?_)
  refine r_cR hk3 ?_
  cases h
  refine zAR hQ
 ·refine ae (r_cN hk3 ?_)
  refine zS z0 (sC fun k7 hk7 => ?_)
  refine zS z0 ?_
  revert h; refine zI rfl ?_ ?_ <;> intro h
  ·obtain ⟨v3, h, c10⟩ := bI h
   obtain ⟨g11, h⟩ := gNe h
   refine zS (zRF (a2 c10 g11)) (ab ?_)
   refine r_cR hk7 ?_
   cases h
   refine zAR hQ
  ·refine ae (r_cN hk7 ?_)
   obtain ⟨g13, h⟩ := gNe h
   obtain ⟨v4, h, c14⟩ := bI h
   obtain ⟨g15, h⟩ := gNe h
   obtain ⟨v5, h, c16⟩ := bI h
   obtain ⟨g17, h⟩ := gNe h
   refine zS (zRF (a4 g13 c14 g15 (a2 c16 g17))) (zS zR ?_)
   obtain ⟨g20, h⟩ := gNe h
   refine zS (zRF g20) (ab ?_)
   cases h
   refine zAR hQ
def bb (v1 : l26Rd) (v2 : (List Int)) : Option (Int × l26Rd) :=
 ((ai v1 ((v2).length : Int)).bind fun v3 => ((idx v2 (v3.1)).bind fun v4 => (some (v4, v3.2))))
theorem aN (v1 : l26Rd) (v2 : (List Int)) (rz : (Int × l26Rd)) (h : bb v1 v2 = some rz) : Con Tryz.prog C0 35 [.pt 0 0, .fz 1 (R e_i64 (v2))] [.rc [.fz 1 (R e_u8 (v1.b)), .sc (.int .i64 (v1.p))]]
  (fun x σ' => x = .sc (.int .i64 (rz.1)) ∧ σ' = [.rc [.fz 1 (R e_u8 (rz.2.b)), .sc (.int .i64 (rz.2.p))]]) := by
 refine zCon hP 1 [0, 1, 4] [.tmp 4] Tryz.func35 (by unfold Tryz.f35; rfl) fun Q hQ => ?_
 unfold bb at h
 refine zS z0 ?_
 obtain ⟨v3, c3H, h⟩ := bS h
 obtain ⟨v4, h, c4⟩ := bI h
 refine zS (zC1F (lC [[0]] (ah _ _ _ c3H)) c4) (ab ?_)
 cases h
 refine zAR hQ
def s_l20Number (v1 : l26Rd) : Option (Int × l26Rd) :=
 ((bb v1 [1, 1, 2, 3, 4, 5, 1000000]).bind fun v2 => (some (v2.1, v2.2)))
theorem con_s_l20Number (v1 : l26Rd) (rz : (Int × l26Rd)) (h : s_l20Number v1 = some rz) : Con Tryz.prog C0 33 [.pt 0 0] [.rc [.fz 1 (R e_u8 (v1.b)), .sc (.int .i64 (v1.p))]]
  (fun x σ' => x = .sc (.int .i64 (rz.1)) ∧ σ' = [.rc [.fz 1 (R e_u8 (rz.2.b)), .sc (.int .i64 (rz.2.p))]]) := by
 refine zCon hP 1 [0, 2] [.tmp 2] Tryz.func33 (by unfold Tryz.f33; rfl) fun Q hQ => ?_
 unfold s_l20Number at h
 refine zS z0 ?_
 obtain ⟨v2, c3H, h⟩ := bS h
 refine zS (zC1 (lC [[0]] (aN _ _ _ c3H))) (ab ?_)
 cases h
 refine zAR hQ
def eL (v1 : Int) : Bool → Option Int
 | v3 => (cond v3 (some 16) (cond (v1 == 6) (some 5) (some 0)))
def fw (v1 : Int) : Bool → Option Int
 | v2 => (cond v2 (some 32) (cond (v1 == 3) (some 64) (cond (v1 == 4) (eL v1 (v1 == 4)) (cond (v1 == 7) (eL v1 (v1 == 7)) (cond (v1 == 8) (eL v1 (v1 == 8)) (eL v1 (v1 == 10)))))))
def fV (v1 : Int) : Option Int :=
 (cond (v1 == 1) (fw v1 (v1 == 1)) (cond (v1 == 2) (fw v1 (v1 == 2)) (cond (v1 == 5) (fw v1 (v1 == 5)) (fw v1 (v1 == 9)))))
theorem iM (v1 : Int) (rz : Int) (h : fV v1 = some rz) : Con Tryz.prog C0 236 [.sc (.int .i64 (v1))] []
  (fun x σ' => x = .sc (.int .i64 (rz)) ∧ σ' = []) := by
 refine zCon hP 0 [0, 2, 3, 4, 9, 11, 16] [.tmp 2] Tryz.func236 (by unfold Tryz.f236; rfl) fun Q hQ => ?_
 unfold fV at h
 refine zS z0 (sC fun k2 hk2 => ?_)
 refine zS z0 (sB fun k4 hk4 => ?_)
 refine zCut (fun (x : Bool) => ⟨[(3, .sc (.int .i64 (v1))), (4, .sc (.bool (x)))], []⟩) (fw v1) rz ?_ ?_
 ·rintro _ v2 h
  simp only [fw] at h
  revert h; refine zI rfl ?_ ?_ <;> intro h
  ·refine zS z0 (ab ?_)
   refine r_bR hk4 (r_cR hk2 ?_)
   cases h
   refine zAR hQ
  ·refine zS z0 ?_
   revert h; refine zI rfl ?_ ?_ <;> intro h
   ·refine zS z0 (ab ?_)
    refine r_bR hk4 (r_cR hk2 ?_)
    cases h
    refine zAR hQ
   ·refine zCut (fun (x : Bool) => ⟨[(3, .sc (.int .i64 (v1))), (11, .sc (.bool (x)))], []⟩) (eL v1) rz ?_ ?_
    ·rintro _ v3 h
     simp only [eL] at h
     revert h; refine zI rfl ?_ ?_ <;> intro h
     ·refine zS z0 (ab ?_)
      refine r_bR hk4 (r_cR hk2 ?_)
      cases h
      refine zAR hQ
     ·refine zS z0 ?_
      revert h; refine zI rfl ?_ ?_ <;> intro h
      ·refine zS z0 (ab ?_)
       refine r_bR hk4 (r_cR hk2 ?_)
       cases h
       refine zAR hQ
      ·refine ae (r_bN hk4 ?_)
       refine r_cN hk2 (zS z0 ?_)
       refine ab ?_
       cases h
       refine zAR hQ
    ·intro k19 hk19 J18
     refine zS z0 ?_
     revert h; refine zI rfl ?_ ?_ <;> intro h
     ·refine ae (zJ J18 [3, 11] () _ h)
     ·refine zS z0 ?_
      revert h; refine zI rfl ?_ ?_ <;> intro h
      ·refine ae (zJ J18 [3, 11] () _ h)
      ·refine zS z0 ?_
       revert h; refine zI rfl ?_ ?_ <;> intro h
       ·refine ae (zJ J18 [3, 11] () _ h)
       ·refine zU z0 (zJ J18 [3, 11] () _ h)
 ·intro k24 hk24 J23
  refine zS z0 ?_
  revert h; refine zI rfl ?_ ?_ <;> intro h
  ·refine ae (zJ J23 [3, 4] () _ h)
  ·refine zS z0 ?_
   revert h; refine zI rfl ?_ ?_ <;> intro h
   ·refine ae (zJ J23 [3, 4] () _ h)
   ·refine zS z0 ?_
    revert h; refine zI rfl ?_ ?_ <;> intro h
    ·refine ae (zJ J23 [3, 4] () _ h)
    ·refine zU z0 (zJ J23 [3, 4] () _ h)
def s_l2Arg_j20 (v2 : Int) (v4 : (Int × l26Rd)) (v5 : (Int × l26Rd)) : Int → Option (DevArg × l26Rd)
 | v6 => (some ((⟨v2, v4.1, v6⟩ : DevArg), v5.2))
def s_l2Arg_j44 (v2 : Int) (v12 : (List Int)) (v13 : Int) : Int → Option (DevArg × l26Rd)
 | v16 => (some ((⟨v2, v16, 0⟩ : DevArg), (⟨v12, v13⟩ : l26Rd)))
def s_l2Arg_j38 (v2 : Int) : ((List Int) × Int × Int) → Option (DevArg × l26Rd)
 | (v12, v13, v14) => ((fV v2).bind fun v17 => (cond (decide (v14 ≥ v17)) (s_l2Arg_j44 v2 v12 v13 0) (s_l2Arg_j44 v2 v12 v13 v14)))
def dJ (v1 : l26Rd) (v2 : Int) : Option (DevArg × l26Rd) :=
 (cond (v2 == 11) ((bb v1 [0, 1, 2, 3, 5, (-1), (-7), 10, 100, 32767, (-32768), 1000]).bind fun v3 => (some ((⟨v2, v3.1, 0⟩ : DevArg), v3.2))) (cond (v2 == 12) ((bb v1 [0, 1, 5, (-5), 25, (-15), 999999999, (-999999999), 3, 1001, 7]).bind fun v4 => ((ai v4.2 6).bind fun v5 => (cond (((v4.1).tmod 10) == 0) (s_l2Arg_j20 v2 v4 v5 1) (s_l2Arg_j20 v2 v4 v5 (IntKind.i64.wrap (1 + v5.1)))))) (cond (v2 == 13) ((ai v1 4).bind fun v7 => (some ((⟨v2, v7.1, 0⟩ : DevArg), v7.2))) ((ai v1 4).bind fun v8 => ((ai v8.2 6).bind fun v18 => (cond (v18.1 == 0) ((fV v2).bind fun v19 => ((ai v18.2 v19).bind fun v20 => (s_l2Arg_j38 v2 (v20.2.b, v20.2.p, v20.1)))) (s_l2Arg_j38 v2 (v18.2.b, v18.2.p, v8.1))))))))
theorem bC (v1 : l26Rd) (v2 : Int) (rz : (DevArg × l26Rd)) (h : dJ v1 v2 = some rz) : Con Tryz.prog C0 182 [.pt 0 0, .sc (.int .i64 (v2))] [.rc [.fz 1 (R e_u8 (v1.b)), .sc (.int .i64 (v1.p))]]
  (fun x σ' => x = .agg [.sc (.int .i64 (rz.1.Kind)), .sc (.int .i64 (rz.1.N)), .sc (.int .i64 (rz.1.P))] ∧ σ' = [.rc [.fz 1 (R e_u8 (rz.2.b)), .sc (.int .i64 (rz.2.p))]]) := by
 refine zCon hP 1 [0, 1, 4, 5, 6, 7, 8, 9, 16, 26, 31, 41, 49] [.cell 4 171] Tryz.func182 (by unfold Tryz.f182; rfl) fun Q hQ => ?_
 unfold dJ at h
 refine zS z0 (sC fun k2 hk2 => ?_)
 refine zS z0 (sB fun k4 hk4 => ?_)
 refine zS z0 ?_
 revert h; refine zI rfl ?_ ?_ <;> intro h
 ·obtain ⟨v3, c7H, h⟩ := bS h
  refine zS (zC1 (lC [[0]] (aN _ _ _ c7H))) (ab ?_)
  refine r_bR hk4 (r_cR hk2 ?_)
  cases h
  refine zAR hQ
 ·refine zS z0 ?_
  revert h; refine zI rfl ?_ ?_ <;> intro h
  ·obtain ⟨v4, c10H, h⟩ := bS h
   refine zS (zC1 (lC [[0]] (aN _ _ _ c10H))) ?_
   obtain ⟨v5, c12H, h⟩ := bS h
   refine zS (zC1 (lC [[0]] (ah _ _ _ c12H))) (zCut (fun (x : Int) => ⟨[(1, .sc (.int .i64 (v2))), (4, .pt 1 0), (5, .sc (.int .i64 (v4.1))), (6, .sc (.int .i64 (x)))], [.rc [.fz 1 (R e_u8 (v5.2.b)), .sc (.int .i64 (v5.2.p))], .rc [.sc (.int .i64 (0)), .sc (.int .i64 (0)), .sc (.int .i64 (0))]]⟩) (s_l2Arg_j20 v2 v4 v5) rz ?_ ?_)
   ·rintro _ v6 h
    simp only [s_l2Arg_j20] at h
    refine zS z0 (ab ?_)
    refine r_bR hk4 (r_cR hk2 ?_)
    cases h
    refine zAR hQ
   ·intro k16 hk16 J15
    refine zS zR ?_
    revert h; refine zI rfl ?_ ?_ <;> intro h
    ·refine zU z0 (zJ J15 [1, 4, 5, 6] () _ h)
    ·refine ae (zJ J15 [1, 4, 5, 6] () _ h)
  ·refine zS z0 ?_
   revert h; refine zI rfl ?_ ?_ <;> intro h
   ·obtain ⟨v7, c20H, h⟩ := bS h
    refine zS (zC1 (lC [[0]] (ah _ _ _ c20H))) (ab ?_)
    refine r_bR hk4 (r_cR hk2 ?_)
    cases h
    refine zAR hQ
   ·refine ae (r_bN hk4 ?_)
    refine r_cN hk2 ?_
    obtain ⟨v8, c22H, h⟩ := bS h
    refine zS (zC1 (lC [[0]] (ah _ _ _ c22H))) (zCut (fun (x : ((List Int) × Int × Int)) => ⟨[(1, .sc (.int .i64 (v2))), (4, .pt 1 0), (7, .sc (.int .i64 (x.2.2)))], [.rc [.fz 1 (R e_u8 (x.1)), .sc (.int .i64 (x.2.1))], .rc [.sc (.int .i64 (0)), .sc (.int .i64 (0)), .sc (.int .i64 (0))]]⟩) (s_l2Arg_j38 v2) rz ?_ ?_)
    ·rintro _ ⟨v12, v13, v14⟩ h
     simp only [s_l2Arg_j38] at h
     refine zCut (fun (x : Int) => ⟨[(1, .sc (.int .i64 (v2))), (4, .pt 1 0), (7, .sc (.int .i64 (x)))], [.rc [.fz 1 (R e_u8 (v12)), .sc (.int .i64 (v13))], .rc [.sc (.int .i64 (0)), .sc (.int .i64 (0)), .sc (.int .i64 (0))]]⟩) (s_l2Arg_j44 v2 v12 v13) rz ?_ ?_
     ·rintro _ v16 h
      simp only [s_l2Arg_j44] at h
      refine zS z0 (ab ?_)
      cases h
      refine zAR hQ
     ·intro k31 hk31 J30
      obtain ⟨v17, c33H, h⟩ := bS h
      refine zS (zC1 (lF [] (iM _ _ c33H))) ?_
      revert h; refine zI rfl ?_ ?_ <;> intro h
      ·refine zU z0 (zJ J30 [1, 4, 7] () _ h)
      ·refine ae (zJ J30 [1, 4, 7] () _ h)
    ·intro k35 hk35 J34
     obtain ⟨v18, c37H, h⟩ := bS h
     refine zS (zC1 (lC [[0]] (ah _ _ _ c37H))) ?_
     revert h; refine zI rfl ?_ ?_ <;> intro h
     ·obtain ⟨v19, c38H, h⟩ := bS h
      obtain ⟨v20, c39H, h⟩ := bS h
      refine zU (zC2 (lF [] (iM _ _ c38H)) (lC [[0]] (ah _ _ _ c39H))) (zJ J34 [1, 4, 7] () _ h)
     ·refine ae (zJ J34 [1, 4, 7] () _ h)
def s_l4Bit (v1 : l26Rd) : Option (DevArg × l26Rd) :=
 ((bb v1 [1, 1, 2, 3, 3, 4, 6, 7, 8]).bind fun v2 => ((dJ v2.2 v2.1).bind fun v3 => (some (v3.1, v3.2))))
theorem con_s_l4Bit (v1 : l26Rd) (rz : (DevArg × l26Rd)) (h : s_l4Bit v1 = some rz) : Con Tryz.prog C0 181 [.pt 0 0] [.rc [.fz 1 (R e_u8 (v1.b)), .sc (.int .i64 (v1.p))]]
  (fun x σ' => x = .agg [.sc (.int .i64 (rz.1.Kind)), .sc (.int .i64 (rz.1.N)), .sc (.int .i64 (rz.1.P))] ∧ σ' = [.rc [.fz 1 (R e_u8 (rz.2.b)), .sc (.int .i64 (rz.2.p))]]) := by
 refine zCon hP 1 [0, 2] [.cell 2 171] Tryz.func181 (by unfold Tryz.f181; rfl) fun Q hQ => ?_
 unfold s_l4Bit at h
 refine zS z0 ?_
 obtain ⟨v2, c3H, h⟩ := bS h
 obtain ⟨v3, c4H, h⟩ := bS h
 refine zS (zC2 (lC [[0]] (aN _ _ _ c3H)) (lC [[0]] (bC _ _ _ c4H))) (ab ?_)
 cases h
 refine zAR hQ
def fM (v1 : l26Rd) : Option (DevArg × l26Rd) :=
 ((bb v1 [9, 9, 9, 11, 11, 7, 8]).bind fun v2 => ((dJ v2.2 v2.1).bind fun v3 => (some (v3.1, v3.2))))
theorem fD (v1 : l26Rd) (rz : (DevArg × l26Rd)) (h : fM v1 = some rz) : Con Tryz.prog C0 183 [.pt 0 0] [.rc [.fz 1 (R e_u8 (v1.b)), .sc (.int .i64 (v1.p))]]
  (fun x σ' => x = .agg [.sc (.int .i64 (rz.1.Kind)), .sc (.int .i64 (rz.1.N)), .sc (.int .i64 (rz.1.P))] ∧ σ' = [.rc [.fz 1 (R e_u8 (rz.2.b)), .sc (.int .i64 (rz.2.p))]]) := by
 refine zCon hP 1 [0, 2] [.cell 2 171] Tryz.func183 (by unfold Tryz.f183; rfl) fun Q hQ => ?_
 unfold fM at h
 refine zS z0 ?_
 obtain ⟨v2, c3H, h⟩ := bS h
 obtain ⟨v3, c4H, h⟩ := bS h
 refine zS (zC2 (lC [[0]] (aN _ _ _ c3H)) (lC [[0]] (bC _ _ _ c4H))) (ab ?_)
 cases h
 refine zAR hQ
def s_l4Real (v1 : l26Rd) : Option (DevArg × l26Rd) :=
 ((bb v1 [10, 10, 10, 12, 13]).bind fun v2 => ((dJ v2.2 v2.1).bind fun v3 => (some (v3.1, v3.2))))
theorem con_s_l4Real (v1 : l26Rd) (rz : (DevArg × l26Rd)) (h : s_l4Real v1 = some rz) : Con Tryz.prog C0 184 [.pt 0 0] [.rc [.fz 1 (R e_u8 (v1.b)), .sc (.int .i64 (v1.p))]]
  (fun x σ' => x = .agg [.sc (.int .i64 (rz.1.Kind)), .sc (.int .i64 (rz.1.N)), .sc (.int .i64 (rz.1.P))] ∧ σ' = [.rc [.fz 1 (R e_u8 (rz.2.b)), .sc (.int .i64 (rz.2.p))]]) := by
 refine zCon hP 1 [0, 2] [.cell 2 171] Tryz.func184 (by unfold Tryz.f184; rfl) fun Q hQ => ?_
 unfold s_l4Real at h
 refine zS z0 ?_
 obtain ⟨v2, c3H, h⟩ := bS h
 obtain ⟨v3, c4H, h⟩ := bS h
 refine zS (zC2 (lC [[0]] (aN _ _ _ c3H)) (lC [[0]] (bC _ _ _ c4H))) (ab ?_)
 cases h
 refine zAR hQ
def gB (v17 : Int) (v18 : Int) (v19 : Int) : ((List Int) × Int × Int × Int × Int) → Option (Elem × l26Rd)
 | (v24, v25, v26, v27, v28) => ((ai (⟨v24, v25⟩ : l26Rd) 6).bind fun v29 => (some ((⟨(IntKind.i64.wrap (5 + v29.1)), [(⟨v17, v18, v19⟩ : DevArg), (⟨v26, v27, v28⟩ : DevArg)]⟩ : Elem), v29.2)))
def gF : ((List Int) × Int × Int × Int × Int × Int × Int × Int) → Option (Elem × l26Rd)
 | (v15, v16, v17, v18, v19, v20, v21, v22) => ((ai (⟨v15, v16⟩ : l26Rd) 4).bind fun v30 => (cond (v30.1 == 0) (gB v17 v18 v19 (v30.2.b, v30.2.p, v17, v18, v19)) (gB v17 v18 v19 (v30.2.b, v30.2.p, v20, v21, v22))))
def gC (v2 : (Int × l26Rd)) : Bool → Option (Elem × l26Rd)
 | v5 => (cond v5 ((s_l4Bit v2.2).bind fun v6 => (some ((⟨2, [v6.1]⟩ : Elem), v6.2))) (cond (v2.1 == 5) ((ai v2.2 2).bind fun v7 => ((s_l4Bit v7.2).bind fun v8 => ((dJ v8.2 5).bind fun v9 => (some ((⟨(IntKind.i64.wrap (3 + v7.1)), [v8.1, v9.1]⟩ : Elem), v9.2))))) ((fM v2.2).bind fun v10 => ((fM v10.2).bind fun v11 => ((ai v11.2 2).bind fun v31 => (cond (v31.1 == 0) ((s_l4Real v31.2).bind fun v32 => ((s_l4Real v32.2).bind fun v33 => (gF (v33.2.b, v33.2.p, v32.1.Kind, v32.1.N, v32.1.P, v33.1.Kind, v33.1.N, v33.1.P)))) (gF (v31.2.b, v31.2.p, v10.1.Kind, v10.1.N, v10.1.P, v11.1.Kind, v11.1.N, v11.1.P))))))))
def fI (v2 : (Int × l26Rd)) : Bool → Option (Elem × l26Rd)
 | v3 => (cond v3 ((s_l4Bit v2.2).bind fun v4 => (some ((⟨1, [v4.1]⟩ : Elem), v4.2))) (cond (v2.1 == 3) (gC v2 (v2.1 == 3)) (gC v2 (v2.1 == 4))))
def cd (v1 : l26Rd) : Option (Elem × l26Rd) :=
 ((ai v1 8).bind fun v2 => (cond (v2.1 == 0) (fI v2 (v2.1 == 0)) (cond (v2.1 == 1) (fI v2 (v2.1 == 1)) (fI v2 (v2.1 == 2)))))
theorem bU (v1 : l26Rd) (rz : (Elem × l26Rd)) (h : cd v1 = some rz) : Con Tryz.prog C0 98 [.pt 0 0] [.rc [.fz 1 (R e_u8 (v1.b)), .sc (.int .i64 (v1.p))]]
  (fun x σ' => x = .agg [.sc (.int .i64 (rz.1.Op)), .sl 1 0 ((rz.1.Args).length)] ∧ σ' = [.rc [.fz 1 (R e_u8 (rz.2.b)), .sc (.int .i64 (rz.2.p))], .arr true 3 (R aa (rz.1.Args))]) := by
 refine zCon hP 1 [0, 2, 3, 4, 6, 7, 15, 22, 39, 46] [.cell 2 87] Tryz.func98 (by unfold Tryz.f98; rfl) fun Q hQ => ?_
 unfold cd at h
 refine zS z0 (sC fun k2 hk2 => ?_)
 obtain ⟨v2, c4H, h⟩ := bS h
 refine zS (zC1 (lC [[0]] (ah _ _ _ c4H))) (sB fun k5 hk5 => ?_)
 refine zCut (fun (x : Bool) => ⟨[(0, .pt 0 0), (2, .pt 1 0), (6, .sc (.int .i64 (v2.1))), (7, .sc (.bool (x)))], [.rc [.fz 1 (R e_u8 (v2.2.b)), .sc (.int .i64 (v2.2.p))], .rc [.sc (.int .i64 (0)), .sc (.slice none 0 0)]]⟩) (fI v2) rz ?_ ?_
 ·rintro _ v3 h
  simp only [fI] at h
  revert h; refine zI rfl ?_ ?_ <;> intro h
  ·obtain ⟨v4, c9H, h⟩ := bS h
   refine zS (zC1 (lC [[0]] (con_s_l4Bit _ _ c9H))) (ab ?_)
   refine r_bR hk5 (r_cR hk2 ?_)
   cases h
   refine zOR hQ
  ·refine zCut (fun (x : Bool) => ⟨[(0, .pt 0 0), (2, .pt 1 0), (6, .sc (.int .i64 (v2.1))), (15, .sc (.bool (x)))], [.rc [.fz 1 (R e_u8 (v2.2.b)), .sc (.int .i64 (v2.2.p))], .rc [.sc (.int .i64 (0)), .sc (.slice none 0 0)]]⟩) (gC v2) rz ?_ ?_
   ·rintro _ v5 h
    simp only [gC] at h
    revert h; refine zI rfl ?_ ?_ <;> intro h
    ·obtain ⟨v6, c12H, h⟩ := bS h
     refine zS (zC1 (lC [[0]] (con_s_l4Bit _ _ c12H))) (ab ?_)
     refine r_bR hk5 (r_cR hk2 ?_)
     cases h
     refine zOR hQ
    ·refine zS z0 ?_
     revert h; refine zI rfl ?_ ?_ <;> intro h
     ·obtain ⟨v7, c15H, h⟩ := bS h
      obtain ⟨v8, c16H, h⟩ := bS h
      obtain ⟨v9, c17H, h⟩ := bS h
      refine zS (zC3 (lC [[0]] (ah _ _ _ c15H)) (lC [[0]] (con_s_l4Bit _ _ c16H)) (lC [[0]] (bC _ _ _ c17H))) (ab ?_)
      refine r_bR hk5 (r_cR hk2 ?_)
      cases h
      refine zOR hQ
     ·refine ae (r_bN hk5 ?_)
      refine r_cN hk2 ?_
      obtain ⟨v10, c19H, h⟩ := bS h
      refine zS (zC1 (lC [[0]] (fD _ _ c19H))) ?_
      obtain ⟨v11, c21H, h⟩ := bS h
      refine zS (zC1 (lC [[0]] (fD _ _ c21H))) (zCut (fun (x : ((List Int) × Int × Int × Int × Int × Int × Int × Int)) => ⟨[(0, .pt 0 0), (2, .pt 1 0), (3, .pt 2 0), (4, .pt 3 0)], [.rc [.fz 1 (R e_u8 (x.1)), .sc (.int .i64 (x.2.1))], .rc [.sc (.int .i64 (0)), .sc (.slice none 0 0)], .rc [.sc (.int .i64 (x.2.2.1)), .sc (.int .i64 (x.2.2.2.1)), .sc (.int .i64 (x.2.2.2.2.1))], .rc [.sc (.int .i64 (x.2.2.2.2.2.1)), .sc (.int .i64 (x.2.2.2.2.2.2.1)), .sc (.int .i64 (x.2.2.2.2.2.2.2))]]⟩) gF rz ?_ ?_)
      ·rintro _ ⟨v15, v16, v17, v18, v19, v20, v21, v22⟩ h
       simp only [gF] at h
       refine zCut (fun (x : ((List Int) × Int × Int × Int × Int)) => ⟨[(0, .pt 0 0), (2, .pt 1 0), (3, .pt 2 0), (4, .pt 3 0)], [.rc [.fz 1 (R e_u8 (x.1)), .sc (.int .i64 (x.2.1))], .rc [.sc (.int .i64 (0)), .sc (.slice none 0 0)], .rc [.sc (.int .i64 (v17)), .sc (.int .i64 (v18)), .sc (.int .i64 (v19))], .rc [.sc (.int .i64 (x.2.2.1)), .sc (.int .i64 (x.2.2.2.1)), .sc (.int .i64 (x.2.2.2.2))]]⟩) (gB v17 v18 v19) rz ?_ ?_
       ·rintro _ ⟨v24, v25, v26, v27, v28⟩ h
        simp only [gB] at h
        refine sC fun k29 hk29 => ?_
        obtain ⟨v29, c30H, h⟩ := bS h
        with_reducible refine sem_plan (id := 18) (.take 0 (.take 3 (.take 4 (.two 1 5 (.take 2 (.last 5 (.take 6 (.last 7 .done)))) (.one 1 (.take 2 (.take 6 (.last 7 .done)))))))) [2, 3] ?_ ?_
        focus kernel_rfl
        repeat' (first | with_reducible refine And.intro ?_ ?_ | ((with_reducible refine i_call (n := 34) ?_); refine call_open [[0]] ?_) | ((with_reducible refine i_callW (n := 34) ?_); refine dK (ah (⟨v24, v25⟩ : l26Rd) 6 v29 c30H) ?_; rintro x σ' ⟨rfl, rfl⟩ <;> ((with_reducible refine bG ?_))) | exact True.intro | with_reducible assumption | exact fun hf => False.elim hf | (intro hg; first | (simp +contextual [hg]; done) | grind) | omega | simp (decide := true) only [go_sem, reduceIte, Nat.reduceAdd, Int.reduceToNat, Nat.reduceSub, Nat.reduceMul, Nat.reduceMod])
        all_goals
         refine r_cN hk29 (ab ?_)
         cases h
         refine zOR hQ
       ·intro k32 hk32 J31
        obtain ⟨v30, c34H, h⟩ := bS h
        refine zS (zC1 (lC [[0]] (ah _ _ _ c34H))) ?_
        revert h; refine zI rfl ?_ ?_ <;> intro h
        ·refine zU z0 (zJ J31 [0, 2, 3, 4] () _ h)
        ·refine ae (zJ J31 [0, 2, 3, 4] () _ h)
      ·intro k36 hk36 J35
       obtain ⟨v31, c38H, h⟩ := bS h
       refine zS (zC1 (lC [[0]] (ah _ _ _ c38H))) ?_
       revert h; refine zI rfl ?_ ?_ <;> intro h
       ·obtain ⟨v32, c40H, h⟩ := bS h
        refine zS (zC1 (lC [[0]] (con_s_l4Real _ _ c40H))) ?_
        obtain ⟨v33, c41H, h⟩ := bS h
        refine zU (zC1 (lC [[0]] (con_s_l4Real _ _ c41H))) (zJ J35 [0, 2, 3, 4] () _ h)
       ·refine ae (zJ J35 [0, 2, 3, 4] () _ h)
   ·intro k43 hk43 J42
    refine zS z0 ?_
    revert h; refine zI rfl ?_ ?_ <;> intro h
    ·refine ae (zJ J42 [0, 2, 6, 15] () _ h)
    ·refine zU z0 (zJ J42 [0, 2, 6, 15] () _ h)
 ·intro k46 hk46 J45
  refine zS z0 ?_
  revert h; refine zI rfl ?_ ?_ <;> intro h
  ·refine ae (zJ J45 [0, 2, 6, 7] () _ h)
  ·refine zS z0 ?_
   revert h; refine zI rfl ?_ ?_ <;> intro h
   ·refine ae (zJ J45 [0, 2, 6, 7] () _ h)
   ·refine zU z0 (zJ J45 [0, 2, 6, 7] () _ h)
def s_l7Stair_j5 : ((List Int) × Int × Int × Int × (List DevArg) × (List Net)) → Option (Net × l26Rd)
 | (v15, v16, v17, v18, v19, v20) => (some ((⟨v17, v18, v19, v20⟩ : Net), (⟨v15, v16⟩ : l26Rd)))
def s_l7Stair_s9 (v2 : Int) : ((List Int) × Int × Int × Int × (List DevArg) × (List Net) × Int) → Option (((List Int) × Int × Int × Int × (List DevArg) × (List Net) × Int) ⊕ ((List Int) × Int × Int × Int × (List DevArg) × (List Net)))
 | (v22, v23, v24, v25, v26, v27, v28) => (cond (decide (v28 < v2)) ((cd (⟨v22, v23⟩ : l26Rd)).bind fun v31 => (some (.inl (v31.2.b, v31.2.p, (IntKind.i64.wrap (2 + ((v28).tmod 2))), 0, [], [(⟨1, v31.1.Op, v31.1.Args, []⟩ : Net), (⟨v24, v25, v26, v27⟩ : Net)], (IntKind.i64.wrap (v28 + 1)))))) (some (.inr (v22, v23, v24, v25, v26, v27))))
def s_l7Stair (v1 : l26Rd) (v2 : Int) : Option (Net × l26Rd) :=
 ((cd v1).bind fun v3 => ((loop (s_l7Stair_s9 v2) (v3.2.b, v3.2.p, 1, v3.1.Op, v3.1.Args, [], 1)).bind (fun v30 => (s_l7Stair_j5 (v30.1, v30.2.1, v30.2.2.1, v30.2.2.2.1, v30.2.2.2.2.1, v30.2.2.2.2.2)))))
theorem con_s_l7Stair (v1 : l26Rd) (v2 : Int) (rz : (Net × l26Rd)) (h : s_l7Stair v1 v2 = some rz) : Con Tryz.prog C0 130 [.pt 0 0, .sc (.int .i64 (v2))] [.rc [.fz 1 (R e_u8 (v1.b)), .sc (.int .i64 (v1.p))]]
  (fun x σ' => x = .agg [.sc (.int .i64 (rz.1.Kind)), .sc (.int .i64 (rz.1.One_Op)), .sl 1 0 ((rz.1.One_Args).length), .sl 2 0 ((rz.1.Kids).length)] ∧ σ' = [.rc [.fz 1 (R e_u8 (rz.2.b)), .sc (.int .i64 (rz.2.p))], .arr true 3 (R aa (rz.1.One_Args)), .arr true 4 (R aq (rz.1.Kids))]) := by
 refine zCon hP 1 [0, 1, 4, 5, 6, 12] [.cell 4 133] Tryz.func130 (by unfold Tryz.f130; rfl) fun Q hQ => ?_
 unfold s_l7Stair at h
 refine zS z0 ?_
 obtain ⟨v3, c3H, h⟩ := bS h
 refine zS (zC1 (lC [[0]] (bU _ _ c3H))) (zCut (fun (x : ((List Int) × Int × Int × Int × (List DevArg) × (List Net))) => ⟨[(4, .pt 1 0), (5, .pt 2 0)], [.rc [.fz 1 (R e_u8 (x.1)), .sc (.int .i64 (x.2.1))], .rc [.sc (.int .i64 (0)), .sc (.int .i64 (0)), .sc (.slice none 0 0), .sc (.slice none 0 0)], .rc [.sc (.int .i64 (x.2.2.1)), .sc (.int .i64 (x.2.2.2.1)), .sl 3 0 ((x.2.2.2.2.1).length), .sl 4 0 ((x.2.2.2.2.2).length)], .arr true 3 (R aa (x.2.2.2.2.1)), .arr true 4 (R aq (x.2.2.2.2.2))]⟩) s_l7Stair_j5 rz ?_ ?_)
 ·rintro _ ⟨v15, v16, v17, v18, v19, v20⟩ h
  simp only [s_l7Stair_j5] at h
  refine zS z0 (ab ?_)
  cases h
  refine zOR hQ
 ·intro k24 hk24 J23
  refine zS z0 (sB fun k26 hk26 => ?_)
  obtain ⟨oq37, hLq37, hKq37⟩ := bS h
  clear h
  refine eg [0, 1, 4, 5, 6] [0, 1, 3, 2, 2000003] (fun (_ : Unit) (x : ((List Int) × Int × Int × Int × (List DevArg) × (List Net) × Int)) => (⟨[(0, .pt 0 0), (1, .sc (.int .i64 (v2))), (4, .pt 1 0), (5, .pt 2 0), (6, .sc (.int .i64 (x.2.2.2.2.2.2)))], [.rc [.fz 1 (R e_u8 (x.1)), .sc (.int .i64 (x.2.1))], .rc [.sc (.int .i64 (0)), .sc (.int .i64 (0)), .sc (.slice none 0 0), .sc (.slice none 0 0)], .rc [.sc (.int .i64 (x.2.2.1)), .sc (.int .i64 (x.2.2.2.1)), .sl 3 0 ((x.2.2.2.2.1).length), .sl 4 0 ((x.2.2.2.2.2.1).length)], .arr true 3 (R aa (x.2.2.2.2.1)), .arr true 4 (R aq (x.2.2.2.2.2.1))]⟩ : St)) (fun (_ : Unit) (x : ((List Int) × Int × Int × Int × (List DevArg) × (List Net) × Int)) => True) (s_l7Stair_s9 v2) () (v3.2.b, v3.2.p, 1, v3.1.Op, v3.1.Args, [], 1) hLq37 (by rfl) (by rfl) ⟨?_, trivial⟩ ?_
  ·exact zSd
  ·rintro nq37 _ ⟨v22, v23, v24, v25, v26, v27, v28⟩ xq37 kq37 hkq37 - h hIq37 hEq37
   simp only [s_l7Stair_s9] at h
   refine sC fun k38 hk38 => zS z0 ?_
   revert h; refine zI rfl ?_ ?_ <;> intro h
   ·refine ae (r_cN hk38 ?_)
    refine sC fun k40 hk40 => sB fun k41 hk41 => ?_
    obtain ⟨v31, c42H, h⟩ := bS h
    refine zU (zPC1 (.take 0 (.take 1 (.take 2 (.take 3 (.take 6 (.one 4 (.take 5 (.last 7 (.take 8 (.last 9 .done)))))))))) [2] (lC [[0]] (bU _ _ c42H))) (r_bN hk41 ?_)
    refine r_cN hk40 (zU z0 ?_)
    refine zBvd hkq37 h hIq37 [0, 1, 2, 2000002, 6] () trivial
   ·refine aK (r_cE hk38 ?_)
    replace h := zX h hEq37 hKq37
    refine r_kE hkq37 (r_bE hk26 ?_)
    refine zJ J23 [4, 5] () _ h
def ck (v1 : Int) : Bool → Option Int
 | v3 => (cond v3 (some 3) (cond (((decide (v1 ≥ 1)) && (decide (v1 ≤ 10))) || ((decide (v1 ≥ 21)) && (decide (v1 ≤ 37)))) (some 2) (some 0)))
def b9 (v1 : Int) : Bool → Option Int
 | v2 => (cond v2 (some 1) (cond (v1 == 31) (ck v1 (v1 == 31)) (cond (v1 == 32) (ck v1 (v1 == 32)) (cond (v1 == 33) (ck v1 (v1 == 33)) (cond (v1 == 34) (ck v1 (v1 == 34)) (ck v1 (v1 == 35)))))))
def cj (v1 : Int) : Option Int :=
 (cond (v1 == 1) (b9 v1 (v1 == 1)) (cond (v1 == 2) (b9 v1 (v1 == 2)) (cond (v1 == 21) (b9 v1 (v1 == 21)) (cond (v1 == 22) (b9 v1 (v1 == 22)) (cond (v1 == 23) (b9 v1 (v1 == 23)) (b9 v1 (v1 == 25)))))))
theorem ei (v1 : Int) (rz : Int) (h : cj v1 = some rz) : Con Tryz.prog C0 108 [.sc (.int .i64 (v1))] []
  (fun x σ' => x = .sc (.int .i64 (rz)) ∧ σ' = []) := by
 refine zCon hP 0 [0, 2, 3, 4, 11, 30] [.tmp 2] Tryz.func108 (by unfold Tryz.f108; rfl) fun Q hQ => ?_
 unfold cj at h
 refine zS z0 (sC fun k2 hk2 => ?_)
 refine zS z0 (sB fun k4 hk4 => ?_)
 refine zCut (fun (x : Bool) => ⟨[(0, .sc (.int .i64 (v1))), (3, .sc (.int .i64 (v1))), (4, .sc (.bool (x)))], []⟩) (b9 v1) rz ?_ ?_
 ·rintro _ v2 h
  simp only [b9] at h
  revert h; refine zI rfl ?_ ?_ <;> intro h
  ·refine zS z0 (ab ?_)
   refine r_bR hk4 (r_cR hk2 ?_)
   cases h
   refine zAR hQ
  ·refine zCut (fun (x : Bool) => ⟨[(0, .sc (.int .i64 (v1))), (11, .sc (.bool (x)))], []⟩) (ck v1) rz ?_ ?_
   ·rintro _ v3 h
    simp only [ck] at h
    revert h; refine zI rfl ?_ ?_ <;> intro h
    ·refine zS z0 (ab ?_)
     refine r_bR hk4 (r_cR hk2 ?_)
     cases h
     refine zAR hQ
    ·refine ae (r_bN hk4 ?_)
     refine r_cN hk2 (sC fun k16 hk16 => ?_)
     refine zS zR ?_
     revert h; refine zI rfl ?_ ?_ <;> intro h
     ·refine zS z0 (ab ?_)
      refine r_cR hk16 ?_
      cases h
      refine zAR hQ
     ·refine ae (r_cN hk16 ?_)
      refine zS z0 (ab ?_)
      cases h
      refine zAR hQ
   ·intro k21 hk21 J20
    refine zS z0 ?_
    revert h; refine zI rfl ?_ ?_ <;> intro h
    ·refine ae (zJ J20 [0, 11] () _ h)
    ·refine zS z0 ?_
     revert h; refine zI rfl ?_ ?_ <;> intro h
     ·refine ae (zJ J20 [0, 11] () _ h)
     ·refine zS z0 ?_
      revert h; refine zI rfl ?_ ?_ <;> intro h
      ·refine ae (zJ J20 [0, 11] () _ h)
      ·refine zS z0 ?_
       revert h; refine zI rfl ?_ ?_ <;> intro h
       ·refine ae (zJ J20 [0, 11] () _ h)
       ·refine zU z0 (zJ J20 [0, 11] () _ h)
 ·intro k27 hk27 J26
  refine zS z0 ?_
  revert h; refine zI rfl ?_ ?_ <;> intro h
  ·refine ae (zJ J26 [0, 3, 4] () _ h)
  ·refine zS z0 ?_
   revert h; refine zI rfl ?_ ?_ <;> intro h
   ·refine ae (zJ J26 [0, 3, 4] () _ h)
   ·refine zS z0 ?_
    revert h; refine zI rfl ?_ ?_ <;> intro h
    ·refine ae (zJ J26 [0, 3, 4] () _ h)
    ·refine zS z0 ?_
     revert h; refine zI rfl ?_ ?_ <;> intro h
     ·refine ae (zJ J26 [0, 3, 4] () _ h)
     ·refine zS z0 ?_
      revert h; refine zI rfl ?_ ?_ <;> intro h
      ·refine ae (zJ J26 [0, 3, 4] () _ h)
      ·refine zU z0 (zJ J26 [0, 3, 4] () _ h)
def ir (v2 : (Int × l26Rd)) (v5 : (DevArg × l26Rd)) (v7 : (List Int)) (v8 : Int) (v9 : Int) : Bool → Option (Elem × l26Rd)
 | v16 => (cond v16 ((dJ (⟨v7, v8⟩ : l26Rd) 7).bind fun v17 => (some ((⟨v2.1, [v17.1, (⟨v5.1.Kind, v9, v5.1.P⟩ : DevArg)]⟩ : Elem), v17.2))) (cond (v2.1 == 29) ((dJ (⟨v7, v8⟩ : l26Rd) 8).bind fun v18 => (some ((⟨v2.1, [v18.1, (⟨v5.1.Kind, v9, v5.1.P⟩ : DevArg)]⟩ : Elem), v18.2))) (cond (v2.1 == 36) ((dJ (⟨v7, v8⟩ : l26Rd) 10).bind fun v19 => ((fM v19.2).bind fun v20 => (some ((⟨v2.1, [v19.1, v20.1]⟩ : Elem), v20.2)))) (cond (v2.1 == 37) ((dJ (⟨v7, v8⟩ : l26Rd) 9).bind fun v21 => ((s_l4Real v21.2).bind fun v22 => (some ((⟨v2.1, [v21.1, v22.1]⟩ : Elem), v22.2)))) (cond (v2.1 == 35) ((dJ (⟨v7, v8⟩ : l26Rd) 9).bind fun v24 => ((fM v24.2).bind fun v25 => ((fM v25.2).bind fun v26 => ((cj v2.1).bind fun v27 => (gd (decide (0 ≤ v27) && decide (v27 ≤ ((3 : Nat) : Int))) (some ((⟨v2.1, ([v24.1, v25.1, v26.1]).take ((v27).toNat)⟩ : Elem), v26.2))))))) ((ai (⟨v7, v8⟩ : l26Rd) 2).bind fun v23 => (cond (v23.1 == 0) ((dJ v23.2 9).bind fun v28 => ((fM v28.2).bind fun v29 => ((fM v29.2).bind fun v30 => ((cj v2.1).bind fun v31 => (gd (decide (0 ≤ v31) && decide (v31 ≤ ((3 : Nat) : Int))) (some ((⟨v2.1, ([v28.1, v29.1, v30.1]).take ((v31).toNat)⟩ : Elem), v30.2))))))) ((dJ v23.2 10).bind fun v32 => ((s_l4Real v32.2).bind fun v33 => ((s_l4Real v33.2).bind fun v34 => ((cj v2.1).bind fun v35 => (gd (decide (0 ≤ v35) && decide (v35 ≤ ((3 : Nat) : Int))) (some ((⟨v2.1, ([v32.1, v33.1, v34.1]).take ((v35).toNat)⟩ : Elem), v34.2))))))))))))))
def s_l4Coil_j9 (v2 : (Int × l26Rd)) (v4 : (DevArg × l26Rd)) (v5 : (DevArg × l26Rd)) : ((List Int) × Int × Int) → Option (Elem × l26Rd)
 | (v7, v8, v9) => (cond (v2.1 == 21) (some ((⟨v2.1, [v4.1]⟩ : Elem), (⟨v7, v8⟩ : l26Rd))) (cond (v2.1 == 22) ((ai (⟨v7, v8⟩ : l26Rd) 3).bind fun v10 => ((dJ v10.2 (IntKind.i64.wrap (2 + v10.1))).bind fun v11 => (some ((⟨v2.1, [v11.1]⟩ : Elem), v11.2)))) (cond (v2.1 == 23) ((bb (⟨v7, v8⟩ : l26Rd) [2, 3, 4, 7, 8]).bind fun v12 => ((dJ v12.2 v12.1).bind fun v13 => (some ((⟨v2.1, [v13.1]⟩ : Elem), v13.2)))) (cond (v2.1 == 24) ((dJ (⟨v7, v8⟩ : l26Rd) 5).bind fun v14 => (some ((⟨v2.1, [v4.1, v14.1]⟩ : Elem), v14.2))) (cond (v2.1 == 25) ((dJ (⟨v7, v8⟩ : l26Rd) 4).bind fun v15 => (some ((⟨v2.1, [v15.1]⟩ : Elem), v15.2))) (cond (v2.1 == 26) (ir v2 v5 v7 v8 v9 (v2.1 == 26)) (cond (v2.1 == 27) (ir v2 v5 v7 v8 v9 (v2.1 == 27)) (ir v2 v5 v7 v8 v9 (v2.1 == 28)))))))))
def gD (v1 : l26Rd) : Option (Elem × l26Rd) :=
 ((bb v1 [21, 21, 21, 22, 23, 24, 25, 26, 26, 27, 28, 29, 29, 30, 31, 31, 32, 33, 34, 35, 36, 37]).bind fun v2 => ((ai v2.2 2).bind fun v3 => ((dJ v3.2 (IntKind.i64.wrap (2 + v3.1))).bind fun v4 => ((dJ v4.2 11).bind fun v5 => (cond (decide (v5.1.N < 0)) ((ai v5.2 9).bind fun v36 => (s_l4Coil_j9 v2 v4 v5 (v36.2.b, v36.2.p, v36.1))) (s_l4Coil_j9 v2 v4 v5 (v5.2.b, v5.2.p, v5.1.N)))))))
theorem fj (v1 : l26Rd) (rz : (Elem × l26Rd)) (h : gD v1 = some rz) : Con Tryz.prog C0 122 [.pt 0 0] [.rc [.fz 1 (R e_u8 (v1.b)), .sc (.int .i64 (v1.p))]]
  (fun x σ' => x = .agg [.sc (.int .i64 (rz.1.Op)), .fz 3 (R aa (rz.1.Args))] ∧ σ' = [.rc [.fz 1 (R e_u8 (rz.2.b)), .sc (.int .i64 (rz.2.p))]]) := by
 refine zCon hP 1 [0, 2, 3, 4, 5, 6, 7, 20, 24, 25, 31, 41, 51, 59, 66, 76, 84, 93, 108] [.cell 2 87] Tryz.func122 (by unfold Tryz.f122; rfl) fun Q hQ => ?_
 unfold gD at h
 refine zS z0 ?_
 obtain ⟨v2, c3H, h⟩ := bS h
 refine zS (zC1 (lC [[0]] (aN _ _ _ c3H))) ?_
 obtain ⟨v3, c5H, h⟩ := bS h
 obtain ⟨v4, c6H, h⟩ := bS h
 refine zS (zC2 (lC [[0]] (ah _ _ _ c5H)) (lC [[0]] (bC _ _ _ c6H))) ?_
 obtain ⟨v5, c8H, h⟩ := bS h
 refine zS (zC1 (lC [[0]] (bC _ _ _ c8H))) (zCut (fun (x : ((List Int) × Int × Int)) => ⟨[(0, .pt 0 0), (2, .pt 1 0), (3, .sc (.int .i64 (v2.1))), (4, .pt 2 0), (5, .pt 3 0)], [.rc [.fz 1 (R e_u8 (x.1)), .sc (.int .i64 (x.2.1))], .rc [.sc (.int .i64 (0)), .sc (.slice none 0 0)], .rc [.sc (.int .i64 (v4.1.Kind)), .sc (.int .i64 (v4.1.N)), .sc (.int .i64 (v4.1.P))], .rc [.sc (.int .i64 (v5.1.Kind)), .sc (.int .i64 (x.2.2)), .sc (.int .i64 (v5.1.P))]]⟩) (s_l4Coil_j9 v2 v4 v5) rz ?_ ?_)
 ·rintro _ ⟨v7, v8, v9⟩ h
  simp only [s_l4Coil_j9] at h
  refine sC fun k11 hk11 => zS z0 (sB fun k13 hk13 => ?_)
  refine zS z0 ?_
  revert h; refine zI rfl ?_ ?_ <;> intro h
  ·refine zS z0 (ab ?_)
   refine r_bR hk13 (r_cR hk11 ?_)
   cases h
   refine zAR hQ
  ·refine zS z0 ?_
   revert h; refine zI rfl ?_ ?_ <;> intro h
   ·obtain ⟨v10, c18H, h⟩ := bS h
    obtain ⟨v11, c19H, h⟩ := bS h
    refine zS (zC2 (lC [[0]] (ah _ _ _ c18H)) (lC [[0]] (bC _ _ _ c19H))) (ab ?_)
    refine r_bR hk13 (r_cR hk11 ?_)
    cases h
    refine zAR hQ
   ·refine zS z0 ?_
    revert h; refine zI rfl ?_ ?_ <;> intro h
    ·obtain ⟨v12, c22H, h⟩ := bS h
     obtain ⟨v13, c23H, h⟩ := bS h
     refine zS (zC2 (lC [[0]] (aN _ _ _ c22H)) (lC [[0]] (bC _ _ _ c23H))) (ab ?_)
     refine r_bR hk13 (r_cR hk11 ?_)
     cases h
     refine zAR hQ
    ·refine zS z0 ?_
     revert h; refine zI rfl ?_ ?_ <;> intro h
     ·obtain ⟨v14, c26H, h⟩ := bS h
      refine zS (zPC1 (.take 0 (.take 1 (.take 2 (.one 3 (.last 4 (.take 5 (.last 6 .done))))))) [2] (lC [[0]] (bC _ _ _ c26H))) (ab ?_)
      refine r_bR hk13 (r_cR hk11 ?_)
      cases h
      refine zAR hQ
     ·refine zS z0 ?_
      revert h; refine zI rfl ?_ ?_ <;> intro h
      ·obtain ⟨v15, c29H, h⟩ := bS h
       refine zS (zC1 (lC [[0]] (bC _ _ _ c29H))) (ab ?_)
       refine r_bR hk13 (r_cR hk11 ?_)
       cases h
       refine zAR hQ
      ·refine zCut (fun (x : Bool) => ⟨[(0, .pt 0 0), (2, .pt 1 0), (3, .sc (.int .i64 (v2.1))), (5, .pt 2 0), (24, .sc (.int .i64 (v2.1))), (66, .sc (.bool (x)))], [.rc [.fz 1 (R e_u8 (v7)), .sc (.int .i64 (v8))], .rc [.sc (.int .i64 (0)), .sc (.slice none 0 0)], .rc [.sc (.int .i64 (v5.1.Kind)), .sc (.int .i64 (v9)), .sc (.int .i64 (v5.1.P))]]⟩) (ir v2 v5 v7 v8 v9) rz ?_ ?_
       ·rintro _ v16 h
        simp only [ir] at h
        revert h; refine zI rfl ?_ ?_ <;> intro h
        ·obtain ⟨v17, c33H, h⟩ := bS h
         refine zS (zPC1 (.take 0 (.take 1 (.take 3 (.one 2 (.last 4 (.take 5 (.last 6 .done))))))) [2] (lC [[0]] (bC _ _ _ c33H))) (ab ?_)
         refine r_bR hk13 (r_cR hk11 ?_)
         cases h
         refine zAR hQ
        ·refine zS z0 ?_
         revert h; refine zI rfl ?_ ?_ <;> intro h
         ·obtain ⟨v18, c36H, h⟩ := bS h
          refine zS (zPC1 (.take 0 (.take 1 (.take 3 (.one 2 (.last 4 (.take 5 (.last 6 .done))))))) [2] (lC [[0]] (bC _ _ _ c36H))) (ab ?_)
          refine r_bR hk13 (r_cR hk11 ?_)
          cases h
          refine zAR hQ
         ·refine zS z0 ?_
          revert h; refine zI rfl ?_ ?_ <;> intro h
          ·obtain ⟨v19, c39H, h⟩ := bS h
           obtain ⟨v20, c40H, h⟩ := bS h
           refine zS (zC2 (lC [[0]] (bC _ _ _ c39H)) (lC [[0]] (fD _ _ c40H))) (ab ?_)
           refine r_bR hk13 (r_cR hk11 ?_)
           cases h
           refine zAR hQ
          ·refine zS z0 ?_
           revert h; refine zI rfl ?_ ?_ <;> intro h
           ·obtain ⟨v21, c43H, h⟩ := bS h
            obtain ⟨v22, c44H, h⟩ := bS h
            refine zS (zC2 (lC [[0]] (bC _ _ _ c43H)) (lC [[0]] (con_s_l4Real _ _ c44H))) (ab ?_)
            refine r_bR hk13 (r_cR hk11 ?_)
            cases h
            refine zAR hQ
           ·refine ae (r_bN hk13 ?_)
            refine r_cN hk11 (sC fun k45 hk45 => ?_)
            refine sC fun k46 hk46 => ?_
            rcases bE (v2.1 == 35) with g47 | g47
            ·replace h := ak h g47
             refine zU (zRF g47) (r_cN hk46 ?_)
             refine bM rfl ?_
             try replace h := ak h rfl
             obtain ⟨v24, c49H, h⟩ := bS h
             obtain ⟨v25, c50H, h⟩ := bS h
             obtain ⟨v26, c51H, h⟩ := bS h
             refine zS (zC3 (lC [[0]] (bC _ _ _ c49H)) (lC [[0]] (fD _ _ c50H)) (lC [[0]] (fD _ _ c51H))) ?_
             obtain ⟨v27, c53H, h⟩ := bS h
             obtain ⟨g54, h⟩ := gD2 h
             refine zS (zC1F (lF [] (ei _ _ c53H)) g54) (ab ?_)
             refine r_cR hk45 ?_
             cases h
             refine zAR hQ
            ·replace h := av h g47
             obtain ⟨v23, c55H, h⟩ := bS h
             refine zU (zC1F (lC [[0]] (ah _ _ _ c55H)) g47) (r_cN hk46 ?_)
             revert h; refine zI rfl ?_ ?_ <;> intro h
             ·obtain ⟨v28, c57H, h⟩ := bS h
              obtain ⟨v29, c58H, h⟩ := bS h
              obtain ⟨v30, c59H, h⟩ := bS h
              refine zS (zC3 (lC [[0]] (bC _ _ _ c57H)) (lC [[0]] (fD _ _ c58H)) (lC [[0]] (fD _ _ c59H))) ?_
              obtain ⟨v31, c61H, h⟩ := bS h
              obtain ⟨g62, h⟩ := gD2 h
              refine zS (zC1F (lF [] (ei _ _ c61H)) g62) (ab ?_)
              refine r_cR hk45 ?_
              cases h
              refine zAR hQ
             ·refine ae (r_cN hk45 ?_)
              obtain ⟨v32, c64H, h⟩ := bS h
              obtain ⟨v33, c65H, h⟩ := bS h
              obtain ⟨v34, c66H, h⟩ := bS h
              refine zS (zC3 (lC [[0]] (bC _ _ _ c64H)) (lC [[0]] (con_s_l4Real _ _ c65H)) (lC [[0]] (con_s_l4Real _ _ c66H))) ?_
              obtain ⟨v35, c68H, h⟩ := bS h
              obtain ⟨g69, h⟩ := gD2 h
              refine zS (zC1F (lF [] (ei _ _ c68H)) g69) (ab ?_)
              cases h
              refine zAR hQ
       ·intro k71 hk71 J70
        refine zS z0 ?_
        revert h; refine zI rfl ?_ ?_ <;> intro h
        ·refine ae (zJ J70 [0, 2, 3, 5, 24, 66] () _ h)
        ·refine zS z0 ?_
         revert h; refine zI rfl ?_ ?_ <;> intro h
         ·refine ae (zJ J70 [0, 2, 3, 5, 24, 66] () _ h)
         ·refine zU z0 (zJ J70 [0, 2, 3, 5, 24, 66] () _ h)
 ·intro k75 hk75 J74
  refine zS z0 ?_
  revert h; refine zI rfl ?_ ?_ <;> intro h
  ·obtain ⟨v36, c77H, h⟩ := bS h
   refine zU (zC1 (lC [[0]] (ah _ _ _ c77H))) (zJ J74 [0, 2, 3, 4, 5] () _ h)
  ·refine ae (zJ J74 [0, 2, 3, 4, 5] () _ h)
def s_l7Forks_j5 : ((List Int) × Int × Int × Int × (List DevArg) × (List Elem) × (List Arm)) → Option (Arm × l26Rd)
 | (v56, v57, v58, v59, v60, v61, v62) => ((cd (⟨v56, v57⟩ : l26Rd)).bind fun v63 => (some ((⟨1, v63.1.Op, v63.1.Args, [], v61, v62⟩ : Arm), v63.2)))
def gK (v85 : Int) : ((List Int) × Int × Int × Int × (List DevArg) × (List Arm)) → Option (((List Int) × Int × Int × Int × (List DevArg) × (List Elem) × (List Arm) × Int) ⊕ ((List Int) × Int × Int × Int × (List DevArg) × (List Elem) × (List Arm)))
 | (v105, v106, v107, v108, v109, v110) => (some (.inl (v105, v106, v107, v108, v109, [], v110, (IntKind.i64.wrap (v85 + 1)))))
def s_l7Forks_s9 (v2 : Int) : ((List Int) × Int × Int × Int × (List DevArg) × (List Elem) × (List Arm) × Int) → Option (((List Int) × Int × Int × Int × (List DevArg) × (List Elem) × (List Arm) × Int) ⊕ ((List Int) × Int × Int × Int × (List DevArg) × (List Elem) × (List Arm)))
 | (v78, v79, v80, v81, v82, v83, v84, v85) => (cond (decide (v85 < v2)) ((cd (⟨v78, v79⟩ : l26Rd)).bind fun v111 => ((gD v111.2).bind fun v112 => ((ai v112.2 2).bind fun v113 => (cond (v113.1 == 0) ((cd v113.2).bind fun v114 => (gK v85 (v114.2.b, v114.2.p, 1, v114.1.Op, v114.1.Args, [(⟨v80, v81, v82, [], v83, v84⟩ : Arm), (⟨1, v111.1.Op, v111.1.Args, [], [v112.1], []⟩ : Arm)]))) (gK v85 (v113.2.b, v113.2.p, 0, 0, [], [(⟨v80, v81, v82, [], v83, v84⟩ : Arm), (⟨1, v111.1.Op, v111.1.Args, [], [v112.1], []⟩ : Arm)])))))) (some (.inr (v78, v79, v80, v81, v82, v83, v84))))
def s_l7Forks (v1 : l26Rd) (v2 : Int) : Option (Arm × l26Rd) :=
 ((cd v1).bind fun v3 => ((gD v3.2).bind fun v4 => ((loop (s_l7Forks_s9 v2) (v4.2.b, v4.2.p, 1, v3.1.Op, v3.1.Args, [v4.1], [], 0)).bind (fun v100 => (s_l7Forks_j5 (v100.1, v100.2.1, v100.2.2.1, v100.2.2.2.1, v100.2.2.2.2.1, v100.2.2.2.2.2.1, v100.2.2.2.2.2.2))))))
theorem con_s_l7Forks (v1 : l26Rd) (v2 : Int) (rz : (Arm × l26Rd)) (h : s_l7Forks v1 v2 = some rz) : Con Tryz.prog C0 131 [.pt 0 0, .sc (.int .i64 (v2))] [.rc [.fz 1 (R e_u8 (v1.b)), .sc (.int .i64 (v1.p))]]
  (fun x σ' => x = .agg [.sc (.int .i64 (rz.1.Net_Kind)), .sc (.int .i64 (rz.1.Net_One_Op)), .sl 1 0 ((rz.1.Net_One_Args).length), .sc (.slice none 0 0), .sl 2 0 ((rz.1.Coils).length), .sl 3 0 ((rz.1.Kids).length)] ∧ σ' = [.rc [.fz 1 (R e_u8 (rz.2.b)), .sc (.int .i64 (rz.2.p))], .arr true 3 (R aa (rz.1.Net_One_Args)), .arr true 2 (R aE (rz.1.Coils)), .arr true 6 (R aO (rz.1.Kids))]) := by
 refine zCon hP 1 [0, 1, 4, 5, 6, 16, 31] [.cell 4 136] Tryz.func131 (by unfold Tryz.f131; rfl) fun Q hQ => ?_
 unfold s_l7Forks at h
 refine zS z0 ?_
 obtain ⟨v3, c3H, h⟩ := bS h
 obtain ⟨v4, c4H, h⟩ := bS h
 refine zS (zC2 (lC [[0]] (bU _ _ c3H)) (lC [[0]] (fj _ _ c4H))) (zCut (fun (x : ((List Int) × Int × Int × Int × (List DevArg) × (List Elem) × (List Arm))) => ⟨[(0, .pt 0 0), (4, .pt 1 0), (5, .pt 2 0)], [.rc [.fz 1 (R e_u8 (x.1)), .sc (.int .i64 (x.2.1))], .rc [.sc (.int .i64 (0)), .sc (.int .i64 (0)), .sc (.slice none 0 0), .sc (.slice none 0 0), .sc (.slice none 0 0), .sc (.slice none 0 0)], .rc [.sc (.int .i64 (x.2.2.1)), .sc (.int .i64 (x.2.2.2.1)), .sl 3 0 ((x.2.2.2.2.1).length), .sc (.slice none 0 0), .sl 4 0 ((x.2.2.2.2.2.1).length), .sl 5 0 ((x.2.2.2.2.2.2).length)], .arr true 3 (R aa (x.2.2.2.2.1)), .arr true 2 (R aE (x.2.2.2.2.2.1)), .arr true 6 (R aO (x.2.2.2.2.2.2))]⟩) s_l7Forks_j5 rz ?_ ?_)
 ·rintro _ ⟨v56, v57, v58, v59, v60, v61, v62⟩ h
  simp only [s_l7Forks_j5] at h
  obtain ⟨v63, c63H, h⟩ := bS h
  refine zS (zC1 (lC [[0]] (bU _ _ c63H))) (zS z0 ?_)
  refine ab ?_
  cases h
  refine zOR hQ
 ·intro k66 hk66 J65
  refine zS z0 (sB fun k68 hk68 => ?_)
  obtain ⟨oq105, hLq105, hKq105⟩ := bS h
  clear h
  refine eg [0, 1, 4, 5, 6] [0, 1, 4, 2, 3, 2000005] (fun (_ : Unit) (x : ((List Int) × Int × Int × Int × (List DevArg) × (List Elem) × (List Arm) × Int)) => (⟨[(0, .pt 0 0), (1, .sc (.int .i64 (v2))), (4, .pt 1 0), (5, .pt 2 0), (6, .sc (.int .i64 (x.2.2.2.2.2.2.2)))], [.rc [.fz 1 (R e_u8 (x.1)), .sc (.int .i64 (x.2.1))], .rc [.sc (.int .i64 (0)), .sc (.int .i64 (0)), .sc (.slice none 0 0), .sc (.slice none 0 0), .sc (.slice none 0 0), .sc (.slice none 0 0)], .rc [.sc (.int .i64 (x.2.2.1)), .sc (.int .i64 (x.2.2.2.1)), .sl 3 0 ((x.2.2.2.2.1).length), .sc (.slice none 0 0), .sl 4 0 ((x.2.2.2.2.2.1).length), .sl 5 0 ((x.2.2.2.2.2.2.1).length)], .arr true 3 (R aa (x.2.2.2.2.1)), .arr true 2 (R aE (x.2.2.2.2.2.1)), .arr true 6 (R aO (x.2.2.2.2.2.2.1))]⟩ : St)) (fun (_ : Unit) (x : ((List Int) × Int × Int × Int × (List DevArg) × (List Elem) × (List Arm) × Int)) => True) (s_l7Forks_s9 v2) () (v4.2.b, v4.2.p, 1, v3.1.Op, v3.1.Args, [v4.1], [], 0) hLq105 (by rfl) (by rfl) ⟨?_, trivial⟩ ?_
  ·exact zSd
  ·rintro nq105 _ ⟨v78, v79, v80, v81, v82, v83, v84, v85⟩ xq105 kq105 hkq105 - h hIq105 hEq105
   simp only [s_l7Forks_s9] at h
   refine sC fun k106 hk106 => zS z0 ?_
   revert h; refine zI rfl ?_ ?_ <;> intro h
   ·refine ae (r_cN hk106 ?_)
    refine zCut (fun (x : ((List Int) × Int × Int × Int × (List DevArg) × (List Arm))) => ⟨[(0, .pt 0 0), (1, .sc (.int .i64 (v2))), (4, .pt 1 0), (5, .pt 2 0), (6, .sc (.int .i64 (v85)))], [.rc [.fz 1 (R e_u8 (x.1)), .sc (.int .i64 (x.2.1))], .rc [.sc (.int .i64 (0)), .sc (.int .i64 (0)), .sc (.slice none 0 0), .sc (.slice none 0 0), .sc (.slice none 0 0), .sc (.slice none 0 0)], .rc [.sc (.int .i64 (x.2.2.1)), .sc (.int .i64 (x.2.2.2.1)), .sl 3 0 ((x.2.2.2.2.1).length), .sc (.slice none 0 0), .sc (.slice none 0 0), .sl 4 0 ((x.2.2.2.2.2).length)], .arr true 3 (R aa (x.2.2.2.2.1)), .arr true 6 (R aO (x.2.2.2.2.2))]⟩) (gK v85) xq105 ?_ ?_
    ·rintro _ ⟨v105, v106, v107, v108, v109, v110⟩ h
     simp only [gK] at h
     refine zU z0 (zBvw hkq105 h hIq105 [0, 1, 2, 3, 2000001, 4] () trivial)
    ·intro k116 hk116 J115
     refine sB fun k117 hk117 => ?_
     obtain ⟨v111, c119H, h⟩ := bS h
     obtain ⟨v112, c120H, h⟩ := bS h
     refine zS (zPC2 (.take 0 (.take 1 (.take 4 (.one 2 (.take 3 (.one 5 (.one 6 (.take 7 (.last 8 (.take 9 (.last 10 .done))))))))))) [2] (lC [[0]] (bU _ _ c119H)) (lC [[0]] (fj _ _ c120H))) ?_
     obtain ⟨v113, c122H, h⟩ := bS h
     refine zS (zC1 (lC [[0]] (ah _ _ _ c122H))) ?_
     revert h; refine zI rfl ?_ ?_ <;> intro h
     ·obtain ⟨v114, c123H, h⟩ := bS h
      refine zU (zC1 (lC [[0]] (bU _ _ c123H))) (r_bN hk117 ?_)
      refine zJd J115 [0, 1, 4, 5, 6] () _ h
     ·refine ae (r_bN hk117 ?_)
      refine zJvd J115 [0, 1, 4, 5, 6] [0, 1, 2, 2000002, 8] () _ h
   ·refine aK (r_cE hk106 ?_)
    replace h := zX h hEq105 hKq105
    refine r_kE hkq105 (r_bE hk68 ?_)
    refine zJ J65 [0, 4, 5] () _ h
def s_l7Net_j31 (v3 : (Int × l26Rd)) : ((List Int) × Int × (List Net)) → Option (Net × l26Rd)
 | (v19, v20, v21) => (some ((⟨(IntKind.i64.wrap (2 + ((v3.1).tmod 2))), 0, [], v21⟩ : Net), (⟨v19, v20⟩ : l26Rd)))
def gR (v2 : Int) (v10 : Int) (v91_ : (l26Rd → Int → Option (Net × l26Rd))) : ((List Int) × Int × (List Net) × Int) → Option (((List Int) × Int × (List Net) × Int) ⊕ ((List Int) × Int × (List Net)))
 | (v23, v24, v25, v26) => (cond (decide (v26 < v10)) ((v91_ (⟨v23, v24⟩ : l26Rd) (IntKind.i64.wrap (v2 - 1))).bind fun v29 => (gd (apOk ((v25 ++ [v29.1])).length 64) (some (.inl (v29.2.b, v29.2.p, (v25 ++ [v29.1]), (IntKind.i64.wrap (v26 + 1))))))) (some (.inr (v23, v24, v25))))
def fv (v2 : Int) (v3 : (Int × l26Rd)) (v91_ : (l26Rd → Int → Option (Net × l26Rd))) : ((List Int) × Int × Int) → Option (Net × l26Rd)
 | (v8, v9, v10) => ((loop (gR v2 v10 v91_) (v8, v9, [], 0)).bind (fun v28 => (s_l7Net_j31 v3 (v28.1, v28.2.1, v28.2.2))))
def gg (v91_ : (l26Rd → Int → Option (Net × l26Rd))) (v1 : l26Rd) (v2 : Int) : Option (Net × l26Rd) :=
 ((ai v1 7).bind fun v3 => (cond ((decide (v2 ≤ 0)) || (decide (v3.1 < 3))) ((cd v3.2).bind fun v4 => (some ((⟨1, v4.1.Op, v4.1.Args, []⟩ : Net), v4.2))) (cond (v3.1 == 6) ((v91_ v3.2 (IntKind.i64.wrap (v2 - 1))).bind fun v5 => (some ((⟨4, 0, [], [v5.1]⟩ : Net), v5.2))) ((ai v3.2 2).bind fun v6 => ((ai v6.2 8).bind fun v30 => (cond (v30.1 == 0) (fv v2 v3 v91_ (v30.2.b, v30.2.p, 1)) (fv v2 v3 v91_ (v30.2.b, v30.2.p, (IntKind.i64.wrap (2 + v6.1))))))))))
theorem s_l7Net_s35_le {v91_ v91_' : (l26Rd → Int → Option (Net × l26Rd))} (hv91_ : ∀ a0 a1, le (v91_ a0 a1) (v91_' a0 a1)) (v2 : Int) (v10 : Int) : ∀ x, le (gR v2 v10 v91_ x) (gR v2 v10 v91_' x) := by
 rintro ⟨v23, v24, v25, v26⟩
 simp only [gR]
 repeat' (first | (with_reducible exact le_refl _) | exact hv91_ _ _ | refine bj ?_ (fun _ => ?_) | refine bm ?_ ?_ | refine di ?_ | refine bn (fun _ => ?_) | refine bO (fun _ => ?_) (fun _ => ?_) _ | refine az ?_ _)
theorem s_l7Net_j25_le {v91_ v91_' : (l26Rd → Int → Option (Net × l26Rd))} (hv91_ : ∀ a0 a1, le (v91_ a0 a1) (v91_' a0 a1)) (v2 : Int) (v3 : (Int × l26Rd)) : ∀ x, le (fv v2 v3 v91_ x) (fv v2 v3 v91_' x) := by
 rintro ⟨v8, v9, v10⟩
 simp only [fv]
 repeat' (first | (with_reducible exact le_refl _) | exact hv91_ _ _ | exact s_l7Net_s35_le hv91_ _ _ _ | refine az (s_l7Net_s35_le hv91_ _ _) _ | refine bj ?_ (fun _ => ?_) | refine bm ?_ ?_ | refine di ?_ | refine bn (fun _ => ?_) | refine bO (fun _ => ?_) (fun _ => ?_) _ | refine az ?_ _)
theorem s_l7Net_rec_le {v91_ v91_' : (l26Rd → Int → Option (Net × l26Rd))} (hv91_ : ∀ a0 a1, le (v91_ a0 a1) (v91_' a0 a1)) (v1 : l26Rd) (v2 : Int) : le (gg v91_ v1 v2) (gg v91_' v1 v2) := by
 unfold gg
 repeat' (first | (with_reducible exact le_refl _) | exact hv91_ _ _ | exact s_l7Net_s35_le hv91_ _ _ _ | refine az (s_l7Net_s35_le hv91_ _ _) _ | exact s_l7Net_j25_le hv91_ _ _ _ | refine az (s_l7Net_j25_le hv91_ _ _) _ | refine bj ?_ (fun _ => ?_) | refine bm ?_ ?_ | refine di ?_ | refine bn (fun _ => ?_) | refine bO (fun _ => ?_) (fun _ => ?_) _ | refine az ?_ _)
theorem con_s_l7Net_step (v91_ : (l26Rd → Int → Option (Net × l26Rd))) (ihv9001 : ∀ (v1 : l26Rd) (v2 : Int) (rz : (Net × l26Rd)), v91_ v1 v2 = some rz → Con Tryz.prog C0 206 [.pt 0 0, .sc (.int .i64 (v2))] [.rc [.fz 1 (R e_u8 (v1.b)), .sc (.int .i64 (v1.p))]] (fun x σ' => x = .agg [.sc (.int .i64 (rz.1.Kind)), .sc (.int .i64 (rz.1.One_Op)), .fz 3 (R aa (rz.1.One_Args)), .fz 4 (R aq (rz.1.Kids))] ∧ σ' = [.rc [.fz 1 (R e_u8 (rz.2.b)), .sc (.int .i64 (rz.2.p))]])) (v1 : l26Rd) (v2 : Int) (rz : (Net × l26Rd)) (h : gg v91_ v1 v2 = some rz) : Con Tryz.prog C0 206 [.pt 0 0, .sc (.int .i64 (v2))] [.rc [.fz 1 (R e_u8 (v1.b)), .sc (.int .i64 (v1.p))]]
  (fun x σ' => x = .agg [.sc (.int .i64 (rz.1.Kind)), .sc (.int .i64 (rz.1.One_Op)), .fz 3 (R aa (rz.1.One_Args)), .fz 4 (R aq (rz.1.Kids))] ∧ σ' = [.rc [.fz 1 (R e_u8 (rz.2.b)), .sc (.int .i64 (rz.2.p))]]) := by
 refine zCon hP 1 [0, 1, 4, 5, 6, 7, 8, 16, 21, 37, 40] [.cell 4 133] Tryz.func206 (by unfold Tryz.f206; rfl) fun Q hQ => ?_
 unfold gg at h
 refine zS z0 ?_
 obtain ⟨v3, c3H, h⟩ := bS h
 refine zS (zC1 (lC [[0]] (ah _ _ _ c3H))) (sC fun k4 hk4 => ?_)
 refine zS zR ?_
 revert h; refine zI rfl ?_ ?_ <;> intro h
 ·obtain ⟨v4, c7H, h⟩ := bS h
  refine zS (zC1 (lC [[0]] (bU _ _ c7H))) (ab ?_)
  refine r_cR hk4 ?_
  cases h
  refine zARw hQ
 ·refine ae (r_cN hk4 ?_)
  refine sC fun k8 hk8 => zS z0 ?_
  revert h; refine zI rfl ?_ ?_ <;> intro h
  ·obtain ⟨v5, c11H, h⟩ := bS h
   refine zS (zC1 (lC [[0]] (ihv9001 _ _ _ c11H))) (ab ?_)
   refine r_cR hk8 ?_
   cases h
   refine zARw hQ
  ·refine ae (r_cN hk8 ?_)
   refine zS zR ?_
   obtain ⟨v6, c14H, h⟩ := bS h
   refine zS (zC1 (lC [[0]] (ah _ _ _ c14H))) (zCut (fun (x : ((List Int) × Int × Int)) => ⟨[(0, .pt 0 0), (1, .sc (.int .i64 (v2))), (4, .pt 1 0), (6, .pt 2 0), (7, .sc (.int .i64 (x.2.2)))], [.rc [.fz 1 (R e_u8 (x.1)), .sc (.int .i64 (x.2.1))], .rc [.sc (.int .i64 (0)), .sc (.int .i64 (0)), .sc (.slice none 0 0), .sc (.slice none 0 0)], .rc [.sc (.int .i64 ((IntKind.i64.wrap (2 + ((v3.1).tmod 2))))), .sc (.int .i64 (0)), .sc (.slice none 0 0), .sc (.slice none 0 0)]]⟩) (fv v2 v3 v91_) rz ?_ ?_)
   ·rintro _ ⟨v8, v9, v10⟩ h
    simp only [fv] at h
    refine zCut (fun (x : ((List Int) × Int × (List Net))) => ⟨[(4, .pt 1 0), (6, .pt 2 0)], [.rc [.fz 1 (R e_u8 (x.1)), .sc (.int .i64 (x.2.1))], .rc [.sc (.int .i64 (0)), .sc (.int .i64 (0)), .sc (.slice none 0 0), .sc (.slice none 0 0)], .rc [.sc (.int .i64 ((IntKind.i64.wrap (2 + ((v3.1).tmod 2))))), .sc (.int .i64 (0)), .sc (.slice none 0 0), .sl 3 0 ((x.2.2).length)], .arr true 4 (R aq (x.2.2))]⟩) (s_l7Net_j31 v3) rz ?_ ?_
    ·rintro _ ⟨v19, v20, v21⟩ h
     simp only [s_l7Net_j31] at h
     refine zS z0 (ab ?_)
     cases h
     refine zARw hQ
    ·intro k40 hk40 J39
     refine zS z0 (sB fun k42 hk42 => ?_)
     obtain ⟨oq55, hLq55, hKq55⟩ := bS h
     clear h
     refine eg [0, 1, 4, 6, 7, 8] [0, 1, 2, 2000003] (fun (_ : Unit) (x : ((List Int) × Int × (List Net) × Int)) => (⟨[(0, .pt 0 0), (1, .sc (.int .i64 (v2))), (4, .pt 1 0), (6, .pt 2 0), (7, .sc (.int .i64 (v10))), (8, .sc (.int .i64 (x.2.2.2)))], [.rc [.fz 1 (R e_u8 (x.1)), .sc (.int .i64 (x.2.1))], .rc [.sc (.int .i64 (0)), .sc (.int .i64 (0)), .sc (.slice none 0 0), .sc (.slice none 0 0)], .rc [.sc (.int .i64 ((IntKind.i64.wrap (2 + ((v3.1).tmod 2))))), .sc (.int .i64 (0)), .sc (.slice none 0 0), .sl 3 0 ((x.2.2.1).length)], .arr true 4 (R aq (x.2.2.1))]⟩ : St)) (fun (_ : Unit) (x : ((List Int) × Int × (List Net) × Int)) => True) (gR v2 v10 v91_) () (v8, v9, [], 0) hLq55 (by rfl) (by rfl) ⟨?_, trivial⟩ ?_
     ·exact zSd
     ·rintro nq55 _ ⟨v23, v24, v25, v26⟩ xq55 kq55 hkq55 - h hIq55 hEq55
      simp only [gR] at h
      refine sC fun k56 hk56 => zS z0 ?_
      revert h; refine zI rfl ?_ ?_ <;> intro h
      ·refine ae (r_cN hk56 ?_)
       refine sC fun k58 hk58 => sB fun k59 hk59 => ?_
       obtain ⟨v29, c60H, h⟩ := bS h
       obtain ⟨g61, h⟩ := gAp h
       refine zU (zPC1F (.take 0 (.take 1 (.take 2 (.take 3 (.take 4 (.one 5 (.one 6 (.last 7 (.take 8 (.last 9 .done)))))))))) [2] (lC [[0]] (ihv9001 _ _ _ c60H)) g61) (r_bN hk59 ?_)
       refine r_cN hk58 (zU z0 ?_)
       refine zB hkq55 h hIq55 () trivial
      ·refine aK (r_cE hk56 ?_)
       replace h := zX h hEq55 hKq55
       refine r_kE hkq55 (r_bE hk42 ?_)
       refine zJ J39 [4, 6] () _ h
   ·intro k63 hk63 J62
    obtain ⟨v30, c65H, h⟩ := bS h
    refine zS (zC1 (lC [[0]] (ah _ _ _ c65H))) ?_
    revert h; refine zI rfl ?_ ?_ <;> intro h
    ·refine zU z0 (zJ J62 [0, 1, 4, 6, 7] () _ h)
    ·refine ae (zJ J62 [0, 1, 4, 6, 7] () _ h)
def eJ : Nat → (l26Rd → Int → Option (Net × l26Rd))
 | 0 => fun _ _ => none
 | n + 1 => fun v1 v2 => gg (eJ n) v1 v2
theorem s_l7Net_scc_mono : ∀ n, (∀ (v1 : l26Rd) (v2 : Int), le ((eJ n) v1 v2) ((eJ (n + 1)) v1 v2)) := by
 intro n
 induction n with
 | zero => exact fun _ _ => le_none _
 | succ n ih => exact fun v1 v2 => s_l7Net_rec_le ih v1 v2
def s_l7Net (v1 : l26Rd) (v2 : Int) : Option (Net × l26Rd) := lim fun n => (eJ n) v1 v2
theorem s_l7Net_up (v1 : l26Rd) (v2 : Int) {n : Nat} {r : (Net × l26Rd)} (e : (eJ n) v1 v2 = some r) : s_l7Net v1 v2 = some r := lim_eq (fun n => (s_l7Net_scc_mono n) v1 v2) e
theorem con_s_l7Net_scc : ∀ n, (∀ (v1 : l26Rd) (v2 : Int) (rz : (Net × l26Rd)), (eJ n) v1 v2 = some rz → Con Tryz.prog C0 206 [.pt 0 0, .sc (.int .i64 (v2))] [.rc [.fz 1 (R e_u8 (v1.b)), .sc (.int .i64 (v1.p))]] (fun x σ' => x = .agg [.sc (.int .i64 (rz.1.Kind)), .sc (.int .i64 (rz.1.One_Op)), .fz 3 (R aa (rz.1.One_Args)), .fz 4 (R aq (rz.1.Kids))] ∧ σ' = [.rc [.fz 1 (R e_u8 (rz.2.b)), .sc (.int .i64 (rz.2.p))]])) := by
 intro n
 induction n with
 | zero =>
  intro v1 v2 rz h; cases h
 | succ n ih =>
  exact fun v1 v2 rz h => con_s_l7Net_step (eJ n) (ih) v1 v2 rz h
theorem con_s_l7Net (v1 : l26Rd) (v2 : Int) (rz : (Net × l26Rd)) (h : s_l7Net v1 v2 = some rz) : Con Tryz.prog C0 206 [.pt 0 0, .sc (.int .i64 (v2))] [.rc [.fz 1 (R e_u8 (v1.b)), .sc (.int .i64 (v1.p))]]
  (fun x σ' => x = .agg [.sc (.int .i64 (rz.1.Kind)), .sc (.int .i64 (rz.1.One_Op)), .fz 3 (R aa (rz.1.One_Args)), .fz 4 (R aq (rz.1.Kids))] ∧ σ' = [.rc [.fz 1 (R e_u8 (rz.2.b)), .sc (.int .i64 (rz.2.p))]]) := by
 obtain ⟨n, hn⟩ := en h
 exact (con_s_l7Net_scc n) v1 v2 _ hn
def s_l7Arm_j45 (v9 : Int) (v10 : Int) (v11 : (List DevArg)) (v12 : (List Net)) (v37 : (List Arm)) : ((List Int) × Int × (List Elem)) → Option (Arm × l26Rd)
 | (v39, v40, v41) => (some ((⟨v9, v10, v11, v12, v41, v37⟩ : Arm), (⟨v39, v40⟩ : l26Rd)))
def gZ (v9 : Int) (v10 : Int) (v11 : (List DevArg)) (v12 : (List Net)) (v24 : (List Elem)) : ((List Int) × Int × (List Arm)) → Option (Arm × l26Rd)
 | (v35, v36, v37) => (cond (((((v24).length : Nat) : Int) == 0) && ((((v37).length : Nat) : Int) == 0)) ((gD (⟨v35, v36⟩ : l26Rd)).bind fun v42 => (gd (apOk ((v24 ++ [v42.1])).length 32) (s_l7Arm_j45 v9 v10 v11 v12 v37 (v42.2.b, v42.2.p, (v24 ++ [v42.1]))))) (s_l7Arm_j45 v9 v10 v11 v12 v37 (v35, v36, v24)))
def gV (v2 : Int) (v91_ : (l26Rd → Int → Bool → Option (Arm × l26Rd))) : ((List Int) × Int × (List Arm) × Int) → Option (((List Int) × Int × (List Arm) × Int) ⊕ ((List Int) × Int × (List Arm)))
 | (v46, v47, v48, v49) => (cond (decide (v49 > 0)) ((v91_ (⟨v46, v47⟩ : l26Rd) (IntKind.i64.wrap (v2 - 1)) false).bind fun v52 => (gd (apOk ((v48 ++ [v52.1])).length 112) (some (.inl (v52.2.b, v52.2.p, (v48 ++ [v52.1]), (IntKind.i64.wrap (v49 - 1))))))) (some (.inr (v46, v47, v48))))
def gY (v2 : Int) (v9 : Int) (v10 : Int) (v11 : (List DevArg)) (v12 : (List Net)) (v91_ : (l26Rd → Int → Bool → Option (Arm × l26Rd))) : ((List Int) × Int × (List Elem)) → Option (Arm × l26Rd)
 | (v22, v23, v24) => (cond (decide (v2 > 0)) ((ai (⟨v22, v23⟩ : l26Rd) 3).bind fun v43 => (cond (v43.1 == 0) ((ai v43.2 3).bind fun v44 => ((loop (gV v2 v91_) (v44.2.b, v44.2.p, [], (IntKind.i64.wrap (1 + v44.1)))).bind (fun v51 => (gZ v9 v10 v11 v12 v24 (v51.1, v51.2.1, v51.2.2))))) (gZ v9 v10 v11 v12 v24 (v43.2.b, v43.2.p, [])))) (gZ v9 v10 v11 v12 v24 (v22, v23, [])))
def s_l7Arm_s15 : ((List Int) × Int × (List Elem) × Int) → Option (((List Int) × Int × (List Elem) × Int) ⊕ ((List Int) × Int × (List Elem)))
 | (v55, v56, v57, v58) => (cond (decide (v58 > 0)) ((gD (⟨v55, v56⟩ : l26Rd)).bind fun v61 => (gd (apOk ((v57 ++ [v61.1])).length 32) (some (.inl (v61.2.b, v61.2.p, (v57 ++ [v61.1]), (IntKind.i64.wrap (v58 - 1))))))) (some (.inr (v55, v56, v57))))
def fE (v2 : Int) (v91_ : (l26Rd → Int → Bool → Option (Arm × l26Rd))) : ((List Int) × Int × Int × Int × (List DevArg) × (List Net)) → Option (Arm × l26Rd)
 | (v7, v8, v9, v10, v11, v12) => ((ai (⟨v7, v8⟩ : l26Rd) 3).bind fun v53 => ((loop s_l7Arm_s15 (v53.2.b, v53.2.p, [], v53.1)).bind (fun v60 => (gY v2 v9 v10 v11 v12 v91_ (v60.1, v60.2.1, v60.2.2)))))
def gi (v91_ : (l26Rd → Int → Bool → Option (Arm × l26Rd))) (v1 : l26Rd) (v2 : Int) (v3 : Bool) : Option (Arm × l26Rd) :=
 (cond v3 ((s_l7Net v1 2).bind fun v63 => (fE v2 v91_ (v63.2.b, v63.2.p, v63.1.Kind, v63.1.One_Op, v63.1.One_Args, v63.1.Kids))) ((ai v1 3).bind fun v62 => (cond (decide (v62.1 > 0)) ((s_l7Net v62.2 2).bind fun v64 => (fE v2 v91_ (v64.2.b, v64.2.p, v64.1.Kind, v64.1.One_Op, v64.1.One_Args, v64.1.Kids))) (fE v2 v91_ (v62.2.b, v62.2.p, 0, 0, [], [])))))
theorem fH {v91_ v91_' : (l26Rd → Int → Bool → Option (Arm × l26Rd))} (hv91_ : ∀ a0 a1 a2, le (v91_ a0 a1 a2) (v91_' a0 a1 a2)) (v2 : Int) : ∀ x, le (gV v2 v91_ x) (gV v2 v91_' x) := by
 rintro ⟨v46, v47, v48, v49⟩
 simp only [gV]
 repeat' (first | (with_reducible exact le_refl _) | exact hv91_ _ _ _ | refine bj ?_ (fun _ => ?_) | refine bm ?_ ?_ | refine di ?_ | refine bn (fun _ => ?_) | refine bO (fun _ => ?_) (fun _ => ?_) _ | refine az ?_ _)
theorem s_l7Arm_j11_le {v91_ v91_' : (l26Rd → Int → Bool → Option (Arm × l26Rd))} (hv91_ : ∀ a0 a1 a2, le (v91_ a0 a1 a2) (v91_' a0 a1 a2)) (v2 : Int) (v9 : Int) (v10 : Int) (v11 : (List DevArg)) (v12 : (List Net)) : ∀ x, le (gY v2 v9 v10 v11 v12 v91_ x) (gY v2 v9 v10 v11 v12 v91_' x) := by
 rintro ⟨v22, v23, v24⟩
 simp only [gY]
 repeat' (first | (with_reducible exact le_refl _) | exact hv91_ _ _ _ | exact fH hv91_ _ _ | refine az (fH hv91_ _) _ | refine bj ?_ (fun _ => ?_) | refine bm ?_ ?_ | refine di ?_ | refine bn (fun _ => ?_) | refine bO (fun _ => ?_) (fun _ => ?_) _ | refine az ?_ _)
theorem s_l7Arm_j5_le {v91_ v91_' : (l26Rd → Int → Bool → Option (Arm × l26Rd))} (hv91_ : ∀ a0 a1 a2, le (v91_ a0 a1 a2) (v91_' a0 a1 a2)) (v2 : Int) : ∀ x, le (fE v2 v91_ x) (fE v2 v91_' x) := by
 rintro ⟨v7, v8, v9, v10, v11, v12⟩
 simp only [fE]
 repeat' (first | (with_reducible exact le_refl _) | exact hv91_ _ _ _ | exact fH hv91_ _ _ | refine az (fH hv91_ _) _ | exact s_l7Arm_j11_le hv91_ _ _ _ _ _ _ | refine az (s_l7Arm_j11_le hv91_ _ _ _ _ _) _ | refine bj ?_ (fun _ => ?_) | refine bm ?_ ?_ | refine di ?_ | refine bn (fun _ => ?_) | refine bO (fun _ => ?_) (fun _ => ?_) _ | refine az ?_ _)
theorem s_l7Arm_rec_le {v91_ v91_' : (l26Rd → Int → Bool → Option (Arm × l26Rd))} (hv91_ : ∀ a0 a1 a2, le (v91_ a0 a1 a2) (v91_' a0 a1 a2)) (v1 : l26Rd) (v2 : Int) (v3 : Bool) : le (gi v91_ v1 v2 v3) (gi v91_' v1 v2 v3) := by
 unfold gi
 repeat' (first | (with_reducible exact le_refl _) | exact hv91_ _ _ _ | exact fH hv91_ _ _ | refine az (fH hv91_ _) _ | exact s_l7Arm_j11_le hv91_ _ _ _ _ _ _ | refine az (s_l7Arm_j11_le hv91_ _ _ _ _ _) _ | exact s_l7Arm_j5_le hv91_ _ _ | refine az (s_l7Arm_j5_le hv91_ _) _ | refine bj ?_ (fun _ => ?_) | refine bm ?_ ?_ | refine di ?_ | refine bn (fun _ => ?_) | refine bO (fun _ => ?_) (fun _ => ?_) _ | refine az ?_ _)
theorem con_s_l7Arm_step (v91_ : (l26Rd → Int → Bool → Option (Arm × l26Rd))) (ihv9001 : ∀ (v1 : l26Rd) (v2 : Int) (v3 : Bool) (rz : (Arm × l26Rd)), v91_ v1 v2 v3 = some rz → Con Tryz.prog C0 132 [.pt 0 0, .sc (.int .i64 (v2)), .sc (.bool (v3))] [.rc [.fz 1 (R e_u8 (v1.b)), .sc (.int .i64 (v1.p))]] (fun x σ' => x = .agg [.sc (.int .i64 (rz.1.Net_Kind)), .sc (.int .i64 (rz.1.Net_One_Op)), .fz 3 (R aa (rz.1.Net_One_Args)), .fz 4 (R aq (rz.1.Net_Kids)), .fz 2 (R aE (rz.1.Coils)), .fz 6 (R aO (rz.1.Kids))] ∧ σ' = [.rc [.fz 1 (R e_u8 (rz.2.b)), .sc (.int .i64 (rz.2.p))]])) (v1 : l26Rd) (v2 : Int) (v3 : Bool) (rz : (Arm × l26Rd)) (h : gi v91_ v1 v2 v3 = some rz) : Con Tryz.prog C0 132 [.pt 0 0, .sc (.int .i64 (v2)), .sc (.bool (v3))] [.rc [.fz 1 (R e_u8 (v1.b)), .sc (.int .i64 (v1.p))]]
  (fun x σ' => x = .agg [.sc (.int .i64 (rz.1.Net_Kind)), .sc (.int .i64 (rz.1.Net_One_Op)), .fz 3 (R aa (rz.1.Net_One_Args)), .fz 4 (R aq (rz.1.Net_Kids)), .fz 2 (R aE (rz.1.Coils)), .fz 6 (R aO (rz.1.Kids))] ∧ σ' = [.rc [.fz 1 (R e_u8 (rz.2.b)), .sc (.int .i64 (rz.2.p))]]) := by
 refine zCon hP 1 [0, 1, 2, 6, 7, 8, 9, 16, 23, 39, 44, 65] [.cell 6 136] Tryz.func132 (by unfold Tryz.f132; rfl) fun Q hQ => ?_
 unfold gi at h
 refine zS z0 (zS z0 ?_)
 refine zCut (fun (x : ((List Int) × Int × Int × Int × (List DevArg) × (List Net))) => ⟨[(0, .pt 0 0), (1, .sc (.int .i64 (v2))), (6, .pt 1 0), (7, .pt 2 0)], [.rc [.fz 1 (R e_u8 (x.1)), .sc (.int .i64 (x.2.1))], .rc [.sc (.int .i64 (0)), .sc (.int .i64 (0)), .sc (.slice none 0 0), .sc (.slice none 0 0), .sc (.slice none 0 0), .sc (.slice none 0 0)], .rc [.sc (.int .i64 (x.2.2.1)), .sc (.int .i64 (x.2.2.2.1)), .fz 3 (R aa (x.2.2.2.2.1)), .fz 4 (R aq (x.2.2.2.2.2)), .sc (.slice none 0 0), .sc (.slice none 0 0)]]⟩) (fE v2 v91_) rz ?_ ?_
 ·rintro _ ⟨v7, v8, v9, v10, v11, v12⟩ h
  simp only [fE] at h
  refine zCut (fun (x : ((List Int) × Int × (List Elem))) => ⟨[(0, .pt 0 0), (1, .sc (.int .i64 (v2))), (6, .pt 1 0), (7, .pt 2 0)], [.rc [.fz 1 (R e_u8 (x.1)), .sc (.int .i64 (x.2.1))], .rc [.sc (.int .i64 (0)), .sc (.int .i64 (0)), .sc (.slice none 0 0), .sc (.slice none 0 0), .sc (.slice none 0 0), .sc (.slice none 0 0)], .rc [.sc (.int .i64 (v9)), .sc (.int .i64 (v10)), .fz 3 (R aa (v11)), .fz 4 (R aq (v12)), .sl 3 0 ((x.2.2).length), .sc (.slice none 0 0)], .arr true 2 (R aE (x.2.2))]⟩) (gY v2 v9 v10 v11 v12 v91_) rz ?_ ?_
  ·rintro _ ⟨v22, v23, v24⟩ h
   simp only [gY] at h
   refine zCut (fun (x : ((List Int) × Int × (List Arm))) => ⟨[(0, .pt 0 0), (6, .pt 1 0), (7, .pt 2 0)], [.rc [.fz 1 (R e_u8 (x.1)), .sc (.int .i64 (x.2.1))], .rc [.sc (.int .i64 (0)), .sc (.int .i64 (0)), .sc (.slice none 0 0), .sc (.slice none 0 0), .sc (.slice none 0 0), .sc (.slice none 0 0)], .rc [.sc (.int .i64 (v9)), .sc (.int .i64 (v10)), .fz 3 (R aa (v11)), .fz 4 (R aq (v12)), .sl 3 0 ((v24).length), .sl 4 0 ((x.2.2).length)], .arr true 2 (R aE (v24)), .arr true 6 (R aO (x.2.2))]⟩) (gZ v9 v10 v11 v12 v24) rz ?_ ?_
   ·rintro _ ⟨v35, v36, v37⟩ h
    simp only [gZ] at h
    refine zCut (fun (x : ((List Int) × Int × (List Elem))) => ⟨[(6, .pt 1 0), (7, .pt 2 0)], [.rc [.fz 1 (R e_u8 (x.1)), .sc (.int .i64 (x.2.1))], .rc [.sc (.int .i64 (0)), .sc (.int .i64 (0)), .sc (.slice none 0 0), .sc (.slice none 0 0), .sc (.slice none 0 0), .sc (.slice none 0 0)], .rc [.sc (.int .i64 (v9)), .sc (.int .i64 (v10)), .fz 3 (R aa (v11)), .fz 4 (R aq (v12)), .sl 3 0 ((x.2.2).length), .sl 4 0 ((v37).length)], .arr true 2 (R aE (x.2.2)), .arr true 6 (R aO (v37))]⟩) (s_l7Arm_j45 v9 v10 v11 v12 v37) rz ?_ ?_
    ·rintro _ ⟨v39, v40, v41⟩ h
     simp only [s_l7Arm_j45] at h
     refine zS z0 (ab ?_)
     cases h
     refine zAR hQ
    ·intro k60 hk60 J59
     refine zS zR ?_
     revert h; refine zI rfl ?_ ?_ <;> intro h
     ·obtain ⟨v42, c62H, h⟩ := bS h
      obtain ⟨g63, h⟩ := gAp h
      refine zU (zPC1F (.take 0 (.take 1 (.take 2 (.one 3 (.one 4 (.last 5 (.take 6 (.last 7 .done)))))))) [2] (lC [[0]] (fj _ _ c62H)) g63) (zJ J59 [6, 7] () _ h)
     ·refine ae (zJ J59 [6, 7] () _ h)
   ·intro k65 hk65 J64
    refine sC fun k66 hk66 => ?_
    rcases bE (decide (v2 > 0)) with g67 | g67
    ·replace h := ak h g67
     obtain ⟨v43, c68H, h⟩ := bS h
     refine zU (zC1F (lC [[0]] (ah _ _ _ c68H)) g67) (r_cN hk66 ?_)
     revert h; refine zI rfl ?_ ?_ <;> intro h
     ·obtain ⟨v44, c70H, h⟩ := bS h
      refine zS (zC1 (lC [[0]] (ah _ _ _ c70H))) (sB fun k71 hk71 => ?_)
      obtain ⟨oq84, hLq84, hKq84⟩ := bS h
      clear h
      refine eg [0, 1, 6, 7, 9] [0, 1, 2, 3, 2000005] (fun (_ : Unit) (x : ((List Int) × Int × (List Arm) × Int)) => (⟨[(0, .pt 0 0), (1, .sc (.int .i64 (v2))), (6, .pt 1 0), (7, .pt 2 0), (9, .sc (.int .i64 (x.2.2.2)))], [.rc [.fz 1 (R e_u8 (x.1)), .sc (.int .i64 (x.2.1))], .rc [.sc (.int .i64 (0)), .sc (.int .i64 (0)), .sc (.slice none 0 0), .sc (.slice none 0 0), .sc (.slice none 0 0), .sc (.slice none 0 0)], .rc [.sc (.int .i64 (v9)), .sc (.int .i64 (v10)), .fz 3 (R aa (v11)), .fz 4 (R aq (v12)), .sl 3 0 ((v24).length), .sl 4 0 ((x.2.2.1).length)], .arr true 2 (R aE (v24)), .arr true 6 (R aO (x.2.2.1))]⟩ : St)) (fun (_ : Unit) (x : ((List Int) × Int × (List Arm) × Int)) => True) (gV v2 v91_) () (v44.2.b, v44.2.p, [], (IntKind.i64.wrap (1 + v44.1))) hLq84 (by rfl) (by rfl) ⟨?_, trivial⟩ ?_
      ·exact zSd
      ·rintro nq84 _ ⟨v46, v47, v48, v49⟩ xq84 kq84 hkq84 - h hIq84 hEq84
       simp only [gV] at h
       refine sC fun k85 hk85 => zS z0 ?_
       revert h; refine zI rfl ?_ ?_ <;> intro h
       ·refine ae (r_cN hk85 ?_)
        refine sC fun k87 hk87 => sB fun k88 hk88 => ?_
        obtain ⟨v52, c89H, h⟩ := bS h
        obtain ⟨g90, h⟩ := gAp h
        refine zU (zPC1F (.take 0 (.take 1 (.take 2 (.take 3 (.take 4 (.one 5 (.one 6 (.last 7 (.take 8 (.last 9 .done)))))))))) [2] (lC [[0]] (ihv9001 _ _ _ _ c89H)) g90) (r_bN hk88 ?_)
        refine r_cN hk87 (zU z0 ?_)
        refine zB hkq84 h hIq84 () trivial
       ·refine aK (r_cE hk85 ?_)
        replace h := zX h hEq84 hKq84
        refine r_kE hkq84 (r_bE hk71 ?_)
        refine zJ J64 [0, 6, 7] () _ h
     ·refine ae (zJvw J64 [0, 6, 7] [0, 1, 2, 3, 2000005] () _ h)
    ·replace h := av h g67
     refine zU (zRF g67) (r_cN hk66 ?_)
     refine sem_ifF rfl ?_
     try replace h := av h rfl
     refine ae (zJvw J64 [0, 6, 7] [0, 1, 2, 3, 2000005] () _ h)
  ·intro k92 hk92 J91
   obtain ⟨v53, c94H, h⟩ := bS h
   refine zS (zC1 (lC [[0]] (ah _ _ _ c94H))) (sB fun k95 hk95 => ?_)
   obtain ⟨oq108, hLq108, hKq108⟩ := bS h
   clear h
   refine eg [0, 1, 6, 7, 8] [0, 1, 2, 2000001] (fun (_ : Unit) (x : ((List Int) × Int × (List Elem) × Int)) => (⟨[(0, .pt 0 0), (1, .sc (.int .i64 (v2))), (6, .pt 1 0), (7, .pt 2 0), (8, .sc (.int .i64 (x.2.2.2)))], [.rc [.fz 1 (R e_u8 (x.1)), .sc (.int .i64 (x.2.1))], .rc [.sc (.int .i64 (0)), .sc (.int .i64 (0)), .sc (.slice none 0 0), .sc (.slice none 0 0), .sc (.slice none 0 0), .sc (.slice none 0 0)], .rc [.sc (.int .i64 (v9)), .sc (.int .i64 (v10)), .fz 3 (R aa (v11)), .fz 4 (R aq (v12)), .sl 3 0 ((x.2.2.1).length), .sc (.slice none 0 0)], .arr true 2 (R aE (x.2.2.1))]⟩ : St)) (fun (_ : Unit) (x : ((List Int) × Int × (List Elem) × Int)) => True) s_l7Arm_s15 () (v53.2.b, v53.2.p, [], v53.1) hLq108 (by rfl) (by rfl) ⟨?_, trivial⟩ ?_
   ·exact zSd
   ·rintro nq108 _ ⟨v55, v56, v57, v58⟩ xq108 kq108 hkq108 - h hIq108 hEq108
    simp only [s_l7Arm_s15] at h
    refine sC fun k109 hk109 => zS z0 ?_
    revert h; refine zI rfl ?_ ?_ <;> intro h
    ·refine ae (r_cN hk109 ?_)
     refine sC fun k111 hk111 => sB fun k112 hk112 => ?_
     obtain ⟨v61, c113H, h⟩ := bS h
     obtain ⟨g114, h⟩ := gAp h
     refine zU (zPC1F (.take 0 (.take 1 (.take 2 (.one 3 (.one 4 (.last 5 (.take 6 (.last 7 .done)))))))) [2] (lC [[0]] (fj _ _ c113H)) g114) (r_bN hk112 ?_)
     refine r_cN hk111 (zU z0 ?_)
     refine zB hkq108 h hIq108 () trivial
    ·refine aK (r_cE hk109 ?_)
     replace h := zX h hEq108 hKq108
     refine r_kE hkq108 (r_bE hk95 ?_)
     refine zJ J91 [0, 1, 6, 7] () _ h
 ·intro k116 hk116 J115
  refine sC fun k117 hk117 => ?_
  rcases bE v3 with g118 | g118
  ·replace h := ak h g118
   refine zU (zRF g118) (r_cN hk117 ?_)
   refine bM rfl ?_
   try replace h := ak h rfl
   obtain ⟨v63, c119H, h⟩ := bS h
   refine zU (zC1 (lC [[0]] (con_s_l7Net _ _ _ c119H))) (zJ J115 [0, 1, 6, 7] () _ h)
  ·replace h := av h g118
   obtain ⟨v62, c120H, h⟩ := bS h
   refine zU (zC1F (lC [[0]] (ah _ _ _ c120H)) g118) (r_cN hk117 ?_)
   revert h; refine zI rfl ?_ ?_ <;> intro h
   ·obtain ⟨v64, c121H, h⟩ := bS h
    refine zU (zC1 (lC [[0]] (con_s_l7Net _ _ _ c121H))) (zJ J115 [0, 1, 6, 7] () _ h)
   ·refine ae (zJw J115 [0, 1, 6, 7] () _ h)
def eI : Nat → (l26Rd → Int → Bool → Option (Arm × l26Rd))
 | 0 => fun _ _ _ => none
 | n + 1 => fun v1 v2 v3 => gi (eI n) v1 v2 v3
theorem s_l7Arm_scc_mono : ∀ n, (∀ (v1 : l26Rd) (v2 : Int) (v3 : Bool), le ((eI n) v1 v2 v3) ((eI (n + 1)) v1 v2 v3)) := by
 intro n
 induction n with
 | zero => exact fun _ _ _ => le_none _
 | succ n ih => exact fun v1 v2 v3 => s_l7Arm_rec_le ih v1 v2 v3
def s_l7Arm (v1 : l26Rd) (v2 : Int) (v3 : Bool) : Option (Arm × l26Rd) := lim fun n => (eI n) v1 v2 v3
theorem s_l7Arm_up (v1 : l26Rd) (v2 : Int) (v3 : Bool) {n : Nat} {r : (Arm × l26Rd)} (e : (eI n) v1 v2 v3 = some r) : s_l7Arm v1 v2 v3 = some r := lim_eq (fun n => (s_l7Arm_scc_mono n) v1 v2 v3) e
theorem con_s_l7Arm_scc : ∀ n, (∀ (v1 : l26Rd) (v2 : Int) (v3 : Bool) (rz : (Arm × l26Rd)), (eI n) v1 v2 v3 = some rz → Con Tryz.prog C0 132 [.pt 0 0, .sc (.int .i64 (v2)), .sc (.bool (v3))] [.rc [.fz 1 (R e_u8 (v1.b)), .sc (.int .i64 (v1.p))]] (fun x σ' => x = .agg [.sc (.int .i64 (rz.1.Net_Kind)), .sc (.int .i64 (rz.1.Net_One_Op)), .fz 3 (R aa (rz.1.Net_One_Args)), .fz 4 (R aq (rz.1.Net_Kids)), .fz 2 (R aE (rz.1.Coils)), .fz 6 (R aO (rz.1.Kids))] ∧ σ' = [.rc [.fz 1 (R e_u8 (rz.2.b)), .sc (.int .i64 (rz.2.p))]])) := by
 intro n
 induction n with
 | zero =>
  intro v1 v2 v3 rz h; cases h
 | succ n ih =>
  exact fun v1 v2 v3 rz h => con_s_l7Arm_step (eI n) (ih) v1 v2 v3 rz h
theorem con_s_l7Arm (v1 : l26Rd) (v2 : Int) (v3 : Bool) (rz : (Arm × l26Rd)) (h : s_l7Arm v1 v2 v3 = some rz) : Con Tryz.prog C0 132 [.pt 0 0, .sc (.int .i64 (v2)), .sc (.bool (v3))] [.rc [.fz 1 (R e_u8 (v1.b)), .sc (.int .i64 (v1.p))]]
  (fun x σ' => x = .agg [.sc (.int .i64 (rz.1.Net_Kind)), .sc (.int .i64 (rz.1.Net_One_Op)), .fz 3 (R aa (rz.1.Net_One_Args)), .fz 4 (R aq (rz.1.Net_Kids)), .fz 2 (R aE (rz.1.Coils)), .fz 6 (R aO (rz.1.Kids))] ∧ σ' = [.rc [.fz 1 (R e_u8 (rz.2.b)), .sc (.int .i64 (rz.2.p))]]) := by
 obtain ⟨n, hn⟩ := en h
 exact (con_s_l7Arm_scc n) v1 v2 v3 _ hn
def gG (v1 : Net) : Option Bool :=
 (some ((((v1.Kind == 0) && (v1.One_Op == 0)) && (((v1.One_Args).length : Int) == 0)) && (((v1.Kids).length : Int) == 0)))
theorem ey (v1 : Net) (rz : Bool) (h : gG v1 = some rz) : Con Tryz.prog C0 211 [.agg [.sc (.int .i64 (v1.Kind)), .sc (.int .i64 (v1.One_Op)), .fz 3 (R aa (v1.One_Args)), .fz 4 (R aq (v1.Kids))]] []
  (fun x σ' => x = .sc (.bool (rz)) ∧ σ' = []) := by
 refine zCon hP 0 [0, 1, 2] [.tmp 2] Tryz.func211 (by unfold Tryz.f211; rfl) fun Q hQ => ?_
 unfold gG at h
 refine zS z0 (zS zR ?_)
 refine ab ?_
 cases h
 refine zAR hQ
def s_l7NetSize_j5 : Int → Option Int
 | v11 => (some v11)
def dZ (v1 : Net) (v91_ : (Net → Option Int)) : (Int × Int) → Option ((Int × Int) ⊕ Int)
 | (v14, v15) => (cond (decide (v15 < ((v1.Kids).length : Int))) ((idx v1.Kids (v15)).bind fun v19 => ((v91_ v19).bind fun v20 => (some (.inl ((IntKind.i64.wrap (v14 + v20)), (IntKind.i64.wrap (v15 + 1))))))) (some (.inr v14)))
def dG (v91_ : (Net → Option Int)) (v1 : Net) : Option Int :=
 ((loop (dZ v1 v91_) (1, 0)).bind (fun v18 => (s_l7NetSize_j5 v18)))
theorem s_l7NetSize_s9_le {v91_ v91_' : (Net → Option Int)} (hv91_ : ∀ a0, le (v91_ a0) (v91_' a0)) (v1 : Net) : ∀ x, le (dZ v1 v91_ x) (dZ v1 v91_' x) := by
 rintro ⟨v14, v15⟩
 simp only [dZ]
 repeat' (first | (with_reducible exact le_refl _) | exact hv91_ _ | refine bj ?_ (fun _ => ?_) | refine bm ?_ ?_ | refine di ?_ | refine bn (fun _ => ?_) | refine bO (fun _ => ?_) (fun _ => ?_) _ | refine az ?_ _)
theorem s_l7NetSize_rec_le {v91_ v91_' : (Net → Option Int)} (hv91_ : ∀ a0, le (v91_ a0) (v91_' a0)) (v1 : Net) : le (dG v91_ v1) (dG v91_' v1) := by
 unfold dG
 repeat' (first | (with_reducible exact le_refl _) | exact hv91_ _ | exact s_l7NetSize_s9_le hv91_ _ _ | refine az (s_l7NetSize_s9_le hv91_ _) _ | refine bj ?_ (fun _ => ?_) | refine bm ?_ ?_ | refine di ?_ | refine bn (fun _ => ?_) | refine bO (fun _ => ?_) (fun _ => ?_) _ | refine az ?_ _)
theorem con_s_l7NetSize_step (v91_ : (Net → Option Int)) (ihv9001 : ∀ (v1 : Net) (rz : Int), v91_ v1 = some rz → Con Tryz.prog C0 252 [.agg [.sc (.int .i64 (v1.Kind)), .sc (.int .i64 (v1.One_Op)), .fz 3 (R aa (v1.One_Args)), .fz 4 (R aq (v1.Kids))]] [] (fun x σ' => x = .sc (.int .i64 (rz)) ∧ σ' = [])) (v1 : Net) (rz : Int) (h : dG v91_ v1 = some rz) : Con Tryz.prog C0 252 [.agg [.sc (.int .i64 (v1.Kind)), .sc (.int .i64 (v1.One_Op)), .fz 3 (R aa (v1.One_Args)), .fz 4 (R aq (v1.Kids))]] []
  (fun x σ' => x = .sc (.int .i64 (rz)) ∧ σ' = []) := by
 refine zCon hP 0 [0, 1, 2, 3, 4, 9] [.tmp 2] Tryz.func252 (by unfold Tryz.f252; rfl) fun Q hQ => ?_
 unfold dG at h
 refine zS z0 (zS z0 ?_)
 refine zCut (fun (x : Int) => ⟨[(3, .sc (.int .i64 (x)))], []⟩) s_l7NetSize_j5 rz ?_ ?_
 ·rintro _ v11 h
  simp only [s_l7NetSize_j5] at h
  refine zS z0 (ab ?_)
  cases h
  refine zAR hQ
 ·intro k26 hk26 J25
  refine zS z0 (sB fun k28 hk28 => ?_)
  obtain ⟨oq41, hLq41, hKq41⟩ := bS h
  clear h
  refine ay [1, 3, 4] (fun (_ : Unit) (x : (Int × Int)) => (⟨[(1, .pt 0 0), (3, .sc (.int .i64 (x.1))), (4, .sc (.int .i64 (x.2)))], [.rc [.sc (.int .i64 (v1.Kind)), .sc (.int .i64 (v1.One_Op)), .fz 3 (R aa (v1.One_Args)), .fz 4 (R aq (v1.Kids))]]⟩ : St)) (fun (_ : Unit) (x : (Int × Int)) => True) (dZ v1 v91_) () (1, 0) hLq41 (by rfl) (by rfl) ⟨?_, trivial⟩ ?_
  ·exact zSa
  ·rintro nq41 _ ⟨v14, v15⟩ xq41 kq41 hkq41 - h hIq41 hEq41
   simp only [dZ] at h
   refine sC fun k42 hk42 => zS z0 ?_
   revert h; refine zI rfl ?_ ?_ <;> intro h
   ·refine ae (r_cN hk42 ?_)
    refine sC fun k44 hk44 => sB fun k45 hk45 => ?_
    obtain ⟨v19, h, c46⟩ := bI h
    obtain ⟨v20, c47H, h⟩ := bS h
    refine zU (zC1F (lF [] (ihv9001 _ _ c47H)) c46) (r_bN hk45 ?_)
    refine r_cN hk44 (zU z0 ?_)
    refine zB hkq41 h hIq41 () trivial
   ·refine aK (r_cE hk42 ?_)
    replace h := zX h hEq41 hKq41
    refine r_kE hkq41 (r_bE hk28 ?_)
    refine zJ J25 [3] () _ h
def cL : Nat → (Net → Option Int)
 | 0 => fun _ => none
 | n + 1 => fun v1 => dG (cL n) v1
theorem s_l7NetSize_scc_mono : ∀ n, (∀ (v1 : Net), le ((cL n) v1) ((cL (n + 1)) v1)) := by
 intro n
 induction n with
 | zero => exact fun _ => le_none _
 | succ n ih => exact fun v1 => s_l7NetSize_rec_le ih v1
def s_l7NetSize (v1 : Net) : Option Int := lim fun n => (cL n) v1
theorem s_l7NetSize_up (v1 : Net) {n : Nat} {r : Int} (e : (cL n) v1 = some r) : s_l7NetSize v1 = some r := lim_eq (fun n => (s_l7NetSize_scc_mono n) v1) e
theorem con_s_l7NetSize_scc : ∀ n, (∀ (v1 : Net) (rz : Int), (cL n) v1 = some rz → Con Tryz.prog C0 252 [.agg [.sc (.int .i64 (v1.Kind)), .sc (.int .i64 (v1.One_Op)), .fz 3 (R aa (v1.One_Args)), .fz 4 (R aq (v1.Kids))]] [] (fun x σ' => x = .sc (.int .i64 (rz)) ∧ σ' = [])) := by
 intro n
 induction n with
 | zero =>
  intro v1 rz h; cases h
 | succ n ih =>
  exact fun v1 rz h => con_s_l7NetSize_step (cL n) (ih) v1 rz h
theorem con_s_l7NetSize (v1 : Net) (rz : Int) (h : s_l7NetSize v1 = some rz) : Con Tryz.prog C0 252 [.agg [.sc (.int .i64 (v1.Kind)), .sc (.int .i64 (v1.One_Op)), .fz 3 (R aa (v1.One_Args)), .fz 4 (R aq (v1.Kids))]] []
  (fun x σ' => x = .sc (.int .i64 (rz)) ∧ σ' = []) := by
 obtain ⟨n, hn⟩ := en h
 exact (con_s_l7NetSize_scc n) v1 _ hn
def s_l7ArmSize_j11 : Int → Option Int
 | v14 => (some v14)
def dF (v1 : Arm) (v91_ : (Arm → Option Int)) : (Int × Int) → Option ((Int × Int) ⊕ Int)
 | (v17, v18) => (cond (decide (v18 < ((v1.Kids).length : Int))) ((idx v1.Kids (v18)).bind fun v22 => ((v91_ v22).bind fun v23 => (some (.inl ((IntKind.i64.wrap (v17 + v23)), (IntKind.i64.wrap (v18 + 1))))))) (some (.inr v17)))
def dA (v1 : Arm) (v91_ : (Arm → Option Int)) : Int → Option Int
 | v4 => ((loop (dF v1 v91_) (v4, 0)).bind (fun v21 => (s_l7ArmSize_j11 v21)))
def dH (v91_ : (Arm → Option Int)) (v1 : Arm) : Option Int :=
 ((gG (⟨v1.Net_Kind, v1.Net_One_Op, v1.Net_One_Args, v1.Net_Kids⟩ : Net)).bind fun v24 => (cond (!v24) ((s_l7NetSize (⟨v1.Net_Kind, v1.Net_One_Op, v1.Net_One_Args, v1.Net_Kids⟩ : Net)).bind fun v25 => (dA v1 v91_ (IntKind.i64.wrap ((IntKind.i64.wrap (1 + ((v1.Coils).length : Int))) + v25)))) (dA v1 v91_ (IntKind.i64.wrap (1 + ((v1.Coils).length : Int))))))
theorem gk {v91_ v91_' : (Arm → Option Int)} (hv91_ : ∀ a0, le (v91_ a0) (v91_' a0)) (v1 : Arm) : ∀ x, le (dF v1 v91_ x) (dF v1 v91_' x) := by
 rintro ⟨v17, v18⟩
 simp only [dF]
 repeat' (first | (with_reducible exact le_refl _) | exact hv91_ _ | refine bj ?_ (fun _ => ?_) | refine bm ?_ ?_ | refine di ?_ | refine bn (fun _ => ?_) | refine bO (fun _ => ?_) (fun _ => ?_) _ | refine az ?_ _)
theorem s_l7ArmSize_j5_le {v91_ v91_' : (Arm → Option Int)} (hv91_ : ∀ a0, le (v91_ a0) (v91_' a0)) (v1 : Arm) : ∀ x, le (dA v1 v91_ x) (dA v1 v91_' x) := by
 rintro v4
 simp only [dA]
 repeat' (first | (with_reducible exact le_refl _) | exact hv91_ _ | exact gk hv91_ _ _ | refine az (gk hv91_ _) _ | refine bj ?_ (fun _ => ?_) | refine bm ?_ ?_ | refine di ?_ | refine bn (fun _ => ?_) | refine bO (fun _ => ?_) (fun _ => ?_) _ | refine az ?_ _)
theorem s_l7ArmSize_rec_le {v91_ v91_' : (Arm → Option Int)} (hv91_ : ∀ a0, le (v91_ a0) (v91_' a0)) (v1 : Arm) : le (dH v91_ v1) (dH v91_' v1) := by
 unfold dH
 repeat' (first | (with_reducible exact le_refl _) | exact hv91_ _ | exact gk hv91_ _ _ | refine az (gk hv91_ _) _ | exact s_l7ArmSize_j5_le hv91_ _ _ | refine az (s_l7ArmSize_j5_le hv91_ _) _ | refine bj ?_ (fun _ => ?_) | refine bm ?_ ?_ | refine di ?_ | refine bn (fun _ => ?_) | refine bO (fun _ => ?_) (fun _ => ?_) _ | refine az ?_ _)
theorem con_s_l7ArmSize_step (v91_ : (Arm → Option Int)) (ihv9001 : ∀ (v1 : Arm) (rz : Int), v91_ v1 = some rz → Con Tryz.prog C0 207 [.agg [.sc (.int .i64 (v1.Net_Kind)), .sc (.int .i64 (v1.Net_One_Op)), .fz 3 (R aa (v1.Net_One_Args)), .fz 4 (R aq (v1.Net_Kids)), .fz 2 (R aE (v1.Coils)), .fz 6 (R aO (v1.Kids))]] [] (fun x σ' => x = .sc (.int .i64 (rz)) ∧ σ' = [])) (v1 : Arm) (rz : Int) (h : dH v91_ v1 = some rz) : Con Tryz.prog C0 207 [.agg [.sc (.int .i64 (v1.Net_Kind)), .sc (.int .i64 (v1.Net_One_Op)), .fz 3 (R aa (v1.Net_One_Args)), .fz 4 (R aq (v1.Net_Kids)), .fz 2 (R aE (v1.Coils)), .fz 6 (R aO (v1.Kids))]] []
  (fun x σ' => x = .sc (.int .i64 (rz)) ∧ σ' = []) := by
 refine zCon hP 0 [0, 1, 2, 3, 4, 12, 22] [.tmp 2] Tryz.func207 (by unfold Tryz.f207; rfl) fun Q hQ => ?_
 unfold dH at h
 refine zS z0 (zS z0 ?_)
 refine zCut (fun (x : Int) => ⟨[(1, .pt 0 0), (3, .sc (.int .i64 (x)))], [.rc [.sc (.int .i64 (v1.Net_Kind)), .sc (.int .i64 (v1.Net_One_Op)), .fz 3 (R aa (v1.Net_One_Args)), .fz 4 (R aq (v1.Net_Kids)), .fz 2 (R aE (v1.Coils)), .fz 6 (R aO (v1.Kids))]]⟩) (dA v1 v91_) rz ?_ ?_
 ·rintro _ v4 h
  simp only [dA] at h
  refine zCut (fun (x : Int) => ⟨[(3, .sc (.int .i64 (x)))], []⟩) s_l7ArmSize_j11 rz ?_ ?_
  ·rintro _ v14 h
   simp only [s_l7ArmSize_j11] at h
   refine zS z0 (ab ?_)
   cases h
   refine zAR hQ
  ·intro k29 hk29 J28
   refine zS z0 (sB fun k31 hk31 => ?_)
   obtain ⟨oq44, hLq44, hKq44⟩ := bS h
   clear h
   refine ay [1, 3, 4] (fun (_ : Unit) (x : (Int × Int)) => (⟨[(1, .pt 0 0), (3, .sc (.int .i64 (x.1))), (4, .sc (.int .i64 (x.2)))], [.rc [.sc (.int .i64 (v1.Net_Kind)), .sc (.int .i64 (v1.Net_One_Op)), .fz 3 (R aa (v1.Net_One_Args)), .fz 4 (R aq (v1.Net_Kids)), .fz 2 (R aE (v1.Coils)), .fz 6 (R aO (v1.Kids))]]⟩ : St)) (fun (_ : Unit) (x : (Int × Int)) => True) (dF v1 v91_) () (v4, 0) hLq44 (by rfl) (by rfl) ⟨?_, trivial⟩ ?_
   ·exact zSa
   ·rintro nq44 _ ⟨v17, v18⟩ xq44 kq44 hkq44 - h hIq44 hEq44
    simp only [dF] at h
    refine sC fun k45 hk45 => zS z0 ?_
    revert h; refine zI rfl ?_ ?_ <;> intro h
    ·refine ae (r_cN hk45 ?_)
     refine sC fun k47 hk47 => sB fun k48 hk48 => ?_
     obtain ⟨v22, h, c49⟩ := bI h
     obtain ⟨v23, c50H, h⟩ := bS h
     refine zU (zC1F (lF [] (ihv9001 _ _ c50H)) c49) (r_bN hk48 ?_)
     refine r_cN hk47 (zU z0 ?_)
     refine zB hkq44 h hIq44 () trivial
    ·refine aK (r_cE hk45 ?_)
     replace h := zX h hEq44 hKq44
     refine r_kE hkq44 (r_bE hk31 ?_)
     refine zJ J28 [3] () _ h
 ·intro k52 hk52 J51
  obtain ⟨v24, c54H, h⟩ := bS h
  refine zS (zC1 (lF [] (ey _ _ c54H))) ?_
  revert h; refine zI rfl ?_ ?_ <;> intro h
  ·obtain ⟨v25, c55H, h⟩ := bS h
   refine zU (zC1 (lF [] (con_s_l7NetSize _ _ c55H))) (zJ J51 [1, 3] () _ h)
  ·refine ae (zJ J51 [1, 3] () _ h)
def cq : Nat → (Arm → Option Int)
 | 0 => fun _ => none
 | n + 1 => fun v1 => dH (cq n) v1
theorem s_l7ArmSize_scc_mono : ∀ n, (∀ (v1 : Arm), le ((cq n) v1) ((cq (n + 1)) v1)) := by
 intro n
 induction n with
 | zero => exact fun _ => le_none _
 | succ n ih => exact fun v1 => s_l7ArmSize_rec_le ih v1
def s_l7ArmSize (v1 : Arm) : Option Int := lim fun n => (cq n) v1
theorem s_l7ArmSize_up (v1 : Arm) {n : Nat} {r : Int} (e : (cq n) v1 = some r) : s_l7ArmSize v1 = some r := lim_eq (fun n => (s_l7ArmSize_scc_mono n) v1) e
theorem con_s_l7ArmSize_scc : ∀ n, (∀ (v1 : Arm) (rz : Int), (cq n) v1 = some rz → Con Tryz.prog C0 207 [.agg [.sc (.int .i64 (v1.Net_Kind)), .sc (.int .i64 (v1.Net_One_Op)), .fz 3 (R aa (v1.Net_One_Args)), .fz 4 (R aq (v1.Net_Kids)), .fz 2 (R aE (v1.Coils)), .fz 6 (R aO (v1.Kids))]] [] (fun x σ' => x = .sc (.int .i64 (rz)) ∧ σ' = [])) := by
 intro n
 induction n with
 | zero =>
  intro v1 rz h; cases h
 | succ n ih =>
  exact fun v1 rz h => con_s_l7ArmSize_step (cq n) (ih) v1 rz h
theorem con_s_l7ArmSize (v1 : Arm) (rz : Int) (h : s_l7ArmSize v1 = some rz) : Con Tryz.prog C0 207 [.agg [.sc (.int .i64 (v1.Net_Kind)), .sc (.int .i64 (v1.Net_One_Op)), .fz 3 (R aa (v1.Net_One_Args)), .fz 4 (R aq (v1.Net_Kids)), .fz 2 (R aE (v1.Coils)), .fz 6 (R aO (v1.Kids))]] []
  (fun x σ' => x = .sc (.int .i64 (rz)) ∧ σ' = []) := by
 obtain ⟨n, hn⟩ := en h
 exact (con_s_l7ArmSize_scc n) v1 _ hn
def s_TreeSize_j5 : Int → Option Int
 | v11 => (some v11)
def iL (v1 : (List Arm)) : (Int × Int) → Option ((Int × Int) ⊕ Int)
 | (v14, v15) => (cond (decide (v15 < ((v1).length : Int))) ((idx v1 (v15)).bind fun v19 => ((s_l7ArmSize v19).bind fun v20 => (some (.inl ((IntKind.i64.wrap (v14 + v20)), (IntKind.i64.wrap (v15 + 1))))))) (some (.inr v14)))
def s_TreeSize (v1 : (List Arm)) : Option Int :=
 ((loop (iL v1) (0, 0)).bind (fun v18 => (s_TreeSize_j5 v18)))
theorem con_s_TreeSize (v1 : (List Arm)) (rz : Int) (h : s_TreeSize v1 = some rz) : Con Tryz.prog C0 133 [.fz 6 (R aO (v1))] []
  (fun x σ' => x = .sc (.int .i64 (rz)) ∧ σ' = []) := by
 refine zCon hP 0 [0, 2, 3, 4, 8] [.tmp 2] Tryz.func133 (by unfold Tryz.f133; rfl) fun Q hQ => ?_
 unfold s_TreeSize at h
 refine zS z0 (zS z0 ?_)
 refine zCut (fun (x : Int) => ⟨[(3, .sc (.int .i64 (x)))], []⟩) s_TreeSize_j5 rz ?_ ?_
 ·rintro _ v11 h
  simp only [s_TreeSize_j5] at h
  refine zS z0 (ab ?_)
  cases h
  refine zAR hQ
 ·intro k26 hk26 J25
  refine zS z0 (sB fun k28 hk28 => ?_)
  obtain ⟨oq41, hLq41, hKq41⟩ := bS h
  clear h
  refine ay [0, 3, 4] (fun (_ : Unit) (x : (Int × Int)) => (⟨[(0, .fz 6 (R aO (v1))), (3, .sc (.int .i64 (x.1))), (4, .sc (.int .i64 (x.2)))], []⟩ : St)) (fun (_ : Unit) (x : (Int × Int)) => True) (iL v1) () (0, 0) hLq41 (by rfl) (by rfl) ⟨?_, trivial⟩ ?_
  ·exact zSa
  ·rintro nq41 _ ⟨v14, v15⟩ xq41 kq41 hkq41 - h hIq41 hEq41
   simp only [iL] at h
   refine sC fun k42 hk42 => zS z0 ?_
   revert h; refine zI rfl ?_ ?_ <;> intro h
   ·refine ae (r_cN hk42 ?_)
    refine sC fun k44 hk44 => sB fun k45 hk45 => ?_
    obtain ⟨v19, h, c46⟩ := bI h
    obtain ⟨v20, c47H, h⟩ := bS h
    refine zU (zC1F (lF [] (con_s_l7ArmSize _ _ c47H)) c46) (r_bN hk45 ?_)
    refine r_cN hk44 (zU z0 ?_)
    refine zB hkq41 h hIq41 () trivial
   ·refine aK (r_cE hk42 ?_)
    replace h := zX h hEq41 hKq41
    refine r_kE hkq41 (r_bE hk28 ?_)
    refine zJ J25 [3] () _ h
def s_l7Ladder_j43 (v17 : (List Int)) (v18 : Int) (v19 : (List Arm)) : Nat → Option ((List Arm) × l26Rd)
 | v25 => (some ((v19).take (v25), (⟨v17, v18⟩ : l26Rd)))
def s_l7Ladder_s45 (v19 : (List Arm)) : Nat → Option (Nat ⊕ Nat)
 | v27 => (cond (decide (((v27 : Nat) : Int) > 0)) ((s_TreeSize ((v19).take (v27))).bind fun v30 => (cond (decide (v30 > 400)) (gd (decide (0 ≤ (IntKind.i64.wrap (((v27 : Nat) : Int) - 1))) && decide ((IntKind.i64.wrap (((v27 : Nat) : Int) - 1)) ≤ ((v27 : Nat) : Int))) (some (.inl (((IntKind.i64.wrap (((v27 : Nat) : Int) - 1))).toNat)))) (some (.inr v27)))) (some (.inr v27)))
def s_l7Ladder_j28 : ((List Int) × Int × (List Arm)) → Option ((List Arm) × l26Rd)
 | (v17, v18, v19) => ((loop (s_l7Ladder_s45 v19) ((v19).length)).bind (fun v29 => (s_l7Ladder_j43 v17 v18 v19 v29)))
def s_l7Ladder_s32 : ((List Int) × Int × (List Arm) × Int) → Option (((List Int) × Int × (List Arm) × Int) ⊕ ((List Int) × Int × (List Arm)))
 | (v33, v34, v35, v36) => (cond (decide (v36 > 0)) ((s_l7Arm (⟨v33, v34⟩ : l26Rd) 2 true).bind fun v39 => (gd (apOk ((v35 ++ [v39.1])).length 112) (some (.inl (v39.2.b, v39.2.p, (v35 ++ [v39.1]), (IntKind.i64.wrap (v36 - 1))))))) (some (.inr (v33, v34, v35))))
def s_l7Ladder (v1 : l26Rd) : Option ((List Arm) × l26Rd) :=
 ((ai v1 24).bind fun v2 => (cond (v2.1 == 0) ((bb v2.2 [9, 15, 16, 17, 18, 30]).bind fun v3 => ((s_l7Stair v3.2 v3.1).bind fun v4 => ((gD v4.2).bind fun v5 => (gd (apOk ([(⟨v4.1.Kind, v4.1.One_Op, v4.1.One_Args, v4.1.Kids, [v5.1], []⟩ : Arm)]).length 112) (some ([(⟨v4.1.Kind, v4.1.One_Op, v4.1.One_Args, v4.1.Kids, [v5.1], []⟩ : Arm)], v5.2)))))) (cond (v2.1 == 1) ((bb v2.2 [5, 7, 8, 9, 12]).bind fun v6 => ((s_l7Forks v6.2 v6.1).bind fun v7 => (gd (apOk ([(⟨v7.1.Net_Kind, v7.1.Net_One_Op, v7.1.Net_One_Args, [], v7.1.Coils, v7.1.Kids⟩ : Arm)]).length 112) (some ([(⟨v7.1.Net_Kind, v7.1.Net_One_Op, v7.1.Net_One_Args, [], v7.1.Coils, v7.1.Kids⟩ : Arm)], v7.2))))) (cond (v2.1 == 2) (some ([], v2.2)) ((ai v2.2 4).bind fun v31 => ((loop s_l7Ladder_s32 (v31.2.b, v31.2.p, [], (IntKind.i64.wrap (1 + v31.1)))).bind (fun v38 => (s_l7Ladder_j28 (v38.1, v38.2.1, v38.2.2)))))))))
theorem con_s_l7Ladder (v1 : l26Rd) (rz : ((List Arm) × l26Rd)) (h : s_l7Ladder v1 = some rz) : Con Tryz.prog C0 63 [.pt 0 0] [.rc [.fz 1 (R e_u8 (v1.b)), .sc (.int .i64 (v1.p))]]
  (fun x σ' => x = .fz 6 (R aO (rz.1)) ∧ σ' = [.rc [.fz 1 (R e_u8 (rz.2.b)), .sc (.int .i64 (rz.2.p))]]) := by
 refine zCon hP 1 [0, 2, 3, 4, 7, 8, 22, 32, 39, 54] [.tmp 2] Tryz.func63 (by unfold Tryz.f63; rfl) fun Q hQ => ?_
 unfold s_l7Ladder at h
 refine zS z0 (zS z0 ?_)
 refine sC fun k3 hk3 => ?_
 obtain ⟨v2, c5H, h⟩ := bS h
 refine zS (zC1 (lC [[0]] (ah _ _ _ c5H))) (sB fun k6 hk6 => ?_)
 refine zS z0 ?_
 revert h; refine zI rfl ?_ ?_ <;> intro h
 ·obtain ⟨v3, c9H, h⟩ := bS h
  obtain ⟨v4, c10H, h⟩ := bS h
  obtain ⟨v5, c11H, h⟩ := bS h
  obtain ⟨g12, h⟩ := gAp h
  refine zS (zC3Fn (lC [[0]] (aN _ _ _ c9H)) (lC [[0]] (con_s_l7Stair _ _ _ c10H)) (lC [[0]] (fj _ _ c11H)) g12) (ab ?_)
  refine r_bR hk6 (r_cR hk3 ?_)
  cases h
  refine zARd hQ
 ·refine zS z0 ?_
  revert h; refine zI rfl ?_ ?_ <;> intro h
  ·obtain ⟨v6, c15H, h⟩ := bS h
   obtain ⟨v7, c16H, h⟩ := bS h
   obtain ⟨g17, h⟩ := gAp h
   refine zS (zC2Fn (lC [[0]] (aN _ _ _ c15H)) (lC [[0]] (con_s_l7Forks _ _ _ c16H)) g17) (ab ?_)
   refine r_bR hk6 (r_cR hk3 ?_)
   cases h
   refine zARd hQ
  ·refine zS z0 ?_
   revert h; refine zI rfl ?_ ?_ <;> intro h
   ·refine zS z0 (ab ?_)
    refine r_bR hk6 (r_cR hk3 ?_)
    cases h
    refine zAR hQ
   ·refine ae (r_bN hk6 ?_)
    refine r_cN hk3 (zCut (fun (x : ((List Int) × Int × (List Arm))) => ⟨[(3, .sl 1 0 ((x.2.2).length))], [.rc [.fz 1 (R e_u8 (x.1)), .sc (.int .i64 (x.2.1))], .arr true 6 (R aO (x.2.2))]⟩) s_l7Ladder_j28 rz ?_ ?_)
    ·rintro _ ⟨v17, v18, v19⟩ h
     simp only [s_l7Ladder_j28] at h
     refine zCut (fun (x : Nat) => ⟨[(3, .sl 1 0 (x))], [.rc [.fz 1 (R e_u8 (v17)), .sc (.int .i64 (v18))], .arr true 6 (R aO (v19))]⟩) (s_l7Ladder_j43 v17 v18 v19) rz ?_ ?_
     ·rintro _ v25 h
      simp only [s_l7Ladder_j43] at h
      refine zS z0 (ab ?_)
      cases h
      refine zAR hQ
     ·intro k64 hk64 J63
      refine sB fun k65 hk65 => ?_
      obtain ⟨oq78, hLq78, hKq78⟩ := bS h
      clear h
      refine ay [3] (fun (_ : Unit) (x : Nat) => (⟨[(3, .sl 1 0 (x))], [.rc [.fz 1 (R e_u8 (v17)), .sc (.int .i64 (v18))], .arr true 6 (R aO (v19))]⟩ : St)) (fun (_ : Unit) (x : Nat) => True) (s_l7Ladder_s45 v19) () ((v19).length) hLq78 (by rfl) (by rfl) ⟨?_, trivial⟩ ?_
      ·exact zSa
      ·rintro nq78 _ v27 xq78 kq78 hkq78 - h hIq78 hEq78
       simp only [s_l7Ladder_s45] at h
       refine sC fun k79 hk79 => sC fun k80 hk80 => ?_
       rcases bE (decide (((v27 : Nat) : Int) > 0)) with g81 | g81
       ·replace h := ak h g81
        obtain ⟨v30, c82H, h⟩ := bS h
        refine zU (zC1F (lF [] (con_s_TreeSize _ _ c82H)) g81) (r_cN hk80 ?_)
        revert h; refine zI rfl ?_ ?_ <;> intro h
        ·refine ae (r_cN hk79 ?_)
         refine sB fun k83 hk83 => ?_
         obtain ⟨g84, h⟩ := gD2 h
         refine zU (zRF g84) (r_bN hk83 ?_)
         refine zB hkq78 h hIq78 () trivial
        ·refine aK (r_cE hk79 ?_)
         replace h := zX h hEq78 hKq78
         refine r_kE hkq78 (r_bE hk65 ?_)
         refine zJ J63 [3] () _ h
       ·replace h := av h g81
        refine zU (zRF g81) (r_cN hk80 ?_)
        refine sem_ifF rfl ?_
        try replace h := av h rfl
        refine aK (r_cE hk79 ?_)
        replace h := zX h hEq78 hKq78
        refine r_kE hkq78 (r_bE hk65 ?_)
        refine zJ J63 [3] () _ h
    ·intro k86 hk86 J85
     obtain ⟨v31, c88H, h⟩ := bS h
     refine zS (zC1 (lC [[0]] (ah _ _ _ c88H))) (sB fun k89 hk89 => ?_)
     obtain ⟨oq102, hLq102, hKq102⟩ := bS h
     clear h
     refine ay [0, 3, 4] (fun (_ : Unit) (x : ((List Int) × Int × (List Arm) × Int)) => (⟨[(0, .pt 0 0), (3, .sl 1 0 ((x.2.2.1).length)), (4, .sc (.int .i64 (x.2.2.2)))], [.rc [.fz 1 (R e_u8 (x.1)), .sc (.int .i64 (x.2.1))], .arr true 6 (R aO (x.2.2.1))]⟩ : St)) (fun (_ : Unit) (x : ((List Int) × Int × (List Arm) × Int)) => True) s_l7Ladder_s32 () (v31.2.b, v31.2.p, [], (IntKind.i64.wrap (1 + v31.1))) hLq102 (by rfl) (by rfl) ⟨?_, trivial⟩ ?_
     ·exact zSa
     ·rintro nq102 _ ⟨v33, v34, v35, v36⟩ xq102 kq102 hkq102 - h hIq102 hEq102
      simp only [s_l7Ladder_s32] at h
      refine sC fun k103 hk103 => zS z0 ?_
      revert h; refine zI rfl ?_ ?_ <;> intro h
      ·refine ae (r_cN hk103 ?_)
       refine sC fun k105 hk105 => sB fun k106 hk106 => ?_
       obtain ⟨v39, c107H, h⟩ := bS h
       obtain ⟨g108, h⟩ := gAp h
       refine zU (zC1F (lC [[0]] (con_s_l7Arm _ _ _ _ c107H)) g108) (r_bN hk106 ?_)
       refine r_cN hk105 (zU z0 ?_)
       refine zB hkq102 h hIq102 () trivial
      ·refine aK (r_cE hk103 ?_)
       replace h := zX h hEq102 hKq102
       refine r_kE hkq102 (r_bE hk89 ?_)
       refine zJ J85 [3] () _ h
def s_DevOk (v1 : DevArg) : Option Bool :=
 (cond (v1.Kind == 11) (some (((decide (v1.N ≥ (-32768))) && (decide (v1.N ≤ 32767))) && (v1.P == 0))) (cond (v1.Kind == 12) (some (((((decide (v1.N ≥ (-999999999))) && (decide (v1.N ≤ 999999999))) && (decide (v1.P ≥ 1))) && (decide (v1.P ≤ 6))) && ((v1.P == 1) || (((v1.N).tmod 10) != 0)))) (cond (v1.Kind == 13) (some (((decide (v1.N ≥ 0)) && (decide (v1.N ≤ 3))) && (v1.P == 0))) (cond (decide (v1.N ≥ 0)) ((fV v1.Kind).bind fun v2 => (some ((decide (v1.N < v2)) && (v1.P == 0)))) (some false)))))
theorem con_s_DevOk (v1 : DevArg) (rz : Bool) (h : s_DevOk v1 = some rz) : Con Tryz.prog C0 241 [.agg [.sc (.int .i64 (v1.Kind)), .sc (.int .i64 (v1.N)), .sc (.int .i64 (v1.P))]] []
  (fun x σ' => x = .sc (.bool (rz)) ∧ σ' = []) := by
 refine zCon hP 0 [0, 1, 2, 4, 5, 20, 51] [.tmp 2] Tryz.func241 (by unfold Tryz.f241; rfl) fun Q hQ => ?_
 unfold s_DevOk at h
 refine zS z0 (sC fun k2 hk2 => ?_)
 refine zS z0 (sB fun k4 hk4 => ?_)
 refine zS z0 ?_
 revert h; refine zI rfl ?_ ?_ <;> intro h
 ·refine zS zR (ab ?_)
  refine r_bR hk4 (r_cR hk2 ?_)
  cases h
  refine zAR hQ
 ·refine zS z0 ?_
  revert h; refine zI rfl ?_ ?_ <;> intro h
  ·refine zS zR (ab ?_)
   refine r_bR hk4 (r_cR hk2 ?_)
   cases h
   refine zAR hQ
  ·refine zS z0 ?_
   revert h; refine zI rfl ?_ ?_ <;> intro h
   ·refine zS zR (ab ?_)
    refine r_bR hk4 (r_cR hk2 ?_)
    cases h
    refine zAR hQ
   ·refine ae (r_bN hk4 ?_)
    refine r_cN hk2 (sC fun k11 hk11 => ?_)
    rcases bE (decide (v1.N ≥ 0)) with g12 | g12
    ·replace h := ak h g12
     obtain ⟨v2, c13H, h⟩ := bS h
     refine zU (zPC1F (.take 0 (.take 1 (.take 2 (.take 3 (.take 4 (.take 5 (.take 6 (.take 7 (.one 8 (.take 9 (.take 10 (.take 11 (.take 12 (.take 13 (.take 14 (.take 15 (.take 16 .done))))))))))))))))) [0] (lF [] (iM _ _ c13H)) g12) (r_cN hk11 ?_)
     refine ab ?_
     cases h
     refine zAR hQ
    ·replace h := av h g12
     refine zU (zPRF (.take 0 (.take 1 (.take 2 (.take 3 (.take 4 (.take 5 (.take 6 (.take 7 (.one 8 (.take 9 (.take 10 (.take 11 (.take 12 (.take 13 (.take 14 (.take 15 (.take 16 .done))))))))))))))))) [0] g12) (r_cN hk11 ?_)
     refine ab ?_
     cases h
     refine zAR hQ
def s_DevIsBit (v1 : DevArg) : Option Bool :=
 ((s_DevOk v1).bind fun v2 => (some (v2 && ((((decide (v1.Kind ≤ 4)) || (v1.Kind == 6)) || (v1.Kind == 7)) || (v1.Kind == 8)))))
theorem con_s_DevIsBit (v1 : DevArg) (rz : Bool) (h : s_DevIsBit v1 = some rz) : Con Tryz.prog C0 240 [.agg [.sc (.int .i64 (v1.Kind)), .sc (.int .i64 (v1.N)), .sc (.int .i64 (v1.P))]] []
  (fun x σ' => x = .sc (.bool (rz)) ∧ σ' = []) := by
 refine zCon hP 0 [0, 1, 2] [.tmp 2] Tryz.func240 (by unfold Tryz.f240; rfl) fun Q hQ => ?_
 unfold s_DevIsBit at h
 refine zS z0 ?_
 obtain ⟨v2, c3H, h⟩ := bS h
 refine zS (zC1 (lF [] (con_s_DevOk _ _ c3H))) (ab ?_)
 cases h
 refine zAR hQ
def fA (v1 : DevArg) : Option Bool :=
 ((s_DevOk v1).bind fun v2 => (some (v2 && ((((v1.Kind == 7) || (v1.Kind == 8)) || (v1.Kind == 9)) || (v1.Kind == 11)))))
theorem bW (v1 : DevArg) (rz : Bool) (h : fA v1 = some rz) : Con Tryz.prog C0 242 [.agg [.sc (.int .i64 (v1.Kind)), .sc (.int .i64 (v1.N)), .sc (.int .i64 (v1.P))]] []
  (fun x σ' => x = .sc (.bool (rz)) ∧ σ' = []) := by
 refine zCon hP 0 [0, 1, 2] [.tmp 2] Tryz.func242 (by unfold Tryz.f242; rfl) fun Q hQ => ?_
 unfold fA at h
 refine zS z0 ?_
 obtain ⟨v2, c3H, h⟩ := bS h
 refine zS (zC1 (lF [] (con_s_DevOk _ _ c3H))) (ab ?_)
 cases h
 refine zAR hQ
def eK (v1 : DevArg) : Option Bool :=
 ((s_DevOk v1).bind fun v2 => (some (v2 && (((v1.Kind == 10) || (v1.Kind == 12)) || (v1.Kind == 13)))))
theorem dI (v1 : DevArg) (rz : Bool) (h : eK v1 = some rz) : Con Tryz.prog C0 243 [.agg [.sc (.int .i64 (v1.Kind)), .sc (.int .i64 (v1.N)), .sc (.int .i64 (v1.P))]] []
  (fun x σ' => x = .sc (.bool (rz)) ∧ σ' = []) := by
 refine zCon hP 0 [0, 1, 2] [.tmp 2] Tryz.func243 (by unfold Tryz.f243; rfl) fun Q hQ => ?_
 unfold eK at h
 refine zS z0 ?_
 obtain ⟨v2, c3H, h⟩ := bS h
 refine zS (zC1 (lF [] (con_s_DevOk _ _ c3H))) (ab ?_)
 cases h
 refine zAR hQ
def e9 (v1 : Elem) : Option Bool :=
 (cond (decide (v1.Op < 1)) (some false) (cond (decide (v1.Op > 10)) (some false) ((cj v1.Op).bind fun v2 => (cond (((v1.Args).length : Int) != v2) (some false) (cond (decide (v1.Op ≤ 2)) ((idx v1.Args (0)).bind fun v3 => ((s_DevIsBit v3).bind fun v4 => (some v4))) (cond (decide (v1.Op ≤ 4)) ((idx v1.Args (0)).bind fun v5 => ((s_DevIsBit v5).bind fun v6 => (cond v6 ((idx v1.Args (1)).bind fun v7 => ((s_DevOk v7).bind fun v8 => (cond v8 (some (v7.Kind == 5)) (some false)))) (some false)))) ((idx v1.Args (0)).bind fun v9 => ((fA v9).bind fun v10 => (cond v10 ((idx v1.Args (1)).bind fun v11 => ((fA v11).bind fun v12 => (cond v12 (some true) ((eK v9).bind fun v13 => (cond v13 ((eK v11).bind fun v14 => (some v14)) (some false)))))) ((eK v9).bind fun v15 => (cond v15 ((idx v1.Args (1)).bind fun v16 => ((eK v16).bind fun v17 => (some v17))) (some false))))))))))))
theorem con_s_ElemIsContact (v1 : Elem) (rz : Bool) (h : e9 v1 = some rz) : Con Tryz.prog C0 189 [.agg [.sc (.int .i64 (v1.Op)), .fz 3 (R aa (v1.Args))]] []
  (fun x σ' => x = .sc (.bool (rz)) ∧ σ' = []) := by
 refine zCon hP 0 [0, 1, 2, 19, 22, 30] [.tmp 2] Tryz.func189 (by unfold Tryz.f189; rfl) fun Q hQ => ?_
 unfold e9 at h
 refine zS z0 (sC fun k2 hk2 => ?_)
 refine sC fun k3 hk3 => ?_
 rcases bE (decide (v1.Op < 1)) with g4 | g4
 ·replace h := ak h g4
  refine zU (zPRF (.take 0 (.take 1 (.take 2 (.take 3 (.take 4 (.take 5 (.take 6 (.take 7 (.take 8 (.take 9 (.take 10 (.take 11 (.take 12 (.take 13 (.one 14 (.take 15 (.take 16 .done))))))))))))))))) [0] g4) (r_cN hk3 ?_)
  refine bM rfl ?_
  try replace h := ak h rfl
  refine zS z0 (ab ?_)
  refine r_cR hk2 ?_
  cases h
  refine zAR hQ
 ·replace h := av h g4
  rcases bE (decide (v1.Op > 10)) with g6 | g6
  ·replace h := ak h g6
   refine zU (zPRF (.take 0 (.take 1 (.take 2 (.take 3 (.take 4 (.take 5 (.take 6 (.take 7 (.take 8 (.take 9 (.take 10 (.take 11 (.take 12 (.take 13 (.one 14 (.take 15 (.take 16 .done))))))))))))))))) [0] (a2 g4 g6)) (r_cN hk3 ?_)
   refine bM rfl ?_
   try replace h := ak h rfl
   refine zS z0 (ab ?_)
   refine r_cR hk2 ?_
   cases h
   refine zAR hQ
  ·replace h := av h g6
   obtain ⟨v2, c8H, h⟩ := bS h
   refine zU (zPC1F (.take 0 (.take 1 (.take 2 (.take 3 (.take 4 (.take 5 (.take 6 (.take 7 (.take 8 (.take 9 (.take 10 (.take 11 (.take 12 (.take 13 (.one 14 (.take 15 (.take 16 .done))))))))))))))))) [0] (lF [] (ei _ _ c8H)) (a2 g4 g6)) (r_cN hk3 ?_)
   revert h; refine zI rfl ?_ ?_ <;> intro h
   ·refine zS z0 (ab ?_)
    refine r_cR hk2 ?_
    cases h
    refine zAR hQ
   ·refine ae (r_cN hk2 ?_)
    refine sC fun k10 hk10 => zS z0 ?_
    revert h; refine zI rfl ?_ ?_ <;> intro h
    ·obtain ⟨v3, h, c13⟩ := bN 0 h
     obtain ⟨v4, c14H, h⟩ := bS h
     refine zS (zC1F (lF [] (con_s_DevIsBit _ _ c14H)) c13) (ab ?_)
     refine r_cR hk10 ?_
     cases h
     refine zAR hQ
    ·refine ae (r_cN hk10 ?_)
     refine sC fun k15 hk15 => zS z0 ?_
     revert h; refine zI rfl ?_ ?_ <;> intro h
     ·refine sC fun k17 hk17 => ?_
      obtain ⟨v5, h, c18⟩ := bN 0 h
      obtain ⟨v6, c19H, h⟩ := bS h
      rcases bE v6 with g20 | g20
      ·replace h := ak h g20
       obtain ⟨v7, h, c21⟩ := bN 1 h
       obtain ⟨v8, c22H, h⟩ := bS h
       rcases bE v8 with g23 | g23
       ·replace h := ak h g23
        refine zU (zC2F (lF [] (con_s_DevIsBit _ _ c19H)) (lF [] (con_s_DevOk _ _ c22H)) (a4 c18 g20 c21 g23)) (r_cN hk17 ?_)
        refine ab (r_cR hk15 ?_)
        cases h
        refine zAR hQ
       ·replace h := av h g23
        refine zU (zC2F (lF [] (con_s_DevIsBit _ _ c19H)) (lF [] (con_s_DevOk _ _ c22H)) (a4 c18 g20 c21 g23)) (r_cN hk17 ?_)
        refine ab (r_cR hk15 ?_)
        cases h
        refine zAR hQ
      ·replace h := av h g20
       refine zU (zC1F (lF [] (con_s_DevIsBit _ _ c19H)) (a2 c18 g20)) (r_cN hk17 ?_)
       refine ab (r_cR hk15 ?_)
       cases h
       refine zAR hQ
     ·refine ae (r_cN hk15 ?_)
      refine sC fun k24 hk24 => ?_
      obtain ⟨v9, h, c25⟩ := bN 0 h
      obtain ⟨v10, c26H, h⟩ := bS h
      rcases bE v10 with g27 | g27
      ·replace h := ak h g27
       obtain ⟨v11, h, c28⟩ := bN 1 h
       obtain ⟨v12, c29H, h⟩ := bS h
       rcases bE v12 with g30 | g30
       ·replace h := ak h g30
        refine zU (zC2F (lF [] (bW _ _ c26H)) (lF [] (bW _ _ c29H)) (a4 c25 g27 c28 g30)) (r_cN hk24 ?_)
        refine ab ?_
        cases h
        refine zAR hQ
       ·replace h := av h g30
        obtain ⟨v13, c31H, h⟩ := bS h
        rcases bE v13 with g32 | g32
        ·replace h := ak h g32
         obtain ⟨v14, c33H, h⟩ := bS h
         refine zU (zC4F (lF [] (bW _ _ c26H)) (lF [] (bW _ _ c29H)) (lF [] (dI _ _ c31H)) (lF [] (dI _ _ c33H)) (a4 c25 g27 c28 (a2 g30 g32))) (r_cN hk24 ?_)
         refine ab ?_
         cases h
         refine zAR hQ
        ·replace h := av h g32
         refine zU (zC3F (lF [] (bW _ _ c26H)) (lF [] (bW _ _ c29H)) (lF [] (dI _ _ c31H)) (a4 c25 g27 c28 (a2 g30 g32))) (r_cN hk24 ?_)
         refine ab ?_
         cases h
         refine zAR hQ
      ·replace h := av h g27
       obtain ⟨v15, c34H, h⟩ := bS h
       rcases bE v15 with g35 | g35
       ·replace h := ak h g35
        obtain ⟨v16, h, c36⟩ := bN 1 h
        obtain ⟨v17, c37H, h⟩ := bS h
        refine zU (zC3F (lF [] (bW _ _ c26H)) (lF [] (dI _ _ c34H)) (lF [] (dI _ _ c37H)) (a4 c25 g27 g35 c36)) (r_cN hk24 ?_)
        refine ab ?_
        cases h
        refine zAR hQ
       ·replace h := av h g35
        refine zU (zC2F (lF [] (bW _ _ c26H)) (lF [] (dI _ _ c34H)) (a3 c25 g27 g35)) (r_cN hk24 ?_)
        refine ab ?_
        cases h
        refine zAR hQ
def s_l7NetWrong_j35 : Unit → Option Int
 | () => (some 0)
def cQ (v1 : Net) (v91_ : (Net → Option Int)) : Int → Option (Int ⊕ (Int ⊕ Unit))
 | v14 => (cond (decide (v14 < ((v1.Kids).length : Int))) ((idx v1.Kids (v14)).bind fun v19 => ((v91_ v19).bind fun v20 => (cond (decide (v20 > 0)) (some (.inr (.inl v20))) (some (.inl (IntKind.i64.wrap (v14 + 1))))))) (some (.inr (.inr ()))))
def cY (v91_ : (Net → Option Int)) (v1 : Net) : Option Int :=
 (cond (v1.Kind == 1) (cond (decide (((v1.Kids).length : Int) > 0)) (some 2) ((e9 (⟨v1.One_Op, v1.One_Args⟩ : Elem)).bind fun v2 => (cond (!v2) (some 3) (some 0)))) (cond ((((((decide (v1.Kind < 2)) || (decide (v1.Kind > 4))) || (v1.One_Op != 0)) || (decide (((v1.One_Args).length : Int) > 0))) || (((v1.Kids).length : Int) == 0)) || ((v1.Kind == 4) && (((v1.Kids).length : Int) != 1))) (some 2) ((loop (cQ v1 v91_) 0).bind (Sum.elim (fun v17 => (some v17)) (fun v18 => (s_l7NetWrong_j35 ()))))))
theorem s_l7NetWrong_s39_le {v91_ v91_' : (Net → Option Int)} (hv91_ : ∀ a0, le (v91_ a0) (v91_' a0)) (v1 : Net) : ∀ x, le (cQ v1 v91_ x) (cQ v1 v91_' x) := by
 rintro v14
 simp only [cQ]
 repeat' (first | (with_reducible exact le_refl _) | exact hv91_ _ | refine bj ?_ (fun _ => ?_) | refine bm ?_ ?_ | refine di ?_ | refine bn (fun _ => ?_) | refine bO (fun _ => ?_) (fun _ => ?_) _ | refine az ?_ _)
theorem s_l7NetWrong_rec_le {v91_ v91_' : (Net → Option Int)} (hv91_ : ∀ a0, le (v91_ a0) (v91_' a0)) (v1 : Net) : le (cY v91_ v1) (cY v91_' v1) := by
 unfold cY
 repeat' (first | (with_reducible exact le_refl _) | exact hv91_ _ | exact s_l7NetWrong_s39_le hv91_ _ _ | refine az (s_l7NetWrong_s39_le hv91_ _) _ | refine bj ?_ (fun _ => ?_) | refine bm ?_ ?_ | refine di ?_ | refine bn (fun _ => ?_) | refine bO (fun _ => ?_) (fun _ => ?_) _ | refine az ?_ _)
theorem con_s_l7NetWrong_step (v91_ : (Net → Option Int)) (ihv9001 : ∀ (v1 : Net) (rz : Int), v91_ v1 = some rz → Con Tryz.prog C0 212 [.agg [.sc (.int .i64 (v1.Kind)), .sc (.int .i64 (v1.One_Op)), .fz 3 (R aa (v1.One_Args)), .fz 4 (R aq (v1.Kids))]] [] (fun x σ' => x = .sc (.int .i64 (rz)) ∧ σ' = [])) (v1 : Net) (rz : Int) (h : cY v91_ v1 = some rz) : Con Tryz.prog C0 212 [.agg [.sc (.int .i64 (v1.Kind)), .sc (.int .i64 (v1.One_Op)), .fz 3 (R aa (v1.One_Args)), .fz 4 (R aq (v1.Kids))]] []
  (fun x σ' => x = .sc (.int .i64 (rz)) ∧ σ' = []) := by
 refine zCon hP 0 [0, 1, 2, 3, 4, 7, 11, 15, 53, 58, 68] [.tmp 2] Tryz.func212 (by unfold Tryz.f212; rfl) fun Q hQ => ?_
 unfold cY at h
 refine zS z0 (sC fun k2 hk2 => ?_)
 refine zS z0 ?_
 revert h; refine zI rfl ?_ ?_ <;> intro h
 ·refine sC fun k4 hk4 => zS z0 ?_
  revert h; refine zI rfl ?_ ?_ <;> intro h
  ·refine zS z0 (ab ?_)
   refine r_cR hk4 (r_cR hk2 ?_)
   cases h
   refine zAR hQ
  ·refine ae (r_cN hk4 ?_)
   refine sC fun k7 hk7 => ?_
   obtain ⟨v2, c9H, h⟩ := bS h
   refine zS (zC1 (lF [] (con_s_ElemIsContact _ _ c9H))) ?_
   revert h; refine zI rfl ?_ ?_ <;> intro h
   ·refine zS z0 (ab ?_)
    refine r_cR hk7 (r_cR hk2 ?_)
    cases h
    refine zAR hQ
   ·refine ae (r_cN hk7 ?_)
    refine zS z0 (ab ?_)
    refine r_cR hk2 ?_
    cases h
    refine zAR hQ
 ·refine ae (r_cN hk2 ?_)
  refine sC fun k12 hk12 => zS zR ?_
  revert h; refine zI rfl ?_ ?_ <;> intro h
  ·refine zS z0 (ab ?_)
   refine r_cR hk12 ?_
   cases h
   refine zAR hQ
  ·refine ae (r_cN hk12 ?_)
   refine zCut (fun (x : Unit) => ⟨[], []⟩) s_l7NetWrong_j35 rz ?_ ?_
   ·rintro _ _ h
    simp only [s_l7NetWrong_j35] at h
    refine zS z0 (ab ?_)
    cases h
    refine zAR hQ
   ·intro k47 hk47 J46
    refine zS z0 (sB fun k49 hk49 => ?_)
    obtain ⟨oq68, hLq68, hKq68⟩ := bS h
    clear h
    refine ay [1, 3] (fun (_ : Unit) (x : Int) => (⟨[(1, .pt 0 0), (3, .sc (.int .i64 (x)))], [.rc [.sc (.int .i64 (v1.Kind)), .sc (.int .i64 (v1.One_Op)), .fz 3 (R aa (v1.One_Args)), .fz 4 (R aq (v1.Kids))]]⟩ : St)) (fun (_ : Unit) (x : Int) => True) (cQ v1 v91_) () 0 hLq68 (by rfl) (by rfl) ⟨?_, trivial⟩ ?_
    ·exact zSa
    ·rintro nq68 _ v14 xq68 kq68 hkq68 - h hIq68 hEq68
     simp only [cQ] at h
     refine sC fun k69 hk69 => zS z0 ?_
     revert h; refine zI rfl ?_ ?_ <;> intro h
     ·refine ae (r_cN hk69 ?_)
      refine sC fun k71 hk71 => sB fun k72 hk72 => ?_
      obtain ⟨v19, h, c74⟩ := bI h
      obtain ⟨v20, c75H, h⟩ := bS h
      refine zS (zC1F (lF [] (ihv9001 _ _ c75H)) c74) (zS z0 ?_)
      revert h; refine zI rfl ?_ ?_ <;> intro h
      ·refine zS z0 (ab ?_)
       refine r_bR hk72 (r_cR hk71 ?_)
       replace h := zX h hEq68 hKq68
       simp only [Sum.elim_inl, Sum.elim_inr] at h
       refine r_kR hkq68 (r_bR hk49 ?_)
       refine r_jR hk47 ?_
       cases h
       refine zAR hQ
      ·refine ae (r_bN hk72 ?_)
       refine r_cN hk71 (zU z0 ?_)
       refine zB hkq68 h hIq68 () trivial
     ·refine aK (r_cE hk69 ?_)
      replace h := zX h hEq68 hKq68
      simp only [Sum.elim_inl, Sum.elim_inr] at h
      refine r_kE hkq68 (r_bE hk49 ?_)
      refine zJ J46 [] () _ h
def cv : Nat → (Net → Option Int)
 | 0 => fun _ => none
 | n + 1 => fun v1 => cY (cv n) v1
theorem s_l7NetWrong_scc_mono : ∀ n, (∀ (v1 : Net), le ((cv n) v1) ((cv (n + 1)) v1)) := by
 intro n
 induction n with
 | zero => exact fun _ => le_none _
 | succ n ih => exact fun v1 => s_l7NetWrong_rec_le ih v1
def ic (v1 : Net) : Option Int := lim fun n => (cv n) v1
theorem s_l7NetWrong_up (v1 : Net) {n : Nat} {r : Int} (e : (cv n) v1 = some r) : ic v1 = some r := lim_eq (fun n => (s_l7NetWrong_scc_mono n) v1) e
theorem con_s_l7NetWrong_scc : ∀ n, (∀ (v1 : Net) (rz : Int), (cv n) v1 = some rz → Con Tryz.prog C0 212 [.agg [.sc (.int .i64 (v1.Kind)), .sc (.int .i64 (v1.One_Op)), .fz 3 (R aa (v1.One_Args)), .fz 4 (R aq (v1.Kids))]] [] (fun x σ' => x = .sc (.int .i64 (rz)) ∧ σ' = [])) := by
 intro n
 induction n with
 | zero =>
  intro v1 rz h; cases h
 | succ n ih =>
  exact fun v1 rz h => con_s_l7NetWrong_step (cv n) (ih) v1 rz h
theorem con_s_l7NetWrong (v1 : Net) (rz : Int) (h : ic v1 = some rz) : Con Tryz.prog C0 212 [.agg [.sc (.int .i64 (v1.Kind)), .sc (.int .i64 (v1.One_Op)), .fz 3 (R aa (v1.One_Args)), .fz 4 (R aq (v1.Kids))]] []
  (fun x σ' => x = .sc (.int .i64 (rz)) ∧ σ' = []) := by
 obtain ⟨n, hn⟩ := en h
 exact (con_s_l7NetWrong_scc n) v1 _ hn
def cW (v1 : DevArg) (v2 : Int) (v3 : Int) : Option Bool :=
 ((s_DevOk v1).bind fun v4 => (some (v4 && ((v1.Kind == v2) || (v1.Kind == v3)))))
theorem aH (v1 : DevArg) (v2 : Int) (v3 : Int) (rz : Bool) (h : cW v1 v2 v3 = some rz) : Con Tryz.prog C0 244 [.agg [.sc (.int .i64 (v1.Kind)), .sc (.int .i64 (v1.N)), .sc (.int .i64 (v1.P))], .sc (.int .i64 (v2)), .sc (.int .i64 (v3))] []
  (fun x σ' => x = .sc (.bool (rz)) ∧ σ' = []) := by
 refine zCon hP 0 [0, 1, 2, 3, 6] [.tmp 6] Tryz.func244 (by unfold Tryz.f244; rfl) fun Q hQ => ?_
 unfold cW at h
 refine zS z0 ?_
 obtain ⟨v4, c3H, h⟩ := bS h
 refine zS (zC1 (lF [] (con_s_DevOk _ _ c3H))) (ab ?_)
 cases h
 refine zAR hQ
def s_l4Calc_j13 (v1 : Elem) : Bool → Option Bool
 | v21 => (some (v21 || (v1.Op != 35)))
def ij (v1 : Elem) : (Bool × Int) → Option ((Bool × Int) ⊕ (Unit ⊕ Bool))
 | (v26, v27) => (cond (decide (v27 < ((v1.Args).length : Int))) (cond v26 ((idx v1.Args (v27)).bind fun v34 => ((fA v34).bind fun v35 => (cond (!v35) (some (.inr (.inl ()))) (some (.inl (true, (IntKind.i64.wrap (v27 + 1)))))))) ((idx v1.Args (v27)).bind fun v36 => ((eK v36).bind fun v37 => (cond (!v37) (some (.inr (.inl ()))) (some (.inl (false, (IntKind.i64.wrap (v27 + 1))))))))) (some (.inr (.inr v26))))
def s_l4Calc (v1 : Elem) : Option Bool :=
 ((idx v1.Args (0)).bind fun v2 => ((cW v2 9 10).bind fun v3 => (cond (!v3) (some false) ((idx v1.Args (0)).bind fun v4 => ((loop (ij v1) ((v4.Kind == 9), 1)).bind (Sum.elim (fun v32 => (some false)) (fun v33 => (s_l4Calc_j13 v1 v33))))))))
theorem con_s_l4Calc (v1 : Elem) (rz : Bool) (h : s_l4Calc v1 = some rz) : Con Tryz.prog C0 245 [.agg [.sc (.int .i64 (v1.Op)), .fz 3 (R aa (v1.Args))]] []
  (fun x σ' => x = .sc (.bool (rz)) ∧ σ' = []) := by
 refine zCon hP 0 [0, 1, 2, 3, 4, 10, 21, 46] [.tmp 2] Tryz.func245 (by unfold Tryz.f245; rfl) fun Q hQ => ?_
 unfold s_l4Calc at h
 refine zS z0 (sC fun k2 hk2 => ?_)
 obtain ⟨v2, h, c4⟩ := bN 0 h
 obtain ⟨v3, c5H, h⟩ := bS h
 refine zS (zC1F (lF [] (aH _ _ _ _ c5H)) c4) ?_
 revert h; refine zI rfl ?_ ?_ <;> intro h
 ·refine zS z0 (ab ?_)
  refine r_cR hk2 ?_
  cases h
  refine zAR hQ
 ·refine ae (r_cN hk2 ?_)
  obtain ⟨v4, h, c8⟩ := bN 0 h
  refine zS (zRF c8) (zCut (fun (x : Bool) => ⟨[(1, .pt 0 0), (3, .sc (.bool (x)))], [.rc [.sc (.int .i64 (v1.Op)), .fz 3 (R aa (v1.Args))]]⟩) (s_l4Calc_j13 v1) rz ?_ ?_)
  ·rintro _ v21 h
   simp only [s_l4Calc_j13] at h
   refine zS zR (ab ?_)
   cases h
   refine zAR hQ
  ·intro k50 hk50 J49
   refine zS z0 (sB fun k52 hk52 => ?_)
   obtain ⟨oq77, hLq77, hKq77⟩ := bS h
   clear h
   refine ay [1, 3, 4] (fun (_ : Unit) (x : (Bool × Int)) => (⟨[(1, .pt 0 0), (3, .sc (.bool (x.1))), (4, .sc (.int .i64 (x.2)))], [.rc [.sc (.int .i64 (v1.Op)), .fz 3 (R aa (v1.Args))]]⟩ : St)) (fun (_ : Unit) (x : (Bool × Int)) => True) (ij v1) () ((v4.Kind == 9), 1) hLq77 (by rfl) (by rfl) ⟨?_, trivial⟩ ?_
   ·exact zSa
   ·rintro nq77 _ ⟨v26, v27⟩ xq77 kq77 hkq77 - h hIq77 hEq77
    simp only [ij] at h
    refine sC fun k78 hk78 => zS z0 ?_
    revert h; refine zI rfl ?_ ?_ <;> intro h
    ·refine ae (r_cN hk78 ?_)
     refine sC fun k80 hk80 => sB fun k81 hk81 => sC fun k82 hk82 => ?_
     rcases bE v26 with g83 | g83
     ·replace h := ak h g83
      obtain ⟨v34, h, c84⟩ := bI h
      obtain ⟨v35, c85H, h⟩ := bS h
      refine zU (zC1F (lF [] (bW _ _ c85H)) (a2 g83 c84)) (r_cN hk82 ?_)
      revert h; refine zI rfl ?_ ?_ <;> intro h
      ·refine zS z0 (ab ?_)
       refine r_bR hk81 (r_cR hk80 ?_)
       replace h := zX h hEq77 hKq77
       simp only [Sum.elim_inl, Sum.elim_inr] at h
       refine r_kR hkq77 (r_bR hk52 ?_)
       refine r_jR hk50 ?_
       cases h
       refine zAR hQ
      ·refine ae (r_bN hk81 ?_)
       refine r_cN hk80 (zU z0 ?_)
       refine zB hkq77 h hIq77 () trivial
     ·replace h := av h g83
      obtain ⟨v36, h, c87⟩ := bI h
      obtain ⟨v37, c88H, h⟩ := bS h
      refine zU (zC1F (lF [] (dI _ _ c88H)) (a2 g83 c87)) (r_cN hk82 ?_)
      revert h; refine zI rfl ?_ ?_ <;> intro h
      ·refine zS z0 (ab ?_)
       refine r_bR hk81 (r_cR hk80 ?_)
       replace h := zX h hEq77 hKq77
       simp only [Sum.elim_inl, Sum.elim_inr] at h
       refine r_kR hkq77 (r_bR hk52 ?_)
       refine r_jR hk50 ?_
       cases h
       refine zAR hQ
      ·refine ae (r_bN hk81 ?_)
       refine r_cN hk80 (zU z0 ?_)
       refine zB hkq77 h hIq77 () trivial
    ·refine aK (r_cE hk78 ?_)
     replace h := zX h hEq77 hKq77
     simp only [Sum.elim_inl, Sum.elim_inr] at h
     refine r_kE hkq77 (r_bE hk52 ?_)
     refine zJ J49 [1, 3] () _ h

end
end Go.AM
