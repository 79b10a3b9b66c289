/- Pure functions and their contracts. Conditions: none. -/
import Derived.Test.YtbmoclfnkefomaaDoorAmQa0
set_option linter.unusedSimpArgs false
set_option linter.unusedVariables false
set_option maxRecDepth 10000
set_option maxHeartbeats 4000000
namespace Go.AM
open Go Go.Proofs
noncomputable def spec_l26Open_j3 : (List Int) → Option l26Rd
  | v3 => (some (⟨v3, 0⟩ : l26Rd))
noncomputable def spec_l26Open (v1 : (List Int)) : Option l26Rd :=
  (cond (decide (((v1).length : Int) > 2000)) (Option.bind (prtH v1 (2000)) fun v4 => (spec_l26Open_j3 v4)) (spec_l26Open_j3 v1))
theorem con_spec_l26Open (v1 : (List Int)) (res_ : l26Rd) (h : spec_l26Open v1 = some res_) : Con Tryd.prog C0 10 [.fz 1 (R e_u8 (v1))] []
    (fun x σ' => x = .pt 0 0 ∧ σ' = [.rc [.fz 1 (R e_u8 (res_.b)), .sc (.int .i64 (res_.p))]]) := by
  refine zCon hP 0 [0, 2, 5] [.tmp 2] Tryd.func10 (by unfold Tryd.f10; rfl) fun Q hQ => ?_
  unfold spec_l26Open at h
  refine zS z0 (zCut (fun (x : (List Int)) => ⟨[(0, .fz 1 (R e_u8 (x)))], []⟩) spec_l26Open_j3 res_ ?_ ?_)
  · rintro _ v3 h
    simp only [spec_l26Open_j3] at h
    refine zS z0 (r_ret ?_)
    cases h
    refine zOR hQ
  · intro k6 hk6 J5
    refine zS z0 ?_
    refine sem_ifh rfl h ?_ ?_ <;> clear h <;> intro h
    · obtain ⟨v4, c8H, h⟩ := bind_some' h
      obtain ⟨c8A, c8B, c8C⟩ := prtH_some c8H
      try simp only [Int.reduceToNat, Int.toNat_zero, Int.toNat_one, Int.toNat_natCast, List.take_length] at c8C
      refine zU (zRF (a3 c8A c8B c8C)) (zJ J5 [0] () _ h)
    · refine r_skip (zJ J5 [0] () _ h)
noncomputable def spec_l26Rd_pick (v1 : l26Rd) (v2 : Int) : Option (Int × l26Rd) :=
  (cond ((decide (v2 < 1)) || (((v1.b).length : Int) == 0)) (some (0, (⟨v1.b, (IntKind.i64.wrap (v1.p + 1))⟩ : l26Rd))) (cond (decide ((IntKind.i64.wrap ((IntKind.i64.wrap (v1.p + 1)) - 1)) < ((v1.b).length : Int))) (Option.bind (idx v1.b ((IntKind.i64.wrap ((IntKind.i64.wrap (v1.p + 1)) - 1)))) fun v3 => (gd (v2 != 0) (some ((((IntKind.i64.wrap (v3))).tmod v2), (⟨v1.b, (IntKind.i64.wrap (v1.p + 1))⟩ : l26Rd))))) (gd (((v1.b).length : Int) != 0) (Option.bind (idx v1.b ((((IntKind.i64.wrap ((IntKind.i64.wrap (v1.p + 1)) - 1))).tmod ((v1.b).length : Int)))) fun v4 => (gd (((v1.b).length : Int) != 0) (Option.bind (idx v1.b ((((IntKind.i64.wrap ((IntKind.i64.wrap ((IntKind.i64.wrap ((IntKind.i64.wrap (v1.p + 1)) - 1)) * 7)) + 3))).tmod ((v1.b).length : Int)))) fun v5 => (gd (((v1.b).length : Int) != 0) (gd (v2 != 0) (some ((((bxor .i64 (IntKind.i64.wrap ((IntKind.i64.wrap ((IntKind.i64.wrap ((IntKind.i64.wrap ((IntKind.i64.wrap (v4)) * 131)) + (IntKind.i64.wrap ((IntKind.i64.wrap (v5)) * 1117)))) + (IntKind.i64.wrap ((IntKind.i64.wrap ((IntKind.i64.wrap (v1.p + 1)) - 1)) * 29)))) + (IntKind.i64.wrap ((IntKind.i64.wrap (((IntKind.i64.wrap ((IntKind.i64.wrap (v1.p + 1)) - 1))).tdiv ((v1.b).length : Int))) * 53)))) (IntKind.i64.wrap (((IntKind.i64.wrap ((IntKind.i64.wrap ((IntKind.i64.wrap ((IntKind.i64.wrap ((IntKind.i64.wrap (v4)) * 131)) + (IntKind.i64.wrap ((IntKind.i64.wrap (v5)) * 1117)))) + (IntKind.i64.wrap ((IntKind.i64.wrap ((IntKind.i64.wrap (v1.p + 1)) - 1)) * 29)))) + (IntKind.i64.wrap ((IntKind.i64.wrap (((IntKind.i64.wrap ((IntKind.i64.wrap (v1.p + 1)) - 1))).tdiv ((v1.b).length : Int))) * 53))))).tdiv 64)))).tmod v2), (⟨v1.b, (IntKind.i64.wrap (v1.p + 1))⟩ : l26Rd)))))))))))
theorem con_spec_l26Rd_pick (v1 : l26Rd) (v2 : Int) (res_ : (Int × l26Rd)) (h : spec_l26Rd_pick v1 v2 = some res_) : Con Tryd.prog C0 19 [.pt 0 0, .sc (.int .i64 (v2))] [.rc [.fz 1 (R e_u8 (v1.b)), .sc (.int .i64 (v1.p))]]
    (fun x σ' => x = .sc (.int .i64 (res_.1)) ∧ σ' = [.rc [.fz 1 (R e_u8 (res_.2.b)), .sc (.int .i64 (res_.2.p))]]) := by
  refine zCon hP 1 [0, 1, 4, 5, 6, 24, 36] [.tmp 4] Tryd.func19 (by unfold Tryd.f19; rfl) fun Q hQ => ?_
  unfold spec_l26Rd_pick at h
  refine zS z0 (zS z0 ?_)
  refine sem_cut fun k3 hk3 => zS zR ?_
  refine sem_ifh rfl h ?_ ?_ <;> clear h <;> intro h
  · refine zS z0 (r_ret ?_)
    refine r_cR hk3 ?_
    cases h
    refine zAR hQ
  · refine r_skip (r_cN hk3 ?_)
    refine zS z0 (sem_cut fun k7 hk7 => ?_)
    refine zS z0 ?_
    refine sem_ifh rfl h ?_ ?_ <;> clear h <;> intro h
    · obtain ⟨v3, h, c10⟩ := bI h
      obtain ⟨g11, h⟩ := gNe h
      refine zS (zRF (a2 c10 g11)) (r_ret ?_)
      refine r_cR hk7 ?_
      cases h
      refine zAR hQ
    · refine r_skip (r_cN hk7 ?_)
      obtain ⟨g13, h⟩ := gNe h
      obtain ⟨v4, h, c14⟩ := bI h
      obtain ⟨g15, h⟩ := gNe h
      obtain ⟨v5, h, c16⟩ := bI h
      obtain ⟨g17, h⟩ := gNe h
      refine zS (zRF (a4 g13 c14 g15 (a2 c16 g17))) (zS zR ?_)
      obtain ⟨g20, h⟩ := gNe h
      refine zS (zRF g20) (r_ret ?_)
      cases h
      refine zAR hQ
noncomputable def spec_l26Rd_num (v1 : l26Rd) (v2 : (List Int)) : Option (Int × l26Rd) :=
  (Option.bind (spec_l26Rd_pick v1 ((v2).length : Int)) fun v3 => (Option.bind (idx v2 (v3.1)) fun v4 => (some (v4, v3.2))))
theorem con_spec_l26Rd_num (v1 : l26Rd) (v2 : (List Int)) (res_ : (Int × l26Rd)) (h : spec_l26Rd_num v1 v2 = some res_) : Con Tryd.prog C0 37 [.pt 0 0, .fz 1 (R e_i64 (v2))] [.rc [.fz 1 (R e_u8 (v1.b)), .sc (.int .i64 (v1.p))]]
    (fun x σ' => x = .sc (.int .i64 (res_.1)) ∧ σ' = [.rc [.fz 1 (R e_u8 (res_.2.b)), .sc (.int .i64 (res_.2.p))]]) := by
  refine zCon hP 1 [0, 1, 4] [.tmp 4] Tryd.func37 (by unfold Tryd.f37; rfl) fun Q hQ => ?_
  unfold spec_l26Rd_num at h
  refine zS z0 ?_
  obtain ⟨v3, c3H, h⟩ := bind_some' h
  obtain ⟨v4, h, c4⟩ := bI h
  refine zS (zC1F (lC [[0]] (con_spec_l26Rd_pick _ _ _ c3H)) c4) (r_ret ?_)
  cases h
  refine zAR hQ
noncomputable def spec_DevSize_j31 (v1 : Int) : Bool → Option Int
  | v3 => (cond v3 (some 16) (cond (v1 == 6) (some 5) (some 0)))
noncomputable def spec_DevSize_j7 (v1 : Int) : Bool → Option Int
  | v2 => (cond v2 (some 32) (cond (v1 == 3) (some 64) (cond (v1 == 4) (spec_DevSize_j31 v1 (v1 == 4)) (cond (v1 == 7) (spec_DevSize_j31 v1 (v1 == 7)) (cond (v1 == 8) (spec_DevSize_j31 v1 (v1 == 8)) (spec_DevSize_j31 v1 (v1 == 10)))))))
noncomputable def spec_DevSize (v1 : Int) : Option Int :=
  (cond (v1 == 1) (spec_DevSize_j7 v1 (v1 == 1)) (cond (v1 == 2) (spec_DevSize_j7 v1 (v1 == 2)) (cond (v1 == 5) (spec_DevSize_j7 v1 (v1 == 5)) (spec_DevSize_j7 v1 (v1 == 9)))))
theorem con_spec_DevSize (v1 : Int) (res_ : Int) (h : spec_DevSize v1 = some res_) : Con Tryd.prog C0 73 [.sc (.int .i64 (v1))] []
    (fun x σ' => x = .sc (.int .i64 (res_)) ∧ σ' = []) := by
  refine zCon hP 0 [0, 2, 3, 4, 9, 11, 16] [.tmp 2] Tryd.func73 (by unfold Tryd.f73; rfl) fun Q hQ => ?_
  unfold spec_DevSize at h
  refine zS z0 (sem_cut fun k2 hk2 => ?_)
  refine zS z0 (sem_blk fun k4 hk4 => ?_)
  refine zCut (fun (x : Bool) => ⟨[(3, .sc (.int .i64 (v1))), (4, .sc (.bool (x)))], []⟩) (spec_DevSize_j7 v1) res_ ?_ ?_
  · rintro _ v2 h
    simp only [spec_DevSize_j7] at h
    refine sem_ifh rfl h ?_ ?_ <;> clear h <;> intro h
    · refine zS z0 (r_ret ?_)
      refine r_bR hk4 (r_cR hk2 ?_)
      cases h
      refine zAR hQ
    · refine zS z0 ?_
      refine sem_ifh rfl h ?_ ?_ <;> clear h <;> intro h
      · refine zS z0 (r_ret ?_)
        refine r_bR hk4 (r_cR hk2 ?_)
        cases h
        refine zAR hQ
      · refine zCut (fun (x : Bool) => ⟨[(3, .sc (.int .i64 (v1))), (11, .sc (.bool (x)))], []⟩) (spec_DevSize_j31 v1) res_ ?_ ?_
        · rintro _ v3 h
          simp only [spec_DevSize_j31] at h
          refine sem_ifh rfl h ?_ ?_ <;> clear h <;> intro h
          · refine zS z0 (r_ret ?_)
            refine r_bR hk4 (r_cR hk2 ?_)
            cases h
            refine zAR hQ
          · refine zS z0 ?_
            refine sem_ifh rfl h ?_ ?_ <;> clear h <;> intro h
            · refine zS z0 (r_ret ?_)
              refine r_bR hk4 (r_cR hk2 ?_)
              cases h
              refine zAR hQ
            · refine r_skip (r_bN hk4 ?_)
              refine r_cN hk2 (zS z0 ?_)
              refine r_ret ?_
              cases h
              refine zAR hQ
        · intro k19 hk19 J18
          refine zS z0 ?_
          refine sem_ifh rfl h ?_ ?_ <;> clear h <;> intro h
          · refine r_skip (zJ J18 [3, 11] () _ h)
          · refine zS z0 ?_
            refine sem_ifh rfl h ?_ ?_ <;> clear h <;> intro h
            · refine r_skip (zJ J18 [3, 11] () _ h)
            · refine zS z0 ?_
              refine sem_ifh rfl h ?_ ?_ <;> clear h <;> intro h
              · refine r_skip (zJ J18 [3, 11] () _ h)
              · refine zU z0 (zJ J18 [3, 11] () _ h)
  · intro k24 hk24 J23
    refine zS z0 ?_
    refine sem_ifh rfl h ?_ ?_ <;> clear h <;> intro h
    · refine r_skip (zJ J23 [3, 4] () _ h)
    · refine zS z0 ?_
      refine sem_ifh rfl h ?_ ?_ <;> clear h <;> intro h
      · refine r_skip (zJ J23 [3, 4] () _ h)
      · refine zS z0 ?_
        refine sem_ifh rfl h ?_ ?_ <;> clear h <;> intro h
        · refine r_skip (zJ J23 [3, 4] () _ h)
        · refine zU z0 (zJ J23 [3, 4] () _ h)
noncomputable def spec_l2Arg_j20 (v2 : Int) (v4 : (Int × l26Rd)) (v5 : (Int × l26Rd)) : Int → Option (DevArg × l26Rd)
  | v6 => (some ((⟨v2, v4.1, v6⟩ : DevArg), v5.2))
noncomputable def spec_l2Arg_j44 (v2 : Int) (v12 : (List Int)) (v13 : Int) : Int → Option (DevArg × l26Rd)
  | v16 => (some ((⟨v2, v16, 0⟩ : DevArg), (⟨v12, v13⟩ : l26Rd)))
noncomputable def spec_l2Arg_j38 (v2 : Int) : ((List Int) × Int × Int) → Option (DevArg × l26Rd)
  | (v12, v13, v14) => (Option.bind (spec_DevSize v2) fun v17 => (cond (decide (v14 ≥ v17)) (spec_l2Arg_j44 v2 v12 v13 0) (spec_l2Arg_j44 v2 v12 v13 v14)))
noncomputable def spec_l2Arg (v1 : l26Rd) (v2 : Int) : Option (DevArg × l26Rd) :=
  (cond (v2 == 11) (Option.bind (spec_l26Rd_num v1 [0, 1, 2, 3, 5, (-1), (-7), 10, 100, 32767, (-32768), 1000]) fun v3 => (some ((⟨v2, v3.1, 0⟩ : DevArg), v3.2))) (cond (v2 == 12) (Option.bind (spec_l26Rd_num v1 [0, 1, 5, (-5), 25, (-15), 999999999, (-999999999), 3, 1001, 7]) fun v4 => (Option.bind (spec_l26Rd_pick v4.2 6) fun v5 => (cond (((v4.1).tmod 10) == 0) (spec_l2Arg_j20 v2 v4 v5 1) (spec_l2Arg_j20 v2 v4 v5 (IntKind.i64.wrap (1 + v5.1)))))) (cond (v2 == 13) (Option.bind (spec_l26Rd_pick v1 4) fun v7 => (some ((⟨v2, v7.1, 0⟩ : DevArg), v7.2))) (Option.bind (spec_l26Rd_pick v1 4) fun v8 => (Option.bind (spec_l26Rd_pick v8.2 6) fun v18 => (cond (v18.1 == 0) (Option.bind (spec_DevSize v2) fun v19 => (Option.bind (spec_l26Rd_pick v18.2 v19) fun v20 => (spec_l2Arg_j38 v2 (v20.2.b, v20.2.p, v20.1)))) (spec_l2Arg_j38 v2 (v18.2.b, v18.2.p, v8.1))))))))
theorem con_spec_l2Arg (v1 : l26Rd) (v2 : Int) (res_ : (DevArg × l26Rd)) (h : spec_l2Arg v1 v2 = some res_) : Con Tryd.prog C0 54 [.pt 0 0, .sc (.int .i64 (v2))] [.rc [.fz 1 (R e_u8 (v1.b)), .sc (.int .i64 (v1.p))]]
    (fun x σ' => x = .agg [.sc (.int .i64 (res_.1.Kind)), .sc (.int .i64 (res_.1.N)), .sc (.int .i64 (res_.1.P))] ∧ σ' = [.rc [.fz 1 (R e_u8 (res_.2.b)), .sc (.int .i64 (res_.2.p))]]) := by
  refine zCon hP 1 [0, 1, 4, 5, 6, 7, 8, 9, 16, 26, 31, 41, 49] [.cell 4 60] Tryd.func54 (by unfold Tryd.f54; rfl) fun Q hQ => ?_
  unfold spec_l2Arg at h
  refine zS z0 (sem_cut fun k2 hk2 => ?_)
  refine zS z0 (sem_blk fun k4 hk4 => ?_)
  refine zS z0 ?_
  refine sem_ifh rfl h ?_ ?_ <;> clear h <;> intro h
  · obtain ⟨v3, c7H, h⟩ := bind_some' h
    refine zS (zC1 (lC [[0]] (con_spec_l26Rd_num _ _ _ c7H))) (r_ret ?_)
    refine r_bR hk4 (r_cR hk2 ?_)
    cases h
    refine zAR hQ
  · refine zS z0 ?_
    refine sem_ifh rfl h ?_ ?_ <;> clear h <;> intro h
    · obtain ⟨v4, c10H, h⟩ := bind_some' h
      refine zS (zC1 (lC [[0]] (con_spec_l26Rd_num _ _ _ c10H))) ?_
      obtain ⟨v5, c12H, h⟩ := bind_some' h
      refine zS (zC1 (lC [[0]] (con_spec_l26Rd_pick _ _ _ c12H))) (zCut (fun (x : Int) => ⟨[(1, .sc (.int .i64 (v2))), (4, .pt 1 0), (5, .sc (.int .i64 (v4.1))), (6, .sc (.int .i64 (x)))], [.rc [.fz 1 (R e_u8 (v5.2.b)), .sc (.int .i64 (v5.2.p))], .rc [.sc (.int .i64 (0)), .sc (.int .i64 (0)), .sc (.int .i64 (0))]]⟩) (spec_l2Arg_j20 v2 v4 v5) res_ ?_ ?_)
      · rintro _ v6 h
        simp only [spec_l2Arg_j20] at h
        refine zS z0 (r_ret ?_)
        refine r_bR hk4 (r_cR hk2 ?_)
        cases h
        refine zAR hQ
      · intro k16 hk16 J15
        refine zS zR ?_
        refine sem_ifh rfl h ?_ ?_ <;> clear h <;> intro h
        · refine zU z0 (zJ J15 [1, 4, 5, 6] () _ h)
        · refine r_skip (zJ J15 [1, 4, 5, 6] () _ h)
    · refine zS z0 ?_
      refine sem_ifh rfl h ?_ ?_ <;> clear h <;> intro h
      · obtain ⟨v7, c20H, h⟩ := bind_some' h
        refine zS (zC1 (lC [[0]] (con_spec_l26Rd_pick _ _ _ c20H))) (r_ret ?_)
        refine r_bR hk4 (r_cR hk2 ?_)
        cases h
        refine zAR hQ
      · refine r_skip (r_bN hk4 ?_)
        refine r_cN hk2 ?_
        obtain ⟨v8, c22H, h⟩ := bind_some' h
        refine zS (zC1 (lC [[0]] (con_spec_l26Rd_pick _ _ _ c22H))) (zCut (fun (x : ((List Int) × Int × Int)) => ⟨[(1, .sc (.int .i64 (v2))), (4, .pt 1 0), (7, .sc (.int .i64 (x.2.2)))], [.rc [.fz 1 (R e_u8 (x.1)), .sc (.int .i64 (x.2.1))], .rc [.sc (.int .i64 (0)), .sc (.int .i64 (0)), .sc (.int .i64 (0))]]⟩) (spec_l2Arg_j38 v2) res_ ?_ ?_)
        · rintro _ ⟨v12, v13, v14⟩ h
          simp only [spec_l2Arg_j38] at h
          refine zCut (fun (x : Int) => ⟨[(1, .sc (.int .i64 (v2))), (4, .pt 1 0), (7, .sc (.int .i64 (x)))], [.rc [.fz 1 (R e_u8 (v12)), .sc (.int .i64 (v13))], .rc [.sc (.int .i64 (0)), .sc (.int .i64 (0)), .sc (.int .i64 (0))]]⟩) (spec_l2Arg_j44 v2 v12 v13) res_ ?_ ?_
          · rintro _ v16 h
            simp only [spec_l2Arg_j44] at h
            refine zS z0 (r_ret ?_)
            cases h
            refine zAR hQ
          · intro k31 hk31 J30
            obtain ⟨v17, c33H, h⟩ := bind_some' h
            refine zS (zC1 (lF [] (con_spec_DevSize _ _ c33H))) ?_
            refine sem_ifh rfl h ?_ ?_ <;> clear h <;> intro h
            · refine zU z0 (zJ J30 [1, 4, 7] () _ h)
            · refine r_skip (zJ J30 [1, 4, 7] () _ h)
        · intro k35 hk35 J34
          obtain ⟨v18, c37H, h⟩ := bind_some' h
          refine zS (zC1 (lC [[0]] (con_spec_l26Rd_pick _ _ _ c37H))) ?_
          refine sem_ifh rfl h ?_ ?_ <;> clear h <;> intro h
          · obtain ⟨v19, c38H, h⟩ := bind_some' h
            obtain ⟨v20, c39H, h⟩ := bind_some' h
            refine zU (zC2 (lF [] (con_spec_DevSize _ _ c38H)) (lC [[0]] (con_spec_l26Rd_pick _ _ _ c39H))) (zJ J34 [1, 4, 7] () _ h)
          · refine r_skip (zJ J34 [1, 4, 7] () _ h)
noncomputable def spec_l4Bit (v1 : l26Rd) : Option (DevArg × l26Rd) :=
  (Option.bind (spec_l26Rd_num v1 [1, 1, 2, 3, 3, 4, 6, 7, 8]) fun v2 => (Option.bind (spec_l2Arg v2.2 v2.1) fun v3 => (some (v3.1, v3.2))))
theorem con_spec_l4Bit (v1 : l26Rd) (res_ : (DevArg × l26Rd)) (h : spec_l4Bit v1 = some res_) : Con Tryd.prog C0 53 [.pt 0 0] [.rc [.fz 1 (R e_u8 (v1.b)), .sc (.int .i64 (v1.p))]]
    (fun x σ' => x = .agg [.sc (.int .i64 (res_.1.Kind)), .sc (.int .i64 (res_.1.N)), .sc (.int .i64 (res_.1.P))] ∧ σ' = [.rc [.fz 1 (R e_u8 (res_.2.b)), .sc (.int .i64 (res_.2.p))]]) := by
  refine zCon hP 1 [0, 2] [.cell 2 60] Tryd.func53 (by unfold Tryd.f53; rfl) fun Q hQ => ?_
  unfold spec_l4Bit at h
  refine zS z0 ?_
  obtain ⟨v2, c3H, h⟩ := bind_some' h
  obtain ⟨v3, c4H, h⟩ := bind_some' h
  refine zS (zC2 (lC [[0]] (con_spec_l26Rd_num _ _ _ c3H)) (lC [[0]] (con_spec_l2Arg _ _ _ c4H))) (r_ret ?_)
  cases h
  refine zAR hQ
noncomputable def spec_l4Whole (v1 : l26Rd) : Option (DevArg × l26Rd) :=
  (Option.bind (spec_l26Rd_num v1 [9, 9, 9, 11, 11, 7, 8]) fun v2 => (Option.bind (spec_l2Arg v2.2 v2.1) fun v3 => (some (v3.1, v3.2))))
theorem con_spec_l4Whole (v1 : l26Rd) (res_ : (DevArg × l26Rd)) (h : spec_l4Whole v1 = some res_) : Con Tryd.prog C0 55 [.pt 0 0] [.rc [.fz 1 (R e_u8 (v1.b)), .sc (.int .i64 (v1.p))]]
    (fun x σ' => x = .agg [.sc (.int .i64 (res_.1.Kind)), .sc (.int .i64 (res_.1.N)), .sc (.int .i64 (res_.1.P))] ∧ σ' = [.rc [.fz 1 (R e_u8 (res_.2.b)), .sc (.int .i64 (res_.2.p))]]) := by
  refine zCon hP 1 [0, 2] [.cell 2 60] Tryd.func55 (by unfold Tryd.f55; rfl) fun Q hQ => ?_
  unfold spec_l4Whole at h
  refine zS z0 ?_
  obtain ⟨v2, c3H, h⟩ := bind_some' h
  obtain ⟨v3, c4H, h⟩ := bind_some' h
  refine zS (zC2 (lC [[0]] (con_spec_l26Rd_num _ _ _ c3H)) (lC [[0]] (con_spec_l2Arg _ _ _ c4H))) (r_ret ?_)
  cases h
  refine zAR hQ
noncomputable def spec_l4Real (v1 : l26Rd) : Option (DevArg × l26Rd) :=
  (Option.bind (spec_l26Rd_num v1 [10, 10, 10, 12, 13]) fun v2 => (Option.bind (spec_l2Arg v2.2 v2.1) fun v3 => (some (v3.1, v3.2))))
theorem con_spec_l4Real (v1 : l26Rd) (res_ : (DevArg × l26Rd)) (h : spec_l4Real v1 = some res_) : Con Tryd.prog C0 56 [.pt 0 0] [.rc [.fz 1 (R e_u8 (v1.b)), .sc (.int .i64 (v1.p))]]
    (fun x σ' => x = .agg [.sc (.int .i64 (res_.1.Kind)), .sc (.int .i64 (res_.1.N)), .sc (.int .i64 (res_.1.P))] ∧ σ' = [.rc [.fz 1 (R e_u8 (res_.2.b)), .sc (.int .i64 (res_.2.p))]]) := by
  refine zCon hP 1 [0, 2] [.cell 2 60] Tryd.func56 (by unfold Tryd.f56; rfl) fun Q hQ => ?_
  unfold spec_l4Real at h
  refine zS z0 ?_
  obtain ⟨v2, c3H, h⟩ := bind_some' h
  obtain ⟨v3, c4H, h⟩ := bind_some' h
  refine zS (zC2 (lC [[0]] (con_spec_l26Rd_num _ _ _ c3H)) (lC [[0]] (con_spec_l2Arg _ _ _ c4H))) (r_ret ?_)
  cases h
  refine zAR hQ
noncomputable def spec_l4Contact_j50 (v17 : Int) (v18 : Int) (v19 : Int) : ((List Int) × Int × Int × Int × Int) → Option (Elem × l26Rd)
  | (v24, v25, v26, v27, v28) => (Option.bind (spec_l26Rd_pick (⟨v24, v25⟩ : l26Rd) 6) fun v29 => (some ((⟨(IntKind.i64.wrap (5 + v29.1)), [(⟨v17, v18, v19⟩ : DevArg), (⟨v26, v27, v28⟩ : DevArg)]⟩ : Elem), v29.2)))
noncomputable def spec_l4Contact_j42 : ((List Int) × Int × Int × Int × Int × Int × Int × Int) → Option (Elem × l26Rd)
  | (v15, v16, v17, v18, v19, v20, v21, v22) => (Option.bind (spec_l26Rd_pick (⟨v15, v16⟩ : l26Rd) 4) fun v30 => (cond (v30.1 == 0) (spec_l4Contact_j50 v17 v18 v19 (v30.2.b, v30.2.p, v17, v18, v19)) (spec_l4Contact_j50 v17 v18 v19 (v30.2.b, v30.2.p, v20, v21, v22))))
noncomputable def spec_l4Contact_j21 (v2 : (Int × l26Rd)) : Bool → Option (Elem × l26Rd)
  | v5 => (cond v5 (Option.bind (spec_l4Bit v2.2) fun v6 => (some ((⟨2, [v6.1]⟩ : Elem), v6.2))) (cond (v2.1 == 5) (Option.bind (spec_l26Rd_pick v2.2 2) fun v7 => (Option.bind (spec_l4Bit v7.2) fun v8 => (Option.bind (spec_l2Arg v8.2 5) fun v9 => (some ((⟨(IntKind.i64.wrap (3 + v7.1)), [v8.1, v9.1]⟩ : Elem), v9.2))))) (Option.bind (spec_l4Whole v2.2) fun v10 => (Option.bind (spec_l4Whole v10.2) fun v11 => (Option.bind (spec_l26Rd_pick v11.2 2) fun v31 => (cond (v31.1 == 0) (Option.bind (spec_l4Real v31.2) fun v32 => (Option.bind (spec_l4Real v32.2) fun v33 => (spec_l4Contact_j42 (v33.2.b, v33.2.p, v32.1.Kind, v32.1.N, v32.1.P, v33.1.Kind, v33.1.N, v33.1.P)))) (spec_l4Contact_j42 (v31.2.b, v31.2.p, v10.1.Kind, v10.1.N, v10.1.P, v11.1.Kind, v11.1.N, v11.1.P))))))))
noncomputable def spec_l4Contact_j7 (v2 : (Int × l26Rd)) : Bool → Option (Elem × l26Rd)
  | v3 => (cond v3 (Option.bind (spec_l4Bit v2.2) fun v4 => (some ((⟨1, [v4.1]⟩ : Elem), v4.2))) (cond (v2.1 == 3) (spec_l4Contact_j21 v2 (v2.1 == 3)) (spec_l4Contact_j21 v2 (v2.1 == 4))))
noncomputable def spec_l4Contact (v1 : l26Rd) : Option (Elem × l26Rd) :=
  (Option.bind (spec_l26Rd_pick v1 8) fun v2 => (cond (v2.1 == 0) (spec_l4Contact_j7 v2 (v2.1 == 0)) (cond (v2.1 == 1) (spec_l4Contact_j7 v2 (v2.1 == 1)) (spec_l4Contact_j7 v2 (v2.1 == 2)))))
theorem con_spec_l4Contact (v1 : l26Rd) (res_ : (Elem × l26Rd)) (h : spec_l4Contact v1 = some res_) : Con Tryd.prog C0 35 [.pt 0 0] [.rc [.fz 1 (R e_u8 (v1.b)), .sc (.int .i64 (v1.p))]]
    (fun x σ' => x = .agg [.sc (.int .i64 (res_.1.Op)), .sl 1 0 ((res_.1.Args).length)] ∧ σ' = [.rc [.fz 1 (R e_u8 (res_.2.b)), .sc (.int .i64 (res_.2.p))], .arr true 3 (R e_DevArg (res_.1.Args))]) := by
  refine zCon hP 1 [0, 2, 3, 4, 6, 7, 15, 22, 39, 46] [.cell 2 42] Tryd.func35 (by unfold Tryd.f35; rfl) fun Q hQ => ?_
  unfold spec_l4Contact at h
  refine zS z0 (sem_cut fun k2 hk2 => ?_)
  obtain ⟨v2, c4H, h⟩ := bind_some' h
  refine zS (zC1 (lC [[0]] (con_spec_l26Rd_pick _ _ _ c4H))) (sem_blk fun k5 hk5 => ?_)
  refine zCut (fun (x : Bool) => ⟨[(0, .pt 0 0), (2, .pt 1 0), (6, .sc (.int .i64 (v2.1))), (7, .sc (.bool (x)))], [.rc [.fz 1 (R e_u8 (v2.2.b)), .sc (.int .i64 (v2.2.p))], .rc [.sc (.int .i64 (0)), .sc (.slice none 0 0)]]⟩) (spec_l4Contact_j7 v2) res_ ?_ ?_
  · rintro _ v3 h
    simp only [spec_l4Contact_j7] at h
    refine sem_ifh rfl h ?_ ?_ <;> clear h <;> intro h
    · obtain ⟨v4, c9H, h⟩ := bind_some' h
      refine zS (zC1 (lC [[0]] (con_spec_l4Bit _ _ c9H))) (r_ret ?_)
      refine r_bR hk5 (r_cR hk2 ?_)
      cases h
      refine zOR hQ
    · refine zCut (fun (x : Bool) => ⟨[(0, .pt 0 0), (2, .pt 1 0), (6, .sc (.int .i64 (v2.1))), (15, .sc (.bool (x)))], [.rc [.fz 1 (R e_u8 (v2.2.b)), .sc (.int .i64 (v2.2.p))], .rc [.sc (.int .i64 (0)), .sc (.slice none 0 0)]]⟩) (spec_l4Contact_j21 v2) res_ ?_ ?_
      · rintro _ v5 h
        simp only [spec_l4Contact_j21] at h
        refine sem_ifh rfl h ?_ ?_ <;> clear h <;> intro h
        · obtain ⟨v6, c12H, h⟩ := bind_some' h
          refine zS (zC1 (lC [[0]] (con_spec_l4Bit _ _ c12H))) (r_ret ?_)
          refine r_bR hk5 (r_cR hk2 ?_)
          cases h
          refine zOR hQ
        · refine zS z0 ?_
          refine sem_ifh rfl h ?_ ?_ <;> clear h <;> intro h
          · obtain ⟨v7, c15H, h⟩ := bind_some' h
            obtain ⟨v8, c16H, h⟩ := bind_some' h
            obtain ⟨v9, c17H, h⟩ := bind_some' h
            refine zS (zC3 (lC [[0]] (con_spec_l26Rd_pick _ _ _ c15H)) (lC [[0]] (con_spec_l4Bit _ _ c16H)) (lC [[0]] (con_spec_l2Arg _ _ _ c17H))) (r_ret ?_)
            refine r_bR hk5 (r_cR hk2 ?_)
            cases h
            refine zOR hQ
          · refine r_skip (r_bN hk5 ?_)
            refine r_cN hk2 ?_
            obtain ⟨v10, c19H, h⟩ := bind_some' h
            refine zS (zC1 (lC [[0]] (con_spec_l4Whole _ _ c19H))) ?_
            obtain ⟨v11, c21H, h⟩ := bind_some' h
            refine zS (zC1 (lC [[0]] (con_spec_l4Whole _ _ c21H))) (zCut (fun (x : ((List Int) × Int × Int × Int × Int × Int × Int × Int)) => ⟨[(0, .pt 0 0), (2, .pt 1 0), (3, .pt 2 0), (4, .pt 3 0)], [.rc [.fz 1 (R e_u8 (x.1)), .sc (.int .i64 (x.2.1))], .rc [.sc (.int .i64 (0)), .sc (.slice none 0 0)], .rc [.sc (.int .i64 (x.2.2.1)), .sc (.int .i64 (x.2.2.2.1)), .sc (.int .i64 (x.2.2.2.2.1))], .rc [.sc (.int .i64 (x.2.2.2.2.2.1)), .sc (.int .i64 (x.2.2.2.2.2.2.1)), .sc (.int .i64 (x.2.2.2.2.2.2.2))]]⟩) spec_l4Contact_j42 res_ ?_ ?_)
            · rintro _ ⟨v15, v16, v17, v18, v19, v20, v21, v22⟩ h
              simp only [spec_l4Contact_j42] at h
              refine zCut (fun (x : ((List Int) × Int × Int × Int × Int)) => ⟨[(0, .pt 0 0), (2, .pt 1 0), (3, .pt 2 0), (4, .pt 3 0)], [.rc [.fz 1 (R e_u8 (x.1)), .sc (.int .i64 (x.2.1))], .rc [.sc (.int .i64 (0)), .sc (.slice none 0 0)], .rc [.sc (.int .i64 (v17)), .sc (.int .i64 (v18)), .sc (.int .i64 (v19))], .rc [.sc (.int .i64 (x.2.2.1)), .sc (.int .i64 (x.2.2.2.1)), .sc (.int .i64 (x.2.2.2.2))]]⟩) (spec_l4Contact_j50 v17 v18 v19) res_ ?_ ?_
              · rintro _ ⟨v24, v25, v26, v27, v28⟩ h
                simp only [spec_l4Contact_j50] at h
                refine sem_cut fun k29 hk29 => ?_
                obtain ⟨v29, c30H, h⟩ := bind_some' h
                with_reducible refine sem_plan (id := 18) (.take 0 (.take 3 (.take 4 (.two 1 5 (.take 2 (.last 5 (.take 6 (.last 7 .done)))) (.one 1 (.take 2 (.take 6 (.last 7 .done)))))))) [2, 3] ?_ ?_
                focus kernel_rfl
                repeat' (first | with_reducible refine And.intro ?_ ?_ | ((with_reducible refine i_call (n := 19) ?_); refine call_open [[0]] ?_) | ((with_reducible refine i_callW (n := 19) ?_); refine callW_use (con_spec_l26Rd_pick (⟨v24, v25⟩ : l26Rd) 6 v29 c30H) ?_; rintro x σ' ⟨rfl, rfl⟩ <;> ((with_reducible refine behind_go ?_))) | exact True.intro | with_reducible assumption | exact fun hf => False.elim hf | (intro hg; first | (simp +contextual [hg]; done) | grind) | omega | simp (decide := true) only [go_sem, reduceIte, Nat.reduceAdd, Int.reduceToNat, Nat.reduceSub, Nat.reduceMul])
                all_goals
                  refine r_cN hk29 (r_ret ?_)
                  cases h
                  refine zOR hQ
              · intro k32 hk32 J31
                obtain ⟨v30, c34H, h⟩ := bind_some' h
                refine zS (zC1 (lC [[0]] (con_spec_l26Rd_pick _ _ _ c34H))) ?_
                refine sem_ifh rfl h ?_ ?_ <;> clear h <;> intro h
                · refine zU z0 (zJ J31 [0, 2, 3, 4] () _ h)
                · refine r_skip (zJ J31 [0, 2, 3, 4] () _ h)
            · intro k36 hk36 J35
              obtain ⟨v31, c38H, h⟩ := bind_some' h
              refine zS (zC1 (lC [[0]] (con_spec_l26Rd_pick _ _ _ c38H))) ?_
              refine sem_ifh rfl h ?_ ?_ <;> clear h <;> intro h
              · obtain ⟨v32, c40H, h⟩ := bind_some' h
                refine zS (zC1 (lC [[0]] (con_spec_l4Real _ _ c40H))) ?_
                obtain ⟨v33, c41H, h⟩ := bind_some' h
                refine zU (zC1 (lC [[0]] (con_spec_l4Real _ _ c41H))) (zJ J35 [0, 2, 3, 4] () _ h)
              · refine r_skip (zJ J35 [0, 2, 3, 4] () _ h)
      · intro k43 hk43 J42
        refine zS z0 ?_
        refine sem_ifh rfl h ?_ ?_ <;> clear h <;> intro h
        · refine r_skip (zJ J42 [0, 2, 6, 15] () _ h)
        · refine zU z0 (zJ J42 [0, 2, 6, 15] () _ h)
  · intro k46 hk46 J45
    refine zS z0 ?_
    refine sem_ifh rfl h ?_ ?_ <;> clear h <;> intro h
    · refine r_skip (zJ J45 [0, 2, 6, 7] () _ h)
    · refine zS z0 ?_
      refine sem_ifh rfl h ?_ ?_ <;> clear h <;> intro h
      · refine r_skip (zJ J45 [0, 2, 6, 7] () _ h)
      · refine zU z0 (zJ J45 [0, 2, 6, 7] () _ h)
noncomputable def spec_ElemArity_j33 (v1 : Int) : Bool → Option Int
  | v3 => (cond v3 (some 3) (cond (((decide (v1 ≥ 1)) && (decide (v1 ≤ 10))) || ((decide (v1 ≥ 21)) && (decide (v1 ≤ 37)))) (some 2) (some 0)))
noncomputable def spec_ElemArity_j7 (v1 : Int) : Bool → Option Int
  | v2 => (cond v2 (some 1) (cond (v1 == 31) (spec_ElemArity_j33 v1 (v1 == 31)) (cond (v1 == 32) (spec_ElemArity_j33 v1 (v1 == 32)) (cond (v1 == 33) (spec_ElemArity_j33 v1 (v1 == 33)) (cond (v1 == 34) (spec_ElemArity_j33 v1 (v1 == 34)) (spec_ElemArity_j33 v1 (v1 == 35)))))))
noncomputable def spec_ElemArity (v1 : Int) : Option Int :=
  (cond (v1 == 1) (spec_ElemArity_j7 v1 (v1 == 1)) (cond (v1 == 2) (spec_ElemArity_j7 v1 (v1 == 2)) (cond (v1 == 21) (spec_ElemArity_j7 v1 (v1 == 21)) (cond (v1 == 22) (spec_ElemArity_j7 v1 (v1 == 22)) (cond (v1 == 23) (spec_ElemArity_j7 v1 (v1 == 23)) (spec_ElemArity_j7 v1 (v1 == 25)))))))
theorem con_spec_ElemArity (v1 : Int) (res_ : Int) (h : spec_ElemArity v1 = some res_) : Con Tryd.prog C0 57 [.sc (.int .i64 (v1))] []
    (fun x σ' => x = .sc (.int .i64 (res_)) ∧ σ' = []) := by
  refine zCon hP 0 [0, 2, 3, 4, 11, 30] [.tmp 2] Tryd.func57 (by unfold Tryd.f57; rfl) fun Q hQ => ?_
  unfold spec_ElemArity at h
  refine zS z0 (sem_cut fun k2 hk2 => ?_)
  refine zS z0 (sem_blk fun k4 hk4 => ?_)
  refine zCut (fun (x : Bool) => ⟨[(0, .sc (.int .i64 (v1))), (3, .sc (.int .i64 (v1))), (4, .sc (.bool (x)))], []⟩) (spec_ElemArity_j7 v1) res_ ?_ ?_
  · rintro _ v2 h
    simp only [spec_ElemArity_j7] at h
    refine sem_ifh rfl h ?_ ?_ <;> clear h <;> intro h
    · refine zS z0 (r_ret ?_)
      refine r_bR hk4 (r_cR hk2 ?_)
      cases h
      refine zAR hQ
    · refine zCut (fun (x : Bool) => ⟨[(0, .sc (.int .i64 (v1))), (11, .sc (.bool (x)))], []⟩) (spec_ElemArity_j33 v1) res_ ?_ ?_
      · rintro _ v3 h
        simp only [spec_ElemArity_j33] at h
        refine sem_ifh rfl h ?_ ?_ <;> clear h <;> intro h
        · refine zS z0 (r_ret ?_)
          refine r_bR hk4 (r_cR hk2 ?_)
          cases h
          refine zAR hQ
        · refine r_skip (r_bN hk4 ?_)
          refine r_cN hk2 (sem_cut fun k16 hk16 => ?_)
          refine zS zR ?_
          refine sem_ifh rfl h ?_ ?_ <;> clear h <;> intro h
          · refine zS z0 (r_ret ?_)
            refine r_cR hk16 ?_
            cases h
            refine zAR hQ
          · refine r_skip (r_cN hk16 ?_)
            refine zS z0 (r_ret ?_)
            cases h
            refine zAR hQ
      · intro k21 hk21 J20
        refine zS z0 ?_
        refine sem_ifh rfl h ?_ ?_ <;> clear h <;> intro h
        · refine r_skip (zJ J20 [0, 11] () _ h)
        · refine zS z0 ?_
          refine sem_ifh rfl h ?_ ?_ <;> clear h <;> intro h
          · refine r_skip (zJ J20 [0, 11] () _ h)
          · refine zS z0 ?_
            refine sem_ifh rfl h ?_ ?_ <;> clear h <;> intro h
            · refine r_skip (zJ J20 [0, 11] () _ h)
            · refine zS z0 ?_
              refine sem_ifh rfl h ?_ ?_ <;> clear h <;> intro h
              · refine r_skip (zJ J20 [0, 11] () _ h)
              · refine zU z0 (zJ J20 [0, 11] () _ h)
  · intro k27 hk27 J26
    refine zS z0 ?_
    refine sem_ifh rfl h ?_ ?_ <;> clear h <;> intro h
    · refine r_skip (zJ J26 [0, 3, 4] () _ h)
    · refine zS z0 ?_
      refine sem_ifh rfl h ?_ ?_ <;> clear h <;> intro h
      · refine r_skip (zJ J26 [0, 3, 4] () _ h)
      · refine zS z0 ?_
        refine sem_ifh rfl h ?_ ?_ <;> clear h <;> intro h
        · refine r_skip (zJ J26 [0, 3, 4] () _ h)
        · refine zS z0 ?_
          refine sem_ifh rfl h ?_ ?_ <;> clear h <;> intro h
          · refine r_skip (zJ J26 [0, 3, 4] () _ h)
          · refine zS z0 ?_
            refine sem_ifh rfl h ?_ ?_ <;> clear h <;> intro h
            · refine r_skip (zJ J26 [0, 3, 4] () _ h)
            · refine zU z0 (zJ J26 [0, 3, 4] () _ h)
noncomputable def spec_l4Coil_j49 (v2 : (Int × l26Rd)) (v5 : (DevArg × l26Rd)) (v7 : (List Int)) (v8 : Int) (v9 : Int) : Bool → Option (Elem × l26Rd)
  | v16 => (cond v16 (Option.bind (spec_l2Arg (⟨v7, v8⟩ : l26Rd) 7) fun v17 => (some ((⟨v2.1, [v17.1, (⟨v5.1.Kind, v9, v5.1.P⟩ : DevArg)]⟩ : Elem), v17.2))) (cond (v2.1 == 29) (Option.bind (spec_l2Arg (⟨v7, v8⟩ : l26Rd) 8) fun v18 => (some ((⟨v2.1, [v18.1, (⟨v5.1.Kind, v9, v5.1.P⟩ : DevArg)]⟩ : Elem), v18.2))) (cond (v2.1 == 36) (Option.bind (spec_l2Arg (⟨v7, v8⟩ : l26Rd) 10) fun v19 => (Option.bind (spec_l4Whole v19.2) fun v20 => (some ((⟨v2.1, [v19.1, v20.1]⟩ : Elem), v20.2)))) (cond (v2.1 == 37) (Option.bind (spec_l2Arg (⟨v7, v8⟩ : l26Rd) 9) fun v21 => (Option.bind (spec_l4Real v21.2) fun v22 => (some ((⟨v2.1, [v21.1, v22.1]⟩ : Elem), v22.2)))) (cond (v2.1 == 35) (Option.bind (spec_l2Arg (⟨v7, v8⟩ : l26Rd) 9) fun v24 => (Option.bind (spec_l4Whole v24.2) fun v25 => (Option.bind (spec_l4Whole v25.2) fun v26 => (Option.bind (spec_ElemArity v2.1) fun v27 => (gd (decide (0 ≤ v27) && decide (v27 ≤ ((3 : Nat) : Int))) (some ((⟨v2.1, ([v24.1, v25.1, v26.1]).take ((v27).toNat)⟩ : Elem), v26.2))))))) (Option.bind (spec_l26Rd_pick (⟨v7, v8⟩ : l26Rd) 2) fun v23 => (cond (v23.1 == 0) (Option.bind (spec_l2Arg v23.2 9) fun v28 => (Option.bind (spec_l4Whole v28.2) fun v29 => (Option.bind (spec_l4Whole v29.2) fun v30 => (Option.bind (spec_ElemArity v2.1) fun v31 => (gd (decide (0 ≤ v31) && decide (v31 ≤ ((3 : Nat) : Int))) (some ((⟨v2.1, ([v28.1, v29.1, v30.1]).take ((v31).toNat)⟩ : Elem), v30.2))))))) (Option.bind (spec_l2Arg v23.2 10) fun v32 => (Option.bind (spec_l4Real v32.2) fun v33 => (Option.bind (spec_l4Real v33.2) fun v34 => (Option.bind (spec_ElemArity v2.1) fun v35 => (gd (decide (0 ≤ v35) && decide (v35 ≤ ((3 : Nat) : Int))) (some ((⟨v2.1, ([v32.1, v33.1, v34.1]).take ((v35).toNat)⟩ : Elem), v34.2))))))))))))))
noncomputable def spec_l4Coil_j9 (v2 : (Int × l26Rd)) (v4 : (DevArg × l26Rd)) (v5 : (DevArg × l26Rd)) : ((List Int) × Int × Int) → Option (Elem × l26Rd)
  | (v7, v8, v9) => (cond (v2.1 == 21) (some ((⟨v2.1, [v4.1]⟩ : Elem), (⟨v7, v8⟩ : l26Rd))) (cond (v2.1 == 22) (Option.bind (spec_l26Rd_pick (⟨v7, v8⟩ : l26Rd) 3) fun v10 => (Option.bind (spec_l2Arg v10.2 (IntKind.i64.wrap (2 + v10.1))) fun v11 => (some ((⟨v2.1, [v11.1]⟩ : Elem), v11.2)))) (cond (v2.1 == 23) (Option.bind (spec_l26Rd_num (⟨v7, v8⟩ : l26Rd) [2, 3, 4, 7, 8]) fun v12 => (Option.bind (spec_l2Arg v12.2 v12.1) fun v13 => (some ((⟨v2.1, [v13.1]⟩ : Elem), v13.2)))) (cond (v2.1 == 24) (Option.bind (spec_l2Arg (⟨v7, v8⟩ : l26Rd) 5) fun v14 => (some ((⟨v2.1, [v4.1, v14.1]⟩ : Elem), v14.2))) (cond (v2.1 == 25) (Option.bind (spec_l2Arg (⟨v7, v8⟩ : l26Rd) 4) fun v15 => (some ((⟨v2.1, [v15.1]⟩ : Elem), v15.2))) (cond (v2.1 == 26) (spec_l4Coil_j49 v2 v5 v7 v8 v9 (v2.1 == 26)) (cond (v2.1 == 27) (spec_l4Coil_j49 v2 v5 v7 v8 v9 (v2.1 == 27)) (spec_l4Coil_j49 v2 v5 v7 v8 v9 (v2.1 == 28)))))))))
noncomputable def spec_l4Coil (v1 : l26Rd) : Option (Elem × l26Rd) :=
  (Option.bind (spec_l26Rd_num v1 [21, 21, 21, 22, 23, 24, 25, 26, 26, 27, 28, 29, 29, 30, 31, 31, 32, 33, 34, 35, 36, 37]) fun v2 => (Option.bind (spec_l26Rd_pick v2.2 2) fun v3 => (Option.bind (spec_l2Arg v3.2 (IntKind.i64.wrap (2 + v3.1))) fun v4 => (Option.bind (spec_l2Arg v4.2 11) fun v5 => (cond (decide (v5.1.N < 0)) (Option.bind (spec_l26Rd_pick v5.2 9) fun v36 => (spec_l4Coil_j9 v2 v4 v5 (v36.2.b, v36.2.p, v36.1))) (spec_l4Coil_j9 v2 v4 v5 (v5.2.b, v5.2.p, v5.1.N)))))))
theorem con_spec_l4Coil (v1 : l26Rd) (res_ : (Elem × l26Rd)) (h : spec_l4Coil v1 = some res_) : Con Tryd.prog C0 36 [.pt 0 0] [.rc [.fz 1 (R e_u8 (v1.b)), .sc (.int .i64 (v1.p))]]
    (fun x σ' => x = .agg [.sc (.int .i64 (res_.1.Op)), .fz 3 (R e_DevArg (res_.1.Args))] ∧ σ' = [.rc [.fz 1 (R e_u8 (res_.2.b)), .sc (.int .i64 (res_.2.p))]]) := by
  refine zCon hP 1 [0, 2, 3, 4, 5, 6, 7, 20, 24, 25, 31, 41, 51, 59, 66, 76, 84, 93, 108] [.cell 2 42] Tryd.func36 (by unfold Tryd.f36; rfl) fun Q hQ => ?_
  unfold spec_l4Coil at h
  refine zS z0 ?_
  obtain ⟨v2, c3H, h⟩ := bind_some' h
  refine zS (zC1 (lC [[0]] (con_spec_l26Rd_num _ _ _ c3H))) ?_
  obtain ⟨v3, c5H, h⟩ := bind_some' h
  obtain ⟨v4, c6H, h⟩ := bind_some' h
  refine zS (zC2 (lC [[0]] (con_spec_l26Rd_pick _ _ _ c5H)) (lC [[0]] (con_spec_l2Arg _ _ _ c6H))) ?_
  obtain ⟨v5, c8H, h⟩ := bind_some' h
  refine zS (zC1 (lC [[0]] (con_spec_l2Arg _ _ _ c8H))) (zCut (fun (x : ((List Int) × Int × Int)) => ⟨[(0, .pt 0 0), (2, .pt 1 0), (3, .sc (.int .i64 (v2.1))), (4, .pt 2 0), (5, .pt 3 0)], [.rc [.fz 1 (R e_u8 (x.1)), .sc (.int .i64 (x.2.1))], .rc [.sc (.int .i64 (0)), .sc (.slice none 0 0)], .rc [.sc (.int .i64 (v4.1.Kind)), .sc (.int .i64 (v4.1.N)), .sc (.int .i64 (v4.1.P))], .rc [.sc (.int .i64 (v5.1.Kind)), .sc (.int .i64 (x.2.2)), .sc (.int .i64 (v5.1.P))]]⟩) (spec_l4Coil_j9 v2 v4 v5) res_ ?_ ?_)
  · rintro _ ⟨v7, v8, v9⟩ h
    simp only [spec_l4Coil_j9] at h
    refine sem_cut fun k11 hk11 => zS z0 (sem_blk fun k13 hk13 => ?_)
    refine zS z0 ?_
    refine sem_ifh rfl h ?_ ?_ <;> clear h <;> intro h
    · refine zS z0 (r_ret ?_)
      refine r_bR hk13 (r_cR hk11 ?_)
      cases h
      refine zAR hQ
    · refine zS z0 ?_
      refine sem_ifh rfl h ?_ ?_ <;> clear h <;> intro h
      · obtain ⟨v10, c18H, h⟩ := bind_some' h
        obtain ⟨v11, c19H, h⟩ := bind_some' h
        refine zS (zC2 (lC [[0]] (con_spec_l26Rd_pick _ _ _ c18H)) (lC [[0]] (con_spec_l2Arg _ _ _ c19H))) (r_ret ?_)
        refine r_bR hk13 (r_cR hk11 ?_)
        cases h
        refine zAR hQ
      · refine zS z0 ?_
        refine sem_ifh rfl h ?_ ?_ <;> clear h <;> intro h
        · obtain ⟨v12, c22H, h⟩ := bind_some' h
          obtain ⟨v13, c23H, h⟩ := bind_some' h
          refine zS (zC2 (lC [[0]] (con_spec_l26Rd_num _ _ _ c22H)) (lC [[0]] (con_spec_l2Arg _ _ _ c23H))) (r_ret ?_)
          refine r_bR hk13 (r_cR hk11 ?_)
          cases h
          refine zAR hQ
        · refine zS z0 ?_
          refine sem_ifh rfl h ?_ ?_ <;> clear h <;> intro h
          · obtain ⟨v14, c26H, h⟩ := bind_some' h
            refine zS (zPC1 (.take 0 (.take 1 (.take 2 (.one 3 (.last 4 (.take 5 (.last 6 .done))))))) [2] (lC [[0]] (con_spec_l2Arg _ _ _ c26H))) (r_ret ?_)
            refine r_bR hk13 (r_cR hk11 ?_)
            cases h
            refine zAR hQ
          · refine zS z0 ?_
            refine sem_ifh rfl h ?_ ?_ <;> clear h <;> intro h
            · obtain ⟨v15, c29H, h⟩ := bind_some' h
              refine zS (zC1 (lC [[0]] (con_spec_l2Arg _ _ _ c29H))) (r_ret ?_)
              refine r_bR hk13 (r_cR hk11 ?_)
              cases h
              refine zAR hQ
            · refine zCut (fun (x : Bool) => ⟨[(0, .pt 0 0), (2, .pt 1 0), (3, .sc (.int .i64 (v2.1))), (5, .pt 2 0), (24, .sc (.int .i64 (v2.1))), (66, .sc (.bool (x)))], [.rc [.fz 1 (R e_u8 (v7)), .sc (.int .i64 (v8))], .rc [.sc (.int .i64 (0)), .sc (.slice none 0 0)], .rc [.sc (.int .i64 (v5.1.Kind)), .sc (.int .i64 (v9)), .sc (.int .i64 (v5.1.P))]]⟩) (spec_l4Coil_j49 v2 v5 v7 v8 v9) res_ ?_ ?_
              · rintro _ v16 h
                simp only [spec_l4Coil_j49] at h
                refine sem_ifh rfl h ?_ ?_ <;> clear h <;> intro h
                · obtain ⟨v17, c33H, h⟩ := bind_some' h
                  refine zS (zPC1 (.take 0 (.take 1 (.take 3 (.one 2 (.last 4 (.take 5 (.last 6 .done))))))) [2] (lC [[0]] (con_spec_l2Arg _ _ _ c33H))) (r_ret ?_)
                  refine r_bR hk13 (r_cR hk11 ?_)
                  cases h
                  refine zAR hQ
                · refine zS z0 ?_
                  refine sem_ifh rfl h ?_ ?_ <;> clear h <;> intro h
                  · obtain ⟨v18, c36H, h⟩ := bind_some' h
                    refine zS (zPC1 (.take 0 (.take 1 (.take 3 (.one 2 (.last 4 (.take 5 (.last 6 .done))))))) [2] (lC [[0]] (con_spec_l2Arg _ _ _ c36H))) (r_ret ?_)
                    refine r_bR hk13 (r_cR hk11 ?_)
                    cases h
                    refine zAR hQ
                  · refine zS z0 ?_
                    refine sem_ifh rfl h ?_ ?_ <;> clear h <;> intro h
                    · obtain ⟨v19, c39H, h⟩ := bind_some' h
                      obtain ⟨v20, c40H, h⟩ := bind_some' h
                      refine zS (zC2 (lC [[0]] (con_spec_l2Arg _ _ _ c39H)) (lC [[0]] (con_spec_l4Whole _ _ c40H))) (r_ret ?_)
                      refine r_bR hk13 (r_cR hk11 ?_)
                      cases h
                      refine zAR hQ
                    · refine zS z0 ?_
                      refine sem_ifh rfl h ?_ ?_ <;> clear h <;> intro h
                      · obtain ⟨v21, c43H, h⟩ := bind_some' h
                        obtain ⟨v22, c44H, h⟩ := bind_some' h
                        refine zS (zC2 (lC [[0]] (con_spec_l2Arg _ _ _ c43H)) (lC [[0]] (con_spec_l4Real _ _ c44H))) (r_ret ?_)
                        refine r_bR hk13 (r_cR hk11 ?_)
                        cases h
                        refine zAR hQ
                      · refine r_skip (r_bN hk13 ?_)
                        refine r_cN hk11 (sem_cut fun k45 hk45 => ?_)
                        refine sem_cut fun k46 hk46 => ?_
                        rcases Bool.eq_false_or_eq_true (v2.1 == 35) with g47 | g47
                        · replace h := cond_t h g47
                          refine zU (zRF g47) (r_cN hk46 ?_)
                          refine sem_ifT rfl ?_
                          try replace h := cond_t h rfl
                          obtain ⟨v24, c49H, h⟩ := bind_some' h
                          obtain ⟨v25, c50H, h⟩ := bind_some' h
                          obtain ⟨v26, c51H, h⟩ := bind_some' h
                          refine zS (zC3 (lC [[0]] (con_spec_l2Arg _ _ _ c49H)) (lC [[0]] (con_spec_l4Whole _ _ c50H)) (lC [[0]] (con_spec_l4Whole _ _ c51H))) ?_
                          obtain ⟨v27, c53H, h⟩ := bind_some' h
                          obtain ⟨g54, h⟩ := gD2 h
                          refine zS (zC1F (lF [] (con_spec_ElemArity _ _ c53H)) g54) (r_ret ?_)
                          refine r_cR hk45 ?_
                          cases h
                          refine zAR hQ
                        · replace h := cond_f h g47
                          obtain ⟨v23, c55H, h⟩ := bind_some' h
                          refine zU (zC1F (lC [[0]] (con_spec_l26Rd_pick _ _ _ c55H)) g47) (r_cN hk46 ?_)
                          refine sem_ifh rfl h ?_ ?_ <;> clear h <;> intro h
                          · obtain ⟨v28, c57H, h⟩ := bind_some' h
                            obtain ⟨v29, c58H, h⟩ := bind_some' h
                            obtain ⟨v30, c59H, h⟩ := bind_some' h
                            refine zS (zC3 (lC [[0]] (con_spec_l2Arg _ _ _ c57H)) (lC [[0]] (con_spec_l4Whole _ _ c58H)) (lC [[0]] (con_spec_l4Whole _ _ c59H))) ?_
                            obtain ⟨v31, c61H, h⟩ := bind_some' h
                            obtain ⟨g62, h⟩ := gD2 h
                            refine zS (zC1F (lF [] (con_spec_ElemArity _ _ c61H)) g62) (r_ret ?_)
                            refine r_cR hk45 ?_
                            cases h
                            refine zAR hQ
                          · refine r_skip (r_cN hk45 ?_)
                            obtain ⟨v32, c64H, h⟩ := bind_some' h
                            obtain ⟨v33, c65H, h⟩ := bind_some' h
                            obtain ⟨v34, c66H, h⟩ := bind_some' h
                            refine zS (zC3 (lC [[0]] (con_spec_l2Arg _ _ _ c64H)) (lC [[0]] (con_spec_l4Real _ _ c65H)) (lC [[0]] (con_spec_l4Real _ _ c66H))) ?_
                            obtain ⟨v35, c68H, h⟩ := bind_some' h
                            obtain ⟨g69, h⟩ := gD2 h
                            refine zS (zC1F (lF [] (con_spec_ElemArity _ _ c68H)) g69) (r_ret ?_)
                            cases h
                            refine zAR hQ
              · intro k71 hk71 J70
                refine zS z0 ?_
                refine sem_ifh rfl h ?_ ?_ <;> clear h <;> intro h
                · refine r_skip (zJ J70 [0, 2, 3, 5, 24, 66] () _ h)
                · refine zS z0 ?_
                  refine sem_ifh rfl h ?_ ?_ <;> clear h <;> intro h
                  · refine r_skip (zJ J70 [0, 2, 3, 5, 24, 66] () _ h)
                  · refine zU z0 (zJ J70 [0, 2, 3, 5, 24, 66] () _ h)
  · intro k75 hk75 J74
    refine zS z0 ?_
    refine sem_ifh rfl h ?_ ?_ <;> clear h <;> intro h
    · obtain ⟨v36, c77H, h⟩ := bind_some' h
      refine zU (zC1 (lC [[0]] (con_spec_l26Rd_pick _ _ _ c77H))) (zJ J74 [0, 2, 3, 4, 5] () _ h)
    · refine r_skip (zJ J74 [0, 2, 3, 4, 5] () _ h)
noncomputable def spec_l11Play_put_j9 (v1 : l11Play) (v2 : Int) : ((List Int) × Int × Int × (List DevArg)) → Option l11Play
  | (v9, v10, v11, v12) => (gd (apOk ((v1.out ++ [(⟨v2, v11, v12⟩ : Inst)])).length 40) (cond ((v2 == 10) || (v2 == 7)) (some (⟨(⟨v9, v10⟩ : l26Rd), (v1.out ++ [(⟨v2, v11, v12⟩ : Inst)]), v1.bits, v1.forks, true, (v2 == 10)⟩ : l11Play)) (some (⟨(⟨v9, v10⟩ : l26Rd), (v1.out ++ [(⟨v2, v11, v12⟩ : Inst)]), v1.bits, v1.forks, v1.base, (v2 == 10)⟩ : l11Play))))
noncomputable def spec_l11Play_put_j3 (v1 : l11Play) (v2 : Int) : ((List Int) × Int × Int × (List DevArg)) → Option l11Play
  | (v4, v5, v6, v7) => (cond (v2 == 10) (Option.bind (spec_l4Coil (⟨v4, v5⟩ : l26Rd)) fun v13 => (spec_l11Play_put_j9 v1 v2 (v13.2.b, v13.2.p, v13.1.Op, v13.1.Args))) (spec_l11Play_put_j9 v1 v2 (v4, v5, v6, v7)))
noncomputable def spec_l11Play_put (v1 : l11Play) (v2 : Int) : Option l11Play :=
  (cond (decide (v2 ≤ 3)) (Option.bind (spec_l4Contact (⟨v1.r.b, v1.r.p⟩ : l26Rd)) fun v20 => (spec_l11Play_put_j3 v1 v2 (v20.2.b, v20.2.p, v20.1.Op, v20.1.Args))) (spec_l11Play_put_j3 v1 v2 (v1.r.b, v1.r.p, 0, [])))
theorem con_spec_l11Play_put (v1 : l11Play) (v2 : Int) (res_ : l11Play) (h : spec_l11Play_put v1 v2 = some res_) : Con Tryd.prog C0 74 [.pt 0 0, .sc (.int .i64 (v2))] [.rc [.pt 1 0, .sl 2 0 ((v1.out).length), .sc (.int .i64 (v1.bits)), .sc (.int .i64 (v1.forks)), .sc (.bool (v1.base)), .sc (.bool (v1.fresh))], .rc [.fz 1 (R e_u8 (v1.r.b)), .sc (.int .i64 (v1.r.p))], .arr true 3 (R e_Inst (v1.out))]
    (fun x σ' => x = .tup [] ∧ σ' = [.rc [.pt 1 0, .sl 3 0 ((res_.out).length), .sc (.int .i64 (res_.bits)), .sc (.int .i64 (res_.forks)), .sc (.bool (res_.base)), .sc (.bool (res_.fresh))], .rc [.fz 1 (R e_u8 (res_.r.b)), .sc (.int .i64 (res_.r.p))], .dead, .arr true 3 (R e_Inst (res_.out))]) := by
  refine zCon hP 3 [0, 1, 4, 8, 16, 43] [] Tryd.func74 (by unfold Tryd.f74; rfl) fun Q hQ => ?_
  unfold spec_l11Play_put at h
  refine zS z0 (sem_cutJ (fun (i : P2) (x : ((List Int) × Int × Int × (List DevArg))) => match i with | .a => (⟨[(0, .pt 0 0), (1, .sc (.int .i64 (v2))), (4, .pt 3 0)], [.rc [.pt 1 0, .sl 2 0 ((v1.out).length), .sc (.int .i64 (v1.bits)), .sc (.int .i64 (v1.forks)), .sc (.bool (v1.base)), .sc (.bool (v1.fresh))], .rc [.fz 1 (R e_u8 (x.1)), .sc (.int .i64 (x.2.1))], .arr true 3 (R e_Inst (v1.out)), .rc [.sc (.int .i64 (v2)), .sc (.int .i64 (x.2.2.1)), .sl 4 0 ((x.2.2.2).length)], .arr true 3 (R e_DevArg (x.2.2.2))]⟩ : St) | .b => (⟨[(0, .pt 0 0), (1, .sc (.int .i64 (v2))), (4, .pt 3 0)], [.rc [.pt 1 0, .sl 2 0 ((v1.out).length), .sc (.int .i64 (v1.bits)), .sc (.int .i64 (v1.forks)), .sc (.bool (v1.base)), .sc (.bool (v1.fresh))], .rc [.fz 1 (R e_u8 (x.1)), .sc (.int .i64 (x.2.1))], .arr true 3 (R e_Inst (v1.out)), .rc [.sc (.int .i64 (v2)), .sc (.int .i64 (x.2.2.1)), .sc (.slice none 0 0)]]⟩ : St)) (fun (i : P2) (x : ((List Int) × Int × Int × (List DevArg))) => (match i with | .a => True | .b => x.2.2.2 = []) ∧ spec_l11Play_put_j3 v1 v2 x = some res_) ?_ ?_)
  · rintro (_ | _) ⟨v4, v5, v6, v7⟩ ⟨hp, h⟩
    · simp only [spec_l11Play_put_j3] at h
      refine sem_cutJ (fun (i : P2) (x : ((List Int) × Int × Int × (List DevArg))) => match i with | .a => (⟨[(0, .pt 0 0), (1, .sc (.int .i64 (v2))), (4, .pt 3 0)], [.rc [.pt 1 0, .sl 2 0 ((v1.out).length), .sc (.int .i64 (v1.bits)), .sc (.int .i64 (v1.forks)), .sc (.bool (v1.base)), .sc (.bool (v1.fresh))], .rc [.fz 1 (R e_u8 (x.1)), .sc (.int .i64 (x.2.1))], .arr true 3 (R e_Inst (v1.out)), .rc [.sc (.int .i64 (v2)), .sc (.int .i64 (x.2.2.1)), .fz 3 (R e_DevArg (x.2.2.2))]]⟩ : St) | .b => (⟨[(0, .pt 0 0), (1, .sc (.int .i64 (v2))), (4, .pt 3 0)], [.rc [.pt 1 0, .sl 2 0 ((v1.out).length), .sc (.int .i64 (v1.bits)), .sc (.int .i64 (v1.forks)), .sc (.bool (v1.base)), .sc (.bool (v1.fresh))], .rc [.fz 1 (R e_u8 (x.1)), .sc (.int .i64 (x.2.1))], .arr true 3 (R e_Inst (v1.out)), .rc [.sc (.int .i64 (v2)), .sc (.int .i64 (x.2.2.1)), .sl 4 0 ((x.2.2.2).length)], .arr true 3 (R e_DevArg (x.2.2.2))]⟩ : St)) (fun (i : P2) (x : ((List Int) × Int × Int × (List DevArg))) => (match i with | .a => True | .b => True) ∧ spec_l11Play_put_j9 v1 v2 x = some res_) ?_ ?_
      · rintro (_ | _) ⟨v9, v10, v11, v12⟩ ⟨hp, h⟩
        · simp only [spec_l11Play_put_j9] at h
          obtain ⟨g7, h⟩ := gAp h
          refine zS (zPRF (.take 0 (.take 1 (.take 2 (.take 3 (.take 4 (.take 5 (.one 6 (.one 7 (.take 8 (.take 9 (.last 10 .done))))))))))) [0, 3] g7) (zS z0 ?_)
          refine zS zR ?_
          refine sem_ifh rfl h ?_ ?_ <;> clear h <;> intro h
          · refine zU z0 ?_
            cases h
            refine zAN hQ
          · refine r_skip ?_
            cases h
            refine zAN hQ
        · simp only [spec_l11Play_put_j9] at h
          obtain ⟨g11, h⟩ := gAp h
          refine zS (zPRF (.take 0 (.take 1 (.take 2 (.take 3 (.take 4 (.take 5 (.one 6 (.one 7 (.take 8 (.take 9 (.last 10 .done))))))))))) [0, 3] g11) (zS z0 ?_)
          refine zS zR ?_
          refine sem_ifh rfl h ?_ ?_ <;> clear h <;> intro h
          · refine zU z0 ?_
            cases h
            refine zAN hQ
          · refine r_skip ?_
            cases h
            refine zAN hQ
      · intro k15 hk15 J14
        refine zS z0 ?_
        refine sem_ifh rfl h ?_ ?_ <;> clear h <;> intro h
        · obtain ⟨v13, c17H, h⟩ := bind_some' h
          refine zU (zC1 (lC [[0]] (con_spec_l4Coil _ _ c17H))) (zJ J14 [0, 1, 4] (.a) (v13.2.b, v13.2.p, v13.1.Op, v13.1.Args) ⟨trivial, h⟩)
        · refine r_skip (zJ J14 [0, 1, 4] (.b) (v4, v5, v6, v7) ⟨trivial, h⟩)
    · replace hp : v7 = [] := hp
      subst hp
      simp only [spec_l11Play_put_j3] at h
      try simp only [List.nil_append, List.length_nil, Int.natCast_zero] at h
      refine zCut (fun (x : ((List Int) × Int × Int × (List DevArg))) => ⟨[(0, .pt 0 0), (1, .sc (.int .i64 (v2))), (4, .pt 3 0)], [.rc [.pt 1 0, .sl 2 0 ((v1.out).length), .sc (.int .i64 (v1.bits)), .sc (.int .i64 (v1.forks)), .sc (.bool (v1.base)), .sc (.bool (v1.fresh))], .rc [.fz 1 (R e_u8 (x.1)), .sc (.int .i64 (x.2.1))], .arr true 3 (R e_Inst (v1.out)), .rc [.sc (.int .i64 (v2)), .sc (.int .i64 (x.2.2.1)), .fz 3 (R e_DevArg (x.2.2.2))]]⟩) (spec_l11Play_put_j9 v1 v2) res_ ?_ ?_
      · rintro _ ⟨v15, v16, v17, v18⟩ h
        simp only [spec_l11Play_put_j9] at h
        obtain ⟨g21, h⟩ := gAp h
        refine zS (zPRF (.take 0 (.take 1 (.take 2 (.take 3 (.take 4 (.take 5 (.one 6 (.one 7 (.take 8 (.take 9 (.last 10 .done))))))))))) [0, 3] g21) (zS z0 ?_)
        refine zS zR ?_
        refine sem_ifh rfl h ?_ ?_ <;> clear h <;> intro h
        · refine zU z0 ?_
          cases h
          refine zAN hQ
        · refine r_skip ?_
          cases h
          refine zAN hQ
      · intro k25 hk25 J24
        refine zS z0 ?_
        refine sem_ifh rfl h ?_ ?_ <;> clear h <;> intro h
        · obtain ⟨v19, c27H, h⟩ := bind_some' h
          refine zU (zC1 (lC [[0]] (con_spec_l4Coil _ _ c27H))) (zJ J24 [0, 1, 4] () _ h)
        · refine r_skip (zJw J24 [0, 1, 4] () _ h)
  · intro k29 hk29 J28
    refine zS z0 ?_
    refine sem_ifh rfl h ?_ ?_ <;> clear h <;> intro h
    · obtain ⟨v20, c31H, h⟩ := bind_some' h
      refine zU (zC1 (lC [[0]] (con_spec_l4Contact _ _ c31H))) (zJ J28 [0, 1, 4] (.a) (v20.2.b, v20.2.p, v20.1.Op, v20.1.Args) ⟨trivial, h⟩)
    · refine r_skip (zJ J28 [0, 1, 4] (.b) (v1.r.b, v1.r.p, 0, []) ⟨rfl, h⟩)

end Go.AM
