/- Pure functions and their contracts. Conditions: none. -/
import Derived.Test.YtkafcijfljjlaabAmQa0
set_option linter.unusedSimpArgs false
set_option linter.unusedVariables false
set_option maxRecDepth 10000
set_option maxHeartbeats 4000000
namespace Go.AM
open Go Go.Proofs
noncomputable def spec_l26Open_j3 : (List Int) → Option l26Rd
  | v3 => (some (⟨v3, 0⟩ : l26Rd))
noncomputable def spec_l26Open (v1 : (List Int)) : Option l26Rd :=
  (cond (decide (((v1).length : Int) > 2000)) (Option.bind (prtH v1 (2000)) fun v4 => (spec_l26Open_j3 v4)) (spec_l26Open_j3 v1))
theorem con_spec_l26Open (v1 : (List Int)) (res_ : l26Rd) (h : spec_l26Open v1 = some res_) : Con Try.prog C0 12 [.fz 1 (R e_u8 (v1))] []
    (fun x σ' => x = .pt 0 0 ∧ σ' = [.rc [.fz 1 (R e_u8 (res_.b)), .sc (.int .i64 (res_.p))]]) := by
  refine zCon hP 0 [0, 2, 5] [.tmp 2] Try.func12 (by unfold Try.f12; rfl) fun Q hQ => ?_
  unfold spec_l26Open at h
  refine zS z0 (zCut (fun (x : (List Int)) => ⟨[(0, .fz 1 (R e_u8 (x)))], []⟩) spec_l26Open_j3 res_ ?_ ?_)
  · rintro _ v3 h
    simp only [spec_l26Open_j3] at h
    refine zS z0 (r_ret ?_)
    cases h
    refine zOR hQ
  · intro k6 hk6 J5
    refine zS z0 ?_
    refine sem_ifh rfl h ?_ ?_ <;> clear h <;> intro h
    · obtain ⟨v4, c8H, h⟩ := bind_some' h
      obtain ⟨c8A, c8B, c8C⟩ := prtH_some c8H
      try simp only [Int.reduceToNat, Int.toNat_zero, Int.toNat_one, Int.toNat_natCast, List.take_length] at c8C
      refine zU (zRF (a3 c8A c8B c8C)) (zJ J5 [0] () _ h)
    · refine r_skip (zJ J5 [0] () _ h)
noncomputable def spec_l26Rd_pick (v1 : l26Rd) (v2 : Int) : Option (Int × l26Rd) :=
  (cond ((decide (v2 < 1)) || (((v1.b).length : Int) == 0)) (some (0, (⟨v1.b, (IntKind.i64.wrap (v1.p + 1))⟩ : l26Rd))) (cond (decide ((IntKind.i64.wrap ((IntKind.i64.wrap (v1.p + 1)) - 1)) < ((v1.b).length : Int))) (Option.bind (idx v1.b ((IntKind.i64.wrap ((IntKind.i64.wrap (v1.p + 1)) - 1)))) fun v3 => (gd (v2 != 0) (some ((((IntKind.i64.wrap (v3))).tmod v2), (⟨v1.b, (IntKind.i64.wrap (v1.p + 1))⟩ : l26Rd))))) (gd (((v1.b).length : Int) != 0) (Option.bind (idx v1.b ((((IntKind.i64.wrap ((IntKind.i64.wrap (v1.p + 1)) - 1))).tmod ((v1.b).length : Int)))) fun v4 => (gd (((v1.b).length : Int) != 0) (Option.bind (idx v1.b ((((IntKind.i64.wrap ((IntKind.i64.wrap ((IntKind.i64.wrap ((IntKind.i64.wrap (v1.p + 1)) - 1)) * 7)) + 3))).tmod ((v1.b).length : Int)))) fun v5 => (gd (((v1.b).length : Int) != 0) (gd (v2 != 0) (some ((((bxor .i64 (IntKind.i64.wrap ((IntKind.i64.wrap ((IntKind.i64.wrap ((IntKind.i64.wrap ((IntKind.i64.wrap (v4)) * 131)) + (IntKind.i64.wrap ((IntKind.i64.wrap (v5)) * 1117)))) + (IntKind.i64.wrap ((IntKind.i64.wrap ((IntKind.i64.wrap (v1.p + 1)) - 1)) * 29)))) + (IntKind.i64.wrap ((IntKind.i64.wrap (((IntKind.i64.wrap ((IntKind.i64.wrap (v1.p + 1)) - 1))).tdiv ((v1.b).length : Int))) * 53)))) (IntKind.i64.wrap (((IntKind.i64.wrap ((IntKind.i64.wrap ((IntKind.i64.wrap ((IntKind.i64.wrap ((IntKind.i64.wrap (v4)) * 131)) + (IntKind.i64.wrap ((IntKind.i64.wrap (v5)) * 1117)))) + (IntKind.i64.wrap ((IntKind.i64.wrap ((IntKind.i64.wrap (v1.p + 1)) - 1)) * 29)))) + (IntKind.i64.wrap ((IntKind.i64.wrap (((IntKind.i64.wrap ((IntKind.i64.wrap (v1.p + 1)) - 1))).tdiv ((v1.b).length : Int))) * 53))))).tdiv 64)))).tmod v2), (⟨v1.b, (IntKind.i64.wrap (v1.p + 1))⟩ : l26Rd)))))))))))
theorem con_spec_l26Rd_pick (v1 : l26Rd) (v2 : Int) (res_ : (Int × l26Rd)) (h : spec_l26Rd_pick v1 v2 = some res_) : Con Try.prog C0 14 [.pt 0 0, .sc (.int .i64 (v2))] [.rc [.fz 1 (R e_u8 (v1.b)), .sc (.int .i64 (v1.p))]]
    (fun x σ' => x = .sc (.int .i64 (res_.1)) ∧ σ' = [.rc [.fz 1 (R e_u8 (res_.2.b)), .sc (.int .i64 (res_.2.p))]]) := by
  refine zCon hP 1 [0, 1, 4, 5, 6, 24, 36] [.tmp 4] Try.func14 (by unfold Try.f14; rfl) fun Q hQ => ?_
  unfold spec_l26Rd_pick at h
  refine zS z0 (zS z0 ?_)
  refine sem_cut fun k3 hk3 => zS zR ?_
  refine sem_ifh rfl h ?_ ?_ <;> clear h <;> intro h
  · refine zS z0 (r_ret ?_)
    refine r_cR hk3 ?_
    cases h
    refine zAR hQ
  · refine r_skip (r_cN hk3 ?_)
    refine zS z0 (sem_cut fun k7 hk7 => ?_)
    refine zS z0 ?_
    refine sem_ifh rfl h ?_ ?_ <;> clear h <;> intro h
    · obtain ⟨v3, h, c10⟩ := bI h
      obtain ⟨g11, h⟩ := gNe h
      refine zS (zRF (a2 c10 g11)) (r_ret ?_)
      refine r_cR hk7 ?_
      cases h
      refine zAR hQ
    · refine r_skip (r_cN hk7 ?_)
      obtain ⟨g13, h⟩ := gNe h
      obtain ⟨v4, h, c14⟩ := bI h
      obtain ⟨g15, h⟩ := gNe h
      obtain ⟨v5, h, c16⟩ := bI h
      obtain ⟨g17, h⟩ := gNe h
      refine zS (zRF (a4 g13 c14 g15 (a2 c16 g17))) (zS zR ?_)
      obtain ⟨g20, h⟩ := gNe h
      refine zS (zRF g20) (r_ret ?_)
      cases h
      refine zAR hQ
noncomputable def spec_l26Rd_num (v1 : l26Rd) (v2 : (List Int)) : Option (Int × l26Rd) :=
  (Option.bind (spec_l26Rd_pick v1 ((v2).length : Int)) fun v3 => (Option.bind (idx v2 (v3.1)) fun v4 => (some (v4, v3.2))))
theorem con_spec_l26Rd_num (v1 : l26Rd) (v2 : (List Int)) (res_ : (Int × l26Rd)) (h : spec_l26Rd_num v1 v2 = some res_) : Con Try.prog C0 67 [.pt 0 0, .fz 1 (R e_i64 (v2))] [.rc [.fz 1 (R e_u8 (v1.b)), .sc (.int .i64 (v1.p))]]
    (fun x σ' => x = .sc (.int .i64 (res_.1)) ∧ σ' = [.rc [.fz 1 (R e_u8 (res_.2.b)), .sc (.int .i64 (res_.2.p))]]) := by
  refine zCon hP 1 [0, 1, 4] [.tmp 4] Try.func67 (by unfold Try.f67; rfl) fun Q hQ => ?_
  unfold spec_l26Rd_num at h
  refine zS z0 ?_
  obtain ⟨v3, c3H, h⟩ := bind_some' h
  obtain ⟨v4, h, c4⟩ := bI h
  refine zS (zC1F (lC [[0]] (con_spec_l26Rd_pick _ _ _ c3H)) c4) (r_ret ?_)
  cases h
  refine zAR hQ
noncomputable def spec_DevSize_j31 (v1 : Int) : Bool → Option Int
  | v3 => (cond v3 (some 16) (cond (v1 == 6) (some 5) (some 0)))
noncomputable def spec_DevSize_j7 (v1 : Int) : Bool → Option Int
  | v2 => (cond v2 (some 32) (cond (v1 == 3) (some 64) (cond (v1 == 4) (spec_DevSize_j31 v1 (v1 == 4)) (cond (v1 == 7) (spec_DevSize_j31 v1 (v1 == 7)) (cond (v1 == 8) (spec_DevSize_j31 v1 (v1 == 8)) (spec_DevSize_j31 v1 (v1 == 10)))))))
noncomputable def spec_DevSize (v1 : Int) : Option Int :=
  (cond (v1 == 1) (spec_DevSize_j7 v1 (v1 == 1)) (cond (v1 == 2) (spec_DevSize_j7 v1 (v1 == 2)) (cond (v1 == 5) (spec_DevSize_j7 v1 (v1 == 5)) (spec_DevSize_j7 v1 (v1 == 9)))))
theorem con_spec_DevSize (v1 : Int) (res_ : Int) (h : spec_DevSize v1 = some res_) : Con Try.prog C0 79 [.sc (.int .i64 (v1))] []
    (fun x σ' => x = .sc (.int .i64 (res_)) ∧ σ' = []) := by
  refine zCon hP 0 [0, 2, 3, 4, 9, 11, 16] [.tmp 2] Try.func79 (by unfold Try.f79; rfl) fun Q hQ => ?_
  unfold spec_DevSize at h
  refine zS z0 (sem_cut fun k2 hk2 => ?_)
  refine zS z0 (sem_blk fun k4 hk4 => ?_)
  refine zCut (fun (x : Bool) => ⟨[(3, .sc (.int .i64 (v1))), (4, .sc (.bool (x)))], []⟩) (spec_DevSize_j7 v1) res_ ?_ ?_
  · rintro _ v2 h
    simp only [spec_DevSize_j7] at h
    refine sem_ifh rfl h ?_ ?_ <;> clear h <;> intro h
    · refine zS z0 (r_ret ?_)
      refine r_bR hk4 (r_cR hk2 ?_)
      cases h
      refine zAR hQ
    · refine zS z0 ?_
      refine sem_ifh rfl h ?_ ?_ <;> clear h <;> intro h
      · refine zS z0 (r_ret ?_)
        refine r_bR hk4 (r_cR hk2 ?_)
        cases h
        refine zAR hQ
      · refine zCut (fun (x : Bool) => ⟨[(3, .sc (.int .i64 (v1))), (11, .sc (.bool (x)))], []⟩) (spec_DevSize_j31 v1) res_ ?_ ?_
        · rintro _ v3 h
          simp only [spec_DevSize_j31] at h
          refine sem_ifh rfl h ?_ ?_ <;> clear h <;> intro h
          · refine zS z0 (r_ret ?_)
            refine r_bR hk4 (r_cR hk2 ?_)
            cases h
            refine zAR hQ
          · refine zS z0 ?_
            refine sem_ifh rfl h ?_ ?_ <;> clear h <;> intro h
            · refine zS z0 (r_ret ?_)
              refine r_bR hk4 (r_cR hk2 ?_)
              cases h
              refine zAR hQ
            · refine r_skip (r_bN hk4 ?_)
              refine r_cN hk2 (zS z0 ?_)
              refine r_ret ?_
              cases h
              refine zAR hQ
        · intro k19 hk19 J18
          refine zS z0 ?_
          refine sem_ifh rfl h ?_ ?_ <;> clear h <;> intro h
          · refine r_skip (zJ J18 [3, 11] () _ h)
          · refine zS z0 ?_
            refine sem_ifh rfl h ?_ ?_ <;> clear h <;> intro h
            · refine r_skip (zJ J18 [3, 11] () _ h)
            · refine zS z0 ?_
              refine sem_ifh rfl h ?_ ?_ <;> clear h <;> intro h
              · refine r_skip (zJ J18 [3, 11] () _ h)
              · refine zU z0 (zJ J18 [3, 11] () _ h)
  · intro k24 hk24 J23
    refine zS z0 ?_
    refine sem_ifh rfl h ?_ ?_ <;> clear h <;> intro h
    · refine r_skip (zJ J23 [3, 4] () _ h)
    · refine zS z0 ?_
      refine sem_ifh rfl h ?_ ?_ <;> clear h <;> intro h
      · refine r_skip (zJ J23 [3, 4] () _ h)
      · refine zS z0 ?_
        refine sem_ifh rfl h ?_ ?_ <;> clear h <;> intro h
        · refine r_skip (zJ J23 [3, 4] () _ h)
        · refine zU z0 (zJ J23 [3, 4] () _ h)
noncomputable def spec_l2Arg_j20 (v2 : Int) (v4 : (Int × l26Rd)) (v5 : (Int × l26Rd)) : Int → Option (DevArg × l26Rd)
  | v6 => (some ((⟨v2, v4.1, v6⟩ : DevArg), v5.2))
noncomputable def spec_l2Arg_j44 (v2 : Int) (v12 : (List Int)) (v13 : Int) : Int → Option (DevArg × l26Rd)
  | v16 => (some ((⟨v2, v16, 0⟩ : DevArg), (⟨v12, v13⟩ : l26Rd)))
noncomputable def spec_l2Arg_j38 (v2 : Int) : ((List Int) × Int × Int) → Option (DevArg × l26Rd)
  | (v12, v13, v14) => (Option.bind (spec_DevSize v2) fun v17 => (cond (decide (v14 ≥ v17)) (spec_l2Arg_j44 v2 v12 v13 0) (spec_l2Arg_j44 v2 v12 v13 v14)))
noncomputable def spec_l2Arg (v1 : l26Rd) (v2 : Int) : Option (DevArg × l26Rd) :=
  (cond (v2 == 11) (Option.bind (spec_l26Rd_num v1 [0, 1, 2, 3, 5, (-1), (-7), 10, 100, 32767, (-32768), 1000]) fun v3 => (some ((⟨v2, v3.1, 0⟩ : DevArg), v3.2))) (cond (v2 == 12) (Option.bind (spec_l26Rd_num v1 [0, 1, 5, (-5), 25, (-15), 999999999, (-999999999), 3, 1001, 7]) fun v4 => (Option.bind (spec_l26Rd_pick v4.2 6) fun v5 => (cond (((v4.1).tmod 10) == 0) (spec_l2Arg_j20 v2 v4 v5 1) (spec_l2Arg_j20 v2 v4 v5 (IntKind.i64.wrap (1 + v5.1)))))) (cond (v2 == 13) (Option.bind (spec_l26Rd_pick v1 4) fun v7 => (some ((⟨v2, v7.1, 0⟩ : DevArg), v7.2))) (Option.bind (spec_l26Rd_pick v1 4) fun v8 => (Option.bind (spec_l26Rd_pick v8.2 6) fun v18 => (cond (v18.1 == 0) (Option.bind (spec_DevSize v2) fun v19 => (Option.bind (spec_l26Rd_pick v18.2 v19) fun v20 => (spec_l2Arg_j38 v2 (v20.2.b, v20.2.p, v20.1)))) (spec_l2Arg_j38 v2 (v18.2.b, v18.2.p, v8.1))))))))
theorem con_spec_l2Arg (v1 : l26Rd) (v2 : Int) (res_ : (DevArg × l26Rd)) (h : spec_l2Arg v1 v2 = some res_) : Con Try.prog C0 76 [.pt 0 0, .sc (.int .i64 (v2))] [.rc [.fz 1 (R e_u8 (v1.b)), .sc (.int .i64 (v1.p))]]
    (fun x σ' => x = .agg [.sc (.int .i64 (res_.1.Kind)), .sc (.int .i64 (res_.1.N)), .sc (.int .i64 (res_.1.P))] ∧ σ' = [.rc [.fz 1 (R e_u8 (res_.2.b)), .sc (.int .i64 (res_.2.p))]]) := by
  refine zCon hP 1 [0, 1, 4, 5, 6, 7, 8, 9, 16, 26, 31, 41, 49] [.cell 4 77] Try.func76 (by unfold Try.f76; rfl) fun Q hQ => ?_
  unfold spec_l2Arg at h
  refine zS z0 (sem_cut fun k2 hk2 => ?_)
  refine zS z0 (sem_blk fun k4 hk4 => ?_)
  refine zS z0 ?_
  refine sem_ifh rfl h ?_ ?_ <;> clear h <;> intro h
  · obtain ⟨v3, c7H, h⟩ := bind_some' h
    refine zS (zC1 (lC [[0]] (con_spec_l26Rd_num _ _ _ c7H))) (r_ret ?_)
    refine r_bR hk4 (r_cR hk2 ?_)
    cases h
    refine zAR hQ
  · refine zS z0 ?_
    refine sem_ifh rfl h ?_ ?_ <;> clear h <;> intro h
    · obtain ⟨v4, c10H, h⟩ := bind_some' h
      refine zS (zC1 (lC [[0]] (con_spec_l26Rd_num _ _ _ c10H))) ?_
      obtain ⟨v5, c12H, h⟩ := bind_some' h
      refine zS (zC1 (lC [[0]] (con_spec_l26Rd_pick _ _ _ c12H))) (zCut (fun (x : Int) => ⟨[(1, .sc (.int .i64 (v2))), (4, .pt 1 0), (5, .sc (.int .i64 (v4.1))), (6, .sc (.int .i64 (x)))], [.rc [.fz 1 (R e_u8 (v5.2.b)), .sc (.int .i64 (v5.2.p))], .rc [.sc (.int .i64 (0)), .sc (.int .i64 (0)), .sc (.int .i64 (0))]]⟩) (spec_l2Arg_j20 v2 v4 v5) res_ ?_ ?_)
      · rintro _ v6 h
        simp only [spec_l2Arg_j20] at h
        refine zS z0 (r_ret ?_)
        refine r_bR hk4 (r_cR hk2 ?_)
        cases h
        refine zAR hQ
      · intro k16 hk16 J15
        refine zS zR ?_
        refine sem_ifh rfl h ?_ ?_ <;> clear h <;> intro h
        · refine zU z0 (zJ J15 [1, 4, 5, 6] () _ h)
        · refine r_skip (zJ J15 [1, 4, 5, 6] () _ h)
    · refine zS z0 ?_
      refine sem_ifh rfl h ?_ ?_ <;> clear h <;> intro h
      · obtain ⟨v7, c20H, h⟩ := bind_some' h
        refine zS (zC1 (lC [[0]] (con_spec_l26Rd_pick _ _ _ c20H))) (r_ret ?_)
        refine r_bR hk4 (r_cR hk2 ?_)
        cases h
        refine zAR hQ
      · refine r_skip (r_bN hk4 ?_)
        refine r_cN hk2 ?_
        obtain ⟨v8, c22H, h⟩ := bind_some' h
        refine zS (zC1 (lC [[0]] (con_spec_l26Rd_pick _ _ _ c22H))) (zCut (fun (x : ((List Int) × Int × Int)) => ⟨[(1, .sc (.int .i64 (v2))), (4, .pt 1 0), (7, .sc (.int .i64 (x.2.2)))], [.rc [.fz 1 (R e_u8 (x.1)), .sc (.int .i64 (x.2.1))], .rc [.sc (.int .i64 (0)), .sc (.int .i64 (0)), .sc (.int .i64 (0))]]⟩) (spec_l2Arg_j38 v2) res_ ?_ ?_)
        · rintro _ ⟨v12, v13, v14⟩ h
          simp only [spec_l2Arg_j38] at h
          refine zCut (fun (x : Int) => ⟨[(1, .sc (.int .i64 (v2))), (4, .pt 1 0), (7, .sc (.int .i64 (x)))], [.rc [.fz 1 (R e_u8 (v12)), .sc (.int .i64 (v13))], .rc [.sc (.int .i64 (0)), .sc (.int .i64 (0)), .sc (.int .i64 (0))]]⟩) (spec_l2Arg_j44 v2 v12 v13) res_ ?_ ?_
          · rintro _ v16 h
            simp only [spec_l2Arg_j44] at h
            refine zS z0 (r_ret ?_)
            cases h
            refine zAR hQ
          · intro k31 hk31 J30
            obtain ⟨v17, c33H, h⟩ := bind_some' h
            refine zS (zC1 (lF [] (con_spec_DevSize _ _ c33H))) ?_
            refine sem_ifh rfl h ?_ ?_ <;> clear h <;> intro h
            · refine zU z0 (zJ J30 [1, 4, 7] () _ h)
            · refine r_skip (zJ J30 [1, 4, 7] () _ h)
        · intro k35 hk35 J34
          obtain ⟨v18, c37H, h⟩ := bind_some' h
          refine zS (zC1 (lC [[0]] (con_spec_l26Rd_pick _ _ _ c37H))) ?_
          refine sem_ifh rfl h ?_ ?_ <;> clear h <;> intro h
          · obtain ⟨v19, c38H, h⟩ := bind_some' h
            obtain ⟨v20, c39H, h⟩ := bind_some' h
            refine zU (zC2 (lF [] (con_spec_DevSize _ _ c38H)) (lC [[0]] (con_spec_l26Rd_pick _ _ _ c39H))) (zJ J34 [1, 4, 7] () _ h)
          · refine r_skip (zJ J34 [1, 4, 7] () _ h)
noncomputable def spec_l4Bit (v1 : l26Rd) : Option (DevArg × l26Rd) :=
  (Option.bind (spec_l26Rd_num v1 [1, 1, 2, 3, 3, 4, 6, 7, 8]) fun v2 => (Option.bind (spec_l2Arg v2.2 v2.1) fun v3 => (some (v3.1, v3.2))))
theorem con_spec_l4Bit (v1 : l26Rd) (res_ : (DevArg × l26Rd)) (h : spec_l4Bit v1 = some res_) : Con Try.prog C0 75 [.pt 0 0] [.rc [.fz 1 (R e_u8 (v1.b)), .sc (.int .i64 (v1.p))]]
    (fun x σ' => x = .agg [.sc (.int .i64 (res_.1.Kind)), .sc (.int .i64 (res_.1.N)), .sc (.int .i64 (res_.1.P))] ∧ σ' = [.rc [.fz 1 (R e_u8 (res_.2.b)), .sc (.int .i64 (res_.2.p))]]) := by
  refine zCon hP 1 [0, 2] [.cell 2 77] Try.func75 (by unfold Try.f75; rfl) fun Q hQ => ?_
  unfold spec_l4Bit at h
  refine zS z0 ?_
  obtain ⟨v2, c3H, h⟩ := bind_some' h
  obtain ⟨v3, c4H, h⟩ := bind_some' h
  refine zS (zC2 (lC [[0]] (con_spec_l26Rd_num _ _ _ c3H)) (lC [[0]] (con_spec_l2Arg _ _ _ c4H))) (r_ret ?_)
  cases h
  refine zAR hQ
noncomputable def spec_l4Whole (v1 : l26Rd) : Option (DevArg × l26Rd) :=
  (Option.bind (spec_l26Rd_num v1 [9, 9, 9, 11, 11, 7, 8]) fun v2 => (Option.bind (spec_l2Arg v2.2 v2.1) fun v3 => (some (v3.1, v3.2))))
theorem con_spec_l4Whole (v1 : l26Rd) (res_ : (DevArg × l26Rd)) (h : spec_l4Whole v1 = some res_) : Con Try.prog C0 77 [.pt 0 0] [.rc [.fz 1 (R e_u8 (v1.b)), .sc (.int .i64 (v1.p))]]
    (fun x σ' => x = .agg [.sc (.int .i64 (res_.1.Kind)), .sc (.int .i64 (res_.1.N)), .sc (.int .i64 (res_.1.P))] ∧ σ' = [.rc [.fz 1 (R e_u8 (res_.2.b)), .sc (.int .i64 (res_.2.p))]]) := by
  refine zCon hP 1 [0, 2] [.cell 2 77] Try.func77 (by unfold Try.f77; rfl) fun Q hQ => ?_
  unfold spec_l4Whole at h
  refine zS z0 ?_
  obtain ⟨v2, c3H, h⟩ := bind_some' h
  obtain ⟨v3, c4H, h⟩ := bind_some' h
  refine zS (zC2 (lC [[0]] (con_spec_l26Rd_num _ _ _ c3H)) (lC [[0]] (con_spec_l2Arg _ _ _ c4H))) (r_ret ?_)
  cases h
  refine zAR hQ
noncomputable def spec_l4Real (v1 : l26Rd) : Option (DevArg × l26Rd) :=
  (Option.bind (spec_l26Rd_num v1 [10, 10, 10, 12, 13]) fun v2 => (Option.bind (spec_l2Arg v2.2 v2.1) fun v3 => (some (v3.1, v3.2))))
theorem con_spec_l4Real (v1 : l26Rd) (res_ : (DevArg × l26Rd)) (h : spec_l4Real v1 = some res_) : Con Try.prog C0 78 [.pt 0 0] [.rc [.fz 1 (R e_u8 (v1.b)), .sc (.int .i64 (v1.p))]]
    (fun x σ' => x = .agg [.sc (.int .i64 (res_.1.Kind)), .sc (.int .i64 (res_.1.N)), .sc (.int .i64 (res_.1.P))] ∧ σ' = [.rc [.fz 1 (R e_u8 (res_.2.b)), .sc (.int .i64 (res_.2.p))]]) := by
  refine zCon hP 1 [0, 2] [.cell 2 77] Try.func78 (by unfold Try.f78; rfl) fun Q hQ => ?_
  unfold spec_l4Real at h
  refine zS z0 ?_
  obtain ⟨v2, c3H, h⟩ := bind_some' h
  obtain ⟨v3, c4H, h⟩ := bind_some' h
  refine zS (zC2 (lC [[0]] (con_spec_l26Rd_num _ _ _ c3H)) (lC [[0]] (con_spec_l2Arg _ _ _ c4H))) (r_ret ?_)
  cases h
  refine zAR hQ
noncomputable def spec_l4Contact_j50 (v17 : Int) (v18 : Int) (v19 : Int) : ((List Int) × Int × Int × Int × Int) → Option (Elem × l26Rd)
  | (v24, v25, v26, v27, v28) => (Option.bind (spec_l26Rd_pick (⟨v24, v25⟩ : l26Rd) 6) fun v29 => (some ((⟨(IntKind.i64.wrap (5 + v29.1)), [(⟨v17, v18, v19⟩ : DevArg), (⟨v26, v27, v28⟩ : DevArg)]⟩ : Elem), v29.2)))
noncomputable def spec_l4Contact_j42 : ((List Int) × Int × Int × Int × Int × Int × Int × Int) → Option (Elem × l26Rd)
  | (v15, v16, v17, v18, v19, v20, v21, v22) => (Option.bind (spec_l26Rd_pick (⟨v15, v16⟩ : l26Rd) 4) fun v30 => (cond (v30.1 == 0) (spec_l4Contact_j50 v17 v18 v19 (v30.2.b, v30.2.p, v17, v18, v19)) (spec_l4Contact_j50 v17 v18 v19 (v30.2.b, v30.2.p, v20, v21, v22))))
noncomputable def spec_l4Contact_j21 (v2 : (Int × l26Rd)) : Bool → Option (Elem × l26Rd)
  | v5 => (cond v5 (Option.bind (spec_l4Bit v2.2) fun v6 => (some ((⟨2, [v6.1]⟩ : Elem), v6.2))) (cond (v2.1 == 5) (Option.bind (spec_l26Rd_pick v2.2 2) fun v7 => (Option.bind (spec_l4Bit v7.2) fun v8 => (Option.bind (spec_l2Arg v8.2 5) fun v9 => (some ((⟨(IntKind.i64.wrap (3 + v7.1)), [v8.1, v9.1]⟩ : Elem), v9.2))))) (Option.bind (spec_l4Whole v2.2) fun v10 => (Option.bind (spec_l4Whole v10.2) fun v11 => (Option.bind (spec_l26Rd_pick v11.2 2) fun v31 => (cond (v31.1 == 0) (Option.bind (spec_l4Real v31.2) fun v32 => (Option.bind (spec_l4Real v32.2) fun v33 => (spec_l4Contact_j42 (v33.2.b, v33.2.p, v32.1.Kind, v32.1.N, v32.1.P, v33.1.Kind, v33.1.N, v33.1.P)))) (spec_l4Contact_j42 (v31.2.b, v31.2.p, v10.1.Kind, v10.1.N, v10.1.P, v11.1.Kind, v11.1.N, v11.1.P))))))))
noncomputable def spec_l4Contact_j7 (v2 : (Int × l26Rd)) : Bool → Option (Elem × l26Rd)
  | v3 => (cond v3 (Option.bind (spec_l4Bit v2.2) fun v4 => (some ((⟨1, [v4.1]⟩ : Elem), v4.2))) (cond (v2.1 == 3) (spec_l4Contact_j21 v2 (v2.1 == 3)) (spec_l4Contact_j21 v2 (v2.1 == 4))))
noncomputable def spec_l4Contact (v1 : l26Rd) : Option (Elem × l26Rd) :=
  (Option.bind (spec_l26Rd_pick v1 8) fun v2 => (cond (v2.1 == 0) (spec_l4Contact_j7 v2 (v2.1 == 0)) (cond (v2.1 == 1) (spec_l4Contact_j7 v2 (v2.1 == 1)) (spec_l4Contact_j7 v2 (v2.1 == 2)))))
theorem con_spec_l4Contact (v1 : l26Rd) (res_ : (Elem × l26Rd)) (h : spec_l4Contact v1 = some res_) : Con Try.prog C0 68 [.pt 0 0] [.rc [.fz 1 (R e_u8 (v1.b)), .sc (.int .i64 (v1.p))]]
    (fun x σ' => x = .agg [.sc (.int .i64 (res_.1.Op)), .sl 1 0 ((res_.1.Args).length)] ∧ σ' = [.rc [.fz 1 (R e_u8 (res_.2.b)), .sc (.int .i64 (res_.2.p))], .arr true 3 (R e_DevArg (res_.1.Args))]) := by
  refine zCon hP 1 [0, 2, 3, 4, 6, 7, 15, 22, 39, 46] [.cell 2 47] Try.func68 (by unfold Try.f68; rfl) fun Q hQ => ?_
  unfold spec_l4Contact at h
  refine zS z0 (sem_cut fun k2 hk2 => ?_)
  obtain ⟨v2, c4H, h⟩ := bind_some' h
  refine zS (zC1 (lC [[0]] (con_spec_l26Rd_pick _ _ _ c4H))) (sem_blk fun k5 hk5 => ?_)
  refine zCut (fun (x : Bool) => ⟨[(0, .pt 0 0), (2, .pt 1 0), (6, .sc (.int .i64 (v2.1))), (7, .sc (.bool (x)))], [.rc [.fz 1 (R e_u8 (v2.2.b)), .sc (.int .i64 (v2.2.p))], .rc [.sc (.int .i64 (0)), .sc (.slice none 0 0)]]⟩) (spec_l4Contact_j7 v2) res_ ?_ ?_
  · rintro _ v3 h
    simp only [spec_l4Contact_j7] at h
    refine sem_ifh rfl h ?_ ?_ <;> clear h <;> intro h
    · obtain ⟨v4, c9H, h⟩ := bind_some' h
      refine zS (zC1 (lC [[0]] (con_spec_l4Bit _ _ c9H))) (r_ret ?_)
      refine r_bR hk5 (r_cR hk2 ?_)
      cases h
      refine zOR hQ
    · refine zCut (fun (x : Bool) => ⟨[(0, .pt 0 0), (2, .pt 1 0), (6, .sc (.int .i64 (v2.1))), (15, .sc (.bool (x)))], [.rc [.fz 1 (R e_u8 (v2.2.b)), .sc (.int .i64 (v2.2.p))], .rc [.sc (.int .i64 (0)), .sc (.slice none 0 0)]]⟩) (spec_l4Contact_j21 v2) res_ ?_ ?_
      · rintro _ v5 h
        simp only [spec_l4Contact_j21] at h
        refine sem_ifh rfl h ?_ ?_ <;> clear h <;> intro h
        · obtain ⟨v6, c12H, h⟩ := bind_some' h
          refine zS (zC1 (lC [[0]] (con_spec_l4Bit _ _ c12H))) (r_ret ?_)
          refine r_bR hk5 (r_cR hk2 ?_)
          cases h
          refine zOR hQ
        · refine zS z0 ?_
          refine sem_ifh rfl h ?_ ?_ <;> clear h <;> intro h
          · obtain ⟨v7, c15H, h⟩ := bind_some' h
            obtain ⟨v8, c16H, h⟩ := bind_some' h
            obtain ⟨v9, c17H, h⟩ := bind_some' h
            refine zS (zC3 (lC [[0]] (con_spec_l26Rd_pick _ _ _ c15H)) (lC [[0]] (con_spec_l4Bit _ _ c16H)) (lC [[0]] (con_spec_l2Arg _ _ _ c17H))) (r_ret ?_)
            refine r_bR hk5 (r_cR hk2 ?_)
            cases h
            refine zOR hQ
          · refine r_skip (r_bN hk5 ?_)
            refine r_cN hk2 ?_
            obtain ⟨v10, c19H, h⟩ := bind_some' h
            refine zS (zC1 (lC [[0]] (con_spec_l4Whole _ _ c19H))) ?_
            obtain ⟨v11, c21H, h⟩ := bind_some' h
            refine zS (zC1 (lC [[0]] (con_spec_l4Whole _ _ c21H))) (zCut (fun (x : ((List Int) × Int × Int × Int × Int × Int × Int × Int)) => ⟨[(0, .pt 0 0), (2, .pt 1 0), (3, .pt 2 0), (4, .pt 3 0)], [.rc [.fz 1 (R e_u8 (x.1)), .sc (.int .i64 (x.2.1))], .rc [.sc (.int .i64 (0)), .sc (.slice none 0 0)], .rc [.sc (.int .i64 (x.2.2.1)), .sc (.int .i64 (x.2.2.2.1)), .sc (.int .i64 (x.2.2.2.2.1))], .rc [.sc (.int .i64 (x.2.2.2.2.2.1)), .sc (.int .i64 (x.2.2.2.2.2.2.1)), .sc (.int .i64 (x.2.2.2.2.2.2.2))]]⟩) spec_l4Contact_j42 res_ ?_ ?_)
            · rintro _ ⟨v15, v16, v17, v18, v19, v20, v21, v22⟩ h
              simp only [spec_l4Contact_j42] at h
              refine zCut (fun (x : ((List Int) × Int × Int × Int × Int)) => ⟨[(0, .pt 0 0), (2, .pt 1 0), (3, .pt 2 0), (4, .pt 3 0)], [.rc [.fz 1 (R e_u8 (x.1)), .sc (.int .i64 (x.2.1))], .rc [.sc (.int .i64 (0)), .sc (.slice none 0 0)], .rc [.sc (.int .i64 (v17)), .sc (.int .i64 (v18)), .sc (.int .i64 (v19))], .rc [.sc (.int .i64 (x.2.2.1)), .sc (.int .i64 (x.2.2.2.1)), .sc (.int .i64 (x.2.2.2.2))]]⟩) (spec_l4Contact_j50 v17 v18 v19) res_ ?_ ?_
              · rintro _ ⟨v24, v25, v26, v27, v28⟩ h
                simp only [spec_l4Contact_j50] at h
                refine sem_cut fun k29 hk29 => ?_
                obtain ⟨v29, c30H, h⟩ := bind_some' h
                with_reducible refine sem_plan (id := 18) (.take 0 (.take 3 (.take 4 (.two 1 5 (.take 2 (.last 5 (.take 6 (.last 7 .done)))) (.one 1 (.take 2 (.take 6 (.last 7 .done)))))))) [2, 3] ?_ ?_
                focus kernel_rfl
                repeat' (first | with_reducible refine And.intro ?_ ?_ | ((with_reducible refine i_call (n := 14) ?_); refine call_open [[0]] ?_) | ((with_reducible refine i_callW (n := 14) ?_); refine callW_use (con_spec_l26Rd_pick (⟨v24, v25⟩ : l26Rd) 6 v29 c30H) ?_; rintro x σ' ⟨rfl, rfl⟩ <;> ((with_reducible refine behind_go ?_))) | exact True.intro | with_reducible assumption | exact fun hf => False.elim hf | (intro hg; first | (simp +contextual [hg]; done) | grind) | omega | simp (decide := true) only [go_sem, reduceIte, Nat.reduceAdd, Int.reduceToNat, Nat.reduceSub, Nat.reduceMul])
                all_goals
                  refine r_cN hk29 (r_ret ?_)
                  cases h
                  refine zOR hQ
              · intro k32 hk32 J31
                obtain ⟨v30, c34H, h⟩ := bind_some' h
                refine zS (zC1 (lC [[0]] (con_spec_l26Rd_pick _ _ _ c34H))) ?_
                refine sem_ifh rfl h ?_ ?_ <;> clear h <;> intro h
                · refine zU z0 (zJ J31 [0, 2, 3, 4] () _ h)
                · refine r_skip (zJ J31 [0, 2, 3, 4] () _ h)
            · intro k36 hk36 J35
              obtain ⟨v31, c38H, h⟩ := bind_some' h
              refine zS (zC1 (lC [[0]] (con_spec_l26Rd_pick _ _ _ c38H))) ?_
              refine sem_ifh rfl h ?_ ?_ <;> clear h <;> intro h
              · obtain ⟨v32, c40H, h⟩ := bind_some' h
                refine zS (zC1 (lC [[0]] (con_spec_l4Real _ _ c40H))) ?_
                obtain ⟨v33, c41H, h⟩ := bind_some' h
                refine zU (zC1 (lC [[0]] (con_spec_l4Real _ _ c41H))) (zJ J35 [0, 2, 3, 4] () _ h)
              · refine r_skip (zJ J35 [0, 2, 3, 4] () _ h)
      · intro k43 hk43 J42
        refine zS z0 ?_
        refine sem_ifh rfl h ?_ ?_ <;> clear h <;> intro h
        · refine r_skip (zJ J42 [0, 2, 6, 15] () _ h)
        · refine zU z0 (zJ J42 [0, 2, 6, 15] () _ h)
  · intro k46 hk46 J45
    refine zS z0 ?_
    refine sem_ifh rfl h ?_ ?_ <;> clear h <;> intro h
    · refine r_skip (zJ J45 [0, 2, 6, 7] () _ h)
    · refine zS z0 ?_
      refine sem_ifh rfl h ?_ ?_ <;> clear h <;> intro h
      · refine r_skip (zJ J45 [0, 2, 6, 7] () _ h)
      · refine zU z0 (zJ J45 [0, 2, 6, 7] () _ h)
noncomputable def spec_ElemArity_j33 (v1 : Int) : Bool → Option Int
  | v3 => (cond v3 (some 3) (cond (((decide (v1 ≥ 1)) && (decide (v1 ≤ 10))) || ((decide (v1 ≥ 21)) && (decide (v1 ≤ 37)))) (some 2) (some 0)))
noncomputable def spec_ElemArity_j7 (v1 : Int) : Bool → Option Int
  | v2 => (cond v2 (some 1) (cond (v1 == 31) (spec_ElemArity_j33 v1 (v1 == 31)) (cond (v1 == 32) (spec_ElemArity_j33 v1 (v1 == 32)) (cond (v1 == 33) (spec_ElemArity_j33 v1 (v1 == 33)) (cond (v1 == 34) (spec_ElemArity_j33 v1 (v1 == 34)) (spec_ElemArity_j33 v1 (v1 == 35)))))))
noncomputable def spec_ElemArity (v1 : Int) : Option Int :=
  (cond (v1 == 1) (spec_ElemArity_j7 v1 (v1 == 1)) (cond (v1 == 2) (spec_ElemArity_j7 v1 (v1 == 2)) (cond (v1 == 21) (spec_ElemArity_j7 v1 (v1 == 21)) (cond (v1 == 22) (spec_ElemArity_j7 v1 (v1 == 22)) (cond (v1 == 23) (spec_ElemArity_j7 v1 (v1 == 23)) (spec_ElemArity_j7 v1 (v1 == 25)))))))
theorem con_spec_ElemArity (v1 : Int) (res_ : Int) (h : spec_ElemArity v1 = some res_) : Con Try.prog C0 42 [.sc (.int .i64 (v1))] []
    (fun x σ' => x = .sc (.int .i64 (res_)) ∧ σ' = []) := by
  refine zCon hP 0 [0, 2, 3, 4, 11, 30] [.tmp 2] Try.func42 (by unfold Try.f42; rfl) fun Q hQ => ?_
  unfold spec_ElemArity at h
  refine zS z0 (sem_cut fun k2 hk2 => ?_)
  refine zS z0 (sem_blk fun k4 hk4 => ?_)
  refine zCut (fun (x : Bool) => ⟨[(0, .sc (.int .i64 (v1))), (3, .sc (.int .i64 (v1))), (4, .sc (.bool (x)))], []⟩) (spec_ElemArity_j7 v1) res_ ?_ ?_
  · rintro _ v2 h
    simp only [spec_ElemArity_j7] at h
    refine sem_ifh rfl h ?_ ?_ <;> clear h <;> intro h
    · refine zS z0 (r_ret ?_)
      refine r_bR hk4 (r_cR hk2 ?_)
      cases h
      refine zAR hQ
    · refine zCut (fun (x : Bool) => ⟨[(0, .sc (.int .i64 (v1))), (11, .sc (.bool (x)))], []⟩) (spec_ElemArity_j33 v1) res_ ?_ ?_
      · rintro _ v3 h
        simp only [spec_ElemArity_j33] at h
        refine sem_ifh rfl h ?_ ?_ <;> clear h <;> intro h
        · refine zS z0 (r_ret ?_)
          refine r_bR hk4 (r_cR hk2 ?_)
          cases h
          refine zAR hQ
        · refine r_skip (r_bN hk4 ?_)
          refine r_cN hk2 (sem_cut fun k16 hk16 => ?_)
          refine zS zR ?_
          refine sem_ifh rfl h ?_ ?_ <;> clear h <;> intro h
          · refine zS z0 (r_ret ?_)
            refine r_cR hk16 ?_
            cases h
            refine zAR hQ
          · refine r_skip (r_cN hk16 ?_)
            refine zS z0 (r_ret ?_)
            cases h
            refine zAR hQ
      · intro k21 hk21 J20
        refine zS z0 ?_
        refine sem_ifh rfl h ?_ ?_ <;> clear h <;> intro h
        · refine r_skip (zJ J20 [0, 11] () _ h)
        · refine zS z0 ?_
          refine sem_ifh rfl h ?_ ?_ <;> clear h <;> intro h
          · refine r_skip (zJ J20 [0, 11] () _ h)
          · refine zS z0 ?_
            refine sem_ifh rfl h ?_ ?_ <;> clear h <;> intro h
            · refine r_skip (zJ J20 [0, 11] () _ h)
            · refine zS z0 ?_
              refine sem_ifh rfl h ?_ ?_ <;> clear h <;> intro h
              · refine r_skip (zJ J20 [0, 11] () _ h)
              · refine zU z0 (zJ J20 [0, 11] () _ h)
  · intro k27 hk27 J26
    refine zS z0 ?_
    refine sem_ifh rfl h ?_ ?_ <;> clear h <;> intro h
    · refine r_skip (zJ J26 [0, 3, 4] () _ h)
    · refine zS z0 ?_
      refine sem_ifh rfl h ?_ ?_ <;> clear h <;> intro h
      · refine r_skip (zJ J26 [0, 3, 4] () _ h)
      · refine zS z0 ?_
        refine sem_ifh rfl h ?_ ?_ <;> clear h <;> intro h
        · refine r_skip (zJ J26 [0, 3, 4] () _ h)
        · refine zS z0 ?_
          refine sem_ifh rfl h ?_ ?_ <;> clear h <;> intro h
          · refine r_skip (zJ J26 [0, 3, 4] () _ h)
          · refine zS z0 ?_
            refine sem_ifh rfl h ?_ ?_ <;> clear h <;> intro h
            · refine r_skip (zJ J26 [0, 3, 4] () _ h)
            · refine zU z0 (zJ J26 [0, 3, 4] () _ h)
noncomputable def spec_l4Coil_j49 (v2 : (Int × l26Rd)) (v5 : (DevArg × l26Rd)) (v7 : (List Int)) (v8 : Int) (v9 : Int) : Bool → Option (Elem × l26Rd)
  | v16 => (cond v16 (Option.bind (spec_l2Arg (⟨v7, v8⟩ : l26Rd) 7) fun v17 => (some ((⟨v2.1, [v17.1, (⟨v5.1.Kind, v9, v5.1.P⟩ : DevArg)]⟩ : Elem), v17.2))) (cond (v2.1 == 29) (Option.bind (spec_l2Arg (⟨v7, v8⟩ : l26Rd) 8) fun v18 => (some ((⟨v2.1, [v18.1, (⟨v5.1.Kind, v9, v5.1.P⟩ : DevArg)]⟩ : Elem), v18.2))) (cond (v2.1 == 36) (Option.bind (spec_l2Arg (⟨v7, v8⟩ : l26Rd) 10) fun v19 => (Option.bind (spec_l4Whole v19.2) fun v20 => (some ((⟨v2.1, [v19.1, v20.1]⟩ : Elem), v20.2)))) (cond (v2.1 == 37) (Option.bind (spec_l2Arg (⟨v7, v8⟩ : l26Rd) 9) fun v21 => (Option.bind (spec_l4Real v21.2) fun v22 => (some ((⟨v2.1, [v21.1, v22.1]⟩ : Elem), v22.2)))) (cond (v2.1 == 35) (Option.bind (spec_l2Arg (⟨v7, v8⟩ : l26Rd) 9) fun v24 => (Option.bind (spec_l4Whole v24.2) fun v25 => (Option.bind (spec_l4Whole v25.2) fun v26 => (Option.bind (spec_ElemArity v2.1) fun v27 => (gd (decide (0 ≤ v27) && decide (v27 ≤ ((3 : Nat) : Int))) (some ((⟨v2.1, ([v24.1, v25.1, v26.1]).take ((v27).toNat)⟩ : Elem), v26.2))))))) (Option.bind (spec_l26Rd_pick (⟨v7, v8⟩ : l26Rd) 2) fun v23 => (cond (v23.1 == 0) (Option.bind (spec_l2Arg v23.2 9) fun v28 => (Option.bind (spec_l4Whole v28.2) fun v29 => (Option.bind (spec_l4Whole v29.2) fun v30 => (Option.bind (spec_ElemArity v2.1) fun v31 => (gd (decide (0 ≤ v31) && decide (v31 ≤ ((3 : Nat) : Int))) (some ((⟨v2.1, ([v28.1, v29.1, v30.1]).take ((v31).toNat)⟩ : Elem), v30.2))))))) (Option.bind (spec_l2Arg v23.2 10) fun v32 => (Option.bind (spec_l4Real v32.2) fun v33 => (Option.bind (spec_l4Real v33.2) fun v34 => (Option.bind (spec_ElemArity v2.1) fun v35 => (gd (decide (0 ≤ v35) && decide (v35 ≤ ((3 : Nat) : Int))) (some ((⟨v2.1, ([v32.1, v33.1, v34.1]).take ((v35).toNat)⟩ : Elem), v34.2))))))))))))))
noncomputable def spec_l4Coil_j9 (v2 : (Int × l26Rd)) (v4 : (DevArg × l26Rd)) (v5 : (DevArg × l26Rd)) : ((List Int) × Int × Int) → Option (Elem × l26Rd)
  | (v7, v8, v9) => (cond (v2.1 == 21) (some ((⟨v2.1, [v4.1]⟩ : Elem), (⟨v7, v8⟩ : l26Rd))) (cond (v2.1 == 22) (Option.bind (spec_l26Rd_pick (⟨v7, v8⟩ : l26Rd) 3) fun v10 => (Option.bind (spec_l2Arg v10.2 (IntKind.i64.wrap (2 + v10.1))) fun v11 => (some ((⟨v2.1, [v11.1]⟩ : Elem), v11.2)))) (cond (v2.1 == 23) (Option.bind (spec_l26Rd_num (⟨v7, v8⟩ : l26Rd) [2, 3, 4, 7, 8]) fun v12 => (Option.bind (spec_l2Arg v12.2 v12.1) fun v13 => (some ((⟨v2.1, [v13.1]⟩ : Elem), v13.2)))) (cond (v2.1 == 24) (Option.bind (spec_l2Arg (⟨v7, v8⟩ : l26Rd) 5) fun v14 => (some ((⟨v2.1, [v4.1, v14.1]⟩ : Elem), v14.2))) (cond (v2.1 == 25) (Option.bind (spec_l2Arg (⟨v7, v8⟩ : l26Rd) 4) fun v15 => (some ((⟨v2.1, [v15.1]⟩ : Elem), v15.2))) (cond (v2.1 == 26) (spec_l4Coil_j49 v2 v5 v7 v8 v9 (v2.1 == 26)) (cond (v2.1 == 27) (spec_l4Coil_j49 v2 v5 v7 v8 v9 (v2.1 == 27)) (spec_l4Coil_j49 v2 v5 v7 v8 v9 (v2.1 == 28)))))))))
noncomputable def spec_l4Coil (v1 : l26Rd) : Option (Elem × l26Rd) :=
  (Option.bind (spec_l26Rd_num v1 [21, 21, 21, 22, 23, 24, 25, 26, 26, 27, 28, 29, 29, 30, 31, 31, 32, 33, 34, 35, 36, 37]) fun v2 => (Option.bind (spec_l26Rd_pick v2.2 2) fun v3 => (Option.bind (spec_l2Arg v3.2 (IntKind.i64.wrap (2 + v3.1))) fun v4 => (Option.bind (spec_l2Arg v4.2 11) fun v5 => (cond (decide (v5.1.N < 0)) (Option.bind (spec_l26Rd_pick v5.2 9) fun v36 => (spec_l4Coil_j9 v2 v4 v5 (v36.2.b, v36.2.p, v36.1))) (spec_l4Coil_j9 v2 v4 v5 (v5.2.b, v5.2.p, v5.1.N)))))))
theorem con_spec_l4Coil (v1 : l26Rd) (res_ : (Elem × l26Rd)) (h : spec_l4Coil v1 = some res_) : Con Try.prog C0 69 [.pt 0 0] [.rc [.fz 1 (R e_u8 (v1.b)), .sc (.int .i64 (v1.p))]]
    (fun x σ' => x = .agg [.sc (.int .i64 (res_.1.Op)), .fz 3 (R e_DevArg (res_.1.Args))] ∧ σ' = [.rc [.fz 1 (R e_u8 (res_.2.b)), .sc (.int .i64 (res_.2.p))]]) := by
  refine zCon hP 1 [0, 2, 3, 4, 5, 6, 7, 20, 24, 25, 31, 41, 51, 59, 66, 76, 84, 93, 108] [.cell 2 47] Try.func69 (by unfold Try.f69; rfl) fun Q hQ => ?_
  unfold spec_l4Coil at h
  refine zS z0 ?_
  obtain ⟨v2, c3H, h⟩ := bind_some' h
  refine zS (zC1 (lC [[0]] (con_spec_l26Rd_num _ _ _ c3H))) ?_
  obtain ⟨v3, c5H, h⟩ := bind_some' h
  obtain ⟨v4, c6H, h⟩ := bind_some' h
  refine zS (zC2 (lC [[0]] (con_spec_l26Rd_pick _ _ _ c5H)) (lC [[0]] (con_spec_l2Arg _ _ _ c6H))) ?_
  obtain ⟨v5, c8H, h⟩ := bind_some' h
  refine zS (zC1 (lC [[0]] (con_spec_l2Arg _ _ _ c8H))) (zCut (fun (x : ((List Int) × Int × Int)) => ⟨[(0, .pt 0 0), (2, .pt 1 0), (3, .sc (.int .i64 (v2.1))), (4, .pt 2 0), (5, .pt 3 0)], [.rc [.fz 1 (R e_u8 (x.1)), .sc (.int .i64 (x.2.1))], .rc [.sc (.int .i64 (0)), .sc (.slice none 0 0)], .rc [.sc (.int .i64 (v4.1.Kind)), .sc (.int .i64 (v4.1.N)), .sc (.int .i64 (v4.1.P))], .rc [.sc (.int .i64 (v5.1.Kind)), .sc (.int .i64 (x.2.2)), .sc (.int .i64 (v5.1.P))]]⟩) (spec_l4Coil_j9 v2 v4 v5) res_ ?_ ?_)
  · rintro _ ⟨v7, v8, v9⟩ h
    simp only [spec_l4Coil_j9] at h
    refine sem_cut fun k11 hk11 => zS z0 (sem_blk fun k13 hk13 => ?_)
    refine zS z0 ?_
    refine sem_ifh rfl h ?_ ?_ <;> clear h <;> intro h
    · refine zS z0 (r_ret ?_)
      refine r_bR hk13 (r_cR hk11 ?_)
      cases h
      refine zAR hQ
    · refine zS z0 ?_
      refine sem_ifh rfl h ?_ ?_ <;> clear h <;> intro h
      · obtain ⟨v10, c18H, h⟩ := bind_some' h
        obtain ⟨v11, c19H, h⟩ := bind_some' h
        refine zS (zC2 (lC [[0]] (con_spec_l26Rd_pick _ _ _ c18H)) (lC [[0]] (con_spec_l2Arg _ _ _ c19H))) (r_ret ?_)
        refine r_bR hk13 (r_cR hk11 ?_)
        cases h
        refine zAR hQ
      · refine zS z0 ?_
        refine sem_ifh rfl h ?_ ?_ <;> clear h <;> intro h
        · obtain ⟨v12, c22H, h⟩ := bind_some' h
          obtain ⟨v13, c23H, h⟩ := bind_some' h
          refine zS (zC2 (lC [[0]] (con_spec_l26Rd_num _ _ _ c22H)) (lC [[0]] (con_spec_l2Arg _ _ _ c23H))) (r_ret ?_)
          refine r_bR hk13 (r_cR hk11 ?_)
          cases h
          refine zAR hQ
        · refine zS z0 ?_
          refine sem_ifh rfl h ?_ ?_ <;> clear h <;> intro h
          · obtain ⟨v14, c26H, h⟩ := bind_some' h
            refine zS (zPC1 (.take 0 (.take 1 (.take 2 (.one 3 (.last 4 (.take 5 (.last 6 .done))))))) [2] (lC [[0]] (con_spec_l2Arg _ _ _ c26H))) (r_ret ?_)
            refine r_bR hk13 (r_cR hk11 ?_)
            cases h
            refine zAR hQ
          · refine zS z0 ?_
            refine sem_ifh rfl h ?_ ?_ <;> clear h <;> intro h
            · obtain ⟨v15, c29H, h⟩ := bind_some' h
              refine zS (zC1 (lC [[0]] (con_spec_l2Arg _ _ _ c29H))) (r_ret ?_)
              refine r_bR hk13 (r_cR hk11 ?_)
              cases h
              refine zAR hQ
            · refine zCut (fun (x : Bool) => ⟨[(0, .pt 0 0), (2, .pt 1 0), (3, .sc (.int .i64 (v2.1))), (5, .pt 2 0), (24, .sc (.int .i64 (v2.1))), (66, .sc (.bool (x)))], [.rc [.fz 1 (R e_u8 (v7)), .sc (.int .i64 (v8))], .rc [.sc (.int .i64 (0)), .sc (.slice none 0 0)], .rc [.sc (.int .i64 (v5.1.Kind)), .sc (.int .i64 (v9)), .sc (.int .i64 (v5.1.P))]]⟩) (spec_l4Coil_j49 v2 v5 v7 v8 v9) res_ ?_ ?_
              · rintro _ v16 h
                simp only [spec_l4Coil_j49] at h
                refine sem_ifh rfl h ?_ ?_ <;> clear h <;> intro h
                · obtain ⟨v17, c33H, h⟩ := bind_some' h
                  refine zS (zPC1 (.take 0 (.take 1 (.take 3 (.one 2 (.last 4 (.take 5 (.last 6 .done))))))) [2] (lC [[0]] (con_spec_l2Arg _ _ _ c33H))) (r_ret ?_)
                  refine r_bR hk13 (r_cR hk11 ?_)
                  cases h
                  refine zAR hQ
                · refine zS z0 ?_
                  refine sem_ifh rfl h ?_ ?_ <;> clear h <;> intro h
                  · obtain ⟨v18, c36H, h⟩ := bind_some' h
                    refine zS (zPC1 (.take 0 (.take 1 (.take 3 (.one 2 (.last 4 (.take 5 (.last 6 .done))))))) [2] (lC [[0]] (con_spec_l2Arg _ _ _ c36H))) (r_ret ?_)
                    refine r_bR hk13 (r_cR hk11 ?_)
                    cases h
                    refine zAR hQ
                  · refine zS z0 ?_
                    refine sem_ifh rfl h ?_ ?_ <;> clear h <;> intro h
                    · obtain ⟨v19, c39H, h⟩ := bind_some' h
                      obtain ⟨v20, c40H, h⟩ := bind_some' h
                      refine zS (zC2 (lC [[0]] (con_spec_l2Arg _ _ _ c39H)) (lC [[0]] (con_spec_l4Whole _ _ c40H))) (r_ret ?_)
                      refine r_bR hk13 (r_cR hk11 ?_)
                      cases h
                      refine zAR hQ
                    · refine zS z0 ?_
                      refine sem_ifh rfl h ?_ ?_ <;> clear h <;> intro h
                      · obtain ⟨v21, c43H, h⟩ := bind_some' h
                        obtain ⟨v22, c44H, h⟩ := bind_some' h
                        refine zS (zC2 (lC [[0]] (con_spec_l2Arg _ _ _ c43H)) (lC [[0]] (con_spec_l4Real _ _ c44H))) (r_ret ?_)
                        refine r_bR hk13 (r_cR hk11 ?_)
                        cases h
                        refine zAR hQ
                      · refine r_skip (r_bN hk13 ?_)
                        refine r_cN hk11 (sem_cut fun k45 hk45 => ?_)
                        refine sem_cut fun k46 hk46 => ?_
                        rcases Bool.eq_false_or_eq_true (v2.1 == 35) with g47 | g47
                        · replace h := cond_t h g47
                          refine zU (zRF g47) (r_cN hk46 ?_)
                          refine sem_ifT rfl ?_
                          try replace h := cond_t h rfl
                          obtain ⟨v24, c49H, h⟩ := bind_some' h
                          obtain ⟨v25, c50H, h⟩ := bind_some' h
                          obtain ⟨v26, c51H, h⟩ := bind_some' h
                          refine zS (zC3 (lC [[0]] (con_spec_l2Arg _ _ _ c49H)) (lC [[0]] (con_spec_l4Whole _ _ c50H)) (lC [[0]] (con_spec_l4Whole _ _ c51H))) ?_
                          obtain ⟨v27, c53H, h⟩ := bind_some' h
                          obtain ⟨g54, h⟩ := gD2 h
                          refine zS (zC1F (lF [] (con_spec_ElemArity _ _ c53H)) g54) (r_ret ?_)
                          refine r_cR hk45 ?_
                          cases h
                          refine zAR hQ
                        · replace h := cond_f h g47
                          obtain ⟨v23, c55H, h⟩ := bind_some' h
                          refine zU (zC1F (lC [[0]] (con_spec_l26Rd_pick _ _ _ c55H)) g47) (r_cN hk46 ?_)
                          refine sem_ifh rfl h ?_ ?_ <;> clear h <;> intro h
                          · obtain ⟨v28, c57H, h⟩ := bind_some' h
                            obtain ⟨v29, c58H, h⟩ := bind_some' h
                            obtain ⟨v30, c59H, h⟩ := bind_some' h
                            refine zS (zC3 (lC [[0]] (con_spec_l2Arg _ _ _ c57H)) (lC [[0]] (con_spec_l4Whole _ _ c58H)) (lC [[0]] (con_spec_l4Whole _ _ c59H))) ?_
                            obtain ⟨v31, c61H, h⟩ := bind_some' h
                            obtain ⟨g62, h⟩ := gD2 h
                            refine zS (zC1F (lF [] (con_spec_ElemArity _ _ c61H)) g62) (r_ret ?_)
                            refine r_cR hk45 ?_
                            cases h
                            refine zAR hQ
                          · refine r_skip (r_cN hk45 ?_)
                            obtain ⟨v32, c64H, h⟩ := bind_some' h
                            obtain ⟨v33, c65H, h⟩ := bind_some' h
                            obtain ⟨v34, c66H, h⟩ := bind_some' h
                            refine zS (zC3 (lC [[0]] (con_spec_l2Arg _ _ _ c64H)) (lC [[0]] (con_spec_l4Real _ _ c65H)) (lC [[0]] (con_spec_l4Real _ _ c66H))) ?_
                            obtain ⟨v35, c68H, h⟩ := bind_some' h
                            obtain ⟨g69, h⟩ := gD2 h
                            refine zS (zC1F (lF [] (con_spec_ElemArity _ _ c68H)) g69) (r_ret ?_)
                            cases h
                            refine zAR hQ
              · intro k71 hk71 J70
                refine zS z0 ?_
                refine sem_ifh rfl h ?_ ?_ <;> clear h <;> intro h
                · refine r_skip (zJ J70 [0, 2, 3, 5, 24, 66] () _ h)
                · refine zS z0 ?_
                  refine sem_ifh rfl h ?_ ?_ <;> clear h <;> intro h
                  · refine r_skip (zJ J70 [0, 2, 3, 5, 24, 66] () _ h)
                  · refine zU z0 (zJ J70 [0, 2, 3, 5, 24, 66] () _ h)
  · intro k75 hk75 J74
    refine zS z0 ?_
    refine sem_ifh rfl h ?_ ?_ <;> clear h <;> intro h
    · obtain ⟨v36, c77H, h⟩ := bind_some' h
      refine zU (zC1 (lC [[0]] (con_spec_l26Rd_pick _ _ _ c77H))) (zJ J74 [0, 2, 3, 4, 5] () _ h)
    · refine r_skip (zJ J74 [0, 2, 3, 4, 5] () _ h)
noncomputable def spec_l11Play_put_j9 (v1 : l11Play) (v2 : Int) : ((List Int) × Int × Int × (List DevArg)) → Option l11Play
  | (v9, v10, v11, v12) => (gd (apOk ((v1.out ++ [(⟨v2, v11, v12⟩ : Inst)])).length 40) (cond ((v2 == 10) || (v2 == 7)) (some (⟨(⟨v9, v10⟩ : l26Rd), (v1.out ++ [(⟨v2, v11, v12⟩ : Inst)]), v1.bits, v1.forks, true, (v2 == 10)⟩ : l11Play)) (some (⟨(⟨v9, v10⟩ : l26Rd), (v1.out ++ [(⟨v2, v11, v12⟩ : Inst)]), v1.bits, v1.forks, v1.base, (v2 == 10)⟩ : l11Play))))
noncomputable def spec_l11Play_put_j3 (v1 : l11Play) (v2 : Int) : ((List Int) × Int × Int × (List DevArg)) → Option l11Play
  | (v4, v5, v6, v7) => (cond (v2 == 10) (Option.bind (spec_l4Coil (⟨v4, v5⟩ : l26Rd)) fun v13 => (spec_l11Play_put_j9 v1 v2 (v13.2.b, v13.2.p, v13.1.Op, v13.1.Args))) (spec_l11Play_put_j9 v1 v2 (v4, v5, v6, v7)))
noncomputable def spec_l11Play_put (v1 : l11Play) (v2 : Int) : Option l11Play :=
  (cond (decide (v2 ≤ 3)) (Option.bind (spec_l4Contact (⟨v1.r.b, v1.r.p⟩ : l26Rd)) fun v20 => (spec_l11Play_put_j3 v1 v2 (v20.2.b, v20.2.p, v20.1.Op, v20.1.Args))) (spec_l11Play_put_j3 v1 v2 (v1.r.b, v1.r.p, 0, [])))
theorem con_spec_l11Play_put (v1 : l11Play) (v2 : Int) (res_ : l11Play) (h : spec_l11Play_put v1 v2 = some res_) : Con Try.prog C0 80 [.pt 0 0, .sc (.int .i64 (v2))] [.rc [.pt 1 0, .sl 2 0 ((v1.out).length), .sc (.int .i64 (v1.bits)), .sc (.int .i64 (v1.forks)), .sc (.bool (v1.base)), .sc (.bool (v1.fresh))], .rc [.fz 1 (R e_u8 (v1.r.b)), .sc (.int .i64 (v1.r.p))], .arr true 3 (R e_Inst (v1.out))]
    (fun x σ' => x = .tup [] ∧ σ' = [.rc [.pt 1 0, .sl 3 0 ((res_.out).length), .sc (.int .i64 (res_.bits)), .sc (.int .i64 (res_.forks)), .sc (.bool (res_.base)), .sc (.bool (res_.fresh))], .rc [.fz 1 (R e_u8 (res_.r.b)), .sc (.int .i64 (res_.r.p))], .dead, .arr true 3 (R e_Inst (res_.out))]) := by
  refine zCon hP 3 [0, 1, 4, 8, 16, 43] [] Try.func80 (by unfold Try.f80; rfl) fun Q hQ => ?_
  unfold spec_l11Play_put at h
  refine zS z0 (sem_cutJ (fun (i : P2) (x : ((List Int) × Int × Int × (List DevArg))) => match i with | .a => (⟨[(0, .pt 0 0), (1, .sc (.int .i64 (v2))), (4, .pt 3 0)], [.rc [.pt 1 0, .sl 2 0 ((v1.out).length), .sc (.int .i64 (v1.bits)), .sc (.int .i64 (v1.forks)), .sc (.bool (v1.base)), .sc (.bool (v1.fresh))], .rc [.fz 1 (R e_u8 (x.1)), .sc (.int .i64 (x.2.1))], .arr true 3 (R e_Inst (v1.out)), .rc [.sc (.int .i64 (v2)), .sc (.int .i64 (x.2.2.1)), .sl 4 0 ((x.2.2.2).length)], .arr true 3 (R e_DevArg (x.2.2.2))]⟩ : St) | .b => (⟨[(0, .pt 0 0), (1, .sc (.int .i64 (v2))), (4, .pt 3 0)], [.rc [.pt 1 0, .sl 2 0 ((v1.out).length), .sc (.int .i64 (v1.bits)), .sc (.int .i64 (v1.forks)), .sc (.bool (v1.base)), .sc (.bool (v1.fresh))], .rc [.fz 1 (R e_u8 (x.1)), .sc (.int .i64 (x.2.1))], .arr true 3 (R e_Inst (v1.out)), .rc [.sc (.int .i64 (v2)), .sc (.int .i64 (x.2.2.1)), .sc (.slice none 0 0)]]⟩ : St)) (fun (i : P2) (x : ((List Int) × Int × Int × (List DevArg))) => (match i with | .a => True | .b => x.2.2.2 = []) ∧ spec_l11Play_put_j3 v1 v2 x = some res_) ?_ ?_)
  · rintro (_ | _) ⟨v4, v5, v6, v7⟩ ⟨hp, h⟩
    · simp only [spec_l11Play_put_j3] at h
      refine sem_cutJ (fun (i : P2) (x : ((List Int) × Int × Int × (List DevArg))) => match i with | .a => (⟨[(0, .pt 0 0), (1, .sc (.int .i64 (v2))), (4, .pt 3 0)], [.rc [.pt 1 0, .sl 2 0 ((v1.out).length), .sc (.int .i64 (v1.bits)), .sc (.int .i64 (v1.forks)), .sc (.bool (v1.base)), .sc (.bool (v1.fresh))], .rc [.fz 1 (R e_u8 (x.1)), .sc (.int .i64 (x.2.1))], .arr true 3 (R e_Inst (v1.out)), .rc [.sc (.int .i64 (v2)), .sc (.int .i64 (x.2.2.1)), .fz 3 (R e_DevArg (x.2.2.2))]]⟩ : St) | .b => (⟨[(0, .pt 0 0), (1, .sc (.int .i64 (v2))), (4, .pt 3 0)], [.rc [.pt 1 0, .sl 2 0 ((v1.out).length), .sc (.int .i64 (v1.bits)), .sc (.int .i64 (v1.forks)), .sc (.bool (v1.base)), .sc (.bool (v1.fresh))], .rc [.fz 1 (R e_u8 (x.1)), .sc (.int .i64 (x.2.1))], .arr true 3 (R e_Inst (v1.out)), .rc [.sc (.int .i64 (v2)), .sc (.int .i64 (x.2.2.1)), .sl 4 0 ((x.2.2.2).length)], .arr true 3 (R e_DevArg (x.2.2.2))]⟩ : St)) (fun (i : P2) (x : ((List Int) × Int × Int × (List DevArg))) => (match i with | .a => True | .b => True) ∧ spec_l11Play_put_j9 v1 v2 x = some res_) ?_ ?_
      · rintro (_ | _) ⟨v9, v10, v11, v12⟩ ⟨hp, h⟩
        · simp only [spec_l11Play_put_j9] at h
          obtain ⟨g7, h⟩ := gAp h
          refine zS (zPRF (.take 0 (.take 1 (.take 2 (.take 3 (.take 4 (.take 5 (.one 6 (.one 7 (.take 8 (.take 9 (.last 10 .done))))))))))) [0, 3] g7) (zS z0 ?_)
          refine zS zR ?_
          refine sem_ifh rfl h ?_ ?_ <;> clear h <;> intro h
          · refine zU z0 ?_
            cases h
            refine zAN hQ
          · refine r_skip ?_
            cases h
            refine zAN hQ
        · simp only [spec_l11Play_put_j9] at h
          obtain ⟨g11, h⟩ := gAp h
          refine zS (zPRF (.take 0 (.take 1 (.take 2 (.take 3 (.take 4 (.take 5 (.one 6 (.one 7 (.take 8 (.take 9 (.last 10 .done))))))))))) [0, 3] g11) (zS z0 ?_)
          refine zS zR ?_
          refine sem_ifh rfl h ?_ ?_ <;> clear h <;> intro h
          · refine zU z0 ?_
            cases h
            refine zAN hQ
          · refine r_skip ?_
            cases h
            refine zAN hQ
      · intro k15 hk15 J14
        refine zS z0 ?_
        refine sem_ifh rfl h ?_ ?_ <;> clear h <;> intro h
        · obtain ⟨v13, c17H, h⟩ := bind_some' h
          refine zU (zC1 (lC [[0]] (con_spec_l4Coil _ _ c17H))) (zJ J14 [0, 1, 4] (.a) (v13.2.b, v13.2.p, v13.1.Op, v13.1.Args) ⟨trivial, h⟩)
        · refine r_skip (zJ J14 [0, 1, 4] (.b) (v4, v5, v6, v7) ⟨trivial, h⟩)
    · replace hp : v7 = [] := hp
      subst hp
      simp only [spec_l11Play_put_j3] at h
      try simp only [List.nil_append, List.length_nil, Int.natCast_zero] at h
      refine zCut (fun (x : ((List Int) × Int × Int × (List DevArg))) => ⟨[(0, .pt 0 0), (1, .sc (.int .i64 (v2))), (4, .pt 3 0)], [.rc [.pt 1 0, .sl 2 0 ((v1.out).length), .sc (.int .i64 (v1.bits)), .sc (.int .i64 (v1.forks)), .sc (.bool (v1.base)), .sc (.bool (v1.fresh))], .rc [.fz 1 (R e_u8 (x.1)), .sc (.int .i64 (x.2.1))], .arr true 3 (R e_Inst (v1.out)), .rc [.sc (.int .i64 (v2)), .sc (.int .i64 (x.2.2.1)), .fz 3 (R e_DevArg (x.2.2.2))]]⟩) (spec_l11Play_put_j9 v1 v2) res_ ?_ ?_
      · rintro _ ⟨v15, v16, v17, v18⟩ h
        simp only [spec_l11Play_put_j9] at h
        obtain ⟨g21, h⟩ := gAp h
        refine zS (zPRF (.take 0 (.take 1 (.take 2 (.take 3 (.take 4 (.take 5 (.one 6 (.one 7 (.take 8 (.take 9 (.last 10 .done))))))))))) [0, 3] g21) (zS z0 ?_)
        refine zS zR ?_
        refine sem_ifh rfl h ?_ ?_ <;> clear h <;> intro h
        · refine zU z0 ?_
          cases h
          refine zAN hQ
        · refine r_skip ?_
          cases h
          refine zAN hQ
      · intro k25 hk25 J24
        refine zS z0 ?_
        refine sem_ifh rfl h ?_ ?_ <;> clear h <;> intro h
        · obtain ⟨v19, c27H, h⟩ := bind_some' h
          refine zU (zC1 (lC [[0]] (con_spec_l4Coil _ _ c27H))) (zJ J24 [0, 1, 4] () _ h)
        · refine r_skip (zJw J24 [0, 1, 4] () _ h)
  · intro k29 hk29 J28
    refine zS z0 ?_
    refine sem_ifh rfl h ?_ ?_ <;> clear h <;> intro h
    · obtain ⟨v20, c31H, h⟩ := bind_some' h
      refine zU (zC1 (lC [[0]] (con_spec_l4Contact _ _ c31H))) (zJ J28 [0, 1, 4] (.a) (v20.2.b, v20.2.p, v20.1.Op, v20.1.Args) ⟨trivial, h⟩)
    · refine r_skip (zJ J28 [0, 1, 4] (.b) (v1.r.b, v1.r.p, 0, []) ⟨rfl, h⟩)
noncomputable def spec_l11Play_close_j1 : ((List Int) × Int × (List Inst) × Int × Int × Bool × Bool) → Option l11Play
  | (v115, v116, v117, v118, v119, v120, v121) => (cond (!v121) (Option.bind (spec_l11Play_put (⟨(⟨v115, v116⟩ : l26Rd), v117, v118, v119, v120, v121⟩ : l11Play) 10) fun v122 => (some (⟨(⟨v122.r.b, v122.r.p⟩ : l26Rd), v122.out, v122.bits, v122.forks, v122.base, v122.fresh⟩ : l11Play))) (some (⟨(⟨v115, v116⟩ : l26Rd), v117, v118, v119, v120, v121⟩ : l11Play)))
noncomputable def spec_l11Play_close_j11 : ((List Int) × Int × (List Inst) × Int × Int × Bool × Bool) → Option (((List Int) × Int × (List Inst) × Int × Int × Bool × Bool) ⊕ ((List Int) × Int × (List Inst) × Int × Int × Bool × Bool))
  | (v202, v203, v204, v205, v206, v207, v208) => (some (.inl (v202, v203, v204, (IntKind.i64.wrap (v205 - 1)), v206, v207, v208)))
noncomputable def spec_l11Play_close_s3 : ((List Int) × Int × (List Inst) × Int × Int × Bool × Bool) → Option (((List Int) × Int × (List Inst) × Int × Int × Bool × Bool) ⊕ ((List Int) × Int × (List Inst) × Int × Int × Bool × Bool))
  | (v145, v146, v147, v148, v149, v150, v151) => (cond (decide (v148 > 1)) (cond v150 (cond (v148 == 2) (Option.bind (spec_l11Play_put (⟨(⟨v145, v146⟩ : l26Rd), v147, v148, v149, true, v151⟩ : l11Play) 4) fun v211 => (spec_l11Play_close_j11 (v211.r.b, v211.r.p, v211.out, v211.bits, v211.forks, v211.base, v211.fresh))) (Option.bind (spec_l26Rd_pick (⟨v145, v146⟩ : l26Rd) 2) fun v209 => (cond (v209.1 == 0) (Option.bind (spec_l11Play_put (⟨v209.2, v147, v148, v149, true, v151⟩ : l11Play) 4) fun v212 => (spec_l11Play_close_j11 (v212.r.b, v212.r.p, v212.out, v212.bits, v212.forks, v212.base, v212.fresh))) (Option.bind (spec_l11Play_put (⟨v209.2, v147, v148, v149, true, v151⟩ : l11Play) 5) fun v213 => (spec_l11Play_close_j11 (v213.r.b, v213.r.p, v213.out, v213.bits, v213.forks, v213.base, v213.fresh)))))) (Option.bind (spec_l26Rd_pick (⟨v145, v146⟩ : l26Rd) 2) fun v210 => (cond (v210.1 == 0) (Option.bind (spec_l11Play_put (⟨v210.2, v147, v148, v149, false, v151⟩ : l11Play) 4) fun v214 => (spec_l11Play_close_j11 (v214.r.b, v214.r.p, v214.out, v214.bits, v214.forks, v214.base, v214.fresh))) (Option.bind (spec_l11Play_put (⟨v210.2, v147, v148, v149, false, v151⟩ : l11Play) 5) fun v215 => (spec_l11Play_close_j11 (v215.r.b, v215.r.p, v215.out, v215.bits, v215.forks, v215.base, v215.fresh)))))) (some (.inr (v145, v146, v147, v148, v149, v150, v151))))
noncomputable def spec_l11Play_close (v1 : l11Play) : Option l11Play :=
  ((loop spec_l11Play_close_s3 (v1.r.b, v1.r.p, v1.out, v1.bits, v1.forks, v1.base, v1.fresh)).bind (fun v194 => (spec_l11Play_close_j1 (v194.1, v194.2.1, v194.2.2.1, v194.2.2.2.1, v194.2.2.2.2.1, v194.2.2.2.2.2.1, v194.2.2.2.2.2.2))))
theorem con_spec_l11Play_close (v1 : l11Play) (res_ : l11Play) (h : spec_l11Play_close v1 = some res_) : Con Try.prog C0 82 [.pt 0 0] [.rc [.pt 1 0, .sl 2 0 ((v1.out).length), .sc (.int .i64 (v1.bits)), .sc (.int .i64 (v1.forks)), .sc (.bool (v1.base)), .sc (.bool (v1.fresh))], .rc [.fz 1 (R e_u8 (v1.r.b)), .sc (.int .i64 (v1.r.p))], .arr true 3 (R e_Inst (v1.out))]
    (fun x σ' => (x = .tup [] ∧ σ' = [.rc [.pt 1 0, .sl 3 0 ((res_.out).length), .sc (.int .i64 (res_.bits)), .sc (.int .i64 (res_.forks)), .sc (.bool (res_.base)), .sc (.bool (res_.fresh))], .rc [.fz 1 (R e_u8 (res_.r.b)), .sc (.int .i64 (res_.r.p))], .dead, .arr true 3 (R e_Inst (res_.out))]) ∨ (x = .tup [] ∧ σ' = [.rc [.pt 1 0, .sl 2 0 ((res_.out).length), .sc (.int .i64 (res_.bits)), .sc (.int .i64 (res_.forks)), .sc (.bool (res_.base)), .sc (.bool (res_.fresh))], .rc [.fz 1 (R e_u8 (res_.r.b)), .sc (.int .i64 (res_.r.p))], .arr true 3 (R e_Inst (res_.out))])) := by
  refine zCon hP 3 [0, 6, 25, 42] [] Try.func82 (by unfold Try.f82; rfl) fun Q hQ => ?_
  unfold spec_l11Play_close at h
  refine sem_cutJ (fun (i : P2) (x : ((List Int) × Int × (List Inst) × Int × Int × Bool × Bool)) => match i with | .a => (⟨[(0, .pt 0 0)], [.rc [.pt 1 0, .sl 2 0 ((x.2.2.1).length), .sc (.int .i64 (x.2.2.2.1)), .sc (.int .i64 (x.2.2.2.2.1)), .sc (.bool (x.2.2.2.2.2.1)), .sc (.bool (x.2.2.2.2.2.2))], .rc [.fz 1 (R e_u8 (x.1)), .sc (.int .i64 (x.2.1))], .arr true 3 (R e_Inst (x.2.2.1))]⟩ : St) | .b => (⟨[(0, .pt 0 0)], [.rc [.pt 1 0, .sl 3 0 ((x.2.2.1).length), .sc (.int .i64 (x.2.2.2.1)), .sc (.int .i64 (x.2.2.2.2.1)), .sc (.bool (x.2.2.2.2.2.1)), .sc (.bool (x.2.2.2.2.2.2))], .rc [.fz 1 (R e_u8 (x.1)), .sc (.int .i64 (x.2.1))], .dead, .arr true 3 (R e_Inst (x.2.2.1))]⟩ : St)) (fun (i : P2) (x : ((List Int) × Int × (List Inst) × Int × Int × Bool × Bool)) => (match i with | .a => True | .b => True) ∧ spec_l11Play_close_j1 x = some res_) ?_ ?_
  · rintro (_ | _) ⟨v115, v116, v117, v118, v119, v120, v121⟩ ⟨hp, h⟩
    · simp only [spec_l11Play_close_j1] at h
      refine zS z0 ?_
      refine sem_ifh rfl h ?_ ?_ <;> clear h <;> intro h
      · obtain ⟨v122, c129H, h⟩ := bind_some' h
        refine zU (zC1 (lC [[0], [0, 0], [0, 1]] (con_spec_l11Play_put _ _ _ c129H))) ?_
        obtain rfl := Option.some.inj h
        refine r_eAN hQ rfl rfl ?_
        simp (decide := true) only [go_sem, reduceIte, Nat.reduceAdd, Int.reduceToNat, Nat.reduceSub, Nat.reduceMul]
        all_goals first | exact wkEnd_same (.inl ⟨rfl, rfl⟩) | exact True.intro
      · refine r_skip ?_
        obtain rfl := Option.some.inj h
        refine r_eAN hQ rfl rfl ?_
        simp (decide := true) only [go_sem, reduceIte, Nat.reduceAdd, Int.reduceToNat, Nat.reduceSub, Nat.reduceMul]
        all_goals first | exact wkEnd_same (.inr ⟨rfl, rfl⟩) | exact True.intro
    · simp only [spec_l11Play_close_j1] at h
      refine zS z0 ?_
      refine sem_ifh rfl h ?_ ?_ <;> clear h <;> intro h
      · obtain ⟨v123, c131H, h⟩ := bind_some' h
        refine zU (zC1 (lC [[0], [0, 0], [0, 1]] (con_spec_l11Play_put _ _ _ c131H))) ?_
        obtain rfl := Option.some.inj h
        refine r_eAN hQ rfl rfl ?_
        simp (decide := true) only [go_sem, reduceIte, Nat.reduceAdd, Int.reduceToNat, Nat.reduceSub, Nat.reduceMul]
        all_goals first | exact wkEnd_same (.inl ⟨rfl, rfl⟩) | exact True.intro
      · refine r_skip ?_
        obtain rfl := Option.some.inj h
        refine r_eAN hQ rfl rfl ?_
        simp (decide := true) only [go_sem, reduceIte, Nat.reduceAdd, Int.reduceToNat, Nat.reduceSub, Nat.reduceMul]
        all_goals first | exact wkEnd_same (.inl ⟨rfl, rfl⟩) | exact True.intro
  · intro k133 hk133 J132
    refine sem_blk fun k134 hk134 => ?_
    obtain ⟨oq210, hLq210, hKq210⟩ := bind_some' h
    clear h
    refine sem_loopP [0] (fun (i : P2) (x : ((List Int) × Int × (List Inst) × Int × Int × Bool × Bool)) => match i with | .a => (⟨[(0, .pt 0 0)], [.rc [.pt 1 0, .sl 2 0 ((x.2.2.1).length), .sc (.int .i64 (x.2.2.2.1)), .sc (.int .i64 (x.2.2.2.2.1)), .sc (.bool (x.2.2.2.2.2.1)), .sc (.bool (x.2.2.2.2.2.2))], .rc [.fz 1 (R e_u8 (x.1)), .sc (.int .i64 (x.2.1))], .arr true 3 (R e_Inst (x.2.2.1))]⟩ : St) | .b => (⟨[(0, .pt 0 0)], [.rc [.pt 1 0, .sl 3 0 ((x.2.2.1).length), .sc (.int .i64 (x.2.2.2.1)), .sc (.int .i64 (x.2.2.2.2.1)), .sc (.bool (x.2.2.2.2.2.1)), .sc (.bool (x.2.2.2.2.2.2))], .rc [.fz 1 (R e_u8 (x.1)), .sc (.int .i64 (x.2.1))], .dead, .arr true 3 (R e_Inst (x.2.2.1))]⟩ : St)) (fun (i : P2) (x : ((List Int) × Int × (List Inst) × Int × Int × Bool × Bool)) => (match i with | .a => True | .b => True)) spec_l11Play_close_s3 (.a) (v1.r.b, v1.r.p, v1.out, v1.bits, v1.forks, v1.base, v1.fresh) hLq210 (by rfl) (by rfl) ⟨?_, trivial⟩ ?_
    · first | exact wkSt_same rfl | (simp (decide := true) only [go_sem, reduceIte, Nat.reduceAdd, Int.reduceToNat, Nat.reduceSub, Nat.reduceMul]; exact wkSt_same rfl)
    · rintro nq210 (_ | _) ⟨v145, v146, v147, v148, v149, v150, v151⟩ xq210 kq210 hkq210 hp h hIq210 hEq210
      · simp only [spec_l11Play_close_s3] at h
        refine sem_cut fun k211 hk211 => zS z0 ?_
        refine sem_ifh rfl h ?_ ?_ <;> clear h <;> intro h
        · refine r_skip (r_cN hk211 ?_)
          refine sem_blk fun k213 hk213 => zCut (fun (x : ((List Int) × Int × (List Inst) × Int × Int × Bool × Bool)) => ⟨[(0, .pt 0 0)], [.rc [.pt 1 0, .sl 3 0 ((x.2.2.1).length), .sc (.int .i64 (x.2.2.2.1)), .sc (.int .i64 (x.2.2.2.2.1)), .sc (.bool (x.2.2.2.2.2.1)), .sc (.bool (x.2.2.2.2.2.2))], .rc [.fz 1 (R e_u8 (x.1)), .sc (.int .i64 (x.2.1))], .dead, .arr true 3 (R e_Inst (x.2.2.1))]⟩) spec_l11Play_close_j11 xq210 ?_ ?_
          · rintro _ ⟨v202, v203, v204, v205, v206, v207, v208⟩ h
            simp only [spec_l11Play_close_j11] at h
            refine zU z0 (r_bN hk213 ?_)
            refine zB hkq210 h hIq210 (.b) trivial
          · intro k225 hk225 J224
            refine sem_cut fun k226 hk226 => ?_
            rcases Bool.eq_false_or_eq_true v150 with g227 | g227
            · replace h := cond_t h g227
              rcases Bool.eq_false_or_eq_true (v148 == 2) with g228 | g228
              · replace h := cond_t h g228
                refine zU (zRF (a2 g227 g228)) (r_cN hk226 ?_)
                refine sem_ifT rfl ?_
                try replace h := cond_t h rfl
                obtain ⟨v211, c229H, h⟩ := bind_some' h
                refine zU (zC1 (lC [[0], [0, 0], [0, 1]] (con_spec_l11Play_put _ _ _ c229H))) (zJ J224 [0] () _ h)
              · replace h := cond_f h g228
                obtain ⟨v209, c230H, h⟩ := bind_some' h
                refine zU (zC1F (lC [[0]] (con_spec_l26Rd_pick _ _ _ c230H)) (a2 g227 g228)) (r_cN hk226 ?_)
                refine sem_ifh rfl h ?_ ?_ <;> clear h <;> intro h
                · obtain ⟨v212, c231H, h⟩ := bind_some' h
                  refine zU (zC1 (lC [[0], [0, 0], [0, 1]] (con_spec_l11Play_put _ _ _ c231H))) (zJ J224 [0] () _ h)
                · obtain ⟨v213, c232H, h⟩ := bind_some' h
                  refine zU (zC1 (lC [[0], [0, 0], [0, 1]] (con_spec_l11Play_put _ _ _ c232H))) (zJ J224 [0] () _ h)
            · replace h := cond_f h g227
              obtain ⟨v210, c233H, h⟩ := bind_some' h
              refine zU (zC1F (lC [[0]] (con_spec_l26Rd_pick _ _ _ c233H)) g227) (r_cN hk226 ?_)
              refine sem_ifh rfl h ?_ ?_ <;> clear h <;> intro h
              · obtain ⟨v214, c234H, h⟩ := bind_some' h
                refine zU (zC1 (lC [[0], [0, 0], [0, 1]] (con_spec_l11Play_put _ _ _ c234H))) (zJ J224 [0] () _ h)
              · obtain ⟨v215, c235H, h⟩ := bind_some' h
                refine zU (zC1 (lC [[0], [0, 0], [0, 1]] (con_spec_l11Play_put _ _ _ c235H))) (zJ J224 [0] () _ h)
        · refine r_exit (r_cE hk211 ?_)
          replace h := zX h hEq210 hKq210
          refine r_kE hkq210 (r_bE hk134 ?_)
          refine zJ J132 [0] (.a) (v145, v146, v147, v148, v149, v150, v151) ⟨trivial, h⟩
      · simp only [spec_l11Play_close_s3] at h
        refine sem_cut fun k236 hk236 => zS z0 ?_
        refine sem_ifh rfl h ?_ ?_ <;> clear h <;> intro h
        · refine r_skip (r_cN hk236 ?_)
          refine sem_blk fun k238 hk238 => zCut (fun (x : ((List Int) × Int × (List Inst) × Int × Int × Bool × Bool)) => ⟨[(0, .pt 0 0)], [.rc [.pt 1 0, .sl 3 0 ((x.2.2.1).length), .sc (.int .i64 (x.2.2.2.1)), .sc (.int .i64 (x.2.2.2.2.1)), .sc (.bool (x.2.2.2.2.2.1)), .sc (.bool (x.2.2.2.2.2.2))], .rc [.fz 1 (R e_u8 (x.1)), .sc (.int .i64 (x.2.1))], .dead, .arr true 3 (R e_Inst (x.2.2.1))]⟩) spec_l11Play_close_j11 xq210 ?_ ?_
          · rintro _ ⟨v223, v224, v225, v226, v227, v228, v229⟩ h
            simp only [spec_l11Play_close_j11] at h
            refine zU z0 (r_bN hk238 ?_)
            refine zB hkq210 h hIq210 (.b) trivial
          · intro k250 hk250 J249
            refine sem_cut fun k251 hk251 => ?_
            rcases Bool.eq_false_or_eq_true v150 with g252 | g252
            · replace h := cond_t h g252
              rcases Bool.eq_false_or_eq_true (v148 == 2) with g253 | g253
              · replace h := cond_t h g253
                refine zU (zRF (a2 g252 g253)) (r_cN hk251 ?_)
                refine sem_ifT rfl ?_
                try replace h := cond_t h rfl
                obtain ⟨v232, c254H, h⟩ := bind_some' h
                refine zU (zC1 (lC [[0], [0, 0], [0, 1]] (con_spec_l11Play_put _ _ _ c254H))) (zJ J249 [0] () _ h)
              · replace h := cond_f h g253
                obtain ⟨v230, c255H, h⟩ := bind_some' h
                refine zU (zC1F (lC [[0]] (con_spec_l26Rd_pick _ _ _ c255H)) (a2 g252 g253)) (r_cN hk251 ?_)
                refine sem_ifh rfl h ?_ ?_ <;> clear h <;> intro h
                · obtain ⟨v233, c256H, h⟩ := bind_some' h
                  refine zU (zC1 (lC [[0], [0, 0], [0, 1]] (con_spec_l11Play_put _ _ _ c256H))) (zJ J249 [0] () _ h)
                · obtain ⟨v234, c257H, h⟩ := bind_some' h
                  refine zU (zC1 (lC [[0], [0, 0], [0, 1]] (con_spec_l11Play_put _ _ _ c257H))) (zJ J249 [0] () _ h)
            · replace h := cond_f h g252
              obtain ⟨v231, c258H, h⟩ := bind_some' h
              refine zU (zC1F (lC [[0]] (con_spec_l26Rd_pick _ _ _ c258H)) g252) (r_cN hk251 ?_)
              refine sem_ifh rfl h ?_ ?_ <;> clear h <;> intro h
              · obtain ⟨v235, c259H, h⟩ := bind_some' h
                refine zU (zC1 (lC [[0], [0, 0], [0, 1]] (con_spec_l11Play_put _ _ _ c259H))) (zJ J249 [0] () _ h)
              · obtain ⟨v236, c260H, h⟩ := bind_some' h
                refine zU (zC1 (lC [[0], [0, 0], [0, 1]] (con_spec_l11Play_put _ _ _ c260H))) (zJ J249 [0] () _ h)
        · refine r_exit (r_cE hk236 ?_)
          replace h := zX h hEq210 hKq210
          refine r_kE hkq210 (r_bE hk134 ?_)
          refine zJ J132 [0] (.b) (v145, v146, v147, v148, v149, v150, v151) ⟨trivial, h⟩
noncomputable def spec_l11Play_step_j26 (v1 : l11Play) (v2 : Int) (v3 : (Int × l26Rd)) : Bool → Option l11Play
  | v6 => (cond v6 (Option.bind (spec_l11Play_put (⟨v3.2, v1.out, v1.bits, v1.forks, v1.base, v1.fresh⟩ : l11Play) 2) fun v7 => (some (⟨(⟨v7.r.b, v7.r.p⟩ : l26Rd), v7.out, v7.bits, v7.forks, v7.base, v7.fresh⟩ : l11Play))) (cond (v3.1 == 4) (cond (decide (v1.bits ≥ v2)) (Option.bind (spec_l11Play_put (⟨v3.2, v1.out, v1.bits, v1.forks, v1.base, v1.fresh⟩ : l11Play) 3) fun v8 => (some (⟨(⟨v8.r.b, v8.r.p⟩ : l26Rd), v8.out, v8.bits, v8.forks, v8.base, v8.fresh⟩ : l11Play))) (some (⟨v3.2, v1.out, v1.bits, v1.forks, v1.base, v1.fresh⟩ : l11Play))) (cond (v3.1 == 5) (cond (decide (v1.bits ≥ v2)) (Option.bind (spec_l26Rd_pick v3.2 2) fun v9 => (cond (v9.1 == 0) (Option.bind (spec_l11Play_put (⟨v9.2, v1.out, v1.bits, v1.forks, v1.base, v1.fresh⟩ : l11Play) 6) fun v10 => (some (⟨(⟨v10.r.b, v10.r.p⟩ : l26Rd), v10.out, v10.bits, v10.forks, v10.base, v10.fresh⟩ : l11Play))) (some (⟨v9.2, v1.out, v1.bits, v1.forks, v1.base, v1.fresh⟩ : l11Play)))) (some (⟨v3.2, v1.out, v1.bits, v1.forks, v1.base, v1.fresh⟩ : l11Play))) (cond (v3.1 == 6) (cond (decide (v1.bits > 1)) (Option.bind (spec_l11Play_put (⟨v3.2, v1.out, v1.bits, v1.forks, v1.base, v1.fresh⟩ : l11Play) 4) fun v11 => (some (⟨(⟨v11.r.b, v11.r.p⟩ : l26Rd), v11.out, (IntKind.i64.wrap (v11.bits - 1)), v11.forks, v11.base, v11.fresh⟩ : l11Play))) (some (⟨v3.2, v1.out, v1.bits, v1.forks, v1.base, v1.fresh⟩ : l11Play))) (cond (v3.1 == 7) (cond (decide (v1.bits > v2)) (Option.bind (spec_l11Play_put (⟨v3.2, v1.out, v1.bits, v1.forks, v1.base, v1.fresh⟩ : l11Play) 5) fun v12 => (some (⟨(⟨v12.r.b, v12.r.p⟩ : l26Rd), v12.out, (IntKind.i64.wrap (v12.bits - 1)), v12.forks, v12.base, v12.fresh⟩ : l11Play))) (some (⟨v3.2, v1.out, v1.bits, v1.forks, v1.base, v1.fresh⟩ : l11Play))) (cond (v3.1 == 8) (cond (v1.bits == 1) (Option.bind (spec_l11Play_put (⟨v3.2, v1.out, v1.bits, v1.forks, v1.base, v1.fresh⟩ : l11Play) 10) fun v13 => (some (⟨(⟨v13.r.b, v13.r.p⟩ : l26Rd), v13.out, v13.bits, v13.forks, v13.base, v13.fresh⟩ : l11Play))) (some (⟨v3.2, v1.out, v1.bits, v1.forks, v1.base, v1.fresh⟩ : l11Play))) (cond (v3.1 == 9) (cond ((v1.bits == 1) && (decide (v1.forks < 8))) (Option.bind (spec_l11Play_put (⟨v3.2, v1.out, v1.bits, v1.forks, v1.base, v1.fresh⟩ : l11Play) 7) fun v14 => (some (⟨(⟨v14.r.b, v14.r.p⟩ : l26Rd), v14.out, v14.bits, (IntKind.i64.wrap (v14.forks + 1)), v14.base, v14.fresh⟩ : l11Play))) (some (⟨v3.2, v1.out, v1.bits, v1.forks, v1.base, v1.fresh⟩ : l11Play))) (cond (decide (v1.forks > 0)) (Option.bind (spec_l11Play_close (⟨v3.2, v1.out, v1.bits, v1.forks, v1.base, v1.fresh⟩ : l11Play)) fun v15 => (Option.bind (spec_l26Rd_pick (⟨v15.r.b, v15.r.p⟩ : l26Rd) 2) fun v16 => (Option.bind (spec_l11Play_put (⟨v16.2, v15.out, v15.bits, v15.forks, v15.base, v15.fresh⟩ : l11Play) (IntKind.i64.wrap (8 + v16.1))) fun v17 => (Option.bind (idx v17.out ((IntKind.i64.wrap ((((v17.out).length : Nat) : Int) - 1)))) fun v18 => (cond (v18.Code == 9) (some (⟨(⟨v17.r.b, v17.r.p⟩ : l26Rd), v17.out, v17.bits, (IntKind.i64.wrap (v17.forks - 1)), v17.base, v17.fresh⟩ : l11Play)) (some (⟨(⟨v17.r.b, v17.r.p⟩ : l26Rd), v17.out, v17.bits, v17.forks, v17.base, v17.fresh⟩ : l11Play))))))) (some (⟨v3.2, v1.out, v1.bits, v1.forks, v1.base, v1.fresh⟩ : l11Play))))))))))
noncomputable def spec_l11Play_step_j12 (v1 : l11Play) (v2 : Int) (v3 : (Int × l26Rd)) : Bool → Option l11Play
  | v4 => (cond v4 (cond (decide (v1.bits < 16)) (Option.bind (spec_l11Play_put (⟨v3.2, v1.out, v1.bits, v1.forks, v1.base, v1.fresh⟩ : l11Play) 1) fun v5 => (some (⟨(⟨v5.r.b, v5.r.p⟩ : l26Rd), v5.out, (IntKind.i64.wrap (v5.bits + 1)), v5.forks, v5.base, v5.fresh⟩ : l11Play))) (some (⟨v3.2, v1.out, v1.bits, v1.forks, v1.base, v1.fresh⟩ : l11Play))) (cond (v3.1 == 2) (spec_l11Play_step_j26 v1 v2 v3 (v3.1 == 2)) (spec_l11Play_step_j26 v1 v2 v3 (v3.1 == 3))))
noncomputable def spec_l11Play_step_j3 (v1 : l11Play) : Int → Option l11Play
  | v2 => (Option.bind (spec_l26Rd_pick (⟨v1.r.b, v1.r.p⟩ : l26Rd) 11) fun v3 => (cond (v3.1 == 0) (spec_l11Play_step_j12 v1 v2 v3 (v3.1 == 0)) (spec_l11Play_step_j12 v1 v2 v3 (v3.1 == 1))))
noncomputable def spec_l11Play_step (v1 : l11Play) : Option l11Play :=
  (cond v1.base (spec_l11Play_step_j3 v1 2) (spec_l11Play_step_j3 v1 1))
theorem con_spec_l11Play_step (v1 : l11Play) (res_ : l11Play) (h : spec_l11Play_step v1 = some res_) : Con Try.prog C0 81 [.pt 0 0] [.rc [.pt 1 0, .sl 2 0 ((v1.out).length), .sc (.int .i64 (v1.bits)), .sc (.int .i64 (v1.forks)), .sc (.bool (v1.base)), .sc (.bool (v1.fresh))], .rc [.fz 1 (R e_u8 (v1.r.b)), .sc (.int .i64 (v1.r.p))], .arr true 3 (R e_Inst (v1.out))]
    (fun x σ' => (x = .tup [] ∧ σ' = [.rc [.pt 1 0, .sl 3 0 ((res_.out).length), .sc (.int .i64 (res_.bits)), .sc (.int .i64 (res_.forks)), .sc (.bool (res_.base)), .sc (.bool (res_.fresh))], .rc [.fz 1 (R e_u8 (res_.r.b)), .sc (.int .i64 (res_.r.p))], .dead, .arr true 3 (R e_Inst (res_.out))]) ∨ (x = .tup [] ∧ σ' = [.rc [.pt 1 0, .sl 2 0 ((res_.out).length), .sc (.int .i64 (res_.bits)), .sc (.int .i64 (res_.forks)), .sc (.bool (res_.base)), .sc (.bool (res_.fresh))], .rc [.fz 1 (R e_u8 (res_.r.b)), .sc (.int .i64 (res_.r.p))], .arr true 3 (R e_Inst (res_.out))])) := by
  refine zCon hP 3 [0, 2, 6, 11, 16, 40, 49, 56, 67, 72, 79, 82, 97, 100, 106, 117, 124, 135, 141, 144, 157] [] Try.func81 (by unfold Try.f81; rfl) fun Q hQ => ?_
  unfold spec_l11Play_step at h
  refine zS z0 (zCut (fun (x : Int) => ⟨[(0, .pt 0 0), (2, .sc (.int .i64 (x)))], [.rc [.pt 1 0, .sl 2 0 ((v1.out).length), .sc (.int .i64 (v1.bits)), .sc (.int .i64 (v1.forks)), .sc (.bool (v1.base)), .sc (.bool (v1.fresh))], .rc [.fz 1 (R e_u8 (v1.r.b)), .sc (.int .i64 (v1.r.p))], .arr true 3 (R e_Inst (v1.out))]⟩) (spec_l11Play_step_j3 v1) res_ ?_ ?_)
  · rintro _ v2 h
    simp only [spec_l11Play_step_j3] at h
    obtain ⟨v3, c4H, h⟩ := bind_some' h
    refine zS (zC1 (lC [[0]] (con_spec_l26Rd_pick _ _ _ c4H))) (sem_blk fun k5 hk5 => ?_)
    refine zCut (fun (x : Bool) => ⟨[(0, .pt 0 0), (2, .sc (.int .i64 (v2))), (11, .sc (.int .i64 (v3.1))), (49, .sc (.bool (x)))], [.rc [.pt 1 0, .sl 2 0 ((v1.out).length), .sc (.int .i64 (v1.bits)), .sc (.int .i64 (v1.forks)), .sc (.bool (v1.base)), .sc (.bool (v1.fresh))], .rc [.fz 1 (R e_u8 (v3.2.b)), .sc (.int .i64 (v3.2.p))], .arr true 3 (R e_Inst (v1.out))]⟩) (spec_l11Play_step_j12 v1 v2 v3) res_ ?_ ?_
    · rintro _ v4 h
      simp only [spec_l11Play_step_j12] at h
      refine sem_ifh rfl h ?_ ?_ <;> clear h <;> intro h
      · refine zS z0 ?_
        refine sem_ifh rfl h ?_ ?_ <;> clear h <;> intro h
        · obtain ⟨v5, c9H, h⟩ := bind_some' h
          refine zS (zC1 (lC [[0], [0, 0], [0, 1]] (con_spec_l11Play_put _ _ _ c9H))) (zU z0 ?_)
          refine r_bN hk5 ?_
          obtain rfl := Option.some.inj h
          refine r_eAN hQ rfl rfl ?_
          simp (decide := true) only [go_sem, reduceIte, Nat.reduceAdd, Int.reduceToNat, Nat.reduceSub, Nat.reduceMul]
          all_goals first | exact wkEnd_same (.inl ⟨rfl, rfl⟩) | exact True.intro
        · refine r_skip (r_bN hk5 ?_)
          obtain rfl := Option.some.inj h
          refine r_eAN hQ rfl rfl ?_
          simp (decide := true) only [go_sem, reduceIte, Nat.reduceAdd, Int.reduceToNat, Nat.reduceSub, Nat.reduceMul]
          all_goals first | exact wkEnd_same (.inr ⟨rfl, rfl⟩) | exact True.intro
      · refine zCut (fun (x : Bool) => ⟨[(0, .pt 0 0), (2, .sc (.int .i64 (v2))), (11, .sc (.int .i64 (v3.1))), (67, .sc (.bool (x)))], [.rc [.pt 1 0, .sl 2 0 ((v1.out).length), .sc (.int .i64 (v1.bits)), .sc (.int .i64 (v1.forks)), .sc (.bool (v1.base)), .sc (.bool (v1.fresh))], .rc [.fz 1 (R e_u8 (v3.2.b)), .sc (.int .i64 (v3.2.p))], .arr true 3 (R e_Inst (v1.out))]⟩) (spec_l11Play_step_j26 v1 v2 v3) res_ ?_ ?_
        · rintro _ v6 h
          simp only [spec_l11Play_step_j26] at h
          refine sem_ifh rfl h ?_ ?_ <;> clear h <;> intro h
          · obtain ⟨v7, c11H, h⟩ := bind_some' h
            refine zU (zC1 (lC [[0], [0, 0], [0, 1]] (con_spec_l11Play_put _ _ _ c11H))) (r_bN hk5 ?_)
            obtain rfl := Option.some.inj h
            refine r_eAN hQ rfl rfl ?_
            simp (decide := true) only [go_sem, reduceIte, Nat.reduceAdd, Int.reduceToNat, Nat.reduceSub, Nat.reduceMul]
            all_goals first | exact wkEnd_same (.inl ⟨rfl, rfl⟩) | exact True.intro
          · refine zS z0 ?_
            refine sem_ifh rfl h ?_ ?_ <;> clear h <;> intro h
            · refine zS z0 ?_
              refine sem_ifh rfl h ?_ ?_ <;> clear h <;> intro h
              · obtain ⟨v8, c14H, h⟩ := bind_some' h
                refine zU (zC1 (lC [[0], [0, 0], [0, 1]] (con_spec_l11Play_put _ _ _ c14H))) (r_bN hk5 ?_)
                obtain rfl := Option.some.inj h
                refine r_eAN hQ rfl rfl ?_
                simp (decide := true) only [go_sem, reduceIte, Nat.reduceAdd, Int.reduceToNat, Nat.reduceSub, Nat.reduceMul]
                all_goals first | exact wkEnd_same (.inl ⟨rfl, rfl⟩) | exact True.intro
              · refine r_skip (r_bN hk5 ?_)
                obtain rfl := Option.some.inj h
                refine r_eAN hQ rfl rfl ?_
                simp (decide := true) only [go_sem, reduceIte, Nat.reduceAdd, Int.reduceToNat, Nat.reduceSub, Nat.reduceMul]
                all_goals first | exact wkEnd_same (.inr ⟨rfl, rfl⟩) | exact True.intro
            · refine zS z0 ?_
              refine sem_ifh rfl h ?_ ?_ <;> clear h <;> intro h
              · refine sem_cut fun k16 hk16 => ?_
                rcases Bool.eq_false_or_eq_true (decide (v1.bits ≥ v2)) with g17 | g17
                · replace h := cond_t h g17
                  obtain ⟨v9, c18H, h⟩ := bind_some' h
                  refine zU (zC1F (lC [[0]] (con_spec_l26Rd_pick _ _ _ c18H)) g17) (r_cN hk16 ?_)
                  refine sem_ifh rfl h ?_ ?_ <;> clear h <;> intro h
                  · obtain ⟨v10, c19H, h⟩ := bind_some' h
                    refine zU (zC1 (lC [[0], [0, 0], [0, 1]] (con_spec_l11Play_put _ _ _ c19H))) (r_bN hk5 ?_)
                    obtain rfl := Option.some.inj h
                    refine r_eAN hQ rfl rfl ?_
                    simp (decide := true) only [go_sem, reduceIte, Nat.reduceAdd, Int.reduceToNat, Nat.reduceSub, Nat.reduceMul]
                    all_goals first | exact wkEnd_same (.inl ⟨rfl, rfl⟩) | exact True.intro
                  · refine r_skip (r_bN hk5 ?_)
                    obtain rfl := Option.some.inj h
                    refine r_eAN hQ rfl rfl ?_
                    simp (decide := true) only [go_sem, reduceIte, Nat.reduceAdd, Int.reduceToNat, Nat.reduceSub, Nat.reduceMul]
                    all_goals first | exact wkEnd_same (.inr ⟨rfl, rfl⟩) | exact True.intro
                · replace h := cond_f h g17
                  refine zU (zRF g17) (r_cN hk16 ?_)
                  refine sem_ifF rfl ?_
                  try replace h := cond_f h rfl
                  refine r_skip (r_bN hk5 ?_)
                  obtain rfl := Option.some.inj h
                  refine r_eAN hQ rfl rfl ?_
                  simp (decide := true) only [go_sem, reduceIte, Nat.reduceAdd, Int.reduceToNat, Nat.reduceSub, Nat.reduceMul]
                  all_goals first | exact wkEnd_same (.inr ⟨rfl, rfl⟩) | exact True.intro
              · refine zS z0 ?_
                refine sem_ifh rfl h ?_ ?_ <;> clear h <;> intro h
                · refine zS z0 ?_
                  refine sem_ifh rfl h ?_ ?_ <;> clear h <;> intro h
                  · obtain ⟨v11, c23H, h⟩ := bind_some' h
                    refine zS (zC1 (lC [[0], [0, 0], [0, 1]] (con_spec_l11Play_put _ _ _ c23H))) (zU z0 ?_)
                    refine r_bN hk5 ?_
                    obtain rfl := Option.some.inj h
                    refine r_eAN hQ rfl rfl ?_
                    simp (decide := true) only [go_sem, reduceIte, Nat.reduceAdd, Int.reduceToNat, Nat.reduceSub, Nat.reduceMul]
                    all_goals first | exact wkEnd_same (.inl ⟨rfl, rfl⟩) | exact True.intro
                  · refine r_skip (r_bN hk5 ?_)
                    obtain rfl := Option.some.inj h
                    refine r_eAN hQ rfl rfl ?_
                    simp (decide := true) only [go_sem, reduceIte, Nat.reduceAdd, Int.reduceToNat, Nat.reduceSub, Nat.reduceMul]
                    all_goals first | exact wkEnd_same (.inr ⟨rfl, rfl⟩) | exact True.intro
                · refine zS z0 ?_
                  refine sem_ifh rfl h ?_ ?_ <;> clear h <;> intro h
                  · refine zS z0 ?_
                    refine sem_ifh rfl h ?_ ?_ <;> clear h <;> intro h
                    · obtain ⟨v12, c27H, h⟩ := bind_some' h
                      refine zS (zC1 (lC [[0], [0, 0], [0, 1]] (con_spec_l11Play_put _ _ _ c27H))) (zU z0 ?_)
                      refine r_bN hk5 ?_
                      obtain rfl := Option.some.inj h
                      refine r_eAN hQ rfl rfl ?_
                      simp (decide := true) only [go_sem, reduceIte, Nat.reduceAdd, Int.reduceToNat, Nat.reduceSub, Nat.reduceMul]
                      all_goals first | exact wkEnd_same (.inl ⟨rfl, rfl⟩) | exact True.intro
                    · refine r_skip (r_bN hk5 ?_)
                      obtain rfl := Option.some.inj h
                      refine r_eAN hQ rfl rfl ?_
                      simp (decide := true) only [go_sem, reduceIte, Nat.reduceAdd, Int.reduceToNat, Nat.reduceSub, Nat.reduceMul]
                      all_goals first | exact wkEnd_same (.inr ⟨rfl, rfl⟩) | exact True.intro
                  · refine zS z0 ?_
                    refine sem_ifh rfl h ?_ ?_ <;> clear h <;> intro h
                    · refine zS z0 ?_
                      refine sem_ifh rfl h ?_ ?_ <;> clear h <;> intro h
                      · obtain ⟨v13, c30H, h⟩ := bind_some' h
                        refine zU (zC1 (lC [[0], [0, 0], [0, 1]] (con_spec_l11Play_put _ _ _ c30H))) (r_bN hk5 ?_)
                        obtain rfl := Option.some.inj h
                        refine r_eAN hQ rfl rfl ?_
                        simp (decide := true) only [go_sem, reduceIte, Nat.reduceAdd, Int.reduceToNat, Nat.reduceSub, Nat.reduceMul]
                        all_goals first | exact wkEnd_same (.inl ⟨rfl, rfl⟩) | exact True.intro
                      · refine r_skip (r_bN hk5 ?_)
                        obtain rfl := Option.some.inj h
                        refine r_eAN hQ rfl rfl ?_
                        simp (decide := true) only [go_sem, reduceIte, Nat.reduceAdd, Int.reduceToNat, Nat.reduceSub, Nat.reduceMul]
                        all_goals first | exact wkEnd_same (.inr ⟨rfl, rfl⟩) | exact True.intro
                    · refine zS z0 ?_
                      refine sem_ifh rfl h ?_ ?_ <;> clear h <;> intro h
                      · refine zS zR ?_
                        refine sem_ifh rfl h ?_ ?_ <;> clear h <;> intro h
                        · obtain ⟨v14, c34H, h⟩ := bind_some' h
                          refine zS (zC1 (lC [[0], [0, 0], [0, 1]] (con_spec_l11Play_put _ _ _ c34H))) (zU z0 ?_)
                          refine r_bN hk5 ?_
                          obtain rfl := Option.some.inj h
                          refine r_eAN hQ rfl rfl ?_
                          simp (decide := true) only [go_sem, reduceIte, Nat.reduceAdd, Int.reduceToNat, Nat.reduceSub, Nat.reduceMul]
                          all_goals first | exact wkEnd_same (.inl ⟨rfl, rfl⟩) | exact True.intro
                        · refine r_skip (r_bN hk5 ?_)
                          obtain rfl := Option.some.inj h
                          refine r_eAN hQ rfl rfl ?_
                          simp (decide := true) only [go_sem, reduceIte, Nat.reduceAdd, Int.reduceToNat, Nat.reduceSub, Nat.reduceMul]
                          all_goals first | exact wkEnd_same (.inr ⟨rfl, rfl⟩) | exact True.intro
                      · refine zS z0 ?_
                        refine sem_ifh rfl h ?_ ?_ <;> clear h <;> intro h
                        · refine sem_cut fun k36 hk36 => ?_
                          obtain ⟨v15, c37H, h⟩ := bind_some' h
                          repeat' (first | with_reducible refine And.intro ?_ ?_ | ((with_reducible refine i_call (n := 82) ?_); refine call_open [[0], [0, 0], [0, 1]] ?_) | ((with_reducible refine i_callW (n := 82) ?_); refine callW_use (con_spec_l11Play_close (⟨v3.2, v1.out, v1.bits, v1.forks, v1.base, v1.fresh⟩ : l11Play) v15 c37H) ?_; rintro x σ' (⟨rfl, rfl⟩ | ⟨rfl, rfl⟩) <;> ((with_reducible refine behind_go ?_))) | exact True.intro | with_reducible assumption | exact fun hf => False.elim hf | (intro hg; first | (simp +contextual [hg]; done) | grind) | omega | simp (decide := true) only [go_sem, reduceIte, Nat.reduceAdd, Int.reduceToNat, Nat.reduceSub, Nat.reduceMul])
                          · refine r_cN hk36 ?_
                            obtain ⟨v16, c39H, h⟩ := bind_some' h
                            obtain ⟨v17, c40H, h⟩ := bind_some' h
                            refine zS (zC2 (lC [[0]] (con_spec_l26Rd_pick _ _ _ c39H)) (lC [[0], [0, 0], [0, 1]] (con_spec_l11Play_put _ _ _ c40H))) ?_
                            obtain ⟨v18, h, c42⟩ := bI h
                            refine zS (zRF c42) ?_
                            refine sem_ifh rfl h ?_ ?_ <;> clear h <;> intro h
                            · refine zU z0 (r_bN hk5 ?_)
                              obtain rfl := Option.some.inj h
                              refine r_eAN hQ rfl rfl ?_
                              simp (decide := true) only [go_sem, reduceIte, Nat.reduceAdd, Int.reduceToNat, Nat.reduceSub, Nat.reduceMul]
                              all_goals first | exact wkEnd_same (.inl ⟨rfl, rfl⟩) | exact True.intro
                            · refine r_skip (r_bN hk5 ?_)
                              obtain rfl := Option.some.inj h
                              refine r_eAN hQ rfl rfl ?_
                              simp (decide := true) only [go_sem, reduceIte, Nat.reduceAdd, Int.reduceToNat, Nat.reduceSub, Nat.reduceMul]
                              all_goals first | exact wkEnd_same (.inl ⟨rfl, rfl⟩) | exact True.intro
                          · refine r_cN hk36 ?_
                            obtain ⟨v19, c44H, h⟩ := bind_some' h
                            obtain ⟨v20, c45H, h⟩ := bind_some' h
                            refine zS (zC2 (lC [[0]] (con_spec_l26Rd_pick _ _ _ c44H)) (lC [[0], [0, 0], [0, 1]] (con_spec_l11Play_put _ _ _ c45H))) ?_
                            obtain ⟨v21, h, c47⟩ := bI h
                            refine zS (zRF c47) ?_
                            refine sem_ifh rfl h ?_ ?_ <;> clear h <;> intro h
                            · refine zU z0 (r_bN hk5 ?_)
                              obtain rfl := Option.some.inj h
                              refine r_eAN hQ rfl rfl ?_
                              simp (decide := true) only [go_sem, reduceIte, Nat.reduceAdd, Int.reduceToNat, Nat.reduceSub, Nat.reduceMul]
                              all_goals first | exact wkEnd_same (.inl ⟨rfl, rfl⟩) | exact True.intro
                            · refine r_skip (r_bN hk5 ?_)
                              obtain rfl := Option.some.inj h
                              refine r_eAN hQ rfl rfl ?_
                              simp (decide := true) only [go_sem, reduceIte, Nat.reduceAdd, Int.reduceToNat, Nat.reduceSub, Nat.reduceMul]
                              all_goals first | exact wkEnd_same (.inl ⟨rfl, rfl⟩) | exact True.intro
                        · refine r_skip (r_bN hk5 ?_)
                          obtain rfl := Option.some.inj h
                          refine r_eAN hQ rfl rfl ?_
                          simp (decide := true) only [go_sem, reduceIte, Nat.reduceAdd, Int.reduceToNat, Nat.reduceSub, Nat.reduceMul]
                          all_goals first | exact wkEnd_same (.inr ⟨rfl, rfl⟩) | exact True.intro
        · intro k49 hk49 J48
          refine zS z0 ?_
          refine sem_ifh rfl h ?_ ?_ <;> clear h <;> intro h
          · refine r_skip (zJ J48 [0, 2, 11, 67] () _ h)
          · refine zU z0 (zJ J48 [0, 2, 11, 67] () _ h)
    · intro k52 hk52 J51
      refine zS z0 ?_
      refine sem_ifh rfl h ?_ ?_ <;> clear h <;> intro h
      · refine r_skip (zJ J51 [0, 2, 11, 49] () _ h)
      · refine zU z0 (zJ J51 [0, 2, 11, 49] () _ h)
  · intro k55 hk55 J54
    refine zS z0 ?_
    refine sem_ifh rfl h ?_ ?_ <;> clear h <;> intro h
    · refine zU z0 (zJ J54 [0, 2] () _ h)
    · refine r_skip (zJ J54 [0, 2] () _ h)
noncomputable def spec_l11Play_rung_j24 : ((List Int) × Int × (List Inst) × Int × Int × Bool × Bool) → Option l11Play
  | (v38, v39, v40, v41, v42, v43, v44) => (Option.bind (spec_l11Play_put (⟨(⟨v38, v39⟩ : l26Rd), v40, v41, v42, v43, v44⟩ : l11Play) 11) fun v45 => (some (⟨(⟨v45.r.b, v45.r.p⟩ : l26Rd), v45.out, 0, v45.forks, v45.base, v45.fresh⟩ : l11Play)))
noncomputable def spec_l11Play_rung_s26 : ((List Int) × Int × (List Inst) × Int × Int × Bool × Bool) → Option (((List Int) × Int × (List Inst) × Int × Int × Bool × Bool) ⊕ ((List Int) × Int × (List Inst) × Int × Int × Bool × Bool))
  | (v48, v49, v50, v51, v52, v53, v54) => (cond (decide (v52 > 0)) (Option.bind (spec_l11Play_put (⟨(⟨v48, v49⟩ : l26Rd), v50, v51, v52, v53, v54⟩ : l11Play) 9) fun v58 => (Option.bind (spec_l11Play_close (⟨(⟨v58.r.b, v58.r.p⟩ : l26Rd), v58.out, v58.bits, (IntKind.i64.wrap (v58.forks - 1)), v58.base, v58.fresh⟩ : l11Play)) fun v59 => (some (.inl (v59.r.b, v59.r.p, v59.out, v59.bits, v59.forks, v59.base, v59.fresh))))) (some (.inr (v48, v49, v50, v51, v52, v53, v54))))
noncomputable def spec_l11Play_rung_j7 : ((List Int) × Int × (List Inst) × Int × Int × Bool × Bool) → Option l11Play
  | (v16, v17, v18, v19, v20, v21, v22) => (Option.bind (spec_l11Play_close (⟨(⟨v16, v17⟩ : l26Rd), v18, v19, v20, v21, v22⟩ : l11Play)) fun v23 => ((loop spec_l11Play_rung_s26 (v23.r.b, v23.r.p, v23.out, v23.bits, v23.forks, v23.base, v23.fresh)).bind (fun v57 => (spec_l11Play_rung_j24 (v57.1, v57.2.1, v57.2.2.1, v57.2.2.2.1, v57.2.2.2.2.1, v57.2.2.2.2.2.1, v57.2.2.2.2.2.2)))))
noncomputable def spec_l11Play_rung_s11 (v2 : Int) : ((List Int) × Int × (List Inst) × Int × Int × Bool × Bool × Int) → Option (((List Int) × Int × (List Inst) × Int × Int × Bool × Bool × Int) ⊕ ((List Int) × Int × (List Inst) × Int × Int × Bool × Bool))
  | (v97, v98, v99, v100, v101, v102, v103, v104) => (cond (decide (v104 < v2)) (Option.bind (spec_l11Play_step (⟨(⟨v97, v98⟩ : l26Rd), v99, v100, v101, v102, v103⟩ : l11Play)) fun v107 => (some (.inl (v107.r.b, v107.r.p, v107.out, v107.bits, v107.forks, v107.base, v107.fresh, (IntKind.i64.wrap (v104 + 1)))))) (some (.inr (v97, v98, v99, v100, v101, v102, v103))))
noncomputable def spec_l11Play_rung (v1 : l11Play) (v2 : Int) : Option l11Play :=
  (Option.bind (spec_l11Play_put (⟨(⟨v1.r.b, v1.r.p⟩ : l26Rd), v1.out, v1.bits, v1.forks, false, v1.fresh⟩ : l11Play) 1) fun v3 => ((loop (spec_l11Play_rung_s11 v2) (v3.r.b, v3.r.p, v3.out, 1, v3.forks, v3.base, v3.fresh, 0)).bind (fun v106 => (spec_l11Play_rung_j7 (v106.1, v106.2.1, v106.2.2.1, v106.2.2.2.1, v106.2.2.2.2.1, v106.2.2.2.2.2.1, v106.2.2.2.2.2.2)))))
theorem con_spec_l11Play_rung_1 (v1 : l11Play) (v2 : Int) (res_ : l11Play) (h : spec_l11Play_rung v1 v2 = some res_) : Con Try.prog C0 74 [.pt 0 0, .sc (.int .i64 (v2))] [.rc [.pt 1 0, .sl 2 0 ((v1.out).length), .sc (.int .i64 (v1.bits)), .sc (.int .i64 (v1.forks)), .sc (.bool (v1.base)), .sc (.bool (v1.fresh))], .rc [.fz 1 (R e_u8 (v1.r.b)), .sc (.int .i64 (v1.r.p))], .arr true 3 (R e_Inst (v1.out))]
    (fun x σ' => x = .tup [] ∧ σ' = [.rc [.pt 1 0, .sl 3 0 ((res_.out).length), .sc (.int .i64 (res_.bits)), .sc (.int .i64 (res_.forks)), .sc (.bool (res_.base)), .sc (.bool (res_.fresh))], .rc [.fz 1 (R e_u8 (res_.r.b)), .sc (.int .i64 (res_.r.p))], .dead, .arr true 3 (R e_Inst (res_.out))]) := by
  refine zCon hP 3 [0, 1, 4, 15, 26] [] Try.func74 (by unfold Try.f74; rfl) fun Q hQ => ?_
  unfold spec_l11Play_rung at h
  refine zS z0 ?_
  obtain ⟨v3, c3H, h⟩ := bind_some' h
  refine zS (zC1 (lC [[0], [0, 0], [0, 1]] (con_spec_l11Play_put _ _ _ c3H))) (zS z0 ?_)
  refine zCut (fun (x : ((List Int) × Int × (List Inst) × Int × Int × Bool × Bool)) => ⟨[(0, .pt 0 0)], [.rc [.pt 1 0, .sl 3 0 ((x.2.2.1).length), .sc (.int .i64 (x.2.2.2.1)), .sc (.int .i64 (x.2.2.2.2.1)), .sc (.bool (x.2.2.2.2.2.1)), .sc (.bool (x.2.2.2.2.2.2))], .rc [.fz 1 (R e_u8 (x.1)), .sc (.int .i64 (x.2.1))], .dead, .arr true 3 (R e_Inst (x.2.2.1))]⟩) spec_l11Play_rung_j7 res_ ?_ ?_
  · rintro _ ⟨v16, v17, v18, v19, v20, v21, v22⟩ h
    simp only [spec_l11Play_rung_j7] at h
    refine sem_cut fun k23 hk23 => ?_
    obtain ⟨v23, c24H, h⟩ := bind_some' h
    repeat' (first | with_reducible refine And.intro ?_ ?_ | ((with_reducible refine i_call (n := 82) ?_); refine call_open [[0], [0, 0], [0, 1]] ?_) | ((with_reducible refine i_callW (n := 82) ?_); refine callW_use (con_spec_l11Play_close (⟨(⟨v16, v17⟩ : l26Rd), v18, v19, v20, v21, v22⟩ : l11Play) v23 c24H) ?_; rintro x σ' (⟨rfl, rfl⟩ | ⟨rfl, rfl⟩) <;> ((with_reducible refine behind_go ?_))) | exact True.intro | with_reducible assumption | exact fun hf => False.elim hf | (intro hg; first | (simp +contextual [hg]; done) | grind) | omega | simp (decide := true) only [go_sem, reduceIte, Nat.reduceAdd, Int.reduceToNat, Nat.reduceSub, Nat.reduceMul])
    · refine r_cN hk23 (zCut (fun (x : ((List Int) × Int × (List Inst) × Int × Int × Bool × Bool)) => ⟨[(0, .pt 0 0)], [.rc [.pt 1 0, .sl 3 0 ((x.2.2.1).length), .sc (.int .i64 (x.2.2.2.1)), .sc (.int .i64 (x.2.2.2.2.1)), .sc (.bool (x.2.2.2.2.2.1)), .sc (.bool (x.2.2.2.2.2.2))], .rc [.fz 1 (R e_u8 (x.1)), .sc (.int .i64 (x.2.1))], .dead, .arr true 3 (R e_Inst (x.2.2.1))]⟩) spec_l11Play_rung_j24 res_ ?_ ?_)
      · rintro _ ⟨v38, v39, v40, v41, v42, v43, v44⟩ h
        simp only [spec_l11Play_rung_j24] at h
        obtain ⟨v45, c49H, h⟩ := bind_some' h
        refine zS (zC1 (lC [[0], [0, 0], [0, 1]] (con_spec_l11Play_put _ _ _ c49H))) (zU z0 ?_)
        cases h
        refine zAN hQ
      · intro k51 hk51 J50
        refine sem_blk fun k52 hk52 => ?_
        obtain ⟨oq67, hLq67, hKq67⟩ := bind_some' h
        clear h
        refine sem_loopP [0] (fun (_ : Unit) (x : ((List Int) × Int × (List Inst) × Int × Int × Bool × Bool)) => (⟨[(0, .pt 0 0)], [.rc [.pt 1 0, .sl 3 0 ((x.2.2.1).length), .sc (.int .i64 (x.2.2.2.1)), .sc (.int .i64 (x.2.2.2.2.1)), .sc (.bool (x.2.2.2.2.2.1)), .sc (.bool (x.2.2.2.2.2.2))], .rc [.fz 1 (R e_u8 (x.1)), .sc (.int .i64 (x.2.1))], .dead, .arr true 3 (R e_Inst (x.2.2.1))]⟩ : St)) (fun (_ : Unit) (x : ((List Int) × Int × (List Inst) × Int × Int × Bool × Bool)) => True) spec_l11Play_rung_s26 () (v23.r.b, v23.r.p, v23.out, v23.bits, v23.forks, v23.base, v23.fresh) hLq67 (by rfl) (by rfl) ⟨?_, trivial⟩ ?_
        · first | exact wkSt_same rfl | (simp (decide := true) only [go_sem, reduceIte, Nat.reduceAdd, Int.reduceToNat, Nat.reduceSub, Nat.reduceMul]; exact wkSt_same rfl)
        · rintro nq67 _ ⟨v48, v49, v50, v51, v52, v53, v54⟩ xq67 kq67 hkq67 - h hIq67 hEq67
          simp only [spec_l11Play_rung_s26] at h
          refine sem_cut fun k68 hk68 => zS z0 ?_
          refine sem_ifh rfl h ?_ ?_ <;> clear h <;> intro h
          · refine r_skip (r_cN hk68 ?_)
            refine sem_blk fun k70 hk70 => ?_
            obtain ⟨v58, c72H, h⟩ := bind_some' h
            refine zS (zC1 (lC [[0], [0, 0], [0, 1]] (con_spec_l11Play_put _ _ _ c72H))) (zS z0 ?_)
            obtain ⟨v59, c74H, h⟩ := bind_some' h
            repeat' (first | with_reducible refine And.intro ?_ ?_ | ((with_reducible refine i_call (n := 82) ?_); refine call_open [[0], [0, 0], [0, 1]] ?_) | ((with_reducible refine i_callW (n := 82) ?_); refine callW_use (con_spec_l11Play_close (⟨(⟨v58.r.b, v58.r.p⟩ : l26Rd), v58.out, v58.bits, (IntKind.i64.wrap (v58.forks - 1)), v58.base, v58.fresh⟩ : l11Play) v59 c74H) ?_; rintro x σ' (⟨rfl, rfl⟩ | ⟨rfl, rfl⟩) <;> ((with_reducible refine behind_go ?_))) | exact True.intro | with_reducible assumption | exact fun hf => False.elim hf | (intro hg; first | (simp +contextual [hg]; done) | grind) | omega | simp (decide := true) only [go_sem, reduceIte, Nat.reduceAdd, Int.reduceToNat, Nat.reduceSub, Nat.reduceMul])
            · refine r_bN hk70 (zB hkq67 h hIq67 () trivial)
            · refine r_bN hk70 (zB hkq67 h hIq67 () trivial)
          · refine r_exit (r_cE hk68 ?_)
            replace h := zX h hEq67 hKq67
            refine r_kE hkq67 (r_bE hk52 ?_)
            refine zJ J50 [0] () _ h
    · refine r_cN hk23 (zCut (fun (x : ((List Int) × Int × (List Inst) × Int × Int × Bool × Bool)) => ⟨[(0, .pt 0 0)], [.rc [.pt 1 0, .sl 3 0 ((x.2.2.1).length), .sc (.int .i64 (x.2.2.2.1)), .sc (.int .i64 (x.2.2.2.2.1)), .sc (.bool (x.2.2.2.2.2.1)), .sc (.bool (x.2.2.2.2.2.2))], .rc [.fz 1 (R e_u8 (x.1)), .sc (.int .i64 (x.2.1))], .dead, .arr true 3 (R e_Inst (x.2.2.1))]⟩) spec_l11Play_rung_j24 res_ ?_ ?_)
      · rintro _ ⟨v74, v75, v76, v77, v78, v79, v80⟩ h
        simp only [spec_l11Play_rung_j24] at h
        obtain ⟨v81, c99H, h⟩ := bind_some' h
        refine zS (zC1 (lC [[0], [0, 0], [0, 1]] (con_spec_l11Play_put _ _ _ c99H))) (zU z0 ?_)
        cases h
        refine zAN hQ
      · intro k101 hk101 J100
        refine sem_blk fun k102 hk102 => ?_
        obtain ⟨oq117, hLq117, hKq117⟩ := bind_some' h
        clear h
        refine sem_loopP [0] (fun (_ : Unit) (x : ((List Int) × Int × (List Inst) × Int × Int × Bool × Bool)) => (⟨[(0, .pt 0 0)], [.rc [.pt 1 0, .sl 3 0 ((x.2.2.1).length), .sc (.int .i64 (x.2.2.2.1)), .sc (.int .i64 (x.2.2.2.2.1)), .sc (.bool (x.2.2.2.2.2.1)), .sc (.bool (x.2.2.2.2.2.2))], .rc [.fz 1 (R e_u8 (x.1)), .sc (.int .i64 (x.2.1))], .dead, .arr true 3 (R e_Inst (x.2.2.1))]⟩ : St)) (fun (_ : Unit) (x : ((List Int) × Int × (List Inst) × Int × Int × Bool × Bool)) => True) spec_l11Play_rung_s26 () (v23.r.b, v23.r.p, v23.out, v23.bits, v23.forks, v23.base, v23.fresh) hLq117 (by rfl) (by rfl) ⟨?_, trivial⟩ ?_
        · first | exact wkSt_same rfl | (simp (decide := true) only [go_sem, reduceIte, Nat.reduceAdd, Int.reduceToNat, Nat.reduceSub, Nat.reduceMul]; exact wkSt_same rfl)
        · rintro nq117 _ ⟨v84, v85, v86, v87, v88, v89, v90⟩ xq117 kq117 hkq117 - h hIq117 hEq117
          simp only [spec_l11Play_rung_s26] at h
          refine sem_cut fun k118 hk118 => zS z0 ?_
          refine sem_ifh rfl h ?_ ?_ <;> clear h <;> intro h
          · refine r_skip (r_cN hk118 ?_)
            refine sem_blk fun k120 hk120 => ?_
            obtain ⟨v94, c122H, h⟩ := bind_some' h
            refine zS (zC1 (lC [[0], [0, 0], [0, 1]] (con_spec_l11Play_put _ _ _ c122H))) (zS z0 ?_)
            obtain ⟨v95, c124H, h⟩ := bind_some' h
            repeat' (first | with_reducible refine And.intro ?_ ?_ | ((with_reducible refine i_call (n := 82) ?_); refine call_open [[0], [0, 0], [0, 1]] ?_) | ((with_reducible refine i_callW (n := 82) ?_); refine callW_use (con_spec_l11Play_close (⟨(⟨v94.r.b, v94.r.p⟩ : l26Rd), v94.out, v94.bits, (IntKind.i64.wrap (v94.forks - 1)), v94.base, v94.fresh⟩ : l11Play) v95 c124H) ?_; rintro x σ' (⟨rfl, rfl⟩ | ⟨rfl, rfl⟩) <;> ((with_reducible refine behind_go ?_))) | exact True.intro | with_reducible assumption | exact fun hf => False.elim hf | (intro hg; first | (simp +contextual [hg]; done) | grind) | omega | simp (decide := true) only [go_sem, reduceIte, Nat.reduceAdd, Int.reduceToNat, Nat.reduceSub, Nat.reduceMul])
            · refine r_bN hk120 (zB hkq117 h hIq117 () trivial)
            · refine r_bN hk120 (zB hkq117 h hIq117 () trivial)
          · refine r_exit (r_cE hk118 ?_)
            replace h := zX h hEq117 hKq117
            refine r_kE hkq117 (r_bE hk102 ?_)
            refine zJ J100 [0] () _ h
  · intro k126 hk126 J125
    refine zS z0 (sem_blk fun k128 hk128 => ?_)
    obtain ⟨oq139, hLq139, hKq139⟩ := bind_some' h
    clear h
    refine sem_loopP [0, 1, 4] (fun (_ : Unit) (x : ((List Int) × Int × (List Inst) × Int × Int × Bool × Bool × Int)) => (⟨[(0, .pt 0 0), (1, .sc (.int .i64 (v2))), (4, .sc (.int .i64 (x.2.2.2.2.2.2.2)))], [.rc [.pt 1 0, .sl 3 0 ((x.2.2.1).length), .sc (.int .i64 (x.2.2.2.1)), .sc (.int .i64 (x.2.2.2.2.1)), .sc (.bool (x.2.2.2.2.2.1)), .sc (.bool (x.2.2.2.2.2.2.1))], .rc [.fz 1 (R e_u8 (x.1)), .sc (.int .i64 (x.2.1))], .dead, .arr true 3 (R e_Inst (x.2.2.1))]⟩ : St)) (fun (_ : Unit) (x : ((List Int) × Int × (List Inst) × Int × Int × Bool × Bool × Int)) => True) (spec_l11Play_rung_s11 v2) () (v3.r.b, v3.r.p, v3.out, 1, v3.forks, v3.base, v3.fresh, 0) hLq139 (by rfl) (by rfl) ⟨?_, trivial⟩ ?_
    · first | exact wkSt_same rfl | (simp (decide := true) only [go_sem, reduceIte, Nat.reduceAdd, Int.reduceToNat, Nat.reduceSub, Nat.reduceMul]; exact wkSt_same rfl)
    · rintro nq139 _ ⟨v97, v98, v99, v100, v101, v102, v103, v104⟩ xq139 kq139 hkq139 - h hIq139 hEq139
      simp only [spec_l11Play_rung_s11] at h
      refine sem_cut fun k140 hk140 => zS z0 ?_
      refine sem_ifh rfl h ?_ ?_ <;> clear h <;> intro h
      · refine r_skip (r_cN hk140 ?_)
        refine sem_cut fun k142 hk142 => sem_blk fun k143 hk143 => ?_
        obtain ⟨v107, c144H, h⟩ := bind_some' h
        repeat' (first | with_reducible refine And.intro ?_ ?_ | ((with_reducible refine i_call (n := 81) ?_); refine call_open [[0], [0, 0], [0, 1]] ?_) | ((with_reducible refine i_callW (n := 81) ?_); refine callW_use (con_spec_l11Play_step (⟨(⟨v97, v98⟩ : l26Rd), v99, v100, v101, v102, v103⟩ : l11Play) v107 c144H) ?_; rintro x σ' (⟨rfl, rfl⟩ | ⟨rfl, rfl⟩) <;> ((with_reducible refine behind_go ?_))) | exact True.intro | with_reducible assumption | exact fun hf => False.elim hf | (intro hg; first | (simp +contextual [hg]; done) | grind) | omega | simp (decide := true) only [go_sem, reduceIte, Nat.reduceAdd, Int.reduceToNat, Nat.reduceSub, Nat.reduceMul])
        · refine r_bN hk143 (r_cN hk142 ?_)
          refine zU z0 (zB hkq139 h hIq139 () trivial)
        · refine r_bN hk143 (r_cN hk142 ?_)
          refine zU z0 (zB hkq139 h hIq139 () trivial)
      · refine r_exit (r_cE hk140 ?_)
        replace h := zX h hEq139 hKq139
        refine r_kE hkq139 (r_bE hk128 ?_)
        refine zJ J125 [0] () _ h
theorem con_spec_l11Play_put_1 (v1 : l11Play) (v2 : Int) (res_ : l11Play) (h : spec_l11Play_put v1 v2 = some res_) (hn0 : v1.out = []) : Con Try.prog C0 80 [.pt 0 0, .sc (.int .i64 (v2))] [.rc [.pt 1 0, .sc (.slice none 0 0), .sc (.int .i64 (v1.bits)), .sc (.int .i64 (v1.forks)), .sc (.bool (v1.base)), .sc (.bool (v1.fresh))], .rc [.fz 1 (R e_u8 (v1.r.b)), .sc (.int .i64 (v1.r.p))]]
    (fun x σ' => x = .tup [] ∧ σ' = [.rc [.pt 1 0, .sl 2 0 ((res_.out).length), .sc (.int .i64 (res_.bits)), .sc (.int .i64 (res_.forks)), .sc (.bool (res_.base)), .sc (.bool (res_.fresh))], .rc [.fz 1 (R e_u8 (res_.r.b)), .sc (.int .i64 (res_.r.p))], .arr true 3 (R e_Inst (res_.out))]) := by
  refine zCon hP 2 [0, 1, 4, 8, 16, 43] [] Try.func80 (by unfold Try.f80; rfl) fun Q hQ => ?_
  unfold spec_l11Play_put at h
  obtain ⟨v1_r, v1_out, v1_bits, v1_forks, v1_base, v1_fresh⟩ := v1
  replace hn0 : v1_out = [] := hn0
  subst hn0
  try dsimp only at h
  refine zS z0 (sem_cutJ (fun (i : P2) (x : ((List Int) × Int × Int × (List DevArg))) => match i with | .a => (⟨[(0, .pt 0 0), (1, .sc (.int .i64 (v2))), (4, .pt 2 0)], [.rc [.pt 1 0, .sc (.slice none 0 0), .sc (.int .i64 (v1_bits)), .sc (.int .i64 (v1_forks)), .sc (.bool (v1_base)), .sc (.bool (v1_fresh))], .rc [.fz 1 (R e_u8 (x.1)), .sc (.int .i64 (x.2.1))], .rc [.sc (.int .i64 (v2)), .sc (.int .i64 (x.2.2.1)), .sl 3 0 ((x.2.2.2).length)], .arr true 3 (R e_DevArg (x.2.2.2))]⟩ : St) | .b => (⟨[(0, .pt 0 0), (1, .sc (.int .i64 (v2))), (4, .pt 2 0)], [.rc [.pt 1 0, .sc (.slice none 0 0), .sc (.int .i64 (v1_bits)), .sc (.int .i64 (v1_forks)), .sc (.bool (v1_base)), .sc (.bool (v1_fresh))], .rc [.fz 1 (R e_u8 (x.1)), .sc (.int .i64 (x.2.1))], .rc [.sc (.int .i64 (v2)), .sc (.int .i64 (x.2.2.1)), .sc (.slice none 0 0)]]⟩ : St)) (fun (i : P2) (x : ((List Int) × Int × Int × (List DevArg))) => (match i with | .a => True | .b => x.2.2.2 = []) ∧ spec_l11Play_put_j3 (⟨v1_r, [], v1_bits, v1_forks, v1_base, v1_fresh⟩ : l11Play) v2 x = some res_) ?_ ?_)
  · rintro (_ | _) ⟨v4, v5, v6, v7⟩ ⟨hp, h⟩
    · simp only [List.nil_append, List.length_nil, Int.natCast_zero, spec_l11Play_put_j3] at h
      refine sem_cutJ (fun (i : P2) (x : ((List Int) × Int × Int × (List DevArg))) => match i with | .a => (⟨[(0, .pt 0 0), (1, .sc (.int .i64 (v2))), (4, .pt 2 0)], [.rc [.pt 1 0, .sc (.slice none 0 0), .sc (.int .i64 (v1_bits)), .sc (.int .i64 (v1_forks)), .sc (.bool (v1_base)), .sc (.bool (v1_fresh))], .rc [.fz 1 (R e_u8 (x.1)), .sc (.int .i64 (x.2.1))], .rc [.sc (.int .i64 (v2)), .sc (.int .i64 (x.2.2.1)), .fz 3 (R e_DevArg (x.2.2.2))]]⟩ : St) | .b => (⟨[(0, .pt 0 0), (1, .sc (.int .i64 (v2))), (4, .pt 2 0)], [.rc [.pt 1 0, .sc (.slice none 0 0), .sc (.int .i64 (v1_bits)), .sc (.int .i64 (v1_forks)), .sc (.bool (v1_base)), .sc (.bool (v1_fresh))], .rc [.fz 1 (R e_u8 (x.1)), .sc (.int .i64 (x.2.1))], .rc [.sc (.int .i64 (v2)), .sc (.int .i64 (x.2.2.1)), .sl 3 0 ((x.2.2.2).length)], .arr true 3 (R e_DevArg (x.2.2.2))]⟩ : St)) (fun (i : P2) (x : ((List Int) × Int × Int × (List DevArg))) => (match i with | .a => True | .b => True) ∧ spec_l11Play_put_j9 (⟨v1_r, [], v1_bits, v1_forks, v1_base, v1_fresh⟩ : l11Play) v2 x = some res_) ?_ ?_
      · rintro (_ | _) ⟨v9, v10, v11, v12⟩ ⟨hp, h⟩
        · simp only [List.nil_append, List.length_nil, Int.natCast_zero, spec_l11Play_put_j9] at h
          obtain ⟨g7, h⟩ := gAp h
          refine zS (zPRF (.take 0 (.take 1 (.take 2 (.take 3 (.take 4 (.take 5 (.one 6 (.one 7 (.take 8 (.take 9 (.last 10 .done))))))))))) [0, 2] g7) (zS z0 ?_)
          refine zS zR ?_
          refine sem_ifh rfl h ?_ ?_ <;> clear h <;> intro h
          · refine zU z0 ?_
            cases h
            refine zAN hQ
          · refine r_skip ?_
            cases h
            refine zAN hQ
        · simp only [List.nil_append, List.length_nil, Int.natCast_zero, spec_l11Play_put_j9] at h
          obtain ⟨g11, h⟩ := gAp h
          refine zS (zPRF (.take 0 (.take 1 (.take 2 (.take 3 (.take 4 (.take 5 (.one 6 (.one 7 (.take 8 (.take 9 (.last 10 .done))))))))))) [0, 2] g11) (zS z0 ?_)
          refine zS zR ?_
          refine sem_ifh rfl h ?_ ?_ <;> clear h <;> intro h
          · refine zU z0 ?_
            cases h
            refine zAN hQ
          · refine r_skip ?_
            cases h
            refine zAN hQ
      · intro k15 hk15 J14
        refine zS z0 ?_
        refine sem_ifh rfl h ?_ ?_ <;> clear h <;> intro h
        · obtain ⟨v13, c17H, h⟩ := bind_some' h
          refine zU (zC1 (lC [[0]] (con_spec_l4Coil _ _ c17H))) (zJ J14 [0, 1, 4] (.a) (v13.2.b, v13.2.p, v13.1.Op, v13.1.Args) ⟨trivial, h⟩)
        · refine r_skip (zJ J14 [0, 1, 4] (.b) (v4, v5, v6, v7) ⟨trivial, h⟩)
    · replace hp : v7 = [] := hp
      subst hp
      simp only [List.nil_append, List.length_nil, Int.natCast_zero, spec_l11Play_put_j3] at h
      try simp only [List.nil_append, List.length_nil, Int.natCast_zero] at h
      refine zCut (fun (x : ((List Int) × Int × Int × (List DevArg))) => ⟨[(0, .pt 0 0), (1, .sc (.int .i64 (v2))), (4, .pt 2 0)], [.rc [.pt 1 0, .sc (.slice none 0 0), .sc (.int .i64 (v1_bits)), .sc (.int .i64 (v1_forks)), .sc (.bool (v1_base)), .sc (.bool (v1_fresh))], .rc [.fz 1 (R e_u8 (x.1)), .sc (.int .i64 (x.2.1))], .rc [.sc (.int .i64 (v2)), .sc (.int .i64 (x.2.2.1)), .fz 3 (R e_DevArg (x.2.2.2))]]⟩) (spec_l11Play_put_j9 (⟨v1_r, [], v1_bits, v1_forks, v1_base, v1_fresh⟩ : l11Play) v2) res_ ?_ ?_
      · rintro _ ⟨v15, v16, v17, v18⟩ h
        simp only [List.nil_append, List.length_nil, Int.natCast_zero, spec_l11Play_put_j9] at h
        obtain ⟨g21, h⟩ := gAp h
        refine zS (zPRF (.take 0 (.take 1 (.take 2 (.take 3 (.take 4 (.take 5 (.one 6 (.one 7 (.take 8 (.take 9 (.last 10 .done))))))))))) [0, 2] g21) (zS z0 ?_)
        refine zS zR ?_
        refine sem_ifh rfl h ?_ ?_ <;> clear h <;> intro h
        · refine zU z0 ?_
          cases h
          refine zAN hQ
        · refine r_skip ?_
          cases h
          refine zAN hQ
      · intro k25 hk25 J24
        refine zS z0 ?_
        refine sem_ifh rfl h ?_ ?_ <;> clear h <;> intro h
        · obtain ⟨v19, c27H, h⟩ := bind_some' h
          refine zU (zC1 (lC [[0]] (con_spec_l4Coil _ _ c27H))) (zJ J24 [0, 1, 4] () _ h)
        · refine r_skip (zJw J24 [0, 1, 4] () _ h)
  · intro k29 hk29 J28
    refine zS z0 ?_
    refine sem_ifh rfl h ?_ ?_ <;> clear h <;> intro h
    · obtain ⟨v20, c31H, h⟩ := bind_some' h
      refine zU (zC1 (lC [[0]] (con_spec_l4Contact _ _ c31H))) (zJ J28 [0, 1, 4] (.a) (v20.2.b, v20.2.p, v20.1.Op, v20.1.Args) ⟨trivial, h⟩)
    · refine r_skip (zJ J28 [0, 1, 4] (.b) (v1_r.b, v1_r.p, 0, []) ⟨rfl, h⟩)
theorem con_spec_l11Play_rung (v1 : l11Play) (v2 : Int) (res_ : l11Play) (h : spec_l11Play_rung v1 v2 = some res_) (hn0 : v1.out = []) : Con Try.prog C0 74 [.pt 0 0, .sc (.int .i64 (v2))] [.rc [.pt 1 0, .sc (.slice none 0 0), .sc (.int .i64 (v1.bits)), .sc (.int .i64 (v1.forks)), .sc (.bool (v1.base)), .sc (.bool (v1.fresh))], .rc [.fz 1 (R e_u8 (v1.r.b)), .sc (.int .i64 (v1.r.p))]]
    (fun x σ' => x = .tup [] ∧ σ' = [.rc [.pt 1 0, .sl 2 0 ((res_.out).length), .sc (.int .i64 (res_.bits)), .sc (.int .i64 (res_.forks)), .sc (.bool (res_.base)), .sc (.bool (res_.fresh))], .rc [.fz 1 (R e_u8 (res_.r.b)), .sc (.int .i64 (res_.r.p))], .arr true 3 (R e_Inst (res_.out))]) := by
  refine zCon hP 2 [0, 1, 4, 15, 26] [] Try.func74 (by unfold Try.f74; rfl) fun Q hQ => ?_
  unfold spec_l11Play_rung at h
  obtain ⟨v1_r, v1_out, v1_bits, v1_forks, v1_base, v1_fresh⟩ := v1
  replace hn0 : v1_out = [] := hn0
  subst hn0
  try dsimp only at h
  refine zS z0 ?_
  obtain ⟨v3, c3H, h⟩ := bind_some' h
  refine zS (zC1 (lC [[0], [0, 0]] (con_spec_l11Play_put_1 _ _ _ c3H rfl))) (zS z0 ?_)
  refine zCut (fun (x : ((List Int) × Int × (List Inst) × Int × Int × Bool × Bool)) => ⟨[(0, .pt 0 0)], [.rc [.pt 1 0, .sl 2 0 ((x.2.2.1).length), .sc (.int .i64 (x.2.2.2.1)), .sc (.int .i64 (x.2.2.2.2.1)), .sc (.bool (x.2.2.2.2.2.1)), .sc (.bool (x.2.2.2.2.2.2))], .rc [.fz 1 (R e_u8 (x.1)), .sc (.int .i64 (x.2.1))], .arr true 3 (R e_Inst (x.2.2.1))]⟩) spec_l11Play_rung_j7 res_ ?_ ?_
  · rintro _ ⟨v16, v17, v18, v19, v20, v21, v22⟩ h
    simp only [List.nil_append, List.length_nil, Int.natCast_zero, spec_l11Play_rung_j7] at h
    refine sem_cut fun k23 hk23 => ?_
    obtain ⟨v23, c24H, h⟩ := bind_some' h
    repeat' (first | with_reducible refine And.intro ?_ ?_ | ((with_reducible refine i_call (n := 82) ?_); refine call_open [[0], [0, 0], [0, 1]] ?_) | ((with_reducible refine i_callW (n := 82) ?_); refine callW_use (con_spec_l11Play_close (⟨(⟨v16, v17⟩ : l26Rd), v18, v19, v20, v21, v22⟩ : l11Play) v23 c24H) ?_; rintro x σ' (⟨rfl, rfl⟩ | ⟨rfl, rfl⟩) <;> ((with_reducible refine behind_go ?_))) | exact True.intro | with_reducible assumption | exact fun hf => False.elim hf | (intro hg; first | (simp +contextual [hg]; done) | grind) | omega | simp (decide := true) only [go_sem, reduceIte, Nat.reduceAdd, Int.reduceToNat, Nat.reduceSub, Nat.reduceMul])
    · refine r_cN hk23 (zCut (fun (x : ((List Int) × Int × (List Inst) × Int × Int × Bool × Bool)) => ⟨[(0, .pt 0 0)], [.rc [.pt 1 0, .sl 2 0 ((x.2.2.1).length), .sc (.int .i64 (x.2.2.2.1)), .sc (.int .i64 (x.2.2.2.2.1)), .sc (.bool (x.2.2.2.2.2.1)), .sc (.bool (x.2.2.2.2.2.2))], .rc [.fz 1 (R e_u8 (x.1)), .sc (.int .i64 (x.2.1))], .arr true 3 (R e_Inst (x.2.2.1))]⟩) spec_l11Play_rung_j24 res_ ?_ ?_)
      · rintro _ ⟨v38, v39, v40, v41, v42, v43, v44⟩ h
        simp only [List.nil_append, List.length_nil, Int.natCast_zero, spec_l11Play_rung_j24] at h
        obtain ⟨v45, c49H, h⟩ := bind_some' h
        refine zS (zC1 (lC [[0], [0, 0], [0, 1]] (con_spec_l11Play_put _ _ _ c49H))) (zU z0 ?_)
        cases h
        refine zAN hQ
      · intro k51 hk51 J50
        refine sem_blk fun k52 hk52 => ?_
        obtain ⟨oq67, hLq67, hKq67⟩ := bind_some' h
        clear h
        refine sem_loopP [0] (fun (_ : Unit) (x : ((List Int) × Int × (List Inst) × Int × Int × Bool × Bool)) => (⟨[(0, .pt 0 0)], [.rc [.pt 1 0, .sl 2 0 ((x.2.2.1).length), .sc (.int .i64 (x.2.2.2.1)), .sc (.int .i64 (x.2.2.2.2.1)), .sc (.bool (x.2.2.2.2.2.1)), .sc (.bool (x.2.2.2.2.2.2))], .rc [.fz 1 (R e_u8 (x.1)), .sc (.int .i64 (x.2.1))], .arr true 3 (R e_Inst (x.2.2.1))]⟩ : St)) (fun (_ : Unit) (x : ((List Int) × Int × (List Inst) × Int × Int × Bool × Bool)) => True) spec_l11Play_rung_s26 () (v23.r.b, v23.r.p, v23.out, v23.bits, v23.forks, v23.base, v23.fresh) hLq67 (by rfl) (by rfl) ⟨?_, trivial⟩ ?_
        · first | exact wkSt_same rfl | (simp (decide := true) only [go_sem, reduceIte, Nat.reduceAdd, Int.reduceToNat, Nat.reduceSub, Nat.reduceMul]; exact wkSt_same rfl)
        · rintro nq67 _ ⟨v48, v49, v50, v51, v52, v53, v54⟩ xq67 kq67 hkq67 - h hIq67 hEq67
          simp only [List.nil_append, List.length_nil, Int.natCast_zero, spec_l11Play_rung_s26] at h
          refine sem_cut fun k68 hk68 => zS z0 ?_
          refine sem_ifh rfl h ?_ ?_ <;> clear h <;> intro h
          · refine r_skip (r_cN hk68 ?_)
            refine sem_blk fun k70 hk70 => ?_
            obtain ⟨v58, c72H, h⟩ := bind_some' h
            refine zS (zC1 (lC [[0], [0, 0], [0, 1]] (con_spec_l11Play_put _ _ _ c72H))) (zS z0 ?_)
            obtain ⟨v59, c74H, h⟩ := bind_some' h
            repeat' (first | with_reducible refine And.intro ?_ ?_ | ((with_reducible refine i_call (n := 82) ?_); refine call_open [[0], [0, 0], [0, 1]] ?_) | ((with_reducible refine i_callW (n := 82) ?_); refine callW_use (con_spec_l11Play_close (⟨(⟨v58.r.b, v58.r.p⟩ : l26Rd), v58.out, v58.bits, (IntKind.i64.wrap (v58.forks - 1)), v58.base, v58.fresh⟩ : l11Play) v59 c74H) ?_; rintro x σ' (⟨rfl, rfl⟩ | ⟨rfl, rfl⟩) <;> ((with_reducible refine behind_go ?_))) | exact True.intro | with_reducible assumption | exact fun hf => False.elim hf | (intro hg; first | (simp +contextual [hg]; done) | grind) | omega | simp (decide := true) only [go_sem, reduceIte, Nat.reduceAdd, Int.reduceToNat, Nat.reduceSub, Nat.reduceMul])
            · refine r_bN hk70 (zB hkq67 h hIq67 () trivial)
            · refine r_bN hk70 (zB hkq67 h hIq67 () trivial)
          · refine r_exit (r_cE hk68 ?_)
            replace h := zX h hEq67 hKq67
            refine r_kE hkq67 (r_bE hk52 ?_)
            refine zJ J50 [0] () _ h
    · refine r_cN hk23 (zCut (fun (x : ((List Int) × Int × (List Inst) × Int × Int × Bool × Bool)) => ⟨[(0, .pt 0 0)], [.rc [.pt 1 0, .sl 2 0 ((x.2.2.1).length), .sc (.int .i64 (x.2.2.2.1)), .sc (.int .i64 (x.2.2.2.2.1)), .sc (.bool (x.2.2.2.2.2.1)), .sc (.bool (x.2.2.2.2.2.2))], .rc [.fz 1 (R e_u8 (x.1)), .sc (.int .i64 (x.2.1))], .arr true 3 (R e_Inst (x.2.2.1))]⟩) spec_l11Play_rung_j24 res_ ?_ ?_)
      · rintro _ ⟨v74, v75, v76, v77, v78, v79, v80⟩ h
        simp only [List.nil_append, List.length_nil, Int.natCast_zero, spec_l11Play_rung_j24] at h
        obtain ⟨v81, c99H, h⟩ := bind_some' h
        refine zS (zC1 (lC [[0], [0, 0], [0, 1]] (con_spec_l11Play_put _ _ _ c99H))) (zU z0 ?_)
        cases h
        refine zAN hQ
      · intro k101 hk101 J100
        refine sem_blk fun k102 hk102 => ?_
        obtain ⟨oq117, hLq117, hKq117⟩ := bind_some' h
        clear h
        refine sem_loopP [0] (fun (_ : Unit) (x : ((List Int) × Int × (List Inst) × Int × Int × Bool × Bool)) => (⟨[(0, .pt 0 0)], [.rc [.pt 1 0, .sl 2 0 ((x.2.2.1).length), .sc (.int .i64 (x.2.2.2.1)), .sc (.int .i64 (x.2.2.2.2.1)), .sc (.bool (x.2.2.2.2.2.1)), .sc (.bool (x.2.2.2.2.2.2))], .rc [.fz 1 (R e_u8 (x.1)), .sc (.int .i64 (x.2.1))], .arr true 3 (R e_Inst (x.2.2.1))]⟩ : St)) (fun (_ : Unit) (x : ((List Int) × Int × (List Inst) × Int × Int × Bool × Bool)) => True) spec_l11Play_rung_s26 () (v23.r.b, v23.r.p, v23.out, v23.bits, v23.forks, v23.base, v23.fresh) hLq117 (by rfl) (by rfl) ⟨?_, trivial⟩ ?_
        · first | exact wkSt_same rfl | (simp (decide := true) only [go_sem, reduceIte, Nat.reduceAdd, Int.reduceToNat, Nat.reduceSub, Nat.reduceMul]; exact wkSt_same rfl)
        · rintro nq117 _ ⟨v84, v85, v86, v87, v88, v89, v90⟩ xq117 kq117 hkq117 - h hIq117 hEq117
          simp only [List.nil_append, List.length_nil, Int.natCast_zero, spec_l11Play_rung_s26] at h
          refine sem_cut fun k118 hk118 => zS z0 ?_
          refine sem_ifh rfl h ?_ ?_ <;> clear h <;> intro h
          · refine r_skip (r_cN hk118 ?_)
            refine sem_blk fun k120 hk120 => ?_
            obtain ⟨v94, c122H, h⟩ := bind_some' h
            refine zS (zC1 (lC [[0], [0, 0], [0, 1]] (con_spec_l11Play_put _ _ _ c122H))) (zS z0 ?_)
            obtain ⟨v95, c124H, h⟩ := bind_some' h
            repeat' (first | with_reducible refine And.intro ?_ ?_ | ((with_reducible refine i_call (n := 82) ?_); refine call_open [[0], [0, 0], [0, 1]] ?_) | ((with_reducible refine i_callW (n := 82) ?_); refine callW_use (con_spec_l11Play_close (⟨(⟨v94.r.b, v94.r.p⟩ : l26Rd), v94.out, v94.bits, (IntKind.i64.wrap (v94.forks - 1)), v94.base, v94.fresh⟩ : l11Play) v95 c124H) ?_; rintro x σ' (⟨rfl, rfl⟩ | ⟨rfl, rfl⟩) <;> ((with_reducible refine behind_go ?_))) | exact True.intro | with_reducible assumption | exact fun hf => False.elim hf | (intro hg; first | (simp +contextual [hg]; done) | grind) | omega | simp (decide := true) only [go_sem, reduceIte, Nat.reduceAdd, Int.reduceToNat, Nat.reduceSub, Nat.reduceMul])
            · refine r_bN hk120 (zB hkq117 h hIq117 () trivial)
            · refine r_bN hk120 (zB hkq117 h hIq117 () trivial)
          · refine r_exit (r_cE hk118 ?_)
            replace h := zX h hEq117 hKq117
            refine r_kE hkq117 (r_bE hk102 ?_)
            refine zJ J100 [0] () _ h
  · intro k126 hk126 J125
    refine zS z0 (sem_blk fun k128 hk128 => ?_)
    obtain ⟨oq139, hLq139, hKq139⟩ := bind_some' h
    clear h
    refine sem_loopP [0, 1, 4] (fun (_ : Unit) (x : ((List Int) × Int × (List Inst) × Int × Int × Bool × Bool × Int)) => (⟨[(0, .pt 0 0), (1, .sc (.int .i64 (v2))), (4, .sc (.int .i64 (x.2.2.2.2.2.2.2)))], [.rc [.pt 1 0, .sl 2 0 ((x.2.2.1).length), .sc (.int .i64 (x.2.2.2.1)), .sc (.int .i64 (x.2.2.2.2.1)), .sc (.bool (x.2.2.2.2.2.1)), .sc (.bool (x.2.2.2.2.2.2.1))], .rc [.fz 1 (R e_u8 (x.1)), .sc (.int .i64 (x.2.1))], .arr true 3 (R e_Inst (x.2.2.1))]⟩ : St)) (fun (_ : Unit) (x : ((List Int) × Int × (List Inst) × Int × Int × Bool × Bool × Int)) => True) (spec_l11Play_rung_s11 v2) () (v3.r.b, v3.r.p, v3.out, 1, v3.forks, v3.base, v3.fresh, 0) hLq139 (by rfl) (by rfl) ⟨?_, trivial⟩ ?_
    · first | exact wkSt_same rfl | (simp (decide := true) only [go_sem, reduceIte, Nat.reduceAdd, Int.reduceToNat, Nat.reduceSub, Nat.reduceMul]; exact wkSt_same rfl)
    · rintro nq139 _ ⟨v97, v98, v99, v100, v101, v102, v103, v104⟩ xq139 kq139 hkq139 - h hIq139 hEq139
      simp only [List.nil_append, List.length_nil, Int.natCast_zero, spec_l11Play_rung_s11] at h
      refine sem_cut fun k140 hk140 => zS z0 ?_
      refine sem_ifh rfl h ?_ ?_ <;> clear h <;> intro h
      · refine r_skip (r_cN hk140 ?_)
        refine sem_cut fun k142 hk142 => sem_blk fun k143 hk143 => ?_
        obtain ⟨v107, c144H, h⟩ := bind_some' h
        repeat' (first | with_reducible refine And.intro ?_ ?_ | ((with_reducible refine i_call (n := 81) ?_); refine call_open [[0], [0, 0], [0, 1]] ?_) | ((with_reducible refine i_callW (n := 81) ?_); refine callW_use (con_spec_l11Play_step (⟨(⟨v97, v98⟩ : l26Rd), v99, v100, v101, v102, v103⟩ : l11Play) v107 c144H) ?_; rintro x σ' (⟨rfl, rfl⟩ | ⟨rfl, rfl⟩) <;> ((with_reducible refine behind_go ?_))) | exact True.intro | with_reducible assumption | exact fun hf => False.elim hf | (intro hg; first | (simp +contextual [hg]; done) | grind) | omega | simp (decide := true) only [go_sem, reduceIte, Nat.reduceAdd, Int.reduceToNat, Nat.reduceSub, Nat.reduceMul])
        · refine r_bN hk143 (r_cN hk142 ?_)
          refine zU z0 (zB hkq139 h hIq139 () trivial)
        · refine r_bN hk143 (r_cN hk142 ?_)
          refine zU z0 (zB hkq139 h hIq139 () trivial)
      · refine r_exit (r_cE hk140 ?_)
        replace h := zX h hEq139 hKq139
        refine r_kE hkq139 (r_bE hk128 ?_)
        refine zJ J125 [0] () _ h
noncomputable def spec_l11Sure_j28 : ((List Int) × Int × (List Inst) × Int × Int × Bool × Bool) → Option ((List Inst) × l26Rd)
  | (v45, v46, v47, v48, v49, v50, v51) => (some (v47, (⟨v45, v46⟩ : l26Rd)))
noncomputable def spec_l11Sure_s33 : ((List Int) × Int × (List Inst) × Int × Int × Bool × Bool) → Option (((List Int) × Int × (List Inst) × Int × Int × Bool × Bool) ⊕ ((List Int) × Int × (List Inst) × Int × Int × Bool × Bool))
  | (v55, v56, v57, v58, v59, v60, v61) => (cond (decide ((((v57).length : Nat) : Int) < 60)) (Option.bind (spec_l26Rd_pick (⟨v55, v56⟩ : l26Rd) 40) fun v65 => (Option.bind (spec_l11Play_rung (⟨v65.2, v57, v58, v59, v60, v61⟩ : l11Play) v65.1) fun v66 => (some (.inl (v66.r.b, v66.r.p, v66.out, v66.bits, v66.forks, v66.base, v66.fresh))))) (some (.inr (v55, v56, v57, v58, v59, v60, v61))))
noncomputable def spec_l11Sure_j13 : ((List Int) × Int × (List Inst) × Int × Int × Bool × Bool) → Option ((List Inst) × l26Rd)
  | (v23, v24, v25, v26, v27, v28, v29) => (Option.bind (spec_l26Rd_pick (⟨v23, v24⟩ : l26Rd) 16) fun v52 => (cond (v52.1 == 0) ((loop spec_l11Sure_s33 (v52.2.b, v52.2.p, v25, v26, v27, v28, v29)).bind (fun v64 => (spec_l11Sure_j28 (v64.1, v64.2.1, v64.2.2.1, v64.2.2.2.1, v64.2.2.2.2.1, v64.2.2.2.2.2.1, v64.2.2.2.2.2.2)))) (spec_l11Sure_j28 (v52.2.b, v52.2.p, v25, v26, v27, v28, v29))))
noncomputable def spec_l11Sure_s17 : ((List Int) × Int × (List Inst) × Int × Int × Bool × Bool × Int) → Option (((List Int) × Int × (List Inst) × Int × Int × Bool × Bool × Int) ⊕ ((List Int) × Int × (List Inst) × Int × Int × Bool × Bool))
  | (v115, v116, v117, v118, v119, v120, v121, v122) => (cond (decide (v122 > 0)) (Option.bind (spec_l26Rd_pick (⟨v115, v116⟩ : l26Rd) 14) fun v128 => (Option.bind (spec_l11Play_rung (⟨v128.2, v117, v118, v119, v120, v121⟩ : l11Play) v128.1) fun v129 => (some (.inl (v129.r.b, v129.r.p, v129.out, v129.bits, v129.forks, v129.base, v129.fresh, (IntKind.i64.wrap (v122 - 1))))))) (some (.inr (v115, v116, v117, v118, v119, v120, v121))))
noncomputable def spec_l11Sure (v1 : l26Rd) : Option ((List Inst) × l26Rd) :=
  (Option.bind (spec_l26Rd_pick v1 30) fun v2 => (cond (v2.1 == 0) (some ([], v2.2)) (Option.bind (spec_l26Rd_pick v2.2 3) fun v112 => ((loop spec_l11Sure_s17 (v112.2.b, v112.2.p, [], 0, 0, false, false, (IntKind.i64.wrap (1 + v112.1)))).bind (fun v127 => (spec_l11Sure_j13 (v127.1, v127.2.1, v127.2.2.1, v127.2.2.2.1, v127.2.2.2.2.1, v127.2.2.2.2.2.1, v127.2.2.2.2.2.2)))))))
theorem con_spec_l11Sure (v1 : l26Rd) (res_ : ((List Inst) × l26Rd)) (h : spec_l11Sure v1 = some res_) : Con Try.prog C0 66 [.pt 0 0] [.rc [.fz 1 (R e_u8 (v1.b)), .sc (.int .i64 (v1.p))]]
    (fun x σ' => x = .fz 3 (R e_Inst (res_.1)) ∧ σ' = [.rc [.fz 1 (R e_u8 (res_.2.b)), .sc (.int .i64 (res_.2.p))]]) := by
  refine zCon hP 1 [0, 2, 3, 4, 10, 19, 28, 34] [.tmp 2] Try.func66 (by unfold Try.f66; rfl) fun Q hQ => ?_
  unfold spec_l11Sure at h
  refine zS z0 (zS z0 ?_)
  refine sem_cut fun k3 hk3 => ?_
  obtain ⟨v2, c5H, h⟩ := bind_some' h
  refine zS (zC1 (lC [[0]] (con_spec_l26Rd_pick _ _ _ c5H))) ?_
  refine sem_ifh rfl h ?_ ?_ <;> clear h <;> intro h
  · refine zS z0 (r_ret ?_)
    refine r_cR hk3 ?_
    cases h
    refine zARw hQ
  · refine r_skip (r_cN hk3 ?_)
    refine sem_cutJ (fun (i : P2) (x : ((List Int) × Int × (List Inst) × Int × Int × Bool × Bool)) => match i with | .a => (⟨[(0, .pt 0 0), (3, .pt 1 0)], [.rc [.fz 1 (R e_u8 (x.1)), .sc (.int .i64 (x.2.1))], .rc [.pt 0 0, .sl 2 0 ((x.2.2.1).length), .sc (.int .i64 (x.2.2.2.1)), .sc (.int .i64 (x.2.2.2.2.1)), .sc (.bool (x.2.2.2.2.2.1)), .sc (.bool (x.2.2.2.2.2.2))], .arr true 3 (R e_Inst (x.2.2.1))]⟩ : St) | .b => (⟨[(0, .pt 0 0), (3, .pt 1 0)], [.rc [.fz 1 (R e_u8 (x.1)), .sc (.int .i64 (x.2.1))], .rc [.pt 0 0, .sc (.slice none 0 0), .sc (.int .i64 (x.2.2.2.1)), .sc (.int .i64 (x.2.2.2.2.1)), .sc (.bool (x.2.2.2.2.2.1)), .sc (.bool (x.2.2.2.2.2.2))]]⟩ : St)) (fun (i : P2) (x : ((List Int) × Int × (List Inst) × Int × Int × Bool × Bool)) => (match i with | .a => True | .b => x.2.2.1 = []) ∧ spec_l11Sure_j13 x = some res_) ?_ ?_
    · rintro (_ | _) ⟨v23, v24, v25, v26, v27, v28, v29⟩ ⟨hp, h⟩
      · simp only [spec_l11Sure_j13] at h
        refine zCut (fun (x : ((List Int) × Int × (List Inst) × Int × Int × Bool × Bool)) => ⟨[(3, .pt 1 0)], [.rc [.fz 1 (R e_u8 (x.1)), .sc (.int .i64 (x.2.1))], .rc [.pt 0 0, .sl 2 0 ((x.2.2.1).length), .sc (.int .i64 (x.2.2.2.1)), .sc (.int .i64 (x.2.2.2.2.1)), .sc (.bool (x.2.2.2.2.2.1)), .sc (.bool (x.2.2.2.2.2.2))], .arr true 3 (R e_Inst (x.2.2.1))]⟩) spec_l11Sure_j28 res_ ?_ ?_
        · rintro _ ⟨v45, v46, v47, v48, v49, v50, v51⟩ h
          simp only [spec_l11Sure_j28] at h
          refine zS z0 (r_ret ?_)
          cases h
          refine zAR hQ
        · intro k62 hk62 J61
          obtain ⟨v52, c64H, h⟩ := bind_some' h
          refine zS (zC1 (lC [[0]] (con_spec_l26Rd_pick _ _ _ c64H))) ?_
          refine sem_ifh rfl h ?_ ?_ <;> clear h <;> intro h
          · refine sem_blk fun k65 hk65 => ?_
            obtain ⟨oq76, hLq76, hKq76⟩ := bind_some' h
            clear h
            refine sem_loopP [0, 3] (fun (_ : Unit) (x : ((List Int) × Int × (List Inst) × Int × Int × Bool × Bool)) => (⟨[(0, .pt 0 0), (3, .pt 1 0)], [.rc [.fz 1 (R e_u8 (x.1)), .sc (.int .i64 (x.2.1))], .rc [.pt 0 0, .sl 2 0 ((x.2.2.1).length), .sc (.int .i64 (x.2.2.2.1)), .sc (.int .i64 (x.2.2.2.2.1)), .sc (.bool (x.2.2.2.2.2.1)), .sc (.bool (x.2.2.2.2.2.2))], .arr true 3 (R e_Inst (x.2.2.1))]⟩ : St)) (fun (_ : Unit) (x : ((List Int) × Int × (List Inst) × Int × Int × Bool × Bool)) => True) spec_l11Sure_s33 () (v52.2.b, v52.2.p, v25, v26, v27, v28, v29) hLq76 (by rfl) (by rfl) ⟨?_, trivial⟩ ?_
            · first | exact wkSt_same rfl | (simp (decide := true) only [go_sem, reduceIte, Nat.reduceAdd, Int.reduceToNat, Nat.reduceSub, Nat.reduceMul]; exact wkSt_same rfl)
            · rintro nq76 _ ⟨v55, v56, v57, v58, v59, v60, v61⟩ xq76 kq76 hkq76 - h hIq76 hEq76
              simp only [spec_l11Sure_s33] at h
              refine sem_cut fun k77 hk77 => zS z0 ?_
              refine sem_ifh rfl h ?_ ?_ <;> clear h <;> intro h
              · refine r_skip (r_cN hk77 ?_)
                refine sem_blk fun k79 hk79 => ?_
                obtain ⟨v65, c80H, h⟩ := bind_some' h
                obtain ⟨v66, c81H, h⟩ := bind_some' h
                refine zU (zC2 (lC [[0]] (con_spec_l26Rd_pick _ _ _ c80H)) (lC [[0], [0, 0], [0, 1]] (con_spec_l11Play_rung_1 _ _ _ c81H))) (r_bN hk79 ?_)
                refine zB hkq76 h hIq76 () trivial
              · refine r_exit (r_cE hk77 ?_)
                replace h := zX h hEq76 hKq76
                refine r_kE hkq76 (r_bE hk65 ?_)
                refine zJ J61 [3] () _ h
          · refine r_skip (zJ J61 [3] () _ h)
      · replace hp : v25 = [] := hp
        subst hp
        simp only [spec_l11Sure_j13] at h
        try simp only [List.nil_append, List.length_nil, Int.natCast_zero] at h
        refine sem_cutJ (fun (i : P2) (x : ((List Int) × Int × (List Inst) × Int × Int × Bool × Bool)) => match i with | .a => (⟨[(3, .pt 1 0)], [.rc [.fz 1 (R e_u8 (x.1)), .sc (.int .i64 (x.2.1))], .rc [.pt 0 0, .sl 2 0 ((x.2.2.1).length), .sc (.int .i64 (x.2.2.2.1)), .sc (.int .i64 (x.2.2.2.2.1)), .sc (.bool (x.2.2.2.2.2.1)), .sc (.bool (x.2.2.2.2.2.2))], .arr true 3 (R e_Inst (x.2.2.1))]⟩ : St) | .b => (⟨[(3, .pt 1 0)], [.rc [.fz 1 (R e_u8 (x.1)), .sc (.int .i64 (x.2.1))], .rc [.pt 0 0, .sc (.slice none 0 0), .sc (.int .i64 (x.2.2.2.1)), .sc (.int .i64 (x.2.2.2.2.1)), .sc (.bool (x.2.2.2.2.2.1)), .sc (.bool (x.2.2.2.2.2.2))]]⟩ : St)) (fun (i : P2) (x : ((List Int) × Int × (List Inst) × Int × Int × Bool × Bool)) => (match i with | .a => True | .b => x.2.2.1 = []) ∧ spec_l11Sure_j28 x = some res_) ?_ ?_
        · rintro (_ | _) ⟨v86, v87, v88, v89, v90, v91, v92⟩ ⟨hp, h⟩
          · simp only [spec_l11Sure_j28] at h
            refine zS z0 (r_ret ?_)
            cases h
            refine zAR hQ
          · replace hp : v88 = [] := hp
            subst hp
            simp only [spec_l11Sure_j28] at h
            try simp only [List.nil_append, List.length_nil, Int.natCast_zero] at h
            refine zS z0 (r_ret ?_)
            cases h
            refine zARw hQ
        · intro k114 hk114 J113
          obtain ⟨v93, c116H, h⟩ := bind_some' h
          refine zS (zC1 (lC [[0]] (con_spec_l26Rd_pick _ _ _ c116H))) ?_
          refine sem_ifh rfl h ?_ ?_ <;> clear h <;> intro h
          · refine sem_blk fun k117 hk117 => ?_
            obtain ⟨oq133, hLq133, hKq133⟩ := bind_some' h
            clear h
            refine sem_loopP [0, 3] (fun (i : P2) (x : ((List Int) × Int × (List Inst) × Int × Int × Bool × Bool)) => match i with | .a => (⟨[(0, .pt 0 0), (3, .pt 1 0)], [.rc [.fz 1 (R e_u8 (x.1)), .sc (.int .i64 (x.2.1))], .rc [.pt 0 0, .sl 2 0 ((x.2.2.1).length), .sc (.int .i64 (x.2.2.2.1)), .sc (.int .i64 (x.2.2.2.2.1)), .sc (.bool (x.2.2.2.2.2.1)), .sc (.bool (x.2.2.2.2.2.2))], .arr true 3 (R e_Inst (x.2.2.1))]⟩ : St) | .b => (⟨[(0, .pt 0 0), (3, .pt 1 0)], [.rc [.fz 1 (R e_u8 (x.1)), .sc (.int .i64 (x.2.1))], .rc [.pt 0 0, .sc (.slice none 0 0), .sc (.int .i64 (x.2.2.2.1)), .sc (.int .i64 (x.2.2.2.2.1)), .sc (.bool (x.2.2.2.2.2.1)), .sc (.bool (x.2.2.2.2.2.2))]]⟩ : St)) (fun (i : P2) (x : ((List Int) × Int × (List Inst) × Int × Int × Bool × Bool)) => (match i with | .a => True | .b => x.2.2.1 = [])) spec_l11Sure_s33 (.b) (v93.2.b, v93.2.p, [], v26, v27, v28, v29) hLq133 (by rfl) (by rfl) ⟨?_, rfl⟩ ?_
            · first | exact wkSt_same rfl | (simp (decide := true) only [go_sem, reduceIte, Nat.reduceAdd, Int.reduceToNat, Nat.reduceSub, Nat.reduceMul]; exact wkSt_same rfl)
            · rintro nq133 (_ | _) ⟨v96, v97, v98, v99, v100, v101, v102⟩ xq133 kq133 hkq133 hp h hIq133 hEq133
              · simp only [spec_l11Sure_s33] at h
                refine sem_cut fun k134 hk134 => zS z0 ?_
                refine sem_ifh rfl h ?_ ?_ <;> clear h <;> intro h
                · refine r_skip (r_cN hk134 ?_)
                  refine sem_blk fun k136 hk136 => ?_
                  obtain ⟨v108, c137H, h⟩ := bind_some' h
                  obtain ⟨v109, c138H, h⟩ := bind_some' h
                  refine zU (zC2 (lC [[0]] (con_spec_l26Rd_pick _ _ _ c137H)) (lC [[0], [0, 0], [0, 1]] (con_spec_l11Play_rung_1 _ _ _ c138H))) (r_bN hk136 ?_)
                  refine zB hkq133 h hIq133 (.a) trivial
                · refine r_exit (r_cE hk134 ?_)
                  replace h := zX h hEq133 hKq133
                  refine r_kE hkq133 (r_bE hk117 ?_)
                  refine zJ J113 [3] (.a) (v96, v97, v98, v99, v100, v101, v102) ⟨trivial, h⟩
              · replace hp : v98 = [] := hp
                subst hp
                simp only [spec_l11Sure_s33] at h
                try simp only [List.nil_append, List.length_nil, Int.natCast_zero] at h
                refine sem_cut fun k139 hk139 => zS z0 (sem_ifT rfl ?_)
                try replace h := cond_t h rfl
                refine r_skip (r_cN hk139 ?_)
                refine sem_blk fun k141 hk141 => ?_
                obtain ⟨v110, c142H, h⟩ := bind_some' h
                obtain ⟨v111, c143H, h⟩ := bind_some' h
                refine zU (zC2 (lC [[0]] (con_spec_l26Rd_pick _ _ _ c142H)) (lC [[0], [0, 0]] (con_spec_l11Play_rung _ _ _ c143H rfl))) (r_bN hk141 ?_)
                refine zB hkq133 h hIq133 (.a) trivial
          · refine r_skip (zJ J113 [3] (.b) (v93.2.b, v93.2.p, [], v26, v27, v28, v29) ⟨rfl, h⟩)
    · intro k145 hk145 J144
      obtain ⟨v112, c147H, h⟩ := bind_some' h
      refine zS (zC1 (lC [[0]] (con_spec_l26Rd_pick _ _ _ c147H))) (sem_blk fun k148 hk148 => ?_)
      obtain ⟨oq167, hLq167, hKq167⟩ := bind_some' h
      clear h
      refine sem_loopP [0, 3, 4] (fun (i : P2) (x : ((List Int) × Int × (List Inst) × Int × Int × Bool × Bool × Int)) => match i with | .a => (⟨[(0, .pt 0 0), (3, .pt 1 0), (4, .sc (.int .i64 (x.2.2.2.2.2.2.2)))], [.rc [.fz 1 (R e_u8 (x.1)), .sc (.int .i64 (x.2.1))], .rc [.pt 0 0, .sl 2 0 ((x.2.2.1).length), .sc (.int .i64 (x.2.2.2.1)), .sc (.int .i64 (x.2.2.2.2.1)), .sc (.bool (x.2.2.2.2.2.1)), .sc (.bool (x.2.2.2.2.2.2.1))], .arr true 3 (R e_Inst (x.2.2.1))]⟩ : St) | .b => (⟨[(0, .pt 0 0), (3, .pt 1 0), (4, .sc (.int .i64 (x.2.2.2.2.2.2.2)))], [.rc [.fz 1 (R e_u8 (x.1)), .sc (.int .i64 (x.2.1))], .rc [.pt 0 0, .sc (.slice none 0 0), .sc (.int .i64 (x.2.2.2.1)), .sc (.int .i64 (x.2.2.2.2.1)), .sc (.bool (x.2.2.2.2.2.1)), .sc (.bool (x.2.2.2.2.2.2.1))]]⟩ : St)) (fun (i : P2) (x : ((List Int) × Int × (List Inst) × Int × Int × Bool × Bool × Int)) => (match i with | .a => True | .b => x.2.2.1 = [])) spec_l11Sure_s17 (.b) (v112.2.b, v112.2.p, [], 0, 0, false, false, (IntKind.i64.wrap (1 + v112.1))) hLq167 (by rfl) (by rfl) ⟨?_, rfl⟩ ?_
      · first | exact wkSt_same rfl | (simp (decide := true) only [go_sem, reduceIte, Nat.reduceAdd, Int.reduceToNat, Nat.reduceSub, Nat.reduceMul]; exact wkSt_same rfl)
      · rintro nq167 (_ | _) ⟨v115, v116, v117, v118, v119, v120, v121, v122⟩ xq167 kq167 hkq167 hp h hIq167 hEq167
        · simp only [spec_l11Sure_s17] at h
          refine sem_cut fun k168 hk168 => zS z0 ?_
          refine sem_ifh rfl h ?_ ?_ <;> clear h <;> intro h
          · refine r_skip (r_cN hk168 ?_)
            refine sem_cut fun k170 hk170 => sem_blk fun k171 hk171 => ?_
            obtain ⟨v128, c172H, h⟩ := bind_some' h
            obtain ⟨v129, c173H, h⟩ := bind_some' h
            refine zU (zC2 (lC [[0]] (con_spec_l26Rd_pick _ _ _ c172H)) (lC [[0], [0, 0], [0, 1]] (con_spec_l11Play_rung_1 _ _ _ c173H))) (r_bN hk171 ?_)
            refine r_cN hk170 (zU z0 ?_)
            refine zB hkq167 h hIq167 (.a) trivial
          · refine r_exit (r_cE hk168 ?_)
            replace h := zX h hEq167 hKq167
            refine r_kE hkq167 (r_bE hk148 ?_)
            refine zJ J144 [0, 3] (.a) (v115, v116, v117, v118, v119, v120, v121) ⟨trivial, h⟩
        · replace hp : v117 = [] := hp
          subst hp
          simp only [spec_l11Sure_s17] at h
          try simp only [List.nil_append, List.length_nil, Int.natCast_zero] at h
          refine sem_cut fun k174 hk174 => zS z0 ?_
          refine sem_ifh rfl h ?_ ?_ <;> clear h <;> intro h
          · refine r_skip (r_cN hk174 ?_)
            refine sem_cut fun k176 hk176 => sem_blk fun k177 hk177 => ?_
            obtain ⟨v130, c178H, h⟩ := bind_some' h
            obtain ⟨v131, c179H, h⟩ := bind_some' h
            refine zU (zC2 (lC [[0]] (con_spec_l26Rd_pick _ _ _ c178H)) (lC [[0], [0, 0]] (con_spec_l11Play_rung _ _ _ c179H rfl))) (r_bN hk177 ?_)
            refine r_cN hk176 (zU z0 ?_)
            refine zB hkq167 h hIq167 (.a) trivial
          · refine r_exit (r_cE hk174 ?_)
            replace h := zX h hEq167 hKq167
            refine r_kE hkq167 (r_bE hk148 ?_)
            refine zJ J144 [0, 3] (.b) (v115, v116, [], v118, v119, v120, v121) ⟨rfl, h⟩
noncomputable def spec_l11Inst (v1 : l26Rd) : Option (Inst × l26Rd) :=
  (Option.bind (spec_l26Rd_num v1 [1, 1, 1, 2, 2, 2, 3, 3, 4, 5, 6, 7, 8, 9, 10, 10, 10, 11]) fun v2 => (cond (decide (v2.1 ≤ 3)) (Option.bind (spec_l4Contact v2.2) fun v3 => (some ((⟨v2.1, v3.1.Op, v3.1.Args⟩ : Inst), v3.2))) (cond (v2.1 == 10) (Option.bind (spec_l4Coil v2.2) fun v4 => (some ((⟨v2.1, v4.1.Op, v4.1.Args⟩ : Inst), v4.2))) (some ((⟨v2.1, 0, []⟩ : Inst), v2.2)))))
theorem con_spec_l11Inst (v1 : l26Rd) (res_ : (Inst × l26Rd)) (h : spec_l11Inst v1 = some res_) : Con Try.prog C0 51 [.pt 0 0] [.rc [.fz 1 (R e_u8 (v1.b)), .sc (.int .i64 (v1.p))]]
    (fun x σ' => x = .agg [.sc (.int .i64 (res_.1.Code)), .sc (.int .i64 (res_.1.One_Op)), .fz 3 (R e_DevArg (res_.1.One_Args))] ∧ σ' = [.rc [.fz 1 (R e_u8 (res_.2.b)), .sc (.int .i64 (res_.2.p))]]) := by
  refine zCon hP 1 [0, 2, 3, 7, 14] [.cell 2 49] Try.func51 (by unfold Try.f51; rfl) fun Q hQ => ?_
  unfold spec_l11Inst at h
  refine zS z0 ?_
  obtain ⟨v2, c3H, h⟩ := bind_some' h
  refine zS (zC1 (lC [[0]] (con_spec_l26Rd_num _ _ _ c3H))) (sem_cut fun k4 hk4 => ?_)
  refine sem_blk fun k5 hk5 => zS z0 ?_
  refine sem_ifh rfl h ?_ ?_ <;> clear h <;> intro h
  · obtain ⟨v3, c8H, h⟩ := bind_some' h
    refine zS (zC1 (lC [[0]] (con_spec_l4Contact _ _ c8H))) (r_ret ?_)
    refine r_bR hk5 (r_cR hk4 ?_)
    cases h
    refine zAR hQ
  · refine zS z0 ?_
    refine sem_ifh rfl h ?_ ?_ <;> clear h <;> intro h
    · obtain ⟨v4, c11H, h⟩ := bind_some' h
      refine zS (zC1 (lC [[0]] (con_spec_l4Coil _ _ c11H))) (r_ret ?_)
      refine r_bR hk5 (r_cR hk4 ?_)
      cases h
      refine zAR hQ
    · refine r_skip (r_bN hk5 ?_)
      refine r_cN hk4 (zS z0 ?_)
      refine r_ret ?_
      cases h
      refine zARw hQ
noncomputable def spec_l2Spoilt_j3 : ((List Int) × Int × Int × Int × Int) → Option (DevArg × l26Rd)
  | (v9, v10, v11, v12, v13) => (some ((⟨v11, v12, v13⟩ : DevArg), (⟨v9, v10⟩ : l26Rd)))
noncomputable def spec_l2Spoilt (v1 : l26Rd) (v2 : DevArg) : Option (DevArg × l26Rd) :=
  (Option.bind (spec_l26Rd_pick v1 6) fun v14 => (cond (v14.1 == 0) (Option.bind (spec_l26Rd_pick v14.2 16) fun v15 => (spec_l2Spoilt_j3 (v15.2.b, v15.2.p, (IntKind.i64.wrap (v15.1 - 1)), v2.N, v2.P))) (cond (v14.1 == 1) (Option.bind (spec_l26Rd_num v14.2 [(-1), 4, 5, 15, 16, 31, 32, 63, 64, 255, 32768, (-32769), 1000000000, (-1000000000), 20, 10]) fun v16 => (spec_l2Spoilt_j3 (v16.2.b, v16.2.p, v2.Kind, v16.1, v2.P))) (cond (v14.1 == 2) (Option.bind (spec_l26Rd_num v14.2 [(-1), 0, 1, 6, 7]) fun v17 => (spec_l2Spoilt_j3 (v17.2.b, v17.2.p, v2.Kind, v2.N, v17.1))) (cond (v14.1 == 3) (Option.bind (spec_DevSize v2.Kind) fun v18 => (spec_l2Spoilt_j3 (v14.2.b, v14.2.p, v2.Kind, v18, v2.P))) (cond (v14.1 == 4) (Option.bind (spec_DevSize v2.Kind) fun v19 => (spec_l2Spoilt_j3 (v14.2.b, v14.2.p, v2.Kind, (IntKind.i64.wrap (v19 - 1)), v2.P))) (spec_l2Spoilt_j3 (v14.2.b, v14.2.p, v2.Kind, (IntKind.i64.wrap (0 - v2.N)), v2.P))))))))
theorem con_spec_l2Spoilt (v1 : l26Rd) (v2 : DevArg) (res_ : (DevArg × l26Rd)) (h : spec_l2Spoilt v1 v2 = some res_) : Con Try.prog C0 71 [.pt 0 0, .agg [.sc (.int .i64 (v2.Kind)), .sc (.int .i64 (v2.N)), .sc (.int .i64 (v2.P))]] [.rc [.fz 1 (R e_u8 (v1.b)), .sc (.int .i64 (v1.p))]]
    (fun x σ' => x = .agg [.sc (.int .i64 (res_.1.Kind)), .sc (.int .i64 (res_.1.N)), .sc (.int .i64 (res_.1.P))] ∧ σ' = [.rc [.fz 1 (R e_u8 (res_.2.b)), .sc (.int .i64 (res_.2.p))]]) := by
  refine zCon hP 1 [0, 1, 3, 4, 6, 11, 17, 23, 29, 35] [.cell 4 77] Try.func71 (by unfold Try.f71; rfl) fun Q hQ => ?_
  unfold spec_l2Spoilt at h
  refine zS z0 (zCut (fun (x : ((List Int) × Int × Int × Int × Int)) => ⟨[(3, .pt 1 0), (4, .pt 2 0)], [.rc [.fz 1 (R e_u8 (x.1)), .sc (.int .i64 (x.2.1))], .rc [.sc (.int .i64 (x.2.2.1)), .sc (.int .i64 (x.2.2.2.1)), .sc (.int .i64 (x.2.2.2.2))], .rc [.sc (.int .i64 (0)), .sc (.int .i64 (0)), .sc (.int .i64 (0))]]⟩) spec_l2Spoilt_j3 res_ ?_ ?_)
  · rintro _ ⟨v9, v10, v11, v12, v13⟩ h
    simp only [spec_l2Spoilt_j3] at h
    refine zS z0 (r_ret ?_)
    cases h
    refine zAR hQ
  · intro k17 hk17 J16
    obtain ⟨v14, c19H, h⟩ := bind_some' h
    refine zS (zC1 (lC [[0]] (con_spec_l26Rd_pick _ _ _ c19H))) (sem_blk fun k20 hk20 => ?_)
    refine zS z0 ?_
    refine sem_ifh rfl h ?_ ?_ <;> clear h <;> intro h
    · obtain ⟨v15, c22H, h⟩ := bind_some' h
      refine zU (zC1 (lC [[0]] (con_spec_l26Rd_pick _ _ _ c22H))) (r_bN hk20 ?_)
      refine zJ J16 [3, 4] () _ h
    · refine zS z0 ?_
      refine sem_ifh rfl h ?_ ?_ <;> clear h <;> intro h
      · obtain ⟨v16, c24H, h⟩ := bind_some' h
        refine zU (zC1 (lC [[0]] (con_spec_l26Rd_num _ _ _ c24H))) (r_bN hk20 ?_)
        refine zJ J16 [3, 4] () _ h
      · refine zS z0 ?_
        refine sem_ifh rfl h ?_ ?_ <;> clear h <;> intro h
        · obtain ⟨v17, c26H, h⟩ := bind_some' h
          refine zU (zC1 (lC [[0]] (con_spec_l26Rd_num _ _ _ c26H))) (r_bN hk20 ?_)
          refine zJ J16 [3, 4] () _ h
        · refine zS z0 ?_
          refine sem_ifh rfl h ?_ ?_ <;> clear h <;> intro h
          · obtain ⟨v18, c28H, h⟩ := bind_some' h
            refine zU (zC1 (lF [] (con_spec_DevSize _ _ c28H))) (r_bN hk20 ?_)
            refine zJ J16 [3, 4] () _ h
          · refine zS z0 ?_
            refine sem_ifh rfl h ?_ ?_ <;> clear h <;> intro h
            · obtain ⟨v19, c30H, h⟩ := bind_some' h
              refine zU (zC1 (lF [] (con_spec_DevSize _ _ c30H))) (r_bN hk20 ?_)
              refine zJ J16 [3, 4] () _ h
            · refine zU z0 (r_bN hk20 ?_)
              refine zJ J16 [3, 4] () _ h
noncomputable def spec_l2Any (v1 : l26Rd) : Option (DevArg × l26Rd) :=
  (Option.bind (spec_l26Rd_pick v1 13) fun v2 => (Option.bind (spec_l2Arg v2.2 (IntKind.i64.wrap (1 + v2.1))) fun v3 => (Option.bind (spec_l26Rd_pick v3.2 20) fun v4 => (cond (v4.1 == 0) (Option.bind (spec_l2Spoilt v4.2 v3.1) fun v5 => (some (v5.1, v5.2))) (some (v3.1, v4.2))))))
theorem con_spec_l2Any (v1 : l26Rd) (res_ : (DevArg × l26Rd)) (h : spec_l2Any v1 = some res_) : Con Try.prog C0 70 [.pt 0 0] [.rc [.fz 1 (R e_u8 (v1.b)), .sc (.int .i64 (v1.p))]]
    (fun x σ' => x = .agg [.sc (.int .i64 (res_.1.Kind)), .sc (.int .i64 (res_.1.N)), .sc (.int .i64 (res_.1.P))] ∧ σ' = [.rc [.fz 1 (R e_u8 (res_.2.b)), .sc (.int .i64 (res_.2.p))]]) := by
  refine zCon hP 1 [0, 2, 3, 11] [.cell 2 77] Try.func70 (by unfold Try.f70; rfl) fun Q hQ => ?_
  unfold spec_l2Any at h
  refine zS z0 ?_
  obtain ⟨v2, c3H, h⟩ := bind_some' h
  obtain ⟨v3, c4H, h⟩ := bind_some' h
  refine zS (zC2 (lC [[0]] (con_spec_l26Rd_pick _ _ _ c3H)) (lC [[0]] (con_spec_l2Arg _ _ _ c4H))) (sem_cut fun k5 hk5 => ?_)
  obtain ⟨v4, c7H, h⟩ := bind_some' h
  refine zS (zC1 (lC [[0]] (con_spec_l26Rd_pick _ _ _ c7H))) ?_
  refine sem_ifh rfl h ?_ ?_ <;> clear h <;> intro h
  · obtain ⟨v5, c9H, h⟩ := bind_some' h
    refine zS (zC1 (lC [[0]] (con_spec_l2Spoilt _ _ _ c9H))) (r_ret ?_)
    refine r_cR hk5 ?_
    cases h
    refine zAR hQ
  · refine r_skip (r_cN hk5 ?_)
    refine zS z0 (r_ret ?_)
    cases h
    refine zAR hQ
noncomputable def spec_l4Spoil_j28 (v2 : Elem) : ((List Int) × Int × (List DevArg)) → Option (Elem × l26Rd)
  | (v12, v13, v14) => (some ((⟨v2.Op, v14⟩ : Elem), (⟨v12, v13⟩ : l26Rd)))
noncomputable def spec_l4Spoil (v1 : l26Rd) (v2 : Elem) : Option (Elem × l26Rd) :=
  (gd (apOk (v2.Args).length 24) (Option.bind (spec_l26Rd_pick v1 6) fun v3 => (cond (v3.1 == 0) (Option.bind (spec_l26Rd_num v3.2 [(-1), 0, 1, 5, 11, 20, 21, 26, 37, 38]) fun v4 => (some ((⟨v4.1, v2.Args⟩ : Elem), v4.2))) (cond (v3.1 == 1) (Option.bind (spec_l2Any v3.2) fun v5 => (gd (apOk ((v2.Args ++ [v5.1])).length 24) (some ((⟨v2.Op, (v2.Args ++ [v5.1])⟩ : Elem), v5.2)))) (cond (v3.1 == 2) (some ((⟨v2.Op, []⟩ : Elem), v3.2)) (cond (decide ((((v2.Args).length : Nat) : Int) > 0)) (Option.bind (spec_l26Rd_pick v3.2 (((v2.Args).length : Nat) : Int)) fun v15 => (Option.bind (idx v2.Args (v15.1)) fun v16 => (Option.bind (spec_l2Spoilt v15.2 v16) fun v17 => (Option.bind (spec_l26Rd_pick v17.2 2) fun v18 => (cond (v18.1 == 0) (Option.bind (spec_l2Any v18.2) fun v19 => (Option.bind (idx ((v2.Args).set (v15.1).toNat v17.1) (v15.1)) fun v20 => (spec_l4Spoil_j28 v2 (v19.2.b, v19.2.p, ((((v2.Args).set (v15.1).toNat v17.1)).set (v15.1).toNat v19.1))))) (spec_l4Spoil_j28 v2 (v18.2.b, v18.2.p, ((v2.Args).set (v15.1).toNat v17.1)))))))) (spec_l4Spoil_j28 v2 (v3.2.b, v3.2.p, v2.Args))))))))
theorem con_spec_l4Spoil (v1 : l26Rd) (v2 : Elem) (res_ : (Elem × l26Rd)) (h : spec_l4Spoil v1 v2 = some res_) : Con Try.prog C0 53 [.pt 0 0, .agg [.sc (.int .i64 (v2.Op)), .fz 3 (R e_DevArg (v2.Args))]] [.rc [.fz 1 (R e_u8 (v1.b)), .sc (.int .i64 (v1.p))]]
    (fun x σ' => x = .agg [.sc (.int .i64 (res_.1.Op)), .fz 3 (R e_DevArg (res_.1.Args))] ∧ σ' = [.rc [.fz 1 (R e_u8 (res_.2.b)), .sc (.int .i64 (res_.2.p))]]) := by
  refine zCon hP 1 [0, 1, 3, 4, 5, 6, 12, 13, 20, 30, 37, 53] [.cell 4 47] Try.func53 (by unfold Try.f53; rfl) fun Q hQ => ?_
  unfold spec_l4Spoil at h
  refine zS z0 ?_
  obtain ⟨g3, h⟩ := gAp h
  refine zS (zRF g3) (sem_cut fun k4 hk4 => ?_)
  obtain ⟨v3, c6H, h⟩ := bind_some' h
  refine zS (zC1 (lC [[0]] (con_spec_l26Rd_pick _ _ _ c6H))) (sem_blk fun k7 hk7 => ?_)
  refine zS z0 ?_
  refine sem_ifh rfl h ?_ ?_ <;> clear h <;> intro h
  · obtain ⟨v4, c10H, h⟩ := bind_some' h
    refine zS (zC1 (lC [[0]] (con_spec_l26Rd_num _ _ _ c10H))) (r_ret ?_)
    refine r_bR hk7 (r_cR hk4 ?_)
    cases h
    refine zAR hQ
  · refine zS z0 ?_
    refine sem_ifh rfl h ?_ ?_ <;> clear h <;> intro h
    · obtain ⟨v5, c13H, h⟩ := bind_some' h
      obtain ⟨g14, h⟩ := gAp h
      refine zS (zPC1F (.take 0 (.take 1 (.take 2 (.take 3 (.one 4 (.one 5 (.one 6 (.take 7 (.last 8 .done))))))))) [1] (lC [[0]] (con_spec_l2Any _ _ c13H)) g14) (r_ret ?_)
      refine r_bR hk7 (r_cR hk4 ?_)
      cases h
      refine zAR hQ
    · refine zS z0 ?_
      refine sem_ifh rfl h ?_ ?_ <;> clear h <;> intro h
      · refine zS z0 (r_ret ?_)
        refine r_bR hk7 (r_cR hk4 ?_)
        cases h
        refine zARw hQ
      · refine r_skip (r_bN hk7 ?_)
        refine r_cN hk4 (zCut (fun (x : ((List Int) × Int × (List DevArg))) => ⟨[(3, .pt 1 0), (4, .pt 2 0), (5, .sl 3 0 ((x.2.2).length))], [.rc [.fz 1 (R e_u8 (x.1)), .sc (.int .i64 (x.2.1))], .rc [.sc (.int .i64 (v2.Op)), .fz 3 (R e_DevArg (v2.Args))], .rc [.sc (.int .i64 (0)), .sc (.slice none 0 0)], .arr true 3 (R e_DevArg (x.2.2))]⟩) (spec_l4Spoil_j28 v2) res_ ?_ ?_)
        · rintro _ ⟨v12, v13, v14⟩ h
          simp only [spec_l4Spoil_j28] at h
          refine zS z0 (r_ret ?_)
          cases h
          refine zAR hQ
        · intro k29 hk29 J28
          refine zS z0 ?_
          refine sem_ifh rfl h ?_ ?_ <;> clear h <;> intro h
          · obtain ⟨v15, c32H, h⟩ := bind_some' h
            refine zS (zC1 (lC [[0]] (con_spec_l26Rd_pick _ _ _ c32H))) ?_
            obtain ⟨v16, h, c34⟩ := bI h
            obtain ⟨v17, c35H, h⟩ := bind_some' h
            refine zS (zC1F (lC [[0]] (con_spec_l2Spoilt _ _ _ c35H)) c34) ?_
            obtain ⟨v18, c37H, h⟩ := bind_some' h
            refine zS (zC1 (lC [[0]] (con_spec_l26Rd_pick _ _ _ c37H))) ?_
            refine sem_ifh rfl h ?_ ?_ <;> clear h <;> intro h
            · obtain ⟨v19, c38H, h⟩ := bind_some' h
              obtain ⟨v20, h, c39⟩ := bI h
              refine zU (zC1F (lC [[0]] (con_spec_l2Any _ _ c38H)) c39) (zJ J28 [3, 4, 5] () _ h)
            · refine r_skip (zJ J28 [3, 4, 5] () _ h)
          · refine r_skip (zJ J28 [3, 4, 5] () _ h)
noncomputable def spec_l4Any_j5 : ((List Int) × Int × Int × (List DevArg)) → Option (Elem × l26Rd)
  | (v5, v6, v7, v8) => (Option.bind (spec_l26Rd_pick (⟨v5, v6⟩ : l26Rd) 16) fun v9 => (cond (v9.1 == 0) (Option.bind (spec_l4Spoil v9.2 (⟨v7, v8⟩ : Elem)) fun v10 => (some (v10.1, v10.2))) (some ((⟨v7, v8⟩ : Elem), v9.2))))
noncomputable def spec_l4Any (v1 : l26Rd) : Option (Elem × l26Rd) :=
  (Option.bind (spec_l4Coil v1) fun v2 => (Option.bind (spec_l26Rd_pick v2.2 2) fun v13 => (cond (v13.1 == 0) (Option.bind (spec_l4Contact v13.2) fun v14 => (spec_l4Any_j5 (v14.2.b, v14.2.p, v14.1.Op, v14.1.Args))) (spec_l4Any_j5 (v13.2.b, v13.2.p, v2.1.Op, v2.1.Args)))))
theorem con_spec_l4Any (v1 : l26Rd) (res_ : (Elem × l26Rd)) (h : spec_l4Any v1 = some res_) : Con Try.prog C0 54 [.pt 0 0] [.rc [.fz 1 (R e_u8 (v1.b)), .sc (.int .i64 (v1.p))]]
    (fun x σ' => x = .agg [.sc (.int .i64 (res_.1.Op)), .fz 3 (R e_DevArg (res_.1.Args))] ∧ σ' = [.rc [.fz 1 (R e_u8 (res_.2.b)), .sc (.int .i64 (res_.2.p))]]) := by
  refine zCon hP 1 [0, 2, 3, 8, 13] [.cell 2 47] Try.func54 (by unfold Try.f54; rfl) fun Q hQ => ?_
  unfold spec_l4Any at h
  refine zS z0 ?_
  obtain ⟨v2, c3H, h⟩ := bind_some' h
  refine zS (zC1 (lC [[0]] (con_spec_l4Coil _ _ c3H))) (sem_cutJ (fun (i : P2) (x : ((List Int) × Int × Int × (List DevArg))) => match i with | .a => (⟨[(0, .pt 0 0), (2, .pt 1 0), (3, .pt 2 0)], [.rc [.fz 1 (R e_u8 (x.1)), .sc (.int .i64 (x.2.1))], .rc [.sc (.int .i64 (0)), .sc (.slice none 0 0)], .rc [.sc (.int .i64 (x.2.2.1)), .sl 3 0 ((x.2.2.2).length)], .arr true 3 (R e_DevArg (x.2.2.2))]⟩ : St) | .b => (⟨[(0, .pt 0 0), (2, .pt 1 0), (3, .pt 2 0)], [.rc [.fz 1 (R e_u8 (x.1)), .sc (.int .i64 (x.2.1))], .rc [.sc (.int .i64 (0)), .sc (.slice none 0 0)], .rc [.sc (.int .i64 (x.2.2.1)), .fz 3 (R e_DevArg (x.2.2.2))]]⟩ : St)) (fun (i : P2) (x : ((List Int) × Int × Int × (List DevArg))) => (match i with | .a => True | .b => True) ∧ spec_l4Any_j5 x = some res_) ?_ ?_)
  · rintro (_ | _) ⟨v5, v6, v7, v8⟩ ⟨hp, h⟩
    · simp only [spec_l4Any_j5] at h
      refine sem_cut fun k7 hk7 => ?_
      obtain ⟨v9, c9H, h⟩ := bind_some' h
      refine zS (zC1 (lC [[0]] (con_spec_l26Rd_pick _ _ _ c9H))) ?_
      refine sem_ifh rfl h ?_ ?_ <;> clear h <;> intro h
      · obtain ⟨v10, c11H, h⟩ := bind_some' h
        refine zS (zC1 (lC [[0]] (con_spec_l4Spoil _ _ _ c11H))) (r_ret ?_)
        refine r_cR hk7 ?_
        cases h
        refine zAR hQ
      · refine r_skip (r_cN hk7 ?_)
        refine zS z0 (r_ret ?_)
        cases h
        refine zAR hQ
    · simp only [spec_l4Any_j5] at h
      refine sem_cut fun k13 hk13 => ?_
      obtain ⟨v11, c15H, h⟩ := bind_some' h
      refine zS (zC1 (lC [[0]] (con_spec_l26Rd_pick _ _ _ c15H))) ?_
      refine sem_ifh rfl h ?_ ?_ <;> clear h <;> intro h
      · obtain ⟨v12, c17H, h⟩ := bind_some' h
        refine zS (zC1 (lC [[0]] (con_spec_l4Spoil _ _ _ c17H))) (r_ret ?_)
        refine r_cR hk13 ?_
        cases h
        refine zAR hQ
      · refine r_skip (r_cN hk13 ?_)
        refine zS z0 (r_ret ?_)
        cases h
        refine zAR hQ
  · intro k20 hk20 J19
    obtain ⟨v13, c22H, h⟩ := bind_some' h
    refine zS (zC1 (lC [[0]] (con_spec_l26Rd_pick _ _ _ c22H))) ?_
    refine sem_ifh rfl h ?_ ?_ <;> clear h <;> intro h
    · obtain ⟨v14, c23H, h⟩ := bind_some' h
      refine zU (zC1 (lC [[0]] (con_spec_l4Contact _ _ c23H))) (zJ J19 [0, 2, 3] (.a) (v14.2.b, v14.2.p, v14.1.Op, v14.1.Args) ⟨trivial, h⟩)
    · refine r_skip (zJ J19 [0, 2, 3] (.b) (v13.2.b, v13.2.p, v2.1.Op, v2.1.Args) ⟨trivial, h⟩)

end Go.AM
