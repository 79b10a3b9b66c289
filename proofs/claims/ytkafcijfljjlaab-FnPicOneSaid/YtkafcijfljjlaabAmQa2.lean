/- Pure functions and their contracts. Conditions: none. -/
import Derived.Test.YtkafcijfljjlaabAmQa1
set_option linter.unusedSimpArgs false
set_option linter.unusedVariables false
set_option maxRecDepth 10000
set_option maxHeartbeats 4000000
namespace Go.AM
open Go Go.Proofs
noncomputable def spec_l11Spoil_j15 : ((List Int) × Int × (List Inst)) → Option ((List Inst) × l26Rd)
  | (v28, v29, v30) => (some (v30, (⟨v28, v29⟩ : l26Rd)))
noncomputable def spec_l11Spoil_s55 (v39 : Inst) : ((List Int) × Int × (List Inst)) → Option (((List Int) × Int × (List Inst)) ⊕ ((List Int) × Int × (List Inst)))
  | (v41, v42, v43) => (Option.bind (spec_l26Rd_pick (⟨v41, v42⟩ : l26Rd) 2) fun v46 => (cond (decide ((((v43).length : Nat) : Int) < (IntKind.i64.wrap (1000 + v46.1)))) (gd (apOk ((v43 ++ [v39])).length 40) (some (.inl (v46.2.b, v46.2.p, (v43 ++ [v39]))))) (some (.inr (v46.2.b, v46.2.p, v43)))))
noncomputable def spec_l11Spoil (v1 : l26Rd) (v2 : (List Inst)) : Option ((List Inst) × l26Rd) :=
  (gd (apOk (v2).length 40) (cond ((((v2).length : Nat) : Int) == 0) (Option.bind (spec_l11Inst v1) fun v3 => (gd (apOk ((v2 ++ [v3.1])).length 40) (some ((v2 ++ [v3.1]), v3.2)))) (Option.bind (spec_l26Rd_pick v1 (((v2).length : Nat) : Int)) fun v4 => (Option.bind (spec_l26Rd_pick v4.2 9) fun v31 => (cond (v31.1 == 0) (gd (decide (0 ≤ v4.1) && decide (v4.1 ≤ (((v2).length : Nat) : Int))) (gd (decide (0 ≤ (IntKind.i64.wrap (v4.1 + 1))) && decide ((IntKind.i64.wrap (v4.1 + 1)) ≤ (((v2).length : Nat) : Int)) && decide ((((v2).length : Nat) : Int) ≤ (((v2).length : Nat) : Int))) (gd (apOk (((v2).take ((v4.1).toNat) ++ ((v2).drop (((IntKind.i64.wrap (v4.1 + 1))).toNat)).take ((((v2).length) - ((IntKind.i64.wrap (v4.1 + 1))).toNat)))).length 40) (some (((v2).take ((v4.1).toNat) ++ ((v2).drop (((IntKind.i64.wrap (v4.1 + 1))).toNat)).take ((((v2).length) - ((IntKind.i64.wrap (v4.1 + 1))).toNat))), v31.2))))) (cond (v31.1 == 1) (gd (decide (0 ≤ v4.1) && decide (v4.1 ≤ (((v2).length : Nat) : Int))) (gd (decide (0 ≤ v4.1) && decide (v4.1 ≤ (((v2).length : Nat) : Int)) && decide ((((v2).length : Nat) : Int) ≤ (((v2).length : Nat) : Int))) (gd (apOk ((v2).take ((v4.1).toNat)).length 40) (Option.bind (spec_l11Inst v31.2) fun v32 => (gd (apOk (((v2).take ((v4.1).toNat) ++ [v32.1])).length 40) (gd (apOk ((((v2).take ((v4.1).toNat) ++ [v32.1]) ++ ((v2).drop ((v4.1).toNat)).take ((((v2).length) - (v4.1).toNat)))).length 40) (some ((((v2).take ((v4.1).toNat) ++ [v32.1]) ++ ((v2).drop ((v4.1).toNat)).take ((((v2).length) - (v4.1).toNat))), v32.2)))))))) (cond (v31.1 == 2) (Option.bind (spec_l11Inst v31.2) fun v33 => (Option.bind (idx v2 (v4.1)) fun v34 => (spec_l11Spoil_j15 (v33.2.b, v33.2.p, ((v2).set (v4.1).toNat v33.1))))) (cond (v31.1 == 3) (Option.bind (spec_l26Rd_pick v31.2 14) fun v35 => (Option.bind (idx v2 (v4.1)) fun v36 => (spec_l11Spoil_j15 (v35.2.b, v35.2.p, ((v2).set (v4.1).toNat (⟨(IntKind.i64.wrap (v35.1 - 1)), v36.One_Op, v36.One_Args⟩ : Inst)))))) (cond (v31.1 == 4) (Option.bind (idx v2 (v4.1)) fun v37 => (Option.bind (spec_l4Spoil v31.2 (⟨v37.One_Op, v37.One_Args⟩ : Elem)) fun v38 => (spec_l11Spoil_j15 (v38.2.b, v38.2.p, ((v2).set (v4.1).toNat (⟨v37.Code, v38.1.Op, v38.1.Args⟩ : Inst)))))) (cond (v31.1 == 5) (gd (decide (0 ≤ v4.1) && decide (v4.1 ≤ (((v2).length : Nat) : Int))) (some ((v2).take ((v4.1).toNat), v31.2))) (cond (v31.1 == 6) (Option.bind (idx v2 (v4.1)) fun v39 => ((loop (spec_l11Spoil_s55 v39) (v31.2.b, v31.2.p, v2)).bind (fun v45 => (spec_l11Spoil_j15 (v45.1, v45.2.1, v45.2.2))))) (cond (v31.1 == 7) (Option.bind (spec_l26Rd_pick v31.2 (((v2).length : Nat) : Int)) fun v47 => (Option.bind (idx v2 (v4.1)) fun v48 => (Option.bind (idx v2 (v47.1)) fun v49 => (Option.bind (idx v2 (v4.1)) fun v50 => (Option.bind (idx ((v2).set (v4.1).toNat v49) (v47.1)) fun v51 => (spec_l11Spoil_j15 (v47.2.b, v47.2.p, ((((v2).set (v4.1).toNat v49)).set (v47.1).toNat v48)))))))) (Option.bind (spec_l4Any v31.2) fun v52 => (Option.bind (idx v2 (v4.1)) fun v53 => (spec_l11Spoil_j15 (v52.2.b, v52.2.p, ((v2).set (v4.1).toNat (⟨v53.Code, v52.1.Op, v52.1.Args⟩ : Inst))))))))))))))))))
theorem con_spec_l11Spoil (v1 : l26Rd) (v2 : (List Inst)) (res_ : ((List Inst) × l26Rd)) (h : spec_l11Spoil v1 v2 = some res_) : Con Try.prog C0 25 [.pt 0 0, .fz 3 (R e_Inst (v2))] [.rc [.fz 1 (R e_u8 (v1.b)), .sc (.int .i64 (v1.p))]]
    (fun x σ' => x = .fz 3 (R e_Inst (res_.1)) ∧ σ' = [.rc [.fz 1 (R e_u8 (res_.2.b)), .sc (.int .i64 (res_.2.p))]]) := by
  refine zCon hP 1 [0, 1, 4, 5, 6, 7, 8, 9, 15, 26, 33, 43, 58, 65, 74, 87, 92, 103, 108] [.tmp 4] Try.func25 (by unfold Try.f25; rfl) fun Q hQ => ?_
  unfold spec_l11Spoil at h
  refine zS z0 ?_
  obtain ⟨g3, h⟩ := gAp h
  refine zS (zRF g3) (sem_cut fun k4 hk4 => ?_)
  refine zS z0 ?_
  refine sem_ifh rfl h ?_ ?_ <;> clear h <;> intro h
  · obtain ⟨v3, c7H, h⟩ := bind_some' h
    obtain ⟨g8, h⟩ := gAp h
    refine zS (zC1F (lC [[0]] (con_spec_l11Inst _ _ c7H)) g8) (r_ret ?_)
    refine r_cR hk4 ?_
    cases h
    refine zAR hQ
  · refine r_skip (r_cN hk4 ?_)
    obtain ⟨v4, c10H, h⟩ := bind_some' h
    refine zS (zC1 (lC [[0]] (con_spec_l26Rd_pick _ _ _ c10H))) (zCut (fun (x : ((List Int) × Int × (List Inst))) => ⟨[(5, .sl 1 0 ((x.2.2).length))], [.rc [.fz 1 (R e_u8 (x.1)), .sc (.int .i64 (x.2.1))], .arr true 3 (R e_Inst (x.2.2))]⟩) spec_l11Spoil_j15 res_ ?_ ?_)
    · rintro _ ⟨v28, v29, v30⟩ h
      simp only [spec_l11Spoil_j15] at h
      refine zS z0 (r_ret ?_)
      cases h
      refine zAR hQ
    · intro k72 hk72 J71
      obtain ⟨v31, c74H, h⟩ := bind_some' h
      refine zS (zC1 (lC [[0]] (con_spec_l26Rd_pick _ _ _ c74H))) (sem_blk fun k75 hk75 => ?_)
      refine zS z0 ?_
      refine sem_ifh rfl h ?_ ?_ <;> clear h <;> intro h
      · obtain ⟨g78, h⟩ := gD2 h
        obtain ⟨g79, h⟩ := gD3 h
        obtain ⟨g80, h⟩ := gAp h
        refine zS (zPRF (.take 0 (.take 1 (.take 2 (.take 3 (.take 4 (.take 5 (.take 6 (.last 7 (.take 8 .done))))))))) [] (a3 g78 g79 g80)) (r_ret ?_)
        refine r_bR hk75 (r_jR hk72 ?_)
        cases h
        refine zAR hQ
      · refine zS z0 ?_
        refine sem_ifh rfl h ?_ ?_ <;> clear h <;> intro h
        · obtain ⟨g83, h⟩ := gD2 h
          obtain ⟨g84, h⟩ := gD3 h
          obtain ⟨g85, h⟩ := gAp h
          obtain ⟨v32, c86H, h⟩ := bind_some' h
          obtain ⟨g87, h⟩ := gAp h
          obtain ⟨g88, h⟩ := gAp h
          refine zS (zPC1F (.take 1 (.take 2 (.take 3 (.take 5 (.take 9 (.take 10 (.take 11 (.last 0 (.last 4 (.last 6 (.last 7 (.last 8 (.last 12 (.take 13 .done)))))))))))))) [] (lC [[0]] (con_spec_l11Inst _ _ c86H)) (a4 g83 g84 g85 (a2 g87 g88))) (r_ret ?_)
          refine r_bR hk75 (r_jR hk72 ?_)
          cases h
          refine zAR hQ
        · refine zS z0 ?_
          refine sem_ifh rfl h ?_ ?_ <;> clear h <;> intro h
          · obtain ⟨v33, c90H, h⟩ := bind_some' h
            obtain ⟨v34, h, c91⟩ := bI h
            refine zU (zC1F (lC [[0]] (con_spec_l11Inst _ _ c90H)) c91) (r_bN hk75 ?_)
            refine zJ J71 [5] () _ h
          · refine zS z0 ?_
            refine sem_ifh rfl h ?_ ?_ <;> clear h <;> intro h
            · obtain ⟨v35, c93H, h⟩ := bind_some' h
              obtain ⟨v36, h, c94⟩ := bI h
              refine zU (zC1F (lC [[0]] (con_spec_l26Rd_pick _ _ _ c93H)) c94) (r_bN hk75 ?_)
              refine zJ J71 [5] () _ h
            · refine zS z0 ?_
              refine sem_ifh rfl h ?_ ?_ <;> clear h <;> intro h
              · obtain ⟨v37, h, c96⟩ := bI h
                obtain ⟨v38, c97H, h⟩ := bind_some' h
                refine zU (zC1F (lC [[0]] (con_spec_l4Spoil _ _ _ c97H)) c96) (r_bN hk75 ?_)
                refine zJ J71 [5] () _ h
              · refine zS z0 ?_
                refine sem_ifh rfl h ?_ ?_ <;> clear h <;> intro h
                · obtain ⟨g100, h⟩ := gD2 h
                  refine zS (zRF g100) (r_ret ?_)
                  refine r_bR hk75 (r_jR hk72 ?_)
                  cases h
                  refine zAR hQ
                · refine zS z0 ?_
                  refine sem_ifh rfl h ?_ ?_ <;> clear h <;> intro h
                  · obtain ⟨v39, h, c103⟩ := bI h
                    refine zS (zRF c103) (sem_blk fun k104 hk104 => ?_)
                    obtain ⟨oq115, hLq115, hKq115⟩ := bind_some' h
                    clear h
                    refine sem_loopP [0, 5, 7] (fun (_ : Unit) (x : ((List Int) × Int × (List Inst))) => (⟨[(0, .pt 0 0), (5, .sl 1 0 ((x.2.2).length)), (7, .pt 2 0)], [.rc [.fz 1 (R e_u8 (x.1)), .sc (.int .i64 (x.2.1))], .arr true 3 (R e_Inst (x.2.2)), .rc [.sc (.int .i64 (v39.Code)), .sc (.int .i64 (v39.One_Op)), .fz 3 (R e_DevArg (v39.One_Args))]]⟩ : St)) (fun (_ : Unit) (x : ((List Int) × Int × (List Inst))) => True) (spec_l11Spoil_s55 v39) () (v31.2.b, v31.2.p, v2) hLq115 (by rfl) (by rfl) ⟨?_, trivial⟩ ?_
                    · first | exact wkSt_same rfl | (simp (decide := true) only [go_sem, reduceIte, Nat.reduceAdd, Int.reduceToNat, Nat.reduceSub, Nat.reduceMul]; exact wkSt_same rfl)
                    · rintro nq115 _ ⟨v41, v42, v43⟩ xq115 kq115 hkq115 - h hIq115 hEq115
                      simp only [spec_l11Spoil_s55] at h
                      refine sem_cut fun k116 hk116 => ?_
                      obtain ⟨v46, c118H, h⟩ := bind_some' h
                      refine zS (zC1 (lC [[0]] (con_spec_l26Rd_pick _ _ _ c118H))) ?_
                      refine sem_ifh rfl h ?_ ?_ <;> clear h <;> intro h
                      · refine r_skip (r_cN hk116 ?_)
                        refine sem_blk fun k119 hk119 => ?_
                        obtain ⟨g120, h⟩ := gAp h
                        refine zU (zRF g120) (r_bN hk119 ?_)
                        refine zB hkq115 h hIq115 () trivial
                      · refine r_exit (r_cE hk116 ?_)
                        replace h := zX h hEq115 hKq115
                        refine r_kE hkq115 (r_bE hk104 ?_)
                        refine r_bN hk75 (zJ J71 [5] () _ h)
                  · refine zS z0 ?_
                    refine sem_ifh rfl h ?_ ?_ <;> clear h <;> intro h
                    · obtain ⟨v47, c123H, h⟩ := bind_some' h
                      refine zS (zC1 (lC [[0]] (con_spec_l26Rd_pick _ _ _ c123H))) ?_
                      obtain ⟨v48, h, c125⟩ := bI h
                      refine zS (zRF c125) ?_
                      obtain ⟨v49, h, c127⟩ := bI h
                      obtain ⟨v50, h, c128⟩ := bI h
                      refine zS (zRF (a2 c127 c128)) ?_
                      obtain ⟨v51, h, c129⟩ := bI h
                      refine zU (zRF c129) (r_bN hk75 ?_)
                      refine zJ J71 [5] () _ h
                    · obtain ⟨v52, c130H, h⟩ := bind_some' h
                      obtain ⟨v53, h, c131⟩ := bI h
                      refine zU (zC1F (lC [[0]] (con_spec_l4Any _ _ c130H)) c131) (r_bN hk75 ?_)
                      refine zJ J71 [5] () _ h
noncomputable def spec_l11Any (v1 : l26Rd) : Option ((List Inst) × l26Rd) :=
  (Option.bind (spec_l11Sure v1) fun v2 => (Option.bind (spec_l26Rd_pick v2.2 16) fun v3 => (cond (v3.1 == 0) (Option.bind (spec_l11Spoil v3.2 v2.1) fun v4 => (some (v4.1, v4.2))) (some (v2.1, v3.2)))))
theorem con_spec_l11Any (v1 : l26Rd) (res_ : ((List Inst) × l26Rd)) (h : spec_l11Any v1 = some res_) : Con Try.prog C0 50 [.pt 0 0] [.rc [.fz 1 (R e_u8 (v1.b)), .sc (.int .i64 (v1.p))]]
    (fun x σ' => x = .fz 3 (R e_Inst (res_.1)) ∧ σ' = [.rc [.fz 1 (R e_u8 (res_.2.b)), .sc (.int .i64 (res_.2.p))]]) := by
  refine zCon hP 1 [0, 2, 3, 8] [.tmp 2] Try.func50 (by unfold Try.f50; rfl) fun Q hQ => ?_
  unfold spec_l11Any at h
  refine zS z0 ?_
  obtain ⟨v2, c3H, h⟩ := bind_some' h
  refine zS (zC1 (lC [[0]] (con_spec_l11Sure _ _ c3H))) (sem_cut fun k4 hk4 => ?_)
  obtain ⟨v3, c6H, h⟩ := bind_some' h
  refine zS (zC1 (lC [[0]] (con_spec_l26Rd_pick _ _ _ c6H))) ?_
  refine sem_ifh rfl h ?_ ?_ <;> clear h <;> intro h
  · obtain ⟨v4, c8H, h⟩ := bind_some' h
    refine zS (zC1 (lC [[0]] (con_spec_l11Spoil _ _ _ c8H))) (r_ret ?_)
    refine r_cR hk4 ?_
    cases h
    refine zAR hQ
  · refine r_skip (r_cN hk4 ?_)
    refine zS z0 (r_ret ?_)
    cases h
    refine zAR hQ
noncomputable def spec_l17Has (v1 : Int) : Option Bool :=
  (some ((((v1 == 1) || (v1 == 2)) || (v1 == 3)) || (v1 == 10)))
theorem con_spec_l17Has (v1 : Int) (res_ : Bool) (h : spec_l17Has v1 = some res_) : Con Try.prog C0 40 [.sc (.int .i64 (v1))] []
    (fun x σ' => x = .sc (.bool (res_)) ∧ σ' = []) := by
  refine zCon hP 0 [0, 2] [.tmp 2] Try.func40 (by unfold Try.f40; rfl) fun Q hQ => ?_
  unfold spec_l17Has at h
  refine zS z0 (zS zR ?_)
  refine r_ret ?_
  cases h
  refine zAR hQ
noncomputable def spec_l17Arg (v1 : l26Rd) : Option (DevArg × l26Rd) :=
  (Option.bind (spec_l26Rd_pick v1 8) fun v2 => (cond (v2.1 == 0) (Option.bind (spec_l26Rd_num v2.2 [(-2147483648), 2147483647, 0, (-1), 2147483648, (-2147483649)]) fun v3 => (Option.bind (spec_l26Rd_num v3.2 [0, 7, 255, 255, 256, (-1)]) fun v4 => (some ((⟨12, v3.1, v4.1⟩ : DevArg), v4.2)))) (cond (v2.1 == 1) (Option.bind (spec_l26Rd_num v2.2 [(-32768), 32767, (-1), 255, 256, 32768, (-32769)]) fun v5 => (some ((⟨11, v5.1, 0⟩ : DevArg), v5.2))) (cond (v2.1 == 2) (Option.bind (spec_l26Rd_num v2.2 [0, 255, 256, 4]) fun v6 => (some ((⟨13, v6.1, 0⟩ : DevArg), v6.2))) (cond (v2.1 == 3) (Option.bind (spec_l26Rd_num v2.2 [0, 1, 10, 13, 14, 255]) fun v7 => (some ((⟨v7.1, 7, 0⟩ : DevArg), v7.2))) (Option.bind (spec_l26Rd_pick v2.2 10) fun v8 => (Option.bind (spec_l26Rd_num v8.2 [0, 255, 64, 100, 256, (-1)]) fun v9 => (some ((⟨(IntKind.i64.wrap (1 + v8.1)), v9.1, 0⟩ : DevArg), v9.2)))))))))
theorem con_spec_l17Arg (v1 : l26Rd) (res_ : (DevArg × l26Rd)) (h : spec_l17Arg v1 = some res_) : Con Try.prog C0 52 [.pt 0 0] [.rc [.fz 1 (R e_u8 (v1.b)), .sc (.int .i64 (v1.p))]]
    (fun x σ' => x = .agg [.sc (.int .i64 (res_.1.Kind)), .sc (.int .i64 (res_.1.N)), .sc (.int .i64 (res_.1.P))] ∧ σ' = [.rc [.fz 1 (R e_u8 (res_.2.b)), .sc (.int .i64 (res_.2.p))]]) := by
  refine zCon hP 1 [0, 2, 4, 5, 14, 20, 26] [.cell 2 77] Try.func52 (by unfold Try.f52; rfl) fun Q hQ => ?_
  unfold spec_l17Arg at h
  refine zS z0 (sem_cut fun k2 hk2 => ?_)
  obtain ⟨v2, c4H, h⟩ := bind_some' h
  refine zS (zC1 (lC [[0]] (con_spec_l26Rd_pick _ _ _ c4H))) (sem_blk fun k5 hk5 => ?_)
  refine zS z0 ?_
  refine sem_ifh rfl h ?_ ?_ <;> clear h <;> intro h
  · obtain ⟨v3, c8H, h⟩ := bind_some' h
    obtain ⟨v4, c9H, h⟩ := bind_some' h
    refine zS (zC2 (lC [[0]] (con_spec_l26Rd_num _ _ _ c8H)) (lC [[0]] (con_spec_l26Rd_num _ _ _ c9H))) (r_ret ?_)
    refine r_bR hk5 (r_cR hk2 ?_)
    cases h
    refine zAR hQ
  · refine zS z0 ?_
    refine sem_ifh rfl h ?_ ?_ <;> clear h <;> intro h
    · obtain ⟨v5, c12H, h⟩ := bind_some' h
      refine zS (zC1 (lC [[0]] (con_spec_l26Rd_num _ _ _ c12H))) (r_ret ?_)
      refine r_bR hk5 (r_cR hk2 ?_)
      cases h
      refine zAR hQ
    · refine zS z0 ?_
      refine sem_ifh rfl h ?_ ?_ <;> clear h <;> intro h
      · obtain ⟨v6, c15H, h⟩ := bind_some' h
        refine zS (zC1 (lC [[0]] (con_spec_l26Rd_num _ _ _ c15H))) (r_ret ?_)
        refine r_bR hk5 (r_cR hk2 ?_)
        cases h
        refine zAR hQ
      · refine zS z0 ?_
        refine sem_ifh rfl h ?_ ?_ <;> clear h <;> intro h
        · obtain ⟨v7, c18H, h⟩ := bind_some' h
          refine zS (zC1 (lC [[0]] (con_spec_l26Rd_num _ _ _ c18H))) (r_ret ?_)
          refine r_bR hk5 (r_cR hk2 ?_)
          cases h
          refine zAR hQ
        · refine r_skip (r_bN hk5 ?_)
          refine r_cN hk2 ?_
          obtain ⟨v8, c20H, h⟩ := bind_some' h
          obtain ⟨v9, c21H, h⟩ := bind_some' h
          refine zS (zC2 (lC [[0]] (con_spec_l26Rd_pick _ _ _ c20H)) (lC [[0]] (con_spec_l26Rd_num _ _ _ c21H))) (r_ret ?_)
          cases h
          refine zAR hQ
noncomputable def spec_l17List_j13 : ((List Int) × Int × (List Inst)) → Option ((List Inst) × l26Rd)
  | (v52, v53, v54) => (some (v54, (⟨v52, v53⟩ : l26Rd)))
noncomputable def spec_l17List_j28 (v72 : (List Inst)) (v73 : Int) (v89 : (Inst × l26Rd)) : ((List Int) × Int × (List DevArg)) → Option (((List Int) × Int × (List Inst) × Int) ⊕ ((List Int) × Int × (List Inst)))
  | (v95, v96, v97) => (gd (apOk ((v72 ++ [(⟨v89.1.Code, v89.1.One_Op, v97⟩ : Inst)])).length 40) (some (.inl (v95, v96, (v72 ++ [(⟨v89.1.Code, v89.1.One_Op, v97⟩ : Inst)]), (IntKind.i64.wrap (v73 - 1))))))
noncomputable def spec_l17List_s17 : ((List Int) × Int × (List Inst) × Int) → Option (((List Int) × Int × (List Inst) × Int) ⊕ ((List Int) × Int × (List Inst)))
  | (v70, v71, v72, v73) => (cond (decide (v73 > 0)) (Option.bind (spec_l11Inst (⟨v70, v71⟩ : l26Rd)) fun v89 => (Option.bind (spec_l17Has v89.1.Code) fun v98 => (cond v98 (Option.bind (spec_l26Rd_pick v89.2 3) fun v99 => (cond (v99.1 == 0) (gd (apOk (v89.1.One_Args).length 24) (Option.bind (spec_l26Rd_pick v99.2 (((v89.1.One_Args).length : Nat) : Int)) fun v100 => (Option.bind (spec_l17Arg v100.2) fun v101 => (Option.bind (idx v89.1.One_Args (v100.1)) fun v102 => (spec_l17List_j28 v72 v73 v89 (v101.2.b, v101.2.p, ((v89.1.One_Args).set (v100.1).toNat v101.1))))))) (spec_l17List_j28 v72 v73 v89 (v99.2.b, v99.2.p, v89.1.One_Args)))) (spec_l17List_j28 v72 v73 v89 (v89.2.b, v89.2.p, v89.1.One_Args))))) (some (.inr (v70, v71, v72))))
noncomputable def spec_l17List (v1 : l26Rd) : Option ((List Inst) × l26Rd) :=
  (Option.bind (spec_l26Rd_pick v1 3) fun v2 => (cond (v2.1 == 0) (Option.bind (spec_l11Any v2.2) fun v3 => (some (v3.1, v3.2))) (Option.bind (spec_l26Rd_pick v2.2 12) fun v55 => ((loop spec_l17List_s17 (v55.2.b, v55.2.p, [], v55.1)).bind (fun v88 => (spec_l17List_j13 (v88.1, v88.2.1, v88.2.2)))))))
theorem con_spec_l17List (v1 : l26Rd) (res_ : ((List Inst) × l26Rd)) (h : spec_l17List v1 = some res_) : Con Try.prog C0 24 [.pt 0 0] [.rc [.fz 1 (R e_u8 (v1.b)), .sc (.int .i64 (v1.p))]]
    (fun x σ' => x = .fz 3 (R e_Inst (res_.1)) ∧ σ' = [.rc [.fz 1 (R e_u8 (res_.2.b)), .sc (.int .i64 (res_.2.p))]]) := by
  refine zCon hP 1 [0, 2, 3, 4, 5, 6, 7, 10, 17, 29] [.tmp 2] Try.func24 (by unfold Try.f24; rfl) fun Q hQ => ?_
  unfold spec_l17List at h
  refine zS z0 (sem_cut fun k2 hk2 => ?_)
  obtain ⟨v2, c4H, h⟩ := bind_some' h
  refine zS (zC1 (lC [[0]] (con_spec_l26Rd_pick _ _ _ c4H))) ?_
  refine sem_ifh rfl h ?_ ?_ <;> clear h <;> intro h
  · obtain ⟨v3, c6H, h⟩ := bind_some' h
    refine zS (zC1 (lC [[0]] (con_spec_l11Any _ _ c6H))) (r_ret ?_)
    refine r_cR hk2 ?_
    cases h
    refine zAR hQ
  · refine r_skip (r_cN hk2 ?_)
    refine zS z0 (zCut (fun (x : ((List Int) × Int × (List Inst))) => ⟨[(3, .sl 1 0 ((x.2.2).length))], [.rc [.fz 1 (R e_u8 (x.1)), .sc (.int .i64 (x.2.1))], .arr true 3 (R e_Inst (x.2.2))]⟩) spec_l17List_j13 res_ ?_ ?_)
    · rintro _ ⟨v52, v53, v54⟩ h
      simp only [spec_l17List_j13] at h
      refine zS z0 (r_ret ?_)
      cases h
      refine zAR hQ
    · intro k110 hk110 J109
      obtain ⟨v55, c112H, h⟩ := bind_some' h
      refine zS (zC1 (lC [[0]] (con_spec_l26Rd_pick _ _ _ c112H))) (sem_blk fun k113 hk113 => ?_)
      obtain ⟨oq178, hLq178, hKq178⟩ := bind_some' h
      clear h
      refine sem_loopP [0, 3, 4] (fun (_ : Unit) (x : ((List Int) × Int × (List Inst) × Int)) => (⟨[(0, .pt 0 0), (3, .sl 1 0 ((x.2.2.1).length)), (4, .sc (.int .i64 (x.2.2.2)))], [.rc [.fz 1 (R e_u8 (x.1)), .sc (.int .i64 (x.2.1))], .arr true 3 (R e_Inst (x.2.2.1))]⟩ : St)) (fun (_ : Unit) (x : ((List Int) × Int × (List Inst) × Int)) => True) spec_l17List_s17 () (v55.2.b, v55.2.p, [], v55.1) hLq178 (by rfl) (by rfl) ⟨?_, trivial⟩ ?_
      · first | exact wkSt_same rfl | (simp (decide := true) only [go_sem, reduceIte, Nat.reduceAdd, Int.reduceToNat, Nat.reduceSub, Nat.reduceMul]; exact wkSt_same rfl)
      · rintro nq178 _ ⟨v70, v71, v72, v73⟩ xq178 kq178 hkq178 - h hIq178 hEq178
        simp only [spec_l17List_s17] at h
        refine sem_cut fun k179 hk179 => zS z0 ?_
        refine sem_ifh rfl h ?_ ?_ <;> clear h <;> intro h
        · refine r_skip (r_cN hk179 ?_)
          refine sem_cut fun k181 hk181 => sem_blk fun k182 hk182 => ?_
          obtain ⟨v89, c184H, h⟩ := bind_some' h
          refine zS (zC1 (lC [[0]] (con_spec_l11Inst _ _ c184H))) (sem_cutJ (fun (i : P2) (x : ((List Int) × Int × (List DevArg))) => match i with | .a => (⟨[(0, .pt 0 0), (3, .sl 1 0 ((v72).length)), (4, .sc (.int .i64 (v73))), (5, .pt 2 0)], [.rc [.fz 1 (R e_u8 (x.1)), .sc (.int .i64 (x.2.1))], .arr true 3 (R e_Inst (v72)), .rc [.sc (.int .i64 (v89.1.Code)), .sc (.int .i64 (v89.1.One_Op)), .sl 3 0 ((x.2.2).length)], .arr true 3 (R e_DevArg (x.2.2))]⟩ : St) | .b => (⟨[(0, .pt 0 0), (3, .sl 1 0 ((v72).length)), (4, .sc (.int .i64 (v73))), (5, .pt 2 0)], [.rc [.fz 1 (R e_u8 (x.1)), .sc (.int .i64 (x.2.1))], .arr true 3 (R e_Inst (v72)), .rc [.sc (.int .i64 (v89.1.Code)), .sc (.int .i64 (v89.1.One_Op)), .fz 3 (R e_DevArg (x.2.2))]]⟩ : St)) (fun (i : P2) (x : ((List Int) × Int × (List DevArg))) => (match i with | .a => True | .b => True) ∧ spec_l17List_j28 v72 v73 v89 x = some xq178) ?_ ?_)
          · rintro (_ | _) ⟨v95, v96, v97⟩ ⟨hp, h⟩
            · simp only [spec_l17List_j28] at h
              obtain ⟨g196, h⟩ := gAp h
              refine zU (zRF g196) (r_bN hk182 ?_)
              refine r_cN hk181 (zU z0 ?_)
              refine zB hkq178 h hIq178 () trivial
            · simp only [spec_l17List_j28] at h
              obtain ⟨g197, h⟩ := gAp h
              refine zU (zRF g197) (r_bN hk182 ?_)
              refine r_cN hk181 (zU z0 ?_)
              refine zB hkq178 h hIq178 () trivial
          · intro k199 hk199 J198
            refine sem_cut fun k200 hk200 => ?_
            obtain ⟨v98, c201H, h⟩ := bind_some' h
            rcases Bool.eq_false_or_eq_true v98 with g202 | g202
            · replace h := cond_t h g202
              obtain ⟨v99, c203H, h⟩ := bind_some' h
              refine zU (zC2F (lF [] (con_spec_l17Has _ _ c201H)) (lC [[0]] (con_spec_l26Rd_pick _ _ _ c203H)) g202) (r_cN hk200 ?_)
              refine sem_ifh rfl h ?_ ?_ <;> clear h <;> intro h
              · obtain ⟨g205, h⟩ := gAp h
                refine zS (zRF g205) ?_
                obtain ⟨v100, c207H, h⟩ := bind_some' h
                refine zS (zC1 (lC [[0]] (con_spec_l26Rd_pick _ _ _ c207H))) ?_
                obtain ⟨v101, c209H, h⟩ := bind_some' h
                obtain ⟨v102, h, c210⟩ := bI h
                refine zS (zC1F (lC [[0]] (con_spec_l17Arg _ _ c209H)) c210) (zU z0 ?_)
                refine zJ J198 [0, 3, 4, 5] (.a) (v101.2.b, v101.2.p, ((v89.1.One_Args).set (v100.1).toNat v101.1)) ⟨trivial, h⟩
              · refine r_skip (zJ J198 [0, 3, 4, 5] (.b) (v99.2.b, v99.2.p, v89.1.One_Args) ⟨trivial, h⟩)
            · replace h := cond_f h g202
              refine zU (zC1F (lF [] (con_spec_l17Has _ _ c201H)) g202) (r_cN hk200 ?_)
              refine sem_ifF rfl ?_
              try replace h := cond_f h rfl
              refine r_skip (zJ J198 [0, 3, 4, 5] (.b) (v89.2.b, v89.2.p, v89.1.One_Args) ⟨trivial, h⟩)
        · refine r_exit (r_cE hk179 ?_)
          replace h := zX h hEq178 hKq178
          refine r_kE hkq178 (r_bE hk113 ?_)
          refine zJ J109 [3] () _ h
noncomputable def spec_l17Known (v1 : Int) (v2 : Int) : Option Bool :=
  (cond (v1 == 10) (some ((decide (v2 ≥ 21)) && (decide (v2 ≤ 37)))) (some ((decide (v2 ≥ 1)) && (decide (v2 ≤ 10)))))
theorem con_spec_l17Known (v1 : Int) (v2 : Int) (res_ : Bool) (h : spec_l17Known v1 v2 = some res_) : Con Try.prog C0 41 [.sc (.int .i64 (v1)), .sc (.int .i64 (v2))] []
    (fun x σ' => x = .sc (.bool (res_)) ∧ σ' = []) := by
  refine zCon hP 0 [0, 1, 4, 6] [.tmp 4] Try.func41 (by unfold Try.f41; rfl) fun Q hQ => ?_
  unfold spec_l17Known at h
  refine zS z0 (sem_cut fun k2 hk2 => ?_)
  refine zS z0 ?_
  refine sem_ifh rfl h ?_ ?_ <;> clear h <;> intro h
  · refine zS zR (r_ret ?_)
    refine r_cR hk2 ?_
    cases h
    refine zAR hQ
  · refine r_skip (r_cN hk2 ?_)
    refine zS zR (r_ret ?_)
    cases h
    refine zAR hQ
noncomputable def spec_l17Field (v1 : DevArg) : Option Bool :=
  (cond (v1.Kind == 11) (some (((decide (v1.N ≥ (-32768))) && (decide (v1.N ≤ 32767))) && (v1.P == 0))) (cond (v1.Kind == 12) (some ((((decide (v1.N ≥ (-2147483648))) && (decide (v1.N ≤ 2147483647))) && (decide (v1.P ≥ 0))) && (decide (v1.P ≤ 255)))) (cond (v1.Kind == 13) (some (((decide (v1.N ≥ 0)) && (decide (v1.N ≤ 255))) && (v1.P == 0))) (some (((((decide (v1.Kind ≥ 1)) && (decide (v1.Kind ≤ 10))) && (decide (v1.N ≥ 0))) && (decide (v1.N ≤ 255))) && (v1.P == 0))))))
theorem con_spec_l17Field (v1 : DevArg) (res_ : Bool) (h : spec_l17Field v1 = some res_) : Con Try.prog C0 60 [.agg [.sc (.int .i64 (v1.Kind)), .sc (.int .i64 (v1.N)), .sc (.int .i64 (v1.P))]] []
    (fun x σ' => x = .sc (.bool (res_)) ∧ σ' = []) := by
  refine zCon hP 0 [0, 1, 2, 4, 5, 20, 40] [.tmp 2] Try.func60 (by unfold Try.f60; rfl) fun Q hQ => ?_
  unfold spec_l17Field at h
  refine zS z0 (sem_cut fun k2 hk2 => ?_)
  refine zS z0 (sem_blk fun k4 hk4 => ?_)
  refine zS z0 ?_
  refine sem_ifh rfl h ?_ ?_ <;> clear h <;> intro h
  · refine zS zR (r_ret ?_)
    refine r_bR hk4 (r_cR hk2 ?_)
    cases h
    refine zAR hQ
  · refine zS z0 ?_
    refine sem_ifh rfl h ?_ ?_ <;> clear h <;> intro h
    · refine zS zR (r_ret ?_)
      refine r_bR hk4 (r_cR hk2 ?_)
      cases h
      refine zAR hQ
    · refine zS z0 ?_
      refine sem_ifh rfl h ?_ ?_ <;> clear h <;> intro h
      · refine zS zR (r_ret ?_)
        refine r_bR hk4 (r_cR hk2 ?_)
        cases h
        refine zAR hQ
      · refine r_skip (r_bN hk4 ?_)
        refine r_cN hk2 (zS zR ?_)
        refine r_ret ?_
        cases h
        refine zAR hQ
noncomputable def spec_l17Wrong_j35 : Unit → Option Int
  | () => (some 0)
noncomputable def spec_l17Wrong_s39 (v1 : Inst) : Int → Option (Int ⊕ (Unit ⊕ Unit))
  | v16 => (cond (decide (v16 < ((v1.One_Args).length : Int))) (Option.bind (idx v1.One_Args (v16)) fun v21 => (Option.bind (spec_l17Field v21) fun v22 => (cond (!v22) (some (.inr (.inl ()))) (some (.inl (IntKind.i64.wrap (v16 + 1))))))) (some (.inr (.inr ()))))
noncomputable def spec_l17Wrong (v1 : Inst) : Option Int :=
  (cond ((decide (v1.Code < 1)) || (decide (v1.Code > 11))) (some 2) (Option.bind (spec_l17Has v1.Code) fun v2 => (cond (!v2) (cond ((v1.One_Op != 0) || (decide (((v1.One_Args).length : Int) > 0))) (some 2) (some 0)) (Option.bind (spec_l17Known v1.Code v1.One_Op) fun v3 => (cond v3 (Option.bind (spec_ElemArity v1.One_Op) fun v4 => (cond (((v1.One_Args).length : Int) != v4) (some 2) ((loop (spec_l17Wrong_s39 v1) 0).bind (Sum.elim (fun v19 => (some 3)) (fun v20 => (spec_l17Wrong_j35 ())))))) (some 2))))))
theorem con_spec_l17Wrong (v1 : Inst) (res_ : Int) (h : spec_l17Wrong v1 = some res_) : Con Try.prog C0 30 [.agg [.sc (.int .i64 (v1.Code)), .sc (.int .i64 (v1.One_Op)), .fz 3 (R e_DevArg (v1.One_Args))]] []
    (fun x σ' => x = .sc (.int .i64 (res_)) ∧ σ' = []) := by
  refine zCon hP 0 [0, 1, 2, 3, 11, 15, 26, 44, 50, 60] [.tmp 2] Try.func30 (by unfold Try.f30; rfl) fun Q hQ => ?_
  unfold spec_l17Wrong at h
  refine zS z0 (sem_cut fun k2 hk2 => ?_)
  refine zS zR ?_
  refine sem_ifh rfl h ?_ ?_ <;> clear h <;> intro h
  · refine zS z0 (r_ret ?_)
    refine r_cR hk2 ?_
    cases h
    refine zAR hQ
  · refine r_skip (r_cN hk2 ?_)
    refine sem_cut fun k5 hk5 => ?_
    obtain ⟨v2, c7H, h⟩ := bind_some' h
    refine zS (zC1 (lF [] (con_spec_l17Has _ _ c7H))) ?_
    refine sem_ifh rfl h ?_ ?_ <;> clear h <;> intro h
    · refine sem_cut fun k8 hk8 => zS zR ?_
      refine sem_ifh rfl h ?_ ?_ <;> clear h <;> intro h
      · refine zS z0 (r_ret ?_)
        refine r_cR hk8 (r_cR hk5 ?_)
        cases h
        refine zAR hQ
      · refine r_skip (r_cN hk8 ?_)
        refine zS z0 (r_ret ?_)
        refine r_cR hk5 ?_
        cases h
        refine zAR hQ
    · refine r_skip (r_cN hk5 ?_)
      refine sem_cut fun k12 hk12 => sem_cut fun k13 hk13 => ?_
      obtain ⟨v3, c14H, h⟩ := bind_some' h
      rcases Bool.eq_false_or_eq_true v3 with g15 | g15
      · replace h := cond_t h g15
        obtain ⟨v4, c16H, h⟩ := bind_some' h
        refine zU (zPC2F (.take 0 (.take 1 (.take 2 (.take 3 (.take 4 (.one 5 (.take 6 (.take 7 (.take 8 (.take 9 (.take 10 (.take 11 (.take 12 (.take 13 (.take 14 (.one 15 (.take 16 (.take 17 .done)))))))))))))))))) [0] (lF [] (con_spec_l17Known _ _ _ c14H)) (lF [] (con_spec_ElemArity _ _ c16H)) g15) (r_cN hk13 ?_)
        refine sem_ifh rfl h ?_ ?_ <;> clear h <;> intro h
        · refine zS z0 (r_ret ?_)
          refine r_cR hk12 ?_
          cases h
          refine zAR hQ
        · refine r_skip (r_cN hk12 ?_)
          refine zCut (fun (x : Unit) => ⟨[], []⟩) spec_l17Wrong_j35 res_ ?_ ?_
          · rintro _ _ h
            simp only [spec_l17Wrong_j35] at h
            refine zS z0 (r_ret ?_)
            cases h
            refine zAR hQ
          · intro k47 hk47 J46
            refine zS z0 (sem_blk fun k49 hk49 => ?_)
            obtain ⟨oq66, hLq66, hKq66⟩ := bind_some' h
            clear h
            refine sem_loopP [1, 3] (fun (_ : Unit) (x : Int) => (⟨[(1, .pt 0 0), (3, .sc (.int .i64 (x)))], [.rc [.sc (.int .i64 (v1.Code)), .sc (.int .i64 (v1.One_Op)), .fz 3 (R e_DevArg (v1.One_Args))]]⟩ : St)) (fun (_ : Unit) (x : Int) => True) (spec_l17Wrong_s39 v1) () 0 hLq66 (by rfl) (by rfl) ⟨?_, trivial⟩ ?_
            · first | exact wkSt_same rfl | (simp (decide := true) only [go_sem, reduceIte, Nat.reduceAdd, Int.reduceToNat, Nat.reduceSub, Nat.reduceMul]; exact wkSt_same rfl)
            · rintro nq66 _ v16 xq66 kq66 hkq66 - h hIq66 hEq66
              simp only [spec_l17Wrong_s39] at h
              refine sem_cut fun k67 hk67 => zS z0 ?_
              refine sem_ifh rfl h ?_ ?_ <;> clear h <;> intro h
              · refine r_skip (r_cN hk67 ?_)
                refine sem_cut fun k69 hk69 => sem_blk fun k70 hk70 => ?_
                obtain ⟨v21, h, c72⟩ := bI h
                obtain ⟨v22, c73H, h⟩ := bind_some' h
                refine zS (zC1F (lF [] (con_spec_l17Field _ _ c73H)) c72) ?_
                refine sem_ifh rfl h ?_ ?_ <;> clear h <;> intro h
                · refine zS z0 (r_ret ?_)
                  refine r_bR hk70 (r_cR hk69 ?_)
                  replace h := zX h hEq66 hKq66
                  simp only [Sum.elim_inl, Sum.elim_inr] at h
                  refine r_kR hkq66 (r_bR hk49 ?_)
                  refine r_jR hk47 ?_
                  cases h
                  refine zAR hQ
                · refine r_skip (r_bN hk70 ?_)
                  refine r_cN hk69 (zU z0 ?_)
                  refine zB hkq66 h hIq66 () trivial
              · refine r_exit (r_cE hk67 ?_)
                replace h := zX h hEq66 hKq66
                simp only [Sum.elim_inl, Sum.elim_inr] at h
                refine r_kE hkq66 (r_bE hk49 ?_)
                refine zJ J46 [] () _ h
      · replace h := cond_f h g15
        refine zU (zPC1F (.take 0 (.take 1 (.take 2 (.take 3 (.take 4 (.one 5 (.take 6 (.take 7 (.take 8 (.take 9 (.take 10 (.take 11 (.take 12 (.take 13 (.take 14 (.one 15 (.take 16 (.take 17 .done)))))))))))))))))) [0] (lF [] (con_spec_l17Known _ _ _ c14H)) g15) (r_cN hk13 ?_)
        refine sem_ifT rfl ?_
        try replace h := cond_t h rfl
        refine zS z0 (r_ret ?_)
        refine r_cR hk12 ?_
        cases h
        refine zAR hQ
noncomputable def spec_l17Wide (v1 : Int) : Option Int :=
  (cond (v1 == 11) (some 2) (cond (v1 == 12) (some 4) (some 1)))
theorem con_spec_l17Wide (v1 : Int) (res_ : Int) (h : spec_l17Wide v1 = some res_) : Con Try.prog C0 61 [.sc (.int .i64 (v1))] []
    (fun x σ' => x = .sc (.int .i64 (res_)) ∧ σ' = []) := by
  refine zCon hP 0 [0, 2, 3, 4, 6] [.tmp 2] Try.func61 (by unfold Try.f61; rfl) fun Q hQ => ?_
  unfold spec_l17Wide at h
  refine zS z0 (sem_cut fun k2 hk2 => ?_)
  refine zS z0 (sem_blk fun k4 hk4 => ?_)
  refine zS z0 ?_
  refine sem_ifh rfl h ?_ ?_ <;> clear h <;> intro h
  · refine zS z0 (r_ret ?_)
    refine r_bR hk4 (r_cR hk2 ?_)
    cases h
    refine zAR hQ
  · refine zS z0 ?_
    refine sem_ifh rfl h ?_ ?_ <;> clear h <;> intro h
    · refine zS z0 (r_ret ?_)
      refine r_bR hk4 (r_cR hk2 ?_)
      cases h
      refine zAR hQ
    · refine r_skip (r_bN hk4 ?_)
      refine r_cN hk2 (zS z0 ?_)
      refine r_ret ?_
      cases h
      refine zAR hQ
noncomputable def spec_l17Num_j5 : (List Int) → Option (List Int)
  | v13 => (some v13)
noncomputable def spec_l17Num_j20 (v16 : Int) (v17 : (List Int)) (v18 : Int) : Int → Option ((Int × (List Int) × Int) ⊕ (List Int))
  | v22 => (Option.bind (idx v17 (v18)) fun v23 => (some (.inl ((IntKind.i64.wrap (((IntKind.i64.wrap (v16 - v22))).tdiv 256)), ((v17).set (v18).toNat (IntKind.u8.wrap (v22))), (IntKind.i64.wrap (v18 - 1))))))
noncomputable def spec_l17Num_s9 : (Int × (List Int) × Int) → Option ((Int × (List Int) × Int) ⊕ (List Int))
  | (v16, v17, v18) => (cond (decide (v18 ≥ 0)) (cond (decide (((v16).tmod 256) < 0)) (spec_l17Num_j20 v16 v17 v18 (IntKind.i64.wrap (((v16).tmod 256) + 256))) (spec_l17Num_j20 v16 v17 v18 ((v16).tmod 256))) (some (.inr v17)))
noncomputable def spec_l17Num (v1 : Int) (v2 : Int) : Option (List Int) :=
  (gd (mkOk (v2) (v2) 1) ((loop spec_l17Num_s9 (v1, (List.replicate (v2).toNat 0), (IntKind.i64.wrap (v2 - 1)))).bind (fun v21 => (spec_l17Num_j5 v21))))
theorem con_spec_l17Num (v1 : Int) (v2 : Int) (res_ : (List Int)) (h : spec_l17Num v1 v2 = some res_) : Con Try.prog C0 32 [.sc (.int .i64 (v1)), .sc (.int .i64 (v2))] []
    (fun x σ' => x = .sl 0 0 ((res_).length) ∧ σ' = [.arr true 1 (R e_u8 (res_))]) := by
  refine zCon hP 0 [0, 1, 4, 5, 6, 7, 13, 19] [.tmp 4] Try.func32 (by unfold Try.f32; rfl) fun Q hQ => ?_
  unfold spec_l17Num at h
  refine zS z0 ?_
  obtain ⟨g3, h⟩ := gMk h
  refine zS (zRF g3) (zCut (fun (x : (List Int)) => ⟨[(5, .sl 0 0 ((x).length))], [.arr true 1 (R e_u8 (x))]⟩) spec_l17Num_j5 res_ ?_ ?_)
  · rintro _ v13 h
    simp only [spec_l17Num_j5] at h
    refine zS z0 (r_ret ?_)
    cases h
    refine zOR hQ
  · intro k42 hk42 J41
    refine zS z0 (sem_blk fun k44 hk44 => ?_)
    obtain ⟨oq67, hLq67, hKq67⟩ := bind_some' h
    clear h
    refine sem_loopP [0, 5, 6] (fun (_ : Unit) (x : (Int × (List Int) × Int)) => (⟨[(0, .sc (.int .i64 (x.1))), (5, .sl 0 0 ((x.2.1).length)), (6, .sc (.int .i64 (x.2.2)))], [.arr true 1 (R e_u8 (x.2.1))]⟩ : St)) (fun (_ : Unit) (x : (Int × (List Int) × Int)) => True) spec_l17Num_s9 () (v1, (List.replicate (v2).toNat 0), (IntKind.i64.wrap (v2 - 1))) hLq67 (by rfl) (by rfl) ⟨?_, trivial⟩ ?_
    · first | exact wkSt_same rfl | (simp (decide := true) only [go_sem, reduceIte, Nat.reduceAdd, Int.reduceToNat, Nat.reduceSub, Nat.reduceMul]; exact wkSt_same rfl)
    · rintro nq67 _ ⟨v16, v17, v18⟩ xq67 kq67 hkq67 - h hIq67 hEq67
      simp only [spec_l17Num_s9] at h
      refine sem_cut fun k68 hk68 => zS z0 ?_
      refine sem_ifh rfl h ?_ ?_ <;> clear h <;> intro h
      · refine r_skip (r_cN hk68 ?_)
        refine sem_cut fun k70 hk70 => sem_blk fun k71 hk71 => zS zR (zCut (fun (x : Int) => ⟨[(0, .sc (.int .i64 (v16))), (5, .sl 0 0 ((v17).length)), (6, .sc (.int .i64 (v18))), (7, .sc (.int .i64 (x)))], [.arr true 1 (R e_u8 (v17))]⟩) (spec_l17Num_j20 v16 v17 v18) xq67 ?_ ?_)
        · rintro _ v22 h
          simp only [spec_l17Num_j20] at h
          obtain ⟨v23, h, c75⟩ := bI h
          refine zS (zRF c75) (zU zR ?_)
          refine r_bN hk71 (r_cN hk70 ?_)
          refine zU z0 (zB hkq67 h hIq67 () trivial)
        · intro k77 hk77 J76
          refine zS z0 ?_
          refine sem_ifh rfl h ?_ ?_ <;> clear h <;> intro h
          · refine zU z0 (zJ J76 [0, 5, 6, 7] () _ h)
          · refine r_skip (zJ J76 [0, 5, 6, 7] () _ h)
      · refine r_exit (r_cE hk68 ?_)
        replace h := zX h hEq67 hKq67
        refine r_kE hkq67 (r_bE hk44 ?_)
        refine zJ J41 [5] () _ h
noncomputable def spec_l17Inst_j15 : (List Int) → Option (List Int)
  | v27 => (some v27)
noncomputable def spec_l17Inst_j26 (v36 : Int) : (List Int) → Option (((List Int) × Int) ⊕ (List Int))
  | v48 => (some (.inl (v48, (IntKind.i64.wrap (v36 + 1)))))
noncomputable def spec_l17Inst_s19 (v1 : Inst) : ((List Int) × Int) → Option (((List Int) × Int) ⊕ (List Int))
  | (v35, v36) => (cond (decide (v36 < ((v1.One_Args).length : Int))) (Option.bind (idx v1.One_Args (v36)) fun v49 => (gd (apOk ((v35 ++ [(IntKind.u8.wrap (v49.Kind))])).length 1) (Option.bind (spec_l17Wide v49.Kind) fun v50 => (Option.bind (spec_l17Num v49.N v50) fun v51 => (gd (apOk (((v35 ++ [(IntKind.u8.wrap (v49.Kind))]) ++ v51)).length 1) (cond (v49.Kind == 12) (gd (apOk ((((v35 ++ [(IntKind.u8.wrap (v49.Kind))]) ++ v51) ++ [(IntKind.u8.wrap (v49.P))])).length 1) (spec_l17Inst_j26 v36 (((v35 ++ [(IntKind.u8.wrap (v49.Kind))]) ++ v51) ++ [(IntKind.u8.wrap (v49.P))]))) (spec_l17Inst_j26 v36 ((v35 ++ [(IntKind.u8.wrap (v49.Kind))]) ++ v51)))))))) (some (.inr v35)))
noncomputable def spec_l17Inst (v1 : Inst) : Option (List Int) :=
  (Option.bind (spec_l17Has v1.Code) fun v2 => (cond (!v2) (some [(IntKind.u8.wrap (v1.Code))]) (gd (apOk (([(IntKind.u8.wrap (v1.Code))] ++ [(IntKind.u8.wrap (v1.One_Op))])).length 1) ((loop (spec_l17Inst_s19 v1) (([(IntKind.u8.wrap (v1.Code))] ++ [(IntKind.u8.wrap (v1.One_Op))]), 0)).bind (fun v44 => (spec_l17Inst_j15 v44))))))
theorem con_spec_l17Inst (v1 : Inst) (res_ : (List Int)) (h : spec_l17Inst v1 = some res_) : Con Try.prog C0 31 [.agg [.sc (.int .i64 (v1.Code)), .sc (.int .i64 (v1.One_Op)), .fz 3 (R e_DevArg (v1.One_Args))]] []
    (fun x σ' => x = .sl 0 0 ((res_).length) ∧ σ' = [.arr true 1 (R e_u8 (res_))]) := by
  refine zCon hP 0 [0, 1, 2, 3, 4, 5, 13, 27, 52] [.tmp 2] Try.func31 (by unfold Try.f31; rfl) fun Q hQ => ?_
  unfold spec_l17Inst at h
  refine zS z0 (zS z0 ?_)
  refine sem_cut fun k3 hk3 => ?_
  obtain ⟨v2, c5H, h⟩ := bind_some' h
  refine zS (zC1 (lF [] (con_spec_l17Has _ _ c5H))) ?_
  refine sem_ifh rfl h ?_ ?_ <;> clear h <;> intro h
  · refine zS z0 (r_ret ?_)
    refine r_cR hk3 ?_
    cases h
    refine zOR hQ
  · refine r_skip (r_cN hk3 ?_)
    obtain ⟨g8, h⟩ := gAp h
    refine zS (zRFn g8) (zCut (fun (x : (List Int)) => ⟨[(3, .sl 0 0 ((x).length))], [.arr true 1 (R e_u8 (x))]⟩) spec_l17Inst_j15 res_ ?_ ?_)
    · rintro _ v27 h
      simp only [spec_l17Inst_j15] at h
      refine zS z0 (r_ret ?_)
      cases h
      refine zOR hQ
    · intro k92 hk92 J91
      refine zS z0 (sem_blk fun k94 hk94 => ?_)
      obtain ⟨oq147, hLq147, hKq147⟩ := bind_some' h
      clear h
      refine sem_loopP [1, 3, 4] (fun (_ : Unit) (x : ((List Int) × Int)) => (⟨[(1, .pt 0 0), (3, .sl 1 0 ((x.1).length)), (4, .sc (.int .i64 (x.2)))], [.rc [.sc (.int .i64 (v1.Code)), .sc (.int .i64 (v1.One_Op)), .fz 3 (R e_DevArg (v1.One_Args))], .arr true 1 (R e_u8 (x.1))]⟩ : St)) (fun (_ : Unit) (x : ((List Int) × Int)) => True) (spec_l17Inst_s19 v1) () (([(IntKind.u8.wrap (v1.Code))] ++ [(IntKind.u8.wrap (v1.One_Op))]), 0) hLq147 (by rfl) (by rfl) ⟨?_, trivial⟩ ?_
      · first | exact wkSt_same rfl | (simp (decide := true) only [go_sem, reduceIte, Nat.reduceAdd, Int.reduceToNat, Nat.reduceSub, Nat.reduceMul]; exact wkSt_same rfl)
      · rintro nq147 _ ⟨v35, v36⟩ xq147 kq147 hkq147 - h hIq147 hEq147
        simp only [spec_l17Inst_s19] at h
        refine sem_cut fun k148 hk148 => zS z0 ?_
        refine sem_ifh rfl h ?_ ?_ <;> clear h <;> intro h
        · refine r_skip (r_cN hk148 ?_)
          refine zCut (fun (x : (List Int)) => ⟨[(1, .pt 0 0), (3, .sl 1 0 ((x).length)), (4, .sc (.int .i64 (v36)))], [.rc [.sc (.int .i64 (v1.Code)), .sc (.int .i64 (v1.One_Op)), .fz 3 (R e_DevArg (v1.One_Args))], .arr true 1 (R e_u8 (x))]⟩) (spec_l17Inst_j26 v36) xq147 ?_ ?_
          · rintro _ v48 h
            simp only [spec_l17Inst_j26] at h
            refine zU z0 (zB hkq147 h hIq147 () trivial)
          · intro k162 hk162 J161
            refine sem_blk fun k163 hk163 => ?_
            obtain ⟨v49, h, c165⟩ := bI h
            refine zS (zRF c165) ?_
            obtain ⟨g167, h⟩ := gAp h
            refine zS (zRF g167) ?_
            obtain ⟨v50, c169H, h⟩ := bind_some' h
            obtain ⟨v51, c170H, h⟩ := bind_some' h
            obtain ⟨g171, h⟩ := gAp h
            refine zS (zPC2F (.take 0 (.take 1 (.take 2 (.take 3 (.take 4 (.one 5 (.one 6 (.one 7 (.take 8 .done))))))))) [2] (lF [] (con_spec_l17Wide _ _ c169H)) (lF [] (con_spec_l17Num _ _ _ c170H)) g171) (zS z0 ?_)
            refine sem_ifh rfl h ?_ ?_ <;> clear h <;> intro h
            · obtain ⟨g173, h⟩ := gAp h
              refine zU (zRF g173) (r_bN hk163 ?_)
              refine zJ J161 [1, 3, 4] () _ h
            · refine r_skip (r_bN hk163 ?_)
              refine zJ J161 [1, 3, 4] () _ h
        · refine r_exit (r_cE hk148 ?_)
          replace h := zX h hEq147 hKq147
          refine r_kE hkq147 (r_bE hk94 ?_)
          refine zJ J91 [3] () _ h
noncomputable def spec_l17Xor_j7 : Int → Option Int
  | v11 => (some v11)
noncomputable def spec_l17Xor_j17 (v13 : Int) (v14 : Int) (v16 : Int) : Int → Option ((Int × Int × Int × Int) ⊕ Int)
  | v19 => (some (.inl ((IntKind.i64.wrap ((v13).tdiv 2)), (IntKind.i64.wrap ((v14).tdiv 2)), v19, (IntKind.i64.wrap (v16 * 2)))))
noncomputable def spec_l17Xor_s9 : (Int × Int × Int × Int) → Option ((Int × Int × Int × Int) ⊕ Int)
  | (v13, v14, v15, v16) => (cond (decide (v16 < 65536)) (cond (((v13).tmod 2) != ((v14).tmod 2)) (spec_l17Xor_j17 v13 v14 v16 (IntKind.i64.wrap (v15 + v16))) (spec_l17Xor_j17 v13 v14 v16 v15)) (some (.inr v15)))
noncomputable def spec_l17Xor (v1 : Int) (v2 : Int) : Option Int :=
  ((loop spec_l17Xor_s9 (v1, v2, 0, 1)).bind (fun v18 => (spec_l17Xor_j7 v18)))
theorem con_spec_l17Xor (v1 : Int) (v2 : Int) (res_ : Int) (h : spec_l17Xor v1 v2 = some res_) : Con Try.prog C0 37 [.sc (.int .i64 (v1)), .sc (.int .i64 (v2))] []
    (fun x σ' => x = .sc (.int .i64 (res_)) ∧ σ' = []) := by
  refine zCon hP 0 [0, 1, 4, 5, 6, 8, 13] [.tmp 4] Try.func37 (by unfold Try.f37; rfl) fun Q hQ => ?_
  unfold spec_l17Xor at h
  refine zS z0 (zS z0 ?_)
  refine zS z0 (zCut (fun (x : Int) => ⟨[(5, .sc (.int .i64 (x)))], []⟩) spec_l17Xor_j7 res_ ?_ ?_)
  · rintro _ v11 h
    simp only [spec_l17Xor_j7] at h
    refine zS z0 (r_ret ?_)
    cases h
    refine zAR hQ
  · intro k35 hk35 J34
    refine sem_blk fun k36 hk36 => ?_
    obtain ⟨oq55, hLq55, hKq55⟩ := bind_some' h
    clear h
    refine sem_loopP [0, 1, 5, 6] (fun (_ : Unit) (x : (Int × Int × Int × Int)) => (⟨[(0, .sc (.int .i64 (x.1))), (1, .sc (.int .i64 (x.2.1))), (5, .sc (.int .i64 (x.2.2.1))), (6, .sc (.int .i64 (x.2.2.2)))], []⟩ : St)) (fun (_ : Unit) (x : (Int × Int × Int × Int)) => True) spec_l17Xor_s9 () (v1, v2, 0, 1) hLq55 (by rfl) (by rfl) ⟨?_, trivial⟩ ?_
    · first | exact wkSt_same rfl | (simp (decide := true) only [go_sem, reduceIte, Nat.reduceAdd, Int.reduceToNat, Nat.reduceSub, Nat.reduceMul]; exact wkSt_same rfl)
    · rintro nq55 _ ⟨v13, v14, v15, v16⟩ xq55 kq55 hkq55 - h hIq55 hEq55
      simp only [spec_l17Xor_s9] at h
      refine sem_cut fun k56 hk56 => zS z0 ?_
      refine sem_ifh rfl h ?_ ?_ <;> clear h <;> intro h
      · refine r_skip (r_cN hk56 ?_)
        refine sem_blk fun k58 hk58 => zCut (fun (x : Int) => ⟨[(0, .sc (.int .i64 (v13))), (1, .sc (.int .i64 (v14))), (5, .sc (.int .i64 (x))), (6, .sc (.int .i64 (v16)))], []⟩) (spec_l17Xor_j17 v13 v14 v16) xq55 ?_ ?_
        · rintro _ v19 h
          simp only [spec_l17Xor_j17] at h
          refine zS zR (zS zR ?_)
          refine zU z0 (r_bN hk58 ?_)
          refine zB hkq55 h hIq55 () trivial
        · intro k63 hk63 J62
          refine zS zR ?_
          refine sem_ifh rfl h ?_ ?_ <;> clear h <;> intro h
          · refine zU z0 (zJ J62 [0, 1, 5, 6] () _ h)
          · refine r_skip (zJ J62 [0, 1, 5, 6] () _ h)
      · refine r_exit (r_cE hk56 ?_)
        replace h := zX h hEq55 hKq55
        refine r_kE hkq55 (r_bE hk36 ?_)
        refine zJ J34 [5] () _ h
noncomputable def spec_l17Round (v1 : Int) : Option Int :=
  (cond (decide ((IntKind.i64.wrap (v1 * 2)) ≥ 65536)) (Option.bind (spec_l17Xor (IntKind.i64.wrap ((IntKind.i64.wrap (v1 * 2)) - 65536)) 4129) fun v2 => (some v2)) (some (IntKind.i64.wrap (v1 * 2))))
theorem con_spec_l17Round (v1 : Int) (res_ : Int) (h : spec_l17Round v1 = some res_) : Con Try.prog C0 38 [.sc (.int .i64 (v1))] []
    (fun x σ' => x = .sc (.int .i64 (res_)) ∧ σ' = []) := by
  refine zCon hP 0 [0, 2, 6] [.tmp 2] Try.func38 (by unfold Try.f38; rfl) fun Q hQ => ?_
  unfold spec_l17Round at h
  refine zS z0 (zS z0 ?_)
  refine sem_cut fun k3 hk3 => zS z0 ?_
  refine sem_ifh rfl h ?_ ?_ <;> clear h <;> intro h
  · obtain ⟨v2, c6H, h⟩ := bind_some' h
    refine zS (zC1 (lF [] (con_spec_l17Xor _ _ _ c6H))) (r_ret ?_)
    refine r_cR hk3 ?_
    cases h
    refine zAR hQ
  · refine r_skip (r_cN hk3 ?_)
    refine zS z0 (r_ret ?_)
    cases h
    refine zAR hQ
noncomputable def spec_PicSum_j5 : Int → Option Int
  | v56 => (some (IntKind.u16.wrap (v56)))
noncomputable def spec_PicSum_j16 (v75 : Int) : Int → Option ((Int × Int) ⊕ Int)
  | v102 => (some (.inl (v102, (IntKind.i64.wrap (v75 + 1)))))
noncomputable def spec_PicSum_s23 : (Int × Int) → Option ((Int × Int) ⊕ Int)
  | (v106, v107) => (cond (decide (v107 < 8)) (Option.bind (spec_l17Round v106) fun v110 => (some (.inl (v110, (IntKind.i64.wrap (v107 + 1)))))) (some (.inr v106)))
noncomputable def spec_PicSum_s9 (v1 : (List Int)) : (Int × Int) → Option ((Int × Int) ⊕ Int)
  | (v74, v75) => (cond (decide (v75 < ((v1).length : Int))) (Option.bind (idx v1 (v75)) fun v103 => (Option.bind (spec_l17Xor v74 (IntKind.i64.wrap ((IntKind.i64.wrap (v103)) * 256))) fun v104 => ((loop spec_PicSum_s23 (v104, 0)).bind (fun v109 => (spec_PicSum_j16 v75 v109))))) (some (.inr v74)))
noncomputable def spec_PicSum (v1 : (List Int)) : Option Int :=
  ((loop (spec_PicSum_s9 v1) (65535, 0)).bind (fun v93 => (spec_PicSum_j5 v93)))
theorem con_spec_PicSum (v1 : (List Int)) (res_ : Int) (h : spec_PicSum v1 = some res_) : Con Try.prog C0 17 [.fz 1 (R e_u8 (v1))] []
    (fun x σ' => x = .sc (.int .u16 (res_)) ∧ σ' = []) := by
  refine zCon hP 0 [0, 2, 3, 4, 5, 9, 21] [.tmp 2] Try.func17 (by unfold Try.f17; rfl) fun Q hQ => ?_
  unfold spec_PicSum at h
  refine zS z0 (zS z0 ?_)
  refine zCut (fun (x : Int) => ⟨[(3, .sc (.int .i64 (x)))], []⟩) spec_PicSum_j5 res_ ?_ ?_
  · rintro _ v56 h
    simp only [spec_PicSum_j5] at h
    refine zS z0 (r_ret ?_)
    cases h
    refine zAR hQ
  · intro k152 hk152 J151
    refine zS z0 (sem_blk fun k154 hk154 => ?_)
    obtain ⟨oq251, hLq251, hKq251⟩ := bind_some' h
    clear h
    refine sem_loopP [0, 3, 4] (fun (_ : Unit) (x : (Int × Int)) => (⟨[(0, .fz 1 (R e_u8 (v1))), (3, .sc (.int .i64 (x.1))), (4, .sc (.int .i64 (x.2)))], []⟩ : St)) (fun (_ : Unit) (x : (Int × Int)) => True) (spec_PicSum_s9 v1) () (65535, 0) hLq251 (by rfl) (by rfl) ⟨?_, trivial⟩ ?_
    · first | exact wkSt_same rfl | (simp (decide := true) only [go_sem, reduceIte, Nat.reduceAdd, Int.reduceToNat, Nat.reduceSub, Nat.reduceMul]; exact wkSt_same rfl)
    · rintro nq251 _ ⟨v74, v75⟩ xq251 kq251 hkq251 - h hIq251 hEq251
      simp only [spec_PicSum_s9] at h
      refine sem_cut fun k252 hk252 => zS z0 ?_
      refine sem_ifh rfl h ?_ ?_ <;> clear h <;> intro h
      · refine r_skip (r_cN hk252 ?_)
        refine zCut (fun (x : Int) => ⟨[(0, .fz 1 (R e_u8 (v1))), (3, .sc (.int .i64 (x))), (4, .sc (.int .i64 (v75)))], []⟩) (spec_PicSum_j16 v75) xq251 ?_ ?_
        · rintro _ v102 h
          simp only [spec_PicSum_j16] at h
          refine zU z0 (zB hkq251 h hIq251 () trivial)
        · intro k277 hk277 J276
          refine sem_blk fun k278 hk278 => ?_
          obtain ⟨v103, h, c280⟩ := bI h
          obtain ⟨v104, c281H, h⟩ := bind_some' h
          refine zS (zC1F (lF [] (con_spec_l17Xor _ _ _ c281H)) c280) (zS z0 ?_)
          refine sem_blk fun k283 hk283 => ?_
          obtain ⟨oq294, hLq294, hKq294⟩ := bind_some' h
          clear h
          refine sem_loopP [0, 3, 4, 5] (fun (_ : Unit) (x : (Int × Int)) => (⟨[(0, .fz 1 (R e_u8 (v1))), (3, .sc (.int .i64 (x.1))), (4, .sc (.int .i64 (v75))), (5, .sc (.int .i64 (x.2)))], []⟩ : St)) (fun (_ : Unit) (x : (Int × Int)) => True) spec_PicSum_s23 () (v104, 0) hLq294 (by rfl) (by rfl) ⟨?_, trivial⟩ ?_
          · first | exact wkSt_same rfl | (simp (decide := true) only [go_sem, reduceIte, Nat.reduceAdd, Int.reduceToNat, Nat.reduceSub, Nat.reduceMul]; exact wkSt_same rfl)
          · rintro nq294 _ ⟨v106, v107⟩ xq294 kq294 hkq294 - h hIq294 hEq294
            simp only [spec_PicSum_s23] at h
            refine sem_cut fun k295 hk295 => zS z0 ?_
            refine sem_ifh rfl h ?_ ?_ <;> clear h <;> intro h
            · refine r_skip (r_cN hk295 ?_)
              refine sem_cut fun k297 hk297 => sem_blk fun k298 hk298 => ?_
              obtain ⟨v110, c299H, h⟩ := bind_some' h
              refine zU (zC1 (lF [] (con_spec_l17Round _ _ c299H))) (r_bN hk298 ?_)
              refine r_cN hk297 (zU z0 ?_)
              refine zB hkq294 h hIq294 () trivial
            · refine r_exit (r_cE hk295 ?_)
              replace h := zX h hEq294 hKq294
              refine r_kE hkq294 (r_bE hk283 ?_)
              refine r_bN hk278 (zJ J276 [0, 3, 4] () _ h)
      · refine r_exit (r_cE hk252 ?_)
        replace h := zX h hEq251 hKq251
        refine r_kE hkq251 (r_bE hk154 ?_)
        refine zJ J151 [3] () _ h
noncomputable def spec_PicMake_j13 (v1 : (List Inst)) : (List Int) → Option ((List Int) × PicFault)
  | v18 => (Option.bind (spec_l17Num (IntKind.i64.wrap ((((v18).length : Nat) : Int) + 8)) 2) fun v19 => (gd (apOk (([83, 116] ++ v19)).length 1) (Option.bind (spec_l17Num ((v1).length : Int) 2) fun v20 => (gd (apOk ((([83, 116] ++ v19) ++ v20)).length 1) (gd (apOk (((([83, 116] ++ v19) ++ v20) ++ v18)).length 1) (Option.bind (spec_PicSum ((([83, 116] ++ v19) ++ v20) ++ v18)) fun v21 => (Option.bind (spec_l17Num (IntKind.i64.wrap (v21)) 2) fun v22 => (gd (apOk ((((([83, 116] ++ v19) ++ v20) ++ v18) ++ v22)).length 1) (some ((((([83, 116] ++ v19) ++ v20) ++ v18) ++ v22), (⟨0, 0⟩ : PicFault)))))))))))
noncomputable def spec_PicMake_s17 (v1 : (List Inst)) : ((List Int) × Int) → Option (((List Int) × Int) ⊕ ((Int × Int) ⊕ (List Int)))
  | (v27, v28) => (cond (decide (v28 < ((v1).length : Int))) (Option.bind (idx v1 (v28)) fun v35 => (Option.bind (spec_l17Wrong v35) fun v36 => (cond (decide (v36 > 0)) (some (.inr (.inl (v36, v28)))) (Option.bind (idx v1 (v28)) fun v37 => (Option.bind (spec_l17Inst v37) fun v38 => (gd (apOk ((v27 ++ v38)).length 1) (some (.inl ((v27 ++ v38), (IntKind.i64.wrap (v28 + 1))))))))))) (some (.inr (.inr v27))))
noncomputable def spec_PicMake (v1 : (List Inst)) : Option ((List Int) × PicFault) :=
  (cond (decide (((v1).length : Int) > 1000)) (some ([], (⟨1, 0⟩ : PicFault))) ((loop (spec_PicMake_s17 v1) ([], 0)).bind (Sum.elim (fun v33 => (some ([], (⟨v33.1, v33.2⟩ : PicFault)))) (fun v34 => (spec_PicMake_j13 v1 v34)))))
theorem con_spec_PicMake (v1 : (List Inst)) (res_ : ((List Int) × PicFault)) (h : spec_PicMake v1 = some res_) : Con Try.prog C0 10 [.fz 3 (R e_Inst (v1))] []
    (fun x σ' => (x = .tup [.sl 0 0 ((res_.1).length), .agg [.sc (.int .i64 (res_.2.Code)), .sc (.int .i64 (res_.2.At))]] ∧ σ' = [.arr true 1 (R e_u8 (res_.1))]) ∨ (x = .tup [.sc (.slice none 0 0), .agg [.sc (.int .i64 (res_.2.Code)), .sc (.int .i64 (res_.2.At))]] ∧ σ' = [] ∧ res_.1 = [])) := by
  refine zCon hP 0 [0, 2, 3, 4, 5, 6, 7, 10, 16, 25] [.tmp 2, .cell 3 26] Try.func10 (by unfold Try.f10; rfl) fun Q hQ => ?_
  unfold spec_PicMake at h
  refine zS z0 (sem_cut fun k2 hk2 => ?_)
  refine zS z0 ?_
  refine sem_ifh rfl h ?_ ?_ <;> clear h <;> intro h
  · refine zS z0 (r_ret ?_)
    refine r_cR hk2 ?_
    obtain rfl := Option.some.inj h
    refine r_eOR hQ rfl rfl ?_
    simp (decide := true) only [go_sem, reduceIte, Nat.reduceAdd, Int.reduceToNat, Nat.reduceSub, Nat.reduceMul]
    repeat' (with_reducible refine And.intro ?_ ?_)
    all_goals first | exact wkEnd_same (.inr ⟨rfl, rfl, rfl⟩) | exact wkEnd_same (.inr ⟨rfl, rfl⟩) | exact True.intro
  · refine r_skip (r_cN hk2 ?_)
    refine zS z0 (zCut (fun (x : (List Int)) => ⟨[(0, .fz 3 (R e_Inst (v1))), (3, .pt 0 0), (4, .sl 1 0 ((x).length))], [.rc [.sc (.int .i64 (0)), .sc (.int .i64 (0))], .arr true 1 (R e_u8 (x))]⟩) (spec_PicMake_j13 v1) res_ ?_ ?_)
    · rintro _ v18 h
      simp only [spec_PicMake_j13] at h
      obtain ⟨v19, c49H, h⟩ := bind_some' h
      obtain ⟨g50, h⟩ := gAp h
      refine zS (zC1Fn (lF [] (con_spec_l17Num _ _ _ c49H)) g50) ?_
      obtain ⟨v20, c52H, h⟩ := bind_some' h
      obtain ⟨g53, h⟩ := gAp h
      refine zS (zC1Fn (lF [] (con_spec_l17Num _ _ _ c52H)) g53) ?_
      obtain ⟨g55, h⟩ := gAp h
      refine zS (zRFn g55) ?_
      obtain ⟨v21, c57H, h⟩ := bind_some' h
      obtain ⟨v22, c58H, h⟩ := bind_some' h
      obtain ⟨g59, h⟩ := gAp h
      refine zS (zC2Fn (lF [] (con_spec_PicSum _ _ c57H)) (lF [] (con_spec_l17Num _ _ _ c58H)) g59) (r_ret ?_)
      obtain rfl := Option.some.inj h
      refine r_eOR hQ rfl rfl ?_
      simp (decide := true) only [go_sem, reduceIte, Nat.reduceAdd, Int.reduceToNat, Nat.reduceSub, Nat.reduceMul]
      repeat' (with_reducible refine And.intro ?_ ?_)
      all_goals first | exact wkEnd_same (.inl ⟨rfl, rfl⟩) | exact True.intro
    · intro k61 hk61 J60
      refine zS z0 (sem_blk fun k63 hk63 => ?_)
      obtain ⟨oq90, hLq90, hKq90⟩ := bind_some' h
      clear h
      refine sem_loopP [0, 3, 4, 5] (fun (_ : Unit) (x : ((List Int) × Int)) => (⟨[(0, .fz 3 (R e_Inst (v1))), (3, .pt 0 0), (4, .sl 1 0 ((x.1).length)), (5, .sc (.int .i64 (x.2)))], [.rc [.sc (.int .i64 (0)), .sc (.int .i64 (0))], .arr true 1 (R e_u8 (x.1))]⟩ : St)) (fun (_ : Unit) (x : ((List Int) × Int)) => True) (spec_PicMake_s17 v1) () ([], 0) hLq90 (by rfl) (by rfl) ⟨?_, trivial⟩ ?_
      · first | exact wkSt_same rfl | (simp (decide := true) only [go_sem, reduceIte, Nat.reduceAdd, Int.reduceToNat, Nat.reduceSub, Nat.reduceMul]; exact wkSt_same rfl)
      · rintro nq90 _ ⟨v27, v28⟩ xq90 kq90 hkq90 - h hIq90 hEq90
        simp only [spec_PicMake_s17] at h
        refine sem_cut fun k91 hk91 => zS z0 ?_
        refine sem_ifh rfl h ?_ ?_ <;> clear h <;> intro h
        · refine r_skip (r_cN hk91 ?_)
          refine sem_cut fun k93 hk93 => sem_blk fun k94 hk94 => ?_
          obtain ⟨v35, h, c96⟩ := bI h
          obtain ⟨v36, c97H, h⟩ := bind_some' h
          refine zS (zC1F (lF [] (con_spec_l17Wrong _ _ c97H)) c96) (sem_cut fun k98 hk98 => ?_)
          refine zS z0 ?_
          refine sem_ifh rfl h ?_ ?_ <;> clear h <;> intro h
          · refine zS z0 (r_ret ?_)
            refine r_cR hk98 (r_bR hk94 ?_)
            refine r_cR hk93 ?_
            replace h := zX h hEq90 hKq90
            simp only [Sum.elim_inl, Sum.elim_inr] at h
            refine r_kR hkq90 (r_bR hk63 ?_)
            refine r_jR hk61 ?_
            obtain rfl := Option.some.inj h
            refine r_eOR hQ rfl rfl ?_
            simp (decide := true) only [go_sem, reduceIte, Nat.reduceAdd, Int.reduceToNat, Nat.reduceSub, Nat.reduceMul]
            repeat' (with_reducible refine And.intro ?_ ?_)
            all_goals first | exact wkEnd_same (.inr ⟨rfl, rfl, rfl⟩) | exact wkEnd_same (.inr ⟨rfl, rfl⟩) | exact True.intro
          · refine r_skip (r_cN hk98 ?_)
            obtain ⟨v37, h, c101⟩ := bI h
            obtain ⟨v38, c102H, h⟩ := bind_some' h
            obtain ⟨g103, h⟩ := gAp h
            refine zU (zC1F (lF [] (con_spec_l17Inst _ _ c102H)) (a2 c101 g103)) (r_bN hk94 ?_)
            refine r_cN hk93 (zU z0 ?_)
            refine zB hkq90 h hIq90 () trivial
        · refine r_exit (r_cE hk91 ?_)
          replace h := zX h hEq90 hKq90
          simp only [Sum.elim_inl, Sum.elim_inr] at h
          refine r_kE hkq90 (r_bE hk63 ?_)
          refine zJ J60 [0, 3, 4] () _ h
noncomputable def spec_l17Image_j3 : ((List Int) × Int) → Option ((List Int) × l26Rd)
  | (v13, v14) => (Option.bind (spec_PicMake []) fun v15 => (some (v15.1, (⟨v13, v14⟩ : l26Rd))))
noncomputable def spec_l17Image_s7 : ((List Int) × Int × Int) → Option (((List Int) × Int × Int) ⊕ (((List Int) × Int × (List Int)) ⊕ ((List Int) × Int)))
  | (v18, v19, v20) => (cond (decide (v20 < 4)) (Option.bind (spec_l17List (⟨v18, v19⟩ : l26Rd)) fun v25 => (Option.bind (spec_PicMake v25.1) fun v26 => (cond (v26.2.Code == 0) (some (.inr (.inl (v25.2.b, v25.2.p, v26.1)))) (some (.inl (v25.2.b, v25.2.p, (IntKind.i64.wrap (v20 + 1)))))))) (some (.inr (.inr (v18, v19)))))
noncomputable def spec_l17Image (v1 : l26Rd) : Option ((List Int) × l26Rd) :=
  ((loop spec_l17Image_s7 (v1.b, v1.p, 0)).bind (Sum.elim (fun v23 => (some (v23.2.2, (⟨v23.1, v23.2.1⟩ : l26Rd)))) (fun v24 => (spec_l17Image_j3 (v24.1, v24.2)))))
theorem con_spec_l17Image (v1 : l26Rd) (res_ : ((List Int) × l26Rd)) (h : spec_l17Image v1 = some res_) : Con Try.prog C0 13 [.pt 0 0] [.rc [.fz 1 (R e_u8 (v1.b)), .sc (.int .i64 (v1.p))]]
    (fun x σ' => (x = .sl 1 0 ((res_.1).length) ∧ σ' = [.rc [.fz 1 (R e_u8 (res_.2.b)), .sc (.int .i64 (res_.2.p))], .arr true 1 (R e_u8 (res_.1))]) ∨ (x = .sc (.slice none 0 0) ∧ σ' = [.rc [.fz 1 (R e_u8 (res_.2.b)), .sc (.int .i64 (res_.2.p))]] ∧ res_.1 = [])) := by
  refine zCon hP 1 [0, 2, 3, 4, 5, 6, 9, 20] [.tmp 2] Try.func13 (by unfold Try.f13; rfl) fun Q hQ => ?_
  unfold spec_l17Image at h
  refine zS z0 (zCut (fun (x : ((List Int) × Int)) => ⟨[], [.rc [.fz 1 (R e_u8 (x.1)), .sc (.int .i64 (x.2))]]⟩) spec_l17Image_j3 res_ ?_ ?_)
  · rintro _ ⟨v13, v14⟩ h
    simp only [spec_l17Image_j3] at h
    refine sem_cut fun k38 hk38 => ?_
    obtain ⟨v15, c39H, h⟩ := bind_some' h
    repeat' (first | with_reducible refine And.intro ?_ ?_ | ((with_reducible refine i_call (n := 10) ?_); refine call_openF [] ?_) | ((with_reducible refine i_callW (n := 10) ?_); refine callW_use (Con.wk (con_spec_PicMake [] v15 c39H) ⟨(by repeat' (first | exact wkE_nil | (with_reducible apply wkE_cons) | exact wkC_nil _ | exact wkV_nil _ | exact wkA_nil _ | (with_reducible apply wkV_agg) | (with_reducible apply wkV_tup) | (with_reducible apply wkA_agg) | exact wkA_refl _ | exact wkV_refl _ | exact wkS_nil | (with_reducible apply wkS_cons) | (with_reducible apply wkO_rc) | (with_reducible apply wkO_arr) | exact wkO_refl _ | exact wkL_nil | (with_reducible apply wkL_cons) | exact wkC_refl _ | exact wkT_nil | (with_reducible apply wkT_cons) | (with_reducible apply wkR_appR) | (with_reducible apply wkR_consR) | exact wkR_nilR _ | exact wkR_refl _)), trivial⟩) ?_; rintro x σ' (⟨rfl, rfl⟩ | ⟨rfl, rfl, c39N1_0⟩) <;> ((refine ⟨?_, ?_⟩; (focus simp (decide := true) only [go_sem, reduceIte, Nat.reduceAdd, Int.reduceToNat, Nat.reduceSub, Nat.reduceMul])); (with_reducible refine behind_go ?_))) | exact True.intro | with_reducible assumption | exact fun hf => False.elim hf | (intro hg; first | (simp +contextual [hg]; done) | grind) | omega | simp (decide := true) only [go_sem, reduceIte, Nat.reduceAdd, Int.reduceToNat, Nat.reduceSub, Nat.reduceMul])
    · refine r_cN hk38 (zS z0 ?_)
      refine r_ret ?_
      obtain rfl := Option.some.inj h
      refine r_eOR hQ rfl rfl ?_
      simp (decide := true) only [go_sem, reduceIte, Nat.reduceAdd, Int.reduceToNat, Nat.reduceSub, Nat.reduceMul]
      all_goals first | exact wkEnd_same (.inl ⟨rfl, rfl⟩) | exact True.intro
    · try simp only [c39N1_0, List.take_nil, List.take_zero] at h
      refine r_cN hk38 (zS z0 ?_)
      refine r_ret ?_
      obtain rfl := Option.some.inj h
      refine r_eOR hQ rfl rfl ?_
      simp (decide := true) only [go_sem, reduceIte, Nat.reduceAdd, Int.reduceToNat, Nat.reduceSub, Nat.reduceMul]
      all_goals first | exact wkEnd_same (.inr ⟨rfl, rfl, rfl⟩) | exact wkEnd_same (.inr ⟨rfl, rfl⟩) | exact True.intro
  · intro k43 hk43 J42
    refine zS z0 (sem_blk fun k45 hk45 => ?_)
    obtain ⟨oq68, hLq68, hKq68⟩ := bind_some' h
    clear h
    refine sem_loopP [0, 3] (fun (_ : Unit) (x : ((List Int) × Int × Int)) => (⟨[(0, .pt 0 0), (3, .sc (.int .i64 (x.2.2)))], [.rc [.fz 1 (R e_u8 (x.1)), .sc (.int .i64 (x.2.1))]]⟩ : St)) (fun (_ : Unit) (x : ((List Int) × Int × Int)) => True) spec_l17Image_s7 () (v1.b, v1.p, 0) hLq68 (by rfl) (by rfl) ⟨?_, trivial⟩ ?_
    · first | exact wkSt_same rfl | (simp (decide := true) only [go_sem, reduceIte, Nat.reduceAdd, Int.reduceToNat, Nat.reduceSub, Nat.reduceMul]; exact wkSt_same rfl)
    · rintro nq68 _ ⟨v18, v19, v20⟩ xq68 kq68 hkq68 - h hIq68 hEq68
      simp only [spec_l17Image_s7] at h
      refine sem_cut fun k69 hk69 => zS z0 ?_
      refine sem_ifh rfl h ?_ ?_ <;> clear h <;> intro h
      · refine r_skip (r_cN hk69 ?_)
        refine sem_cut fun k71 hk71 => sem_blk fun k72 hk72 => sem_cut fun k73 hk73 => ?_
        obtain ⟨v25, c74H, h⟩ := bind_some' h
        obtain ⟨v26, c75H, h⟩ := bind_some' h
        repeat' (first | with_reducible refine And.intro ?_ ?_ | ((with_reducible refine i_call (n := 24) ?_); refine call_open [[0]] ?_) | ((with_reducible refine i_callW (n := 24) ?_); refine callW_use (con_spec_l17List (⟨v18, v19⟩ : l26Rd) v25 c74H) ?_; rintro x σ' ⟨rfl, rfl⟩ <;> ((with_reducible refine behind_go ?_))) | ((with_reducible refine i_call (n := 10) ?_); refine call_openF [] ?_) | ((with_reducible refine i_callW (n := 10) ?_); refine callW_use (con_spec_PicMake v25.1 v26 c75H) ?_; rintro x σ' (⟨rfl, rfl⟩ | ⟨rfl, rfl, c75N1_0⟩) <;> ((refine ⟨?_, ?_⟩; (focus simp (decide := true) only [go_sem, reduceIte, Nat.reduceAdd, Int.reduceToNat, Nat.reduceSub, Nat.reduceMul])); (with_reducible refine behind_go ?_))) | exact True.intro | with_reducible assumption | exact fun hf => False.elim hf | (intro hg; first | (simp +contextual [hg]; done) | grind) | omega | simp (decide := true) only [go_sem, reduceIte, Nat.reduceAdd, Int.reduceToNat, Nat.reduceSub, Nat.reduceMul])
        · refine r_cN hk73 (zS z0 ?_)
          refine sem_ifh rfl h ?_ ?_ <;> clear h <;> intro h
          · refine zS z0 (r_ret ?_)
            refine r_bR hk72 (r_cR hk71 ?_)
            replace h := zX h hEq68 hKq68
            simp only [Sum.elim_inl, Sum.elim_inr] at h
            refine r_kR hkq68 (r_bR hk45 ?_)
            refine r_jR hk43 ?_
            obtain rfl := Option.some.inj h
            refine r_eOR hQ rfl rfl ?_
            simp (decide := true) only [go_sem, reduceIte, Nat.reduceAdd, Int.reduceToNat, Nat.reduceSub, Nat.reduceMul]
            all_goals first | exact wkEnd_same (.inl ⟨rfl, rfl⟩) | exact True.intro
          · refine r_skip (r_bN hk72 ?_)
            refine r_cN hk71 (zU z0 ?_)
            refine zB hkq68 h hIq68 () trivial
        · try simp only [c75N1_0, List.take_nil, List.take_zero] at h
          refine r_cN hk73 (zS z0 ?_)
          refine sem_ifh rfl h ?_ ?_ <;> clear h <;> intro h
          · refine zS z0 (r_ret ?_)
            refine r_bR hk72 (r_cR hk71 ?_)
            replace h := zX h hEq68 hKq68
            simp only [Sum.elim_inl, Sum.elim_inr] at h
            refine r_kR hkq68 (r_bR hk45 ?_)
            refine r_jR hk43 ?_
            obtain rfl := Option.some.inj h
            refine r_eOR hQ rfl rfl ?_
            simp (decide := true) only [go_sem, reduceIte, Nat.reduceAdd, Int.reduceToNat, Nat.reduceSub, Nat.reduceMul]
            all_goals first | exact wkEnd_same (.inr ⟨rfl, rfl, rfl⟩) | exact wkEnd_same (.inr ⟨rfl, rfl⟩) | exact True.intro
          · refine r_skip (r_bN hk72 ?_)
            refine r_cN hk71 (zU z0 ?_)
            refine zB hkq68 h hIq68 () trivial
      · refine r_exit (r_cE hk69 ?_)
        replace h := zX h hEq68 hKq68
        simp only [Sum.elim_inl, Sum.elim_inr] at h
        refine r_kE hkq68 (r_bE hk45 ?_)
        refine zJ J42 [] () _ h
noncomputable def spec_l17Mend (v1 : (List Int)) : Option (List Int) :=
  (cond (decide ((((v1).length : Nat) : Int) < 8)) (some v1) (Option.bind (spec_l17Num (((v1).length : Nat) : Int) 2) fun v2 => (gd (apOk (([83, 116] ++ v2)).length 1) (gd (decide (0 ≤ 4) && decide (4 ≤ (IntKind.i64.wrap ((((v1).length : Nat) : Int) - 2))) && decide ((IntKind.i64.wrap ((((v1).length : Nat) : Int) - 2)) ≤ (((v1).length : Nat) : Int))) (gd (apOk ((([83, 116] ++ v2) ++ ((v1).drop (4)).take ((((IntKind.i64.wrap ((((v1).length : Nat) : Int) - 2))).toNat - 4)))).length 1) (Option.bind (spec_PicSum (([83, 116] ++ v2) ++ ((v1).drop (4)).take ((((IntKind.i64.wrap ((((v1).length : Nat) : Int) - 2))).toNat - 4)))) fun v3 => (Option.bind (spec_l17Num (IntKind.i64.wrap (v3)) 2) fun v4 => (gd (apOk (((([83, 116] ++ v2) ++ ((v1).drop (4)).take ((((IntKind.i64.wrap ((((v1).length : Nat) : Int) - 2))).toNat - 4))) ++ v4)).length 1) (some ((([83, 116] ++ v2) ++ ((v1).drop (4)).take ((((IntKind.i64.wrap ((((v1).length : Nat) : Int) - 2))).toNat - 4))) ++ v4))))))))))
theorem con_spec_l17Mend (v1 : (List Int)) (res_ : (List Int)) (h : spec_l17Mend v1 = some res_) : Con Try.prog C0 36 [.sl 0 0 ((v1).length)] [.arr true 1 (R e_u8 (v1))]
    (fun x σ' => (x = .sl 0 0 ((v1).length) ∧ σ' = [.arr true 1 (R e_u8 (v1))] ∧ res_ = v1) ∨ (x = .sl 1 0 ((res_).length) ∧ σ' = [.arr true 1 (R e_u8 (v1)), .arr true 1 (R e_u8 (res_))])) := by
  refine zCon hP 1 [0, 2, 3, 4, 8] [.tmp 2] Try.func36 (by unfold Try.f36; rfl) fun Q hQ => ?_
  unfold spec_l17Mend at h
  refine zS z0 (zS z0 ?_)
  refine sem_cut fun k3 hk3 => zS z0 ?_
  refine sem_ifh rfl h ?_ ?_ <;> clear h <;> intro h
  · refine zS z0 (r_ret ?_)
    refine r_cR hk3 ?_
    obtain rfl := Option.some.inj h
    refine r_eOR hQ rfl rfl ?_
    simp (decide := true) only [go_sem, reduceIte, Nat.reduceAdd, Int.reduceToNat, Nat.reduceSub, Nat.reduceMul]
    all_goals first | exact wkEnd_same (.inl ⟨rfl, rfl, rfl⟩) | exact wkEnd_same (.inl ⟨rfl, rfl⟩) | exact True.intro
  · refine r_skip (r_cN hk3 ?_)
    obtain ⟨v2, c7H, h⟩ := bind_some' h
    obtain ⟨g8, h⟩ := gAp h
    refine zS (zC1Fn (lF [] (con_spec_l17Num _ _ _ c7H)) g8) ?_
    obtain ⟨g10, h⟩ := gD3 h
    obtain ⟨g11, h⟩ := gAp h
    refine zS (zRFn (a2 g10 g11)) ?_
    obtain ⟨v3, c13H, h⟩ := bind_some' h
    obtain ⟨v4, c14H, h⟩ := bind_some' h
    obtain ⟨g15, h⟩ := gAp h
    refine zS (zC2Fn (lF [] (con_spec_PicSum _ _ c13H)) (lF [] (con_spec_l17Num _ _ _ c14H)) g15) (r_ret ?_)
    obtain rfl := Option.some.inj h
    refine r_eOR hQ rfl rfl ?_
    simp (decide := true) only [go_sem, reduceIte, Nat.reduceAdd, Int.reduceToNat, Nat.reduceSub, Nat.reduceMul]
    all_goals first | exact wkEnd_same (.inr ⟨rfl, rfl⟩) | exact True.intro
noncomputable def spec_l17Spoil_j7 : ((List Int) × Int × (List Int)) → Option ((List Int) × l26Rd × Nat)
  | (v15, v16, v17) => (Option.bind (spec_l17Mend v17) fun v18 => (some (v18, (⟨v15, v16⟩ : l26Rd), (v18).length)))
noncomputable def spec_l17Spoil (v1 : l26Rd) (v2 : (List Int)) : Option ((List Int) × l26Rd × Nat) :=
  (gd (apOk (v2).length 1) (Option.bind (spec_l26Rd_pick v1 (((v2).length : Nat) : Int)) fun v3 => (Option.bind (spec_l26Rd_pick v3.2 6) fun v19 => (cond (v19.1 == 0) (Option.bind (spec_l26Rd_pick v19.2 256) fun v20 => (Option.bind (idx v2 (v3.1)) fun v21 => (some (((v2).set (v3.1).toNat (IntKind.u8.wrap (v20.1))), v20.2, (((v2).set (v3.1).toNat (IntKind.u8.wrap (v20.1)))).length)))) (cond (v19.1 == 1) (gd (decide (0 ≤ v3.1) && decide (v3.1 ≤ (((v2).length : Nat) : Int))) (some (v2, v19.2, (v3.1).toNat))) (cond (v19.1 == 2) (Option.bind (spec_l26Rd_pick v19.2 16) fun v22 => (Option.bind (idx v2 (v3.1)) fun v23 => (spec_l17Spoil_j7 (v22.2.b, v22.2.p, ((v2).set (v3.1).toNat (IntKind.u8.wrap (v22.1))))))) (cond (v19.1 == 3) (gd (decide (0 ≤ v3.1) && decide (v3.1 ≤ (((v2).length : Nat) : Int))) (gd (decide (0 ≤ (IntKind.i64.wrap (v3.1 + 1))) && decide ((IntKind.i64.wrap (v3.1 + 1)) ≤ (((v2).length : Nat) : Int)) && decide ((((v2).length : Nat) : Int) ≤ (((v2).length : Nat) : Int))) (gd (apOk (((v2).take ((v3.1).toNat) ++ ((v2).drop (((IntKind.i64.wrap (v3.1 + 1))).toNat)).take ((((v2).length) - ((IntKind.i64.wrap (v3.1 + 1))).toNat)))).length 1) (spec_l17Spoil_j7 (v19.2.b, v19.2.p, ((v2).take ((v3.1).toNat) ++ ((v2).drop (((IntKind.i64.wrap (v3.1 + 1))).toNat)).take ((((v2).length) - ((IntKind.i64.wrap (v3.1 + 1))).toNat)))))))) (cond (v19.1 == 4) (gd (decide (0 ≤ v3.1) && decide (v3.1 ≤ (((v2).length : Nat) : Int))) (gd (decide (0 ≤ v3.1) && decide (v3.1 ≤ (((v2).length : Nat) : Int)) && decide ((((v2).length : Nat) : Int) ≤ (((v2).length : Nat) : Int))) (gd (apOk ((v2).take ((v3.1).toNat)).length 1) (Option.bind (spec_l26Rd_pick v19.2 40) fun v24 => (gd (apOk (((v2).take ((v3.1).toNat) ++ [(IntKind.u8.wrap (v24.1))])).length 1) (gd (apOk ((((v2).take ((v3.1).toNat) ++ [(IntKind.u8.wrap (v24.1))]) ++ ((v2).drop ((v3.1).toNat)).take ((((v2).length) - (v3.1).toNat)))).length 1) (spec_l17Spoil_j7 (v24.2.b, v24.2.p, (((v2).take ((v3.1).toNat) ++ [(IntKind.u8.wrap (v24.1))]) ++ ((v2).drop ((v3.1).toNat)).take ((((v2).length) - (v3.1).toNat))))))))))) (Option.bind (idx v2 (5)) fun v25 => (Option.bind (spec_l26Rd_pick v19.2 3) fun v26 => (Option.bind (spec_l26Rd_pick v26.2 3) fun v27 => (cond (v27.1 == 0) (Option.bind (spec_l26Rd_pick v27.2 256) fun v28 => (Option.bind (idx ((v2).set 5 (IntKind.u8.wrap ((IntKind.i64.wrap ((IntKind.i64.wrap ((IntKind.i64.wrap (v25)) + v26.1)) - 1))))) (4)) fun v29 => (spec_l17Spoil_j7 (v28.2.b, v28.2.p, ((((v2).set 5 (IntKind.u8.wrap ((IntKind.i64.wrap ((IntKind.i64.wrap ((IntKind.i64.wrap (v25)) + v26.1)) - 1)))))).set 4 (IntKind.u8.wrap (v28.1))))))) (spec_l17Spoil_j7 (v27.2.b, v27.2.p, ((v2).set 5 (IntKind.u8.wrap ((IntKind.i64.wrap ((IntKind.i64.wrap ((IntKind.i64.wrap (v25)) + v26.1)) - 1)))))))))))))))))))
theorem con_spec_l17Spoil (v1 : l26Rd) (v2 : (List Int)) (res_ : ((List Int) × l26Rd × Nat)) (h : spec_l17Spoil v1 v2 = some res_) : Con Try.prog C0 15 [.pt 0 0, .fz 1 (R e_u8 (v2))] [.rc [.fz 1 (R e_u8 (v1.b)), .sc (.int .i64 (v1.p))]]
    (fun x σ' => x = .sl 1 0 (res_.2.2) ∧ σ' = [.rc [.fz 1 (R e_u8 (res_.2.1.b)), .sc (.int .i64 (res_.2.1.p))], .arr true 1 (R e_u8 (res_.1))]) := by
  refine zCon hP 1 [0, 1, 4, 5, 6, 15, 29, 35, 44, 49, 57, 67] [.tmp 4] Try.func15 (by unfold Try.f15; rfl) fun Q hQ => ?_
  unfold spec_l17Spoil at h
  refine zS z0 ?_
  obtain ⟨g3, h⟩ := gAp h
  refine zS (zRF g3) ?_
  obtain ⟨v3, c5H, h⟩ := bind_some' h
  refine zS (zC1 (lC [[0]] (con_spec_l26Rd_pick _ _ _ c5H))) (zCut (fun (x : ((List Int) × Int × (List Int))) => ⟨[(5, .sl 1 0 ((x.2.2).length))], [.rc [.fz 1 (R e_u8 (x.1)), .sc (.int .i64 (x.2.1))], .arr true 1 (R e_u8 (x.2.2))]⟩) spec_l17Spoil_j7 res_ ?_ ?_)
  · rintro _ ⟨v15, v16, v17⟩ h
    simp only [spec_l17Spoil_j7] at h
    refine sem_cut fun k38 hk38 => ?_
    obtain ⟨v18, c39H, h⟩ := bind_some' h
    repeat' (first | with_reducible refine And.intro ?_ ?_ | ((with_reducible refine i_call (n := 36) ?_); refine call_openF [[0]] ?_) | ((with_reducible refine i_callW (n := 36) ?_); refine callW_use (con_spec_l17Mend v17 v18 c39H) ?_; rintro x σ' (⟨rfl, rfl, c39N0_0⟩ | ⟨rfl, rfl⟩) <;> ((refine ⟨?_, ?_⟩; (focus simp (decide := true) only [go_sem, reduceIte, Nat.reduceAdd, Int.reduceToNat, Nat.reduceSub, Nat.reduceMul])); (with_reducible refine behind_go ?_))) | exact True.intro | with_reducible assumption | exact fun hf => False.elim hf | (intro hg; first | (simp +contextual [hg]; done) | grind) | omega | simp (decide := true) only [go_sem, reduceIte, Nat.reduceAdd, Int.reduceToNat, Nat.reduceSub, Nat.reduceMul])
    · try simp only [c39N0_0, List.take_nil, List.take_zero] at h
      refine r_cN hk38 (r_ret ?_)
      cases h
      refine zOR hQ
    · refine r_cN hk38 (r_ret ?_)
      cases h
      refine zOR hQ
  · intro k41 hk41 J40
    obtain ⟨v19, c43H, h⟩ := bind_some' h
    refine zS (zC1 (lC [[0]] (con_spec_l26Rd_pick _ _ _ c43H))) (sem_blk fun k44 hk44 => ?_)
    refine zS z0 ?_
    refine sem_ifh rfl h ?_ ?_ <;> clear h <;> intro h
    · obtain ⟨v20, c47H, h⟩ := bind_some' h
      obtain ⟨v21, h, c48⟩ := bI h
      refine zS (zC1F (lC [[0]] (con_spec_l26Rd_pick _ _ _ c47H)) c48) (zS z0 ?_)
      refine r_ret (r_bR hk44 ?_)
      refine r_jR hk41 ?_
      cases h
      refine zOR hQ
    · refine zS z0 ?_
      refine sem_ifh rfl h ?_ ?_ <;> clear h <;> intro h
      · obtain ⟨g52, h⟩ := gD2 h
        refine zS (zRF g52) (r_ret ?_)
        refine r_bR hk44 (r_jR hk41 ?_)
        cases h
        refine zOR hQ
      · refine zS z0 ?_
        refine sem_ifh rfl h ?_ ?_ <;> clear h <;> intro h
        · obtain ⟨v22, c54H, h⟩ := bind_some' h
          obtain ⟨v23, h, c55⟩ := bI h
          refine zU (zC1F (lC [[0]] (con_spec_l26Rd_pick _ _ _ c54H)) c55) (r_bN hk44 ?_)
          refine zJ J40 [5] () _ h
        · refine zS z0 ?_
          refine sem_ifh rfl h ?_ ?_ <;> clear h <;> intro h
          · obtain ⟨g57, h⟩ := gD2 h
            obtain ⟨g58, h⟩ := gD3 h
            obtain ⟨g59, h⟩ := gAp h
            refine zU (zPRF (.take 0 (.take 1 (.take 2 (.take 3 (.take 4 (.take 5 (.take 6 (.last 7 (.take 8 .done))))))))) [] (a3 g57 g58 g59)) (r_bN hk44 ?_)
            refine zJ J40 [5] () _ h
          · refine zS z0 ?_
            refine sem_ifh rfl h ?_ ?_ <;> clear h <;> intro h
            · obtain ⟨g61, h⟩ := gD2 h
              obtain ⟨g62, h⟩ := gD3 h
              obtain ⟨g63, h⟩ := gAp h
              obtain ⟨v24, c64H, h⟩ := bind_some' h
              obtain ⟨g65, h⟩ := gAp h
              obtain ⟨g66, h⟩ := gAp h
              refine zU (zPC1F (.take 1 (.take 2 (.take 3 (.take 5 (.take 10 (.take 11 (.take 12 (.last 0 (.last 4 (.last 6 (.take 7 (.last 8 (.last 9 (.last 13 (.take 14 .done))))))))))))))) [] (lC [[0]] (con_spec_l26Rd_pick _ _ _ c64H)) (a4 g61 g62 g63 (a2 g65 g66))) (r_bN hk44 ?_)
              refine zJ J40 [5] () _ h
            · obtain ⟨v25, h, c68⟩ := bN 5 h
              obtain ⟨v26, c69H, h⟩ := bind_some' h
              refine zS (zPC1F (.take 0 (.take 1 (.take 2 (.take 3 (.take 4 (.take 5 (.one 6 (.take 7 (.take 8 (.take 9 (.take 10 (.last 11 .done)))))))))))) [2] (lC [[0]] (con_spec_l26Rd_pick _ _ _ c69H)) c68) ?_
              obtain ⟨v27, c71H, h⟩ := bind_some' h
              refine zS (zC1 (lC [[0]] (con_spec_l26Rd_pick _ _ _ c71H))) ?_
              refine sem_ifh rfl h ?_ ?_ <;> clear h <;> intro h
              · obtain ⟨v28, c72H, h⟩ := bind_some' h
                obtain ⟨v29, h, c73⟩ := bN 4 h
                refine zU (zC1F (lC [[0]] (con_spec_l26Rd_pick _ _ _ c72H)) c73) (r_bN hk44 ?_)
                refine zJ J40 [5] () _ h
              · refine r_skip (r_bN hk44 ?_)
                refine zJ J40 [5] () _ h
noncomputable def spec_DrawPicRead (v1 : (List Int)) : Option ((List Int) × Nat) :=
  (Option.bind (spec_l26Open v1) fun v2 => (Option.bind (spec_l17Image v2) fun v3 => (Option.bind (spec_l26Rd_pick v3.2 2) fun v4 => (cond (v4.1 == 0) (Option.bind (spec_l17Spoil v4.2 v3.1) fun v5 => (some (v5.1, v5.2.2))) (some (v3.1, (v3.1).length))))))
theorem con_spec_DrawPicRead (v1 : (List Int)) (res_ : ((List Int) × Nat)) (h : spec_DrawPicRead v1 = some res_) : Con Try.prog C0 5 [.fz 1 (R e_u8 (v1))] []
    (fun x σ' => (x = .sl 0 0 (res_.2) ∧ σ' = [.arr true 1 (R e_u8 (res_.1))]) ∨ (x = .sc (.slice none 0 0) ∧ σ' = [] ∧ res_.1 = [] ∧ res_.2 = 0)) := by
  refine zCon hP 0 [0, 2, 3, 4, 11] [.tmp 2] Try.func5 (by unfold Try.f5; rfl) fun Q hQ => ?_
  unfold spec_DrawPicRead at h
  refine zS z0 ?_
  obtain ⟨v2, c3H, h⟩ := bind_some' h
  refine zS (zC1 (lC [] (con_spec_l26Open _ _ c3H))) (sem_cut fun k4 hk4 => ?_)
  obtain ⟨v3, c5H, h⟩ := bind_some' h
  repeat' (first | with_reducible refine And.intro ?_ ?_ | ((with_reducible refine i_call (n := 13) ?_); refine call_open [[0]] ?_) | ((with_reducible refine i_callW (n := 13) ?_); refine callW_use (con_spec_l17Image v2 v3 c5H) ?_; rintro x σ' (⟨rfl, rfl⟩ | ⟨rfl, rfl, c5N1_0⟩) <;> ((with_reducible refine behind_go ?_))) | exact True.intro | with_reducible assumption | exact fun hf => False.elim hf | (intro hg; first | (simp +contextual [hg]; done) | grind) | omega | simp (decide := true) only [go_sem, reduceIte, Nat.reduceAdd, Int.reduceToNat, Nat.reduceSub, Nat.reduceMul])
  · refine r_cN hk4 (sem_cut fun k6 hk6 => ?_)
    obtain ⟨v4, c8H, h⟩ := bind_some' h
    refine zS (zC1 (lC [[0]] (con_spec_l26Rd_pick _ _ _ c8H))) ?_
    refine sem_ifh rfl h ?_ ?_ <;> clear h <;> intro h
    · obtain ⟨v5, c10H, h⟩ := bind_some' h
      refine zS (zC1 (lC [[0]] (con_spec_l17Spoil _ _ _ c10H))) (r_ret ?_)
      refine r_cR hk6 ?_
      obtain rfl := Option.some.inj h
      refine r_eOR hQ rfl rfl ?_
      simp (decide := true) only [go_sem, reduceIte, Nat.reduceAdd, Int.reduceToNat, Nat.reduceSub, Nat.reduceMul]
      all_goals first | exact wkEnd_same (.inl ⟨rfl, rfl⟩) | exact True.intro
    · refine r_skip (r_cN hk6 ?_)
      refine zS z0 (r_ret ?_)
      obtain rfl := Option.some.inj h
      refine r_eOR hQ rfl rfl ?_
      simp (decide := true) only [go_sem, reduceIte, Nat.reduceAdd, Int.reduceToNat, Nat.reduceSub, Nat.reduceMul]
      all_goals first | exact wkEnd_same (.inl ⟨rfl, rfl⟩) | exact True.intro
  · try simp only [c5N1_0, List.take_nil, List.take_zero] at h
    refine r_cN hk4 (sem_cut fun k12 hk12 => ?_)
    obtain ⟨v6, c14H, h⟩ := bind_some' h
    refine zS (zC1 (lC [[0]] (con_spec_l26Rd_pick _ _ _ c14H))) ?_
    refine sem_ifh rfl h ?_ ?_ <;> clear h <;> intro h
    · obtain ⟨v7, c16H, h⟩ := bind_some' h
      refine zS (zC1w (lC [[0]] (con_spec_l17Spoil _ _ _ c16H))) (r_ret ?_)
      refine r_cR hk12 ?_
      obtain rfl := Option.some.inj h
      refine r_eOR hQ rfl rfl ?_
      simp (decide := true) only [go_sem, reduceIte, Nat.reduceAdd, Int.reduceToNat, Nat.reduceSub, Nat.reduceMul]
      all_goals first | exact wkEnd_same (.inl ⟨rfl, rfl⟩) | exact True.intro
    · refine r_skip (r_cN hk12 ?_)
      refine zS z0 (r_ret ?_)
      obtain rfl := Option.some.inj h
      refine r_eOR hQ rfl rfl ?_
      simp (decide := true) only [go_sem, reduceIte, Nat.reduceAdd, Int.reduceToNat, Nat.reduceSub, Nat.reduceMul]
      all_goals first | exact wkEnd_same (.inr ⟨rfl, rfl, rfl, rfl⟩) | exact wkEnd_same (.inr ⟨rfl, rfl, rfl⟩) | exact wkEnd_same (.inr ⟨rfl, rfl⟩) | exact True.intro
noncomputable def spec_l17Two (v1 : (List Int)) : Option Int :=
  (Option.bind (idx v1 (0)) fun v2 => (Option.bind (idx v1 (1)) fun v3 => (some (IntKind.i64.wrap ((IntKind.i64.wrap ((IntKind.i64.wrap (v2)) * 256)) + (IntKind.i64.wrap (v3)))))))
theorem con_spec_l17Two (v1 : (List Int)) (res_ : Int) (h : spec_l17Two v1 = some res_) : Con Try.prog C0 16 [.fz 1 (R e_u8 (v1))] []
    (fun x σ' => x = .sc (.int .i64 (res_)) ∧ σ' = []) := by
  refine zCon hP 0 [0, 2] [.tmp 2] Try.func16 (by unfold Try.f16; rfl) fun Q hQ => ?_
  unfold spec_l17Two at h
  refine zS z0 ?_
  obtain ⟨v2, h, c3⟩ := bN 0 h
  obtain ⟨v3, h, c4⟩ := bN 1 h
  refine zS (zRF (a2 c3 c4)) (r_ret ?_)
  cases h
  refine zAR hQ
noncomputable def spec_l17In_take (v1 : l17In) (v2 : Int) : Option ((List Int) × Bool × l17In) :=
  (cond (decide ((IntKind.i64.wrap (((v1.b).length : Int) - v1.at_)) < v2)) (some ([], false, v1)) (Option.bind (prt v1.b ((IntKind.i64.wrap ((IntKind.i64.wrap (v1.at_ + v2)) - v2))) ((IntKind.i64.wrap (v1.at_ + v2)))) fun v3 => (some (v3, true, (⟨v1.b, (IntKind.i64.wrap (v1.at_ + v2))⟩ : l17In)))))
theorem con_spec_l17In_take (v1 : l17In) (v2 : Int) (res_ : ((List Int) × Bool × l17In)) (h : spec_l17In_take v1 v2 = some res_) : Con Try.prog C0 39 [.pt 0 0, .sc (.int .i64 (v2))] [.rc [.fz 1 (R e_u8 (v1.b)), .sc (.int .i64 (v1.at_))]]
    (fun x σ' => x = .tup [.fz 1 (R e_u8 (res_.1)), .sc (.bool (res_.2.1))] ∧ σ' = [.rc [.fz 1 (R e_u8 (res_.2.2.b)), .sc (.int .i64 (res_.2.2.at_))]]) := by
  refine zCon hP 1 [0, 1, 4, 5, 17] [.tmp 4, .tmp 5] Try.func39 (by unfold Try.f39; rfl) fun Q hQ => ?_
  unfold spec_l17In_take at h
  refine zS z0 (sem_cut fun k2 hk2 => ?_)
  refine zS zR ?_
  refine sem_ifh rfl h ?_ ?_ <;> clear h <;> intro h
  · refine zS z0 (r_ret ?_)
    refine r_cR hk2 ?_
    cases h
    refine zARw hQ
  · refine r_skip (r_cN hk2 ?_)
    refine zS z0 ?_
    obtain ⟨v3, c7H, h⟩ := bind_some' h
    obtain ⟨c7A, c7B, c7C, c7D⟩ := prt_some c7H
    try simp only [Int.reduceToNat, Int.toNat_zero, Int.toNat_one, Int.toNat_natCast, List.take_length] at c7D
    refine zS (zRF (a4 c7A c7B c7C c7D)) (r_ret ?_)
    cases h
    refine zAR hQ
noncomputable def spec_l17Val_j24 : Int → Option Int
  | v12 => (some v12)
noncomputable def spec_l17Val_j7 (v1 : (List Int)) : (Int × Int) → Option Int
  | (v9, v10) => (cond (decide (((v1).length : Int) > 1)) (Option.bind (idx v1 (0)) fun v13 => (cond (decide (v13 ≥ 128)) (spec_l17Val_j24 (IntKind.i64.wrap (v9 - v10))) (spec_l17Val_j24 v9))) (spec_l17Val_j24 v9))
noncomputable def spec_l17Val_s11 (v1 : (List Int)) : (Int × Int × Int) → Option ((Int × Int × Int) ⊕ (Int × Int))
  | (v15, v16, v17) => (cond (decide (v17 < ((v1).length : Int))) (Option.bind (idx v1 (v17)) fun v20 => (some (.inl ((IntKind.i64.wrap ((IntKind.i64.wrap (v15 * 256)) + (IntKind.i64.wrap (v20)))), (IntKind.i64.wrap (v16 * 256)), (IntKind.i64.wrap (v17 + 1)))))) (some (.inr (v15, v16))))
noncomputable def spec_l17Val (v1 : (List Int)) : Option Int :=
  ((loop (spec_l17Val_s11 v1) (0, 1, 0)).bind (fun v19 => (spec_l17Val_j7 v1 (v19.1, v19.2))))
theorem con_spec_l17Val (v1 : (List Int)) (res_ : Int) (h : spec_l17Val v1 = some res_) : Con Try.prog C0 63 [.fz 1 (R e_u8 (v1))] []
    (fun x σ' => x = .sc (.int .i64 (res_)) ∧ σ' = []) := by
  refine zCon hP 0 [0, 2, 3, 4, 5, 9, 30] [.tmp 2] Try.func63 (by unfold Try.f63; rfl) fun Q hQ => ?_
  unfold spec_l17Val at h
  refine zS z0 (zS z0 ?_)
  refine zS z0 (zCut (fun (x : (Int × Int)) => ⟨[(0, .fz 1 (R e_u8 (v1))), (3, .sc (.int .i64 (x.1))), (4, .sc (.int .i64 (x.2)))], []⟩) (spec_l17Val_j7 v1) res_ ?_ ?_)
  · rintro _ ⟨v9, v10⟩ h
    simp only [spec_l17Val_j7] at h
    refine zCut (fun (x : Int) => ⟨[(3, .sc (.int .i64 (x)))], []⟩) spec_l17Val_j24 res_ ?_ ?_
    · rintro _ v12 h
      simp only [spec_l17Val_j24] at h
      refine zS z0 (r_ret ?_)
      cases h
      refine zAR hQ
    · intro k30 hk30 J29
      refine sem_cut fun k31 hk31 => ?_
      rcases Bool.eq_false_or_eq_true (decide (((v1).length : Int) > 1)) with g32 | g32
      · replace h := cond_t h g32
        obtain ⟨v13, h, c33⟩ := bN 0 h
        refine zU (zRF (a2 g32 c33)) (r_cN hk31 ?_)
        refine sem_ifh rfl h ?_ ?_ <;> clear h <;> intro h
        · refine zU z0 (zJ J29 [3] () _ h)
        · refine r_skip (zJ J29 [3] () _ h)
      · replace h := cond_f h g32
        refine zU (zRF g32) (r_cN hk31 ?_)
        refine sem_ifF rfl ?_
        try replace h := cond_f h rfl
        refine r_skip (zJ J29 [3] () _ h)
  · intro k35 hk35 J34
    refine zS z0 (sem_blk fun k37 hk37 => ?_)
    obtain ⟨oq50, hLq50, hKq50⟩ := bind_some' h
    clear h
    refine sem_loopP [0, 3, 4, 5] (fun (_ : Unit) (x : (Int × Int × Int)) => (⟨[(0, .fz 1 (R e_u8 (v1))), (3, .sc (.int .i64 (x.1))), (4, .sc (.int .i64 (x.2.1))), (5, .sc (.int .i64 (x.2.2)))], []⟩ : St)) (fun (_ : Unit) (x : (Int × Int × Int)) => True) (spec_l17Val_s11 v1) () (0, 1, 0) hLq50 (by rfl) (by rfl) ⟨?_, trivial⟩ ?_
    · first | exact wkSt_same rfl | (simp (decide := true) only [go_sem, reduceIte, Nat.reduceAdd, Int.reduceToNat, Nat.reduceSub, Nat.reduceMul]; exact wkSt_same rfl)
    · rintro nq50 _ ⟨v15, v16, v17⟩ xq50 kq50 hkq50 - h hIq50 hEq50
      simp only [spec_l17Val_s11] at h
      refine sem_cut fun k51 hk51 => zS z0 ?_
      refine sem_ifh rfl h ?_ ?_ <;> clear h <;> intro h
      · refine r_skip (r_cN hk51 ?_)
        refine sem_cut fun k53 hk53 => sem_blk fun k54 hk54 => ?_
        obtain ⟨v20, h, c56⟩ := bI h
        refine zS (zRF c56) (zU z0 ?_)
        refine r_bN hk54 (r_cN hk53 ?_)
        refine zU z0 (zB hkq50 h hIq50 () trivial)
      · refine r_exit (r_cE hk51 ?_)
        replace h := zX h hEq50 hKq50
        refine r_kE hkq50 (r_bE hk37 ?_)
        refine zJ J34 [0, 3, 4] () _ h
noncomputable def spec_l17In_arg_j37 (v3 : Int) (v6 : Int) : ((List Int) × Int × Int) → Option (DevArg × Int × l17In)
  | (v9, v10, v11) => (some ((⟨(IntKind.i64.wrap (v3)), v6, v11⟩ : DevArg), 0, (⟨v9, v10⟩ : l17In)))
noncomputable def spec_l17In_arg (v1 : l17In) : Option (DevArg × Int × l17In) :=
  (Option.bind (spec_l17In_take v1 1) fun v2 => (cond (!v2.2.1) (some ((⟨0, 0, 0⟩ : DevArg), 6, v2.2.2)) (Option.bind (idx v2.1 (0)) fun v3 => (cond ((decide ((IntKind.i64.wrap (v3)) < 1)) || (decide ((IntKind.i64.wrap (v3)) > 13))) (some ((⟨0, 0, 0⟩ : DevArg), 3, v2.2.2)) (Option.bind (spec_l17Wide (IntKind.i64.wrap (v3))) fun v4 => (Option.bind (spec_l17In_take v2.2.2 v4) fun v5 => (cond (!v5.2.1) (some ((⟨0, 0, 0⟩ : DevArg), 6, v5.2.2)) (Option.bind (spec_l17Val v5.1) fun v6 => (cond ((IntKind.i64.wrap (v3)) == 12) (Option.bind (spec_l17In_take v5.2.2 1) fun v12 => (cond (!v12.2.1) (some ((⟨0, 0, 0⟩ : DevArg), 6, v12.2.2)) (Option.bind (idx v12.1 (0)) fun v13 => (spec_l17In_arg_j37 v3 v6 (v12.2.2.b, v12.2.2.at_, (IntKind.i64.wrap (v13))))))) (spec_l17In_arg_j37 v3 v6 (v5.2.2.b, v5.2.2.at_, 0)))))))))))
theorem con_spec_l17In_arg (v1 : l17In) (res_ : (DevArg × Int × l17In)) (h : spec_l17In_arg v1 = some res_) : Con Try.prog C0 43 [.pt 0 0] [.rc [.fz 1 (R e_u8 (v1.b)), .sc (.int .i64 (v1.at_))]]
    (fun x σ' => x = .tup [.agg [.sc (.int .i64 (res_.1.Kind)), .sc (.int .i64 (res_.1.N)), .sc (.int .i64 (res_.1.P))], .sc (.int .i64 (res_.2.1))] ∧ σ' = [.rc [.fz 1 (R e_u8 (res_.2.2.b)), .sc (.int .i64 (res_.2.2.at_))]]) := by
  refine zCon hP 1 [0, 2, 3, 4, 5, 6, 7, 8, 9, 10, 11, 18, 32, 44, 51, 58] [.cell 2 77, .tmp 3] Try.func43 (by unfold Try.f43; rfl) fun Q hQ => ?_
  unfold spec_l17In_arg at h
  refine zS z0 ?_
  obtain ⟨v2, c3H, h⟩ := bind_some' h
  refine zS (zC1 (lC [[0]] (con_spec_l17In_take _ _ _ c3H))) (sem_cut fun k4 hk4 => ?_)
  refine zS z0 ?_
  refine sem_ifh rfl h ?_ ?_ <;> clear h <;> intro h
  · refine zS z0 (r_ret ?_)
    refine r_cR hk4 ?_
    cases h
    refine zAR hQ
  · refine r_skip (r_cN hk4 ?_)
    obtain ⟨v3, h, c8⟩ := bN 0 h
    refine zS (zRF c8) (sem_cut fun k9 hk9 => ?_)
    refine zS zR ?_
    refine sem_ifh rfl h ?_ ?_ <;> clear h <;> intro h
    · refine zS z0 (r_ret ?_)
      refine r_cR hk9 ?_
      cases h
      refine zAR hQ
    · refine r_skip (r_cN hk9 ?_)
      obtain ⟨v4, c13H, h⟩ := bind_some' h
      refine zS (zC1 (lF [] (con_spec_l17Wide _ _ c13H))) ?_
      obtain ⟨v5, c15H, h⟩ := bind_some' h
      refine zS (zC1 (lC [[0]] (con_spec_l17In_take _ _ _ c15H))) (sem_cut fun k16 hk16 => ?_)
      refine zS z0 ?_
      refine sem_ifh rfl h ?_ ?_ <;> clear h <;> intro h
      · refine zS z0 (r_ret ?_)
        refine r_cR hk16 ?_
        cases h
        refine zAR hQ
      · refine r_skip (r_cN hk16 ?_)
        obtain ⟨v6, c20H, h⟩ := bind_some' h
        refine zS (zC1 (lF [] (con_spec_l17Val _ _ c20H))) (zCut (fun (x : ((List Int) × Int × Int)) => ⟨[(2, .pt 1 0), (6, .pt 2 0)], [.rc [.fz 1 (R e_u8 (x.1)), .sc (.int .i64 (x.2.1))], .rc [.sc (.int .i64 (0)), .sc (.int .i64 (0)), .sc (.int .i64 (0))], .rc [.sc (.int .i64 ((IntKind.i64.wrap (v3)))), .sc (.int .i64 (v6)), .sc (.int .i64 (x.2.2))]]⟩) (spec_l17In_arg_j37 v3 v6) res_ ?_ ?_)
        · rintro _ ⟨v9, v10, v11⟩ h
          simp only [spec_l17In_arg_j37] at h
          refine zS z0 (r_ret ?_)
          cases h
          refine zAR hQ
        · intro k30 hk30 J29
          refine zS z0 ?_
          refine sem_ifh rfl h ?_ ?_ <;> clear h <;> intro h
          · obtain ⟨v12, c33H, h⟩ := bind_some' h
            refine zS (zC1 (lC [[0]] (con_spec_l17In_take _ _ _ c33H))) (sem_cut fun k34 hk34 => ?_)
            refine zS z0 ?_
            refine sem_ifh rfl h ?_ ?_ <;> clear h <;> intro h
            · refine zS z0 (r_ret ?_)
              refine r_cR hk34 (r_jR hk30 ?_)
              cases h
              refine zAR hQ
            · refine r_skip (r_cN hk34 ?_)
              obtain ⟨v13, h, c37⟩ := bN 0 h
              refine zU (zRF c37) (zJ J29 [2, 6] () _ h)
          · refine r_skip (zJ J29 [2, 6] () _ h)
noncomputable def spec_l17In_inst_j51 (v3 : Int) (v6 : Int) : ((List Int) × Int × (List DevArg)) → Option (Inst × Int × l17In)
  | (v24, v25, v26) => (some ((⟨(IntKind.i64.wrap (v3)), (IntKind.i64.wrap (v6)), v26⟩ : Inst), 0, (⟨v24, v25⟩ : l17In)))
noncomputable def spec_l17In_inst_s55 (v6 : Int) : ((List Int) × Int × (List DevArg) × Int) → Option (((List Int) × Int × (List DevArg) × Int) ⊕ (((List Int) × Int × Int) ⊕ ((List Int) × Int × (List DevArg))))
  | (v29, v30, v31, v32) => (Option.bind (spec_ElemArity (IntKind.i64.wrap (v6))) fun v39 => (cond (decide (v32 < v39)) (Option.bind (spec_l17In_arg (⟨v29, v30⟩ : l17In)) fun v40 => (cond (decide (v40.2.1 > 0)) (some (.inr (.inl (v40.2.2.b, v40.2.2.at_, v40.2.1)))) (gd (apOk ((v31 ++ [v40.1])).length 24) (some (.inl (v40.2.2.b, v40.2.2.at_, (v31 ++ [v40.1]), (IntKind.i64.wrap (v32 + 1)))))))) (some (.inr (.inr (v29, v30, v31))))))
noncomputable def spec_l17In_inst (v1 : l17In) : Option (Inst × Int × l17In) :=
  (Option.bind (spec_l17In_take v1 1) fun v2 => (cond (!v2.2.1) (some ((⟨0, 0, []⟩ : Inst), 6, v2.2.2)) (Option.bind (idx v2.1 (0)) fun v3 => (cond ((decide ((IntKind.i64.wrap (v3)) < 1)) || (decide ((IntKind.i64.wrap (v3)) > 11))) (some ((⟨0, 0, []⟩ : Inst), 2, v2.2.2)) (Option.bind (spec_l17Has (IntKind.i64.wrap (v3))) fun v4 => (cond (!v4) (some ((⟨(IntKind.i64.wrap (v3)), 0, []⟩ : Inst), 0, v2.2.2)) (Option.bind (spec_l17In_take v2.2.2 1) fun v5 => (cond (!v5.2.1) (some ((⟨0, 0, []⟩ : Inst), 6, v5.2.2)) (Option.bind (idx v5.1 (0)) fun v6 => (Option.bind (spec_l17Known (IntKind.i64.wrap (v3)) (IntKind.i64.wrap (v6))) fun v7 => (cond (!v7) (some ((⟨0, 0, []⟩ : Inst), 2, v5.2.2)) ((loop (spec_l17In_inst_s55 v6) (v5.2.2.b, v5.2.2.at_, [], 0)).bind (Sum.elim (fun v37 => (some ((⟨0, 0, []⟩ : Inst), v37.2.2, (⟨v37.1, v37.2.1⟩ : l17In)))) (fun v38 => (spec_l17In_inst_j51 v3 v6 (v38.1, v38.2.1, v38.2.2))))))))))))))))
theorem con_spec_l17In_inst (v1 : l17In) (res_ : (Inst × Int × l17In)) (h : spec_l17In_inst v1 = some res_) : Con Try.prog C0 18 [.pt 0 0] [.rc [.fz 1 (R e_u8 (v1.b)), .sc (.int .i64 (v1.at_))]]
    (fun x σ' => x = .tup [.agg [.sc (.int .i64 (res_.1.Code)), .sc (.int .i64 (res_.1.One_Op)), .fz 3 (R e_DevArg (res_.1.One_Args))], .sc (.int .i64 (res_.2.1))] ∧ σ' = [.rc [.fz 1 (R e_u8 (res_.2.2.b)), .sc (.int .i64 (res_.2.2.at_))]]) := by
  refine zCon hP 1 [0, 2, 3, 4, 5, 6, 7, 8, 9, 10, 11, 18, 32, 37, 45, 59, 66, 75] [.cell 2 49, .tmp 3] Try.func18 (by unfold Try.f18; rfl) fun Q hQ => ?_
  unfold spec_l17In_inst at h
  refine zS z0 ?_
  obtain ⟨v2, c3H, h⟩ := bind_some' h
  refine zS (zC1 (lC [[0]] (con_spec_l17In_take _ _ _ c3H))) (sem_cut fun k4 hk4 => ?_)
  refine zS z0 ?_
  refine sem_ifh rfl h ?_ ?_ <;> clear h <;> intro h
  · refine zS z0 (r_ret ?_)
    refine r_cR hk4 ?_
    cases h
    refine zARw hQ
  · refine r_skip (r_cN hk4 ?_)
    obtain ⟨v3, h, c8⟩ := bN 0 h
    refine zS (zRF c8) (sem_cut fun k9 hk9 => ?_)
    refine zS zR ?_
    refine sem_ifh rfl h ?_ ?_ <;> clear h <;> intro h
    · refine zS z0 (r_ret ?_)
      refine r_cR hk9 ?_
      cases h
      refine zARw hQ
    · refine r_skip (r_cN hk9 ?_)
      refine sem_cut fun k12 hk12 => ?_
      obtain ⟨v4, c14H, h⟩ := bind_some' h
      refine zS (zC1 (lF [] (con_spec_l17Has _ _ c14H))) ?_
      refine sem_ifh rfl h ?_ ?_ <;> clear h <;> intro h
      · refine zS z0 (r_ret ?_)
        refine r_cR hk12 ?_
        cases h
        refine zARw hQ
      · refine r_skip (r_cN hk12 ?_)
        obtain ⟨v5, c17H, h⟩ := bind_some' h
        refine zS (zC1 (lC [[0]] (con_spec_l17In_take _ _ _ c17H))) (sem_cut fun k18 hk18 => ?_)
        refine zS z0 ?_
        refine sem_ifh rfl h ?_ ?_ <;> clear h <;> intro h
        · refine zS z0 (r_ret ?_)
          refine r_cR hk18 ?_
          cases h
          refine zARw hQ
        · refine r_skip (r_cN hk18 ?_)
          obtain ⟨v6, h, c22⟩ := bN 0 h
          refine zS (zRF c22) (sem_cut fun k23 hk23 => ?_)
          obtain ⟨v7, c25H, h⟩ := bind_some' h
          refine zS (zC1 (lF [] (con_spec_l17Known _ _ _ c25H))) ?_
          refine sem_ifh rfl h ?_ ?_ <;> clear h <;> intro h
          · refine zS z0 (r_ret ?_)
            refine r_cR hk23 ?_
            cases h
            refine zARw hQ
          · refine r_skip (r_cN hk23 ?_)
            refine sem_cutJ (fun (i : P2) (x : ((List Int) × Int × (List DevArg))) => match i with | .a => (⟨[(2, .pt 1 0), (6, .pt 2 0)], [.rc [.fz 1 (R e_u8 (x.1)), .sc (.int .i64 (x.2.1))], .rc [.sc (.int .i64 (0)), .sc (.int .i64 (0)), .sc (.slice none 0 0)], .rc [.sc (.int .i64 ((IntKind.i64.wrap (v3)))), .sc (.int .i64 ((IntKind.i64.wrap (v6)))), .sl 3 0 ((x.2.2).length)], .arr true 3 (R e_DevArg (x.2.2))]⟩ : St) | .b => (⟨[(2, .pt 1 0), (6, .pt 2 0)], [.rc [.fz 1 (R e_u8 (x.1)), .sc (.int .i64 (x.2.1))], .rc [.sc (.int .i64 (0)), .sc (.int .i64 (0)), .sc (.slice none 0 0)], .rc [.sc (.int .i64 ((IntKind.i64.wrap (v3)))), .sc (.int .i64 ((IntKind.i64.wrap (v6)))), .sc (.slice none 0 0)]]⟩ : St)) (fun (i : P2) (x : ((List Int) × Int × (List DevArg))) => (match i with | .a => True | .b => x.2.2 = []) ∧ spec_l17In_inst_j51 v3 v6 x = some res_) ?_ ?_
            · rintro (_ | _) ⟨v24, v25, v26⟩ ⟨hp, h⟩
              · simp only [spec_l17In_inst_j51] at h
                refine zS z0 (r_ret ?_)
                cases h
                refine zAR hQ
              · replace hp : v26 = [] := hp
                subst hp
                simp only [spec_l17In_inst_j51] at h
                try simp only [List.nil_append, List.length_nil, Int.natCast_zero] at h
                refine zS z0 (r_ret ?_)
                cases h
                refine zARw hQ
            · intro k88 hk88 J87
              refine zS z0 (sem_blk fun k90 hk90 => ?_)
              obtain ⟨oq124, hLq124, hKq124⟩ := bind_some' h
              clear h
              refine sem_loopP [0, 2, 6, 9] (fun (i : P2) (x : ((List Int) × Int × (List DevArg) × Int)) => match i with | .a => (⟨[(0, .pt 0 0), (2, .pt 1 0), (6, .pt 2 0), (9, .sc (.int .i64 (x.2.2.2)))], [.rc [.fz 1 (R e_u8 (x.1)), .sc (.int .i64 (x.2.1))], .rc [.sc (.int .i64 (0)), .sc (.int .i64 (0)), .sc (.slice none 0 0)], .rc [.sc (.int .i64 ((IntKind.i64.wrap (v3)))), .sc (.int .i64 ((IntKind.i64.wrap (v6)))), .sl 3 0 ((x.2.2.1).length)], .arr true 3 (R e_DevArg (x.2.2.1))]⟩ : St) | .b => (⟨[(0, .pt 0 0), (2, .pt 1 0), (6, .pt 2 0), (9, .sc (.int .i64 (x.2.2.2)))], [.rc [.fz 1 (R e_u8 (x.1)), .sc (.int .i64 (x.2.1))], .rc [.sc (.int .i64 (0)), .sc (.int .i64 (0)), .sc (.slice none 0 0)], .rc [.sc (.int .i64 ((IntKind.i64.wrap (v3)))), .sc (.int .i64 ((IntKind.i64.wrap (v6)))), .sc (.slice none 0 0)]]⟩ : St)) (fun (i : P2) (x : ((List Int) × Int × (List DevArg) × Int)) => (match i with | .a => True | .b => x.2.2.1 = [])) (spec_l17In_inst_s55 v6) (.b) (v5.2.2.b, v5.2.2.at_, [], 0) hLq124 (by rfl) (by rfl) ⟨?_, rfl⟩ ?_
              · first | exact wkSt_same rfl | (simp (decide := true) only [go_sem, reduceIte, Nat.reduceAdd, Int.reduceToNat, Nat.reduceSub, Nat.reduceMul]; exact wkSt_same rfl)
              · rintro nq124 (_ | _) ⟨v29, v30, v31, v32⟩ xq124 kq124 hkq124 hp h hIq124 hEq124
                · simp only [spec_l17In_inst_s55] at h
                  refine sem_cut fun k125 hk125 => ?_
                  obtain ⟨v39, c127H, h⟩ := bind_some' h
                  refine zS (zC1 (lF [] (con_spec_ElemArity _ _ c127H))) ?_
                  refine sem_ifh rfl h ?_ ?_ <;> clear h <;> intro h
                  · refine r_skip (r_cN hk125 ?_)
                    refine sem_cut fun k128 hk128 => sem_blk fun k129 hk129 => ?_
                    obtain ⟨v40, c131H, h⟩ := bind_some' h
                    refine zS (zC1 (lC [[0]] (con_spec_l17In_arg _ _ c131H))) (sem_cut fun k132 hk132 => ?_)
                    refine zS z0 ?_
                    refine sem_ifh rfl h ?_ ?_ <;> clear h <;> intro h
                    · refine zS z0 (r_ret ?_)
                      refine r_cR hk132 (r_bR hk129 ?_)
                      refine r_cR hk128 ?_
                      replace h := zX h hEq124 hKq124
                      simp only [Sum.elim_inl, Sum.elim_inr] at h
                      refine r_kR hkq124 (r_bR hk90 ?_)
                      refine r_jR hk88 ?_
                      cases h
                      refine zARw hQ
                    · refine r_skip (r_cN hk132 ?_)
                      obtain ⟨g135, h⟩ := gAp h
                      refine zU (zRF g135) (r_bN hk129 ?_)
                      refine r_cN hk128 (zU z0 ?_)
                      refine zB hkq124 h hIq124 (.a) trivial
                  · refine r_exit (r_cE hk125 ?_)
                    replace h := zX h hEq124 hKq124
                    simp only [Sum.elim_inl, Sum.elim_inr] at h
                    refine r_kE hkq124 (r_bE hk90 ?_)
                    refine zJ J87 [2, 6] (.a) (v29, v30, v31) ⟨trivial, h⟩
                · replace hp : v31 = [] := hp
                  subst hp
                  simp only [spec_l17In_inst_s55] at h
                  try simp only [List.nil_append, List.length_nil, Int.natCast_zero] at h
                  refine sem_cut fun k136 hk136 => ?_
                  obtain ⟨v41, c138H, h⟩ := bind_some' h
                  refine zS (zC1 (lF [] (con_spec_ElemArity _ _ c138H))) ?_
                  refine sem_ifh rfl h ?_ ?_ <;> clear h <;> intro h
                  · refine r_skip (r_cN hk136 ?_)
                    refine sem_cut fun k139 hk139 => sem_blk fun k140 hk140 => ?_
                    obtain ⟨v42, c142H, h⟩ := bind_some' h
                    refine zS (zC1 (lC [[0]] (con_spec_l17In_arg _ _ c142H))) (sem_cut fun k143 hk143 => ?_)
                    refine zS z0 ?_
                    refine sem_ifh rfl h ?_ ?_ <;> clear h <;> intro h
                    · refine zS z0 (r_ret ?_)
                      refine r_cR hk143 (r_bR hk140 ?_)
                      refine r_cR hk139 ?_
                      replace h := zX h hEq124 hKq124
                      simp only [Sum.elim_inl, Sum.elim_inr] at h
                      refine r_kR hkq124 (r_bR hk90 ?_)
                      refine r_jR hk88 ?_
                      cases h
                      refine zARw hQ
                    · refine r_skip (r_cN hk143 ?_)
                      obtain ⟨g146, h⟩ := gAp h
                      refine zU (zRF g146) (r_bN hk140 ?_)
                      refine r_cN hk139 (zU z0 ?_)
                      refine zB hkq124 h hIq124 (.a) trivial
                  · refine r_exit (r_cE hk136 ?_)
                    replace h := zX h hEq124 hKq124
                    simp only [Sum.elim_inl, Sum.elim_inr] at h
                    refine r_kE hkq124 (r_bE hk90 ?_)
                    refine zJ J87 [2, 6] (.b) (v29, v30, []) ⟨rfl, h⟩
noncomputable def spec_PicRead_j35 (v11 : Int) : ((List Int) × Int × (List Inst)) → Option ((List Inst) × PicFault)
  | (v22, v23, v24) => (cond (decide (v23 < ((v22).length : Int))) (some ([], (⟨7, v11⟩ : PicFault))) (some (v24, (⟨0, 0⟩ : PicFault))))
noncomputable def spec_PicRead_s39 (v11 : Int) : ((List Int) × Int × (List Inst) × Int) → Option (((List Int) × Int × (List Inst) × Int) ⊕ ((Int × Int) ⊕ ((List Int) × Int × (List Inst))))
  | (v26, v27, v28, v29) => (cond (decide (v29 < v11)) (Option.bind (spec_l17In_inst (⟨v26, v27⟩ : l17In)) fun v33 => (cond (decide (v33.2.1 > 0)) (some (.inr (.inl (v33.2.1, v29)))) (gd (apOk ((v28 ++ [v33.1])).length 40) (some (.inl (v33.2.2.b, v33.2.2.at_, (v28 ++ [v33.1]), (IntKind.i64.wrap (v29 + 1)))))))) (some (.inr (.inr (v26, v27, v28)))))
noncomputable def spec_PicRead (v1 : (List Int)) : Option ((List Inst) × PicFault) :=
  (cond (decide (((v1).length : Int) < 8)) (some ([], (⟨4, 0⟩ : PicFault))) (cond (decide (((v1).length : Int) > 20008)) (some ([], (⟨4, 0⟩ : PicFault))) (Option.bind (idx v1 (0)) fun v2 => (cond (v2 != 83) (some ([], (⟨4, 0⟩ : PicFault))) (Option.bind (idx v1 (1)) fun v3 => (cond (v3 != 116) (some ([], (⟨4, 0⟩ : PicFault))) (Option.bind (prt v1 (2) (4)) fun v4 => (Option.bind (spec_l17Two v4) fun v5 => (cond (v5 != ((v1).length : Int)) (some ([], (⟨4, 0⟩ : PicFault))) (Option.bind (prtL v1 ((IntKind.i64.wrap (((v1).length : Int) - 2)))) fun v6 => (Option.bind (prtH v1 ((IntKind.i64.wrap (((v1).length : Int) - 2)))) fun v7 => (Option.bind (spec_l17Two v6) fun v8 => (Option.bind (spec_PicSum v7) fun v9 => (cond (v8 != (IntKind.i64.wrap (v9))) (some ([], (⟨5, 0⟩ : PicFault))) (Option.bind (prt v1 (4) (6)) fun v10 => (Option.bind (spec_l17Two v10) fun v11 => (cond (decide (v11 > 1000)) (some ([], (⟨1, 0⟩ : PicFault))) (Option.bind (prt v1 (6) ((IntKind.i64.wrap (((v1).length : Int) - 2)))) fun v12 => ((loop (spec_PicRead_s39 v11) (v12, 0, [], 0)).bind (Sum.elim (fun v31 => (some ([], (⟨v31.1, v31.2⟩ : PicFault)))) (fun v32 => (spec_PicRead_j35 v11 (v32.1, v32.2.1, v32.2.2)))))))))))))))))))))))
theorem con_spec_PicRead (v1 : (List Int)) (res_ : ((List Inst) × PicFault)) (h : spec_PicRead v1 = some res_) : Con Try.prog C0 6 [.fz 1 (R e_u8 (v1))] []
    (fun x σ' => x = .tup [.fz 3 (R e_Inst (res_.1)), .agg [.sc (.int .i64 (res_.2.Code)), .sc (.int .i64 (res_.2.At))]] ∧ σ' = []) := by
  refine zCon hP 0 [0, 2, 3, 4, 5, 6, 7, 8, 9, 10, 37, 50, 56, 67, 76, 93] [.tmp 2, .cell 3 26] Try.func6 (by unfold Try.f6; rfl) fun Q hQ => ?_
  unfold spec_PicRead at h
  refine zS z0 (zS z0 ?_)
  refine sem_cut fun k3 hk3 => sem_cut fun k4 hk4 => ?_
  rcases Bool.eq_false_or_eq_true (decide (((v1).length : Int) < 8)) with g5 | g5
  · replace h := cond_t h g5
    refine zU (zRF g5) (r_cN hk4 ?_)
    refine sem_ifT rfl ?_
    try replace h := cond_t h rfl
    refine zS z0 (r_ret ?_)
    refine r_cR hk3 ?_
    cases h
    refine zARw hQ
  · replace h := cond_f h g5
    rcases Bool.eq_false_or_eq_true (decide (((v1).length : Int) > 20008)) with g7 | g7
    · replace h := cond_t h g7
      refine zU (zRF (a2 g5 g7)) (r_cN hk4 ?_)
      refine sem_ifT rfl ?_
      try replace h := cond_t h rfl
      refine zS z0 (r_ret ?_)
      refine r_cR hk3 ?_
      cases h
      refine zARw hQ
    · replace h := cond_f h g7
      obtain ⟨v2, h, c9⟩ := bN 0 h
      rcases Bool.eq_false_or_eq_true (v2 != 83) with g10 | g10
      · replace h := cond_t h g10
        refine zU (zRF (a4 g5 g7 c9 g10)) (r_cN hk4 ?_)
        refine sem_ifT rfl ?_
        try replace h := cond_t h rfl
        refine zS z0 (r_ret ?_)
        refine r_cR hk3 ?_
        cases h
        refine zARw hQ
      · replace h := cond_f h g10
        obtain ⟨v3, h, c12⟩ := bN 1 h
        rcases Bool.eq_false_or_eq_true (v3 != 116) with g13 | g13
        · replace h := cond_t h g13
          refine zU (zRF (a4 g5 g7 c9 (a3 g10 c12 g13))) (r_cN hk4 ?_)
          refine sem_ifT rfl ?_
          try replace h := cond_t h rfl
          refine zS z0 (r_ret ?_)
          refine r_cR hk3 ?_
          cases h
          refine zARw hQ
        · replace h := cond_f h g13
          obtain ⟨v4, c15H, h⟩ := bind_some' h
          obtain ⟨c15A, c15B, c15C, c15D⟩ := prt_some c15H
          try simp only [Int.reduceToNat, Int.toNat_zero, Int.toNat_one, Int.toNat_natCast, List.take_length] at c15D
          obtain ⟨v5, c16H, h⟩ := bind_some' h
          refine zU (zC1F (lF [] (con_spec_l17Two _ _ c16H)) (a4 g5 g7 c9 (a4 g10 c12 g13 (a4 c15A c15B c15C c15D)))) (r_cN hk4 ?_)
          refine sem_ifh rfl h ?_ ?_ <;> clear h <;> intro h
          · refine zS z0 (r_ret ?_)
            refine r_cR hk3 ?_
            cases h
            refine zARw hQ
          · refine r_skip (r_cN hk3 ?_)
            refine sem_cut fun k18 hk18 => ?_
            obtain ⟨v6, c20H, h⟩ := bind_some' h
            obtain ⟨c20A, c20B, c20C⟩ := prtL_some c20H
            try simp only [Int.reduceToNat, Int.toNat_zero, Int.toNat_one, Int.toNat_natCast, List.take_length] at c20C
            obtain ⟨v7, c21H, h⟩ := bind_some' h
            obtain ⟨c21A, c21B, c21C⟩ := prtH_some c21H
            try simp only [Int.reduceToNat, Int.toNat_zero, Int.toNat_one, Int.toNat_natCast, List.take_length] at c21C
            obtain ⟨v8, c22H, h⟩ := bind_some' h
            obtain ⟨v9, c23H, h⟩ := bind_some' h
            refine zS (zPC2F (.take 0 (.take 1 (.take 2 (.take 3 (.take 5 (.take 6 (.take 7 (.take 8 (.last 4 (.last 9 (.take 10 (.take 11 .done)))))))))))) [] (lF [] (con_spec_l17Two _ _ c22H)) (lF [] (con_spec_PicSum _ _ c23H)) (a4 c20A c20B c20C (a3 c21A c21B c21C))) ?_
            refine sem_ifh rfl h ?_ ?_ <;> clear h <;> intro h
            · refine zS z0 (r_ret ?_)
              refine r_cR hk18 ?_
              cases h
              refine zARw hQ
            · refine r_skip (r_cN hk18 ?_)
              obtain ⟨v10, c26H, h⟩ := bind_some' h
              obtain ⟨c26A, c26B, c26C, c26D⟩ := prt_some c26H
              try simp only [Int.reduceToNat, Int.toNat_zero, Int.toNat_one, Int.toNat_natCast, List.take_length] at c26D
              obtain ⟨v11, c27H, h⟩ := bind_some' h
              refine zS (zC1F (lF [] (con_spec_l17Two _ _ c27H)) (a4 c26A c26B c26C c26D)) (sem_cut fun k28 hk28 => ?_)
              refine zS z0 ?_
              refine sem_ifh rfl h ?_ ?_ <;> clear h <;> intro h
              · refine zS z0 (r_ret ?_)
                refine r_cR hk28 ?_
                cases h
                refine zARw hQ
              · refine r_skip (r_cN hk28 ?_)
                obtain ⟨v12, c32H, h⟩ := bind_some' h
                obtain ⟨c32A, c32B, c32C, c32D⟩ := prt_some c32H
                try simp only [Int.reduceToNat, Int.toNat_zero, Int.toNat_one, Int.toNat_natCast, List.take_length] at c32D
                refine zS (zRF (a4 c32A c32B c32C c32D)) (zS z0 ?_)
                refine zCut (fun (x : ((List Int) × Int × (List Inst))) => ⟨[(3, .pt 0 0), (5, .sc (.int .i64 (v11))), (6, .pt 1 0), (7, .sl 2 0 ((x.2.2).length))], [.rc [.sc (.int .i64 (0)), .sc (.int .i64 (0))], .rc [.fz 1 (R e_u8 (x.1)), .sc (.int .i64 (x.2.1))], .arr true 3 (R e_Inst (x.2.2))]⟩) (spec_PicRead_j35 v11) res_ ?_ ?_
                · rintro _ ⟨v22, v23, v24⟩ h
                  simp only [spec_PicRead_j35] at h
                  refine sem_cut fun k67 hk67 => zS zR ?_
                  refine sem_ifh rfl h ?_ ?_ <;> clear h <;> intro h
                  · refine zS z0 (r_ret ?_)
                    refine r_cR hk67 ?_
                    cases h
                    refine zARw hQ
                  · refine r_skip (r_cN hk67 ?_)
                    refine zS z0 (r_ret ?_)
                    cases h
                    refine zAR hQ
                · intro k72 hk72 J71
                  refine zS z0 (sem_blk fun k74 hk74 => ?_)
                  obtain ⟨oq95, hLq95, hKq95⟩ := bind_some' h
                  clear h
                  refine sem_loopP [3, 5, 6, 7, 8] (fun (_ : Unit) (x : ((List Int) × Int × (List Inst) × Int)) => (⟨[(3, .pt 0 0), (5, .sc (.int .i64 (v11))), (6, .pt 1 0), (7, .sl 2 0 ((x.2.2.1).length)), (8, .sc (.int .i64 (x.2.2.2)))], [.rc [.sc (.int .i64 (0)), .sc (.int .i64 (0))], .rc [.fz 1 (R e_u8 (x.1)), .sc (.int .i64 (x.2.1))], .arr true 3 (R e_Inst (x.2.2.1))]⟩ : St)) (fun (_ : Unit) (x : ((List Int) × Int × (List Inst) × Int)) => True) (spec_PicRead_s39 v11) () (v12, 0, [], 0) hLq95 (by rfl) (by rfl) ⟨?_, trivial⟩ ?_
                  · first | exact wkSt_same rfl | (simp (decide := true) only [go_sem, reduceIte, Nat.reduceAdd, Int.reduceToNat, Nat.reduceSub, Nat.reduceMul]; exact wkSt_same rfl)
                  · rintro nq95 _ ⟨v26, v27, v28, v29⟩ xq95 kq95 hkq95 - h hIq95 hEq95
                    simp only [spec_PicRead_s39] at h
                    refine sem_cut fun k96 hk96 => zS z0 ?_
                    refine sem_ifh rfl h ?_ ?_ <;> clear h <;> intro h
                    · refine r_skip (r_cN hk96 ?_)
                      refine sem_cut fun k98 hk98 => sem_blk fun k99 hk99 => ?_
                      obtain ⟨v33, c101H, h⟩ := bind_some' h
                      refine zS (zC1 (lC [[0]] (con_spec_l17In_inst _ _ c101H))) (sem_cut fun k102 hk102 => ?_)
                      refine zS z0 ?_
                      refine sem_ifh rfl h ?_ ?_ <;> clear h <;> intro h
                      · refine zS z0 (r_ret ?_)
                        refine r_cR hk102 (r_bR hk99 ?_)
                        refine r_cR hk98 ?_
                        replace h := zX h hEq95 hKq95
                        simp only [Sum.elim_inl, Sum.elim_inr] at h
                        refine r_kR hkq95 (r_bR hk74 ?_)
                        refine r_jR hk72 ?_
                        cases h
                        refine zARw hQ
                      · refine r_skip (r_cN hk102 ?_)
                        obtain ⟨g105, h⟩ := gAp h
                        refine zU (zRF g105) (r_bN hk99 ?_)
                        refine r_cN hk98 (zU z0 ?_)
                        refine zB hkq95 h hIq95 () trivial
                    · refine r_exit (r_cE hk96 ?_)
                      replace h := zX h hEq95 hKq95
                      simp only [Sum.elim_inl, Sum.elim_inr] at h
                      refine r_kE hkq95 (r_bE hk74 ?_)
                      refine zJ J71 [3, 5, 6, 7] () _ h
theorem con_spec_PicRead_d0 (v1 : (List Int)) (res_ : ((List Inst) × PicFault)) (h : spec_PicRead v1 = some res_) : Con Try.prog C0 6 [.fz 1 (R e_u8 (v1))] []
    (fun x σ' => x = .tup [.junk, .agg [.sc (.int .i64 (res_.2.Code)), .sc (.int .i64 (res_.2.At))]] ∧ σ' = []) := by
  refine Con.drop (con_spec_PicRead v1 res_ h) fun x σ' hp => ?_
  obtain ⟨rfl, rfl⟩ := hp
  exact ⟨_, _, rfl, (by simp [dropL]), rfl, rfl⟩
noncomputable def impl_in (v1 : Int) (v2 : Int) (v3 : Int) : Option Bool :=
  (some ((decide (v1 ≥ v2)) && (decide (v1 ≤ v3))))
theorem con_impl_in (v1 : Int) (v2 : Int) (v3 : Int) (res_ : Bool) (h : impl_in v1 v2 v3 = some res_) : Con Try.prog C0 19 [.sc (.int .i64 (v1)), .sc (.int .i64 (v2)), .sc (.int .i64 (v3))] []
    (fun x σ' => x = .sc (.bool (res_)) ∧ σ' = []) := by
  refine zCon hP 0 [0, 1, 2, 6] [.tmp 6] Try.func19 (by unfold Try.f19; rfl) fun Q hQ => ?_
  unfold impl_in at h
  refine zS z0 (zS zR ?_)
  refine r_ret ?_
  cases h
  refine zAR hQ
noncomputable def impl_fromBig_j5 : Int → Option Int
  | v8 => (some v8)
noncomputable def impl_fromBig_s9 (v1 : (List Int)) : (Int × Int) → Option ((Int × Int) ⊕ Int)
  | (v10, v11) => (cond (decide (v11 < ((v1).length : Int))) (Option.bind (idx v1 (v11)) fun v14 => (some (.inl ((bor .i64 (IntKind.i64.wrap (v10 * 256)) (IntKind.i64.wrap (v14))), (IntKind.i64.wrap (v11 + 1)))))) (some (.inr v10)))
noncomputable def impl_fromBig (v1 : (List Int)) : Option Int :=
  ((loop (impl_fromBig_s9 v1) (0, 0)).bind (fun v13 => (impl_fromBig_j5 v13)))
theorem con_impl_fromBig (v1 : (List Int)) (res_ : Int) (h : impl_fromBig v1 = some res_) : Con Try.prog C0 20 [.fz 1 (R e_u8 (v1))] []
    (fun x σ' => x = .sc (.int .i64 (res_)) ∧ σ' = []) := by
  refine zCon hP 0 [0, 2, 3, 5, 6, 7, 8, 9] [.tmp 2] Try.func20 (by unfold Try.f20; rfl) fun Q hQ => ?_
  unfold impl_fromBig at h
  refine zS z0 (zS z0 ?_)
  refine zCut (fun (x : Int) => ⟨[(3, .sc (.int .i64 (x)))], []⟩) impl_fromBig_j5 res_ ?_ ?_
  · rintro _ v8 h
    simp only [impl_fromBig_j5] at h
    refine zS z0 (r_ret ?_)
    cases h
    refine zAR hQ
  · intro k26 hk26 J25
    refine zS z0 (sem_blk fun k28 hk28 => ?_)
    obtain ⟨oq41, hLq41, hKq41⟩ := bind_some' h
    clear h
    refine sem_loopP [3, 6, 7, 8] (fun (_ : Unit) (x : (Int × Int)) => (⟨[(3, .sc (.int .i64 (x.1))), (6, .fz 1 (R e_u8 (v1))), (7, .sc (.int .i64 (((v1).length : Int)))), (8, .sc (.int .i64 (x.2)))], []⟩ : St)) (fun (_ : Unit) (x : (Int × Int)) => True) (impl_fromBig_s9 v1) () (0, 0) hLq41 (by rfl) (by rfl) ⟨?_, trivial⟩ ?_
    · first | exact wkSt_same rfl | (simp (decide := true) only [go_sem, reduceIte, Nat.reduceAdd, Int.reduceToNat, Nat.reduceSub, Nat.reduceMul]; exact wkSt_same rfl)
    · rintro nq41 _ ⟨v10, v11⟩ xq41 kq41 hkq41 - h hIq41 hEq41
      simp only [impl_fromBig_s9] at h
      refine zS z0 (sem_cut fun k43 hk43 => ?_)
      refine sem_ifh rfl h ?_ ?_ <;> clear h <;> intro h
      · refine r_skip (r_cN hk43 ?_)
        refine sem_cut fun k44 hk44 => sem_blk fun k45 hk45 => ?_
        obtain ⟨v14, h, c47⟩ := bI h
        refine zS (zRF c47) (zU zR ?_)
        refine r_bN hk45 (r_cN hk44 ?_)
        refine zU z0 (zB hkq41 h hIq41 () trivial)
      · refine r_exit (r_cE hk43 ?_)
        replace h := zX h hEq41 hKq41
        refine r_kE hkq41 (r_bE hk28 ?_)
        refine zJ J25 [3] () _ h
noncomputable def impl_PicSum_j5 : Int → Option Int
  | v50 => (some v50)
noncomputable def impl_PicSum_j16 (v67 : Int) : Int → Option ((Int × Int) ⊕ Int)
  | v91 => (some (.inl (v91, (IntKind.i64.wrap (v67 + 1)))))
noncomputable def impl_PicSum_j32 (v95 : Int) : Int → Option ((Int × Int) ⊕ Int)
  | v98 => (some (.inl (v98, (IntKind.i64.wrap (v95 + 1)))))
noncomputable def impl_PicSum_s25 : (Int × Int) → Option ((Int × Int) ⊕ Int)
  | (v94, v95) => (cond (decide (v95 < 8)) (cond (((v94).fdiv 32768) == 1) (impl_PicSum_j32 v95 (bxor .u16 (IntKind.u16.wrap (v94 * 2)) 4129)) (impl_PicSum_j32 v95 (IntKind.u16.wrap (v94 * 2)))) (some (.inr v94)))
noncomputable def impl_PicSum_s9 (v1 : (List Int)) : (Int × Int) → Option ((Int × Int) ⊕ Int)
  | (v66, v67) => (cond (decide (v67 < ((v1).length : Int))) (Option.bind (idx v1 (v67)) fun v92 => ((loop impl_PicSum_s25 ((bxor .u16 v66 (IntKind.u16.wrap ((IntKind.u16.wrap (v92)) * 256))), 0)).bind (fun v97 => (impl_PicSum_j16 v67 v97)))) (some (.inr v66)))
noncomputable def impl_PicSum (v1 : (List Int)) : Option Int :=
  ((loop (impl_PicSum_s9 v1) (65535, 0)).bind (fun v83 => (impl_PicSum_j5 v83)))
theorem con_impl_PicSum (v1 : (List Int)) (res_ : Int) (h : impl_PicSum v1 = some res_) : Con Try.prog C0 21 [.fz 1 (R e_u8 (v1))] []
    (fun x σ' => x = .sc (.int .u16 (res_)) ∧ σ' = []) := by
  refine zCon hP 0 [0, 2, 3, 5, 6, 7, 8, 9, 10, 18, 19, 25] [.tmp 2] Try.func21 (by unfold Try.f21; rfl) fun Q hQ => ?_
  unfold impl_PicSum at h
  refine zS z0 (zS z0 ?_)
  refine zCut (fun (x : Int) => ⟨[(3, .sc (.int .u16 (x)))], []⟩) impl_PicSum_j5 res_ ?_ ?_
  · rintro _ v50 h
    simp only [impl_PicSum_j5] at h
    refine zS z0 (r_ret ?_)
    cases h
    refine zAR hQ
  · intro k278 hk278 J277
    refine zS z0 (sem_blk fun k280 hk280 => ?_)
    obtain ⟨oq461, hLq461, hKq461⟩ := bind_some' h
    clear h
    refine sem_loopP [3, 7, 8, 9] (fun (_ : Unit) (x : (Int × Int)) => (⟨[(3, .sc (.int .u16 (x.1))), (7, .fz 1 (R e_u8 (v1))), (8, .sc (.int .i64 (((v1).length : Int)))), (9, .sc (.int .i64 (x.2)))], []⟩ : St)) (fun (_ : Unit) (x : (Int × Int)) => True) (impl_PicSum_s9 v1) () (65535, 0) hLq461 (by rfl) (by rfl) ⟨?_, trivial⟩ ?_
    · first | exact wkSt_same rfl | (simp (decide := true) only [go_sem, reduceIte, Nat.reduceAdd, Int.reduceToNat, Nat.reduceSub, Nat.reduceMul]; exact wkSt_same rfl)
    · rintro nq461 _ ⟨v66, v67⟩ xq461 kq461 hkq461 - h hIq461 hEq461
      simp only [impl_PicSum_s9] at h
      refine zS z0 (sem_cut fun k463 hk463 => ?_)
      refine sem_ifh rfl h ?_ ?_ <;> clear h <;> intro h
      · refine r_skip (r_cN hk463 ?_)
        refine zCut (fun (x : Int) => ⟨[(3, .sc (.int .u16 (x))), (7, .fz 1 (R e_u8 (v1))), (8, .sc (.int .i64 (((v1).length : Int)))), (9, .sc (.int .i64 (v67)))], []⟩) (impl_PicSum_j16 v67) xq461 ?_ ?_
        · rintro _ v91 h
          simp only [impl_PicSum_j16] at h
          refine zU z0 (zB hkq461 h hIq461 () trivial)
        · intro k508 hk508 J507
          refine sem_blk fun k509 hk509 => ?_
          obtain ⟨v92, h, c511⟩ := bI h
          refine zS (zRF c511) (zS zR ?_)
          refine zS z0 (sem_blk fun k514 hk514 => ?_)
          obtain ⟨oq539, hLq539, hKq539⟩ := bind_some' h
          clear h
          refine sem_loopP [3, 7, 8, 9, 18] (fun (_ : Unit) (x : (Int × Int)) => (⟨[(3, .sc (.int .u16 (x.1))), (7, .fz 1 (R e_u8 (v1))), (8, .sc (.int .i64 (((v1).length : Int)))), (9, .sc (.int .i64 (v67))), (18, .sc (.int .i64 (x.2)))], []⟩ : St)) (fun (_ : Unit) (x : (Int × Int)) => True) impl_PicSum_s25 () ((bxor .u16 v66 (IntKind.u16.wrap ((IntKind.u16.wrap (v92)) * 256))), 0) hLq539 (by rfl) (by rfl) ⟨?_, trivial⟩ ?_
          · first | exact wkSt_same rfl | (simp (decide := true) only [go_sem, reduceIte, Nat.reduceAdd, Int.reduceToNat, Nat.reduceSub, Nat.reduceMul]; exact wkSt_same rfl)
          · rintro nq539 _ ⟨v94, v95⟩ xq539 kq539 hkq539 - h hIq539 hEq539
            simp only [impl_PicSum_s25] at h
            refine zS z0 (sem_cut fun k541 hk541 => ?_)
            refine sem_ifh rfl h ?_ ?_ <;> clear h <;> intro h
            · refine r_skip (r_cN hk541 ?_)
              refine zCut (fun (x : Int) => ⟨[(3, .sc (.int .u16 (x))), (7, .fz 1 (R e_u8 (v1))), (8, .sc (.int .i64 (((v1).length : Int)))), (9, .sc (.int .i64 (v67))), (18, .sc (.int .i64 (v95)))], []⟩) (impl_PicSum_j32 v95) xq539 ?_ ?_
              · rintro _ v98 h
                simp only [impl_PicSum_j32] at h
                refine zU z0 (zB hkq539 h hIq539 () trivial)
              · intro k547 hk547 J546
                refine sem_blk fun k548 hk548 => zS zR (zS zR ?_)
                refine zS z0 ?_
                refine sem_ifh rfl h ?_ ?_ <;> clear h <;> intro h
                · refine zU z0 (r_bN hk548 ?_)
                  refine zJ J546 [3, 7, 8, 9, 18] () _ h
                · refine r_skip (r_bN hk548 ?_)
                  refine zJ J546 [3, 7, 8, 9, 18] () _ h
            · refine r_exit (r_cE hk541 ?_)
              replace h := zX h hEq539 hKq539
              refine r_kE hkq539 (r_bE hk514 ?_)
              refine r_bN hk509 (zJ J507 [3, 7, 8, 9] () _ h)
      · refine r_exit (r_cE hk463 ?_)
        replace h := zX h hEq461 hKq461
        refine r_kE hkq461 (r_bE hk280 ?_)
        refine zJ J277 [3] () _ h
noncomputable def impl_picReader_take_j7 (v1 : picReader) (v2 : Int) : Int → Option ((List Int) × picReader)
  | v3 => (gd (mkOk (v2) (v2) 1) (some ((List.replicate (v2).toNat 0), (⟨v1.left, v3⟩ : picReader))))
noncomputable def impl_picReader_take (v1 : picReader) (v2 : Int) : Option ((List Int) × picReader) :=
  (cond ((v1.code != 0) || (decide (((v1.left).length : Int) < v2))) (cond (v1.code == 0) (impl_picReader_take_j7 v1 v2 6) (impl_picReader_take_j7 v1 v2 v1.code)) (Option.bind (prtH v1.left (v2)) fun v4 => (Option.bind (prtL v1.left (v2)) fun v5 => (some (v4, (⟨v5, v1.code⟩ : picReader))))))
theorem con_impl_picReader_take (v1 : picReader) (v2 : Int) (res_ : ((List Int) × picReader)) (h : impl_picReader_take v1 v2 = some res_) : Con Try.prog C0 44 [.pt 0 0, .sc (.int .i64 (v2))] [.rc [.fz 1 (R e_u8 (v1.left)), .sc (.int .i64 (v1.code))]]
    (fun x σ' => x = .fz 1 (R e_u8 (res_.1)) ∧ σ' = [.rc [.fz 1 (R e_u8 (res_.2.left)), .sc (.int .i64 (res_.2.code))]]) := by
  refine zCon hP 1 [0, 1, 4, 5, 19, 24] [.tmp 4] Try.func44 (by unfold Try.f44; rfl) fun Q hQ => ?_
  unfold impl_picReader_take at h
  refine zS z0 (sem_cut fun k2 hk2 => ?_)
  refine zS zR ?_
  refine sem_ifh rfl h ?_ ?_ <;> clear h <;> intro h
  · refine zCut (fun (x : Int) => ⟨[(1, .sc (.int .i64 (v2)))], [.rc [.fz 1 (R e_u8 (v1.left)), .sc (.int .i64 (x))]]⟩) (impl_picReader_take_j7 v1 v2) res_ ?_ ?_
    · rintro _ v3 h
      simp only [impl_picReader_take_j7] at h
      obtain ⟨g6, h⟩ := gMk h
      refine zS (zRF g6) (r_ret ?_)
      refine r_cR hk2 ?_
      cases h
      refine zAR hQ
    · intro k8 hk8 J7
      refine zS z0 ?_
      refine sem_ifh rfl h ?_ ?_ <;> clear h <;> intro h
      · refine zU z0 (zJ J7 [1] () _ h)
      · refine r_skip (zJ J7 [1] () _ h)
  · refine r_skip (r_cN hk2 ?_)
    obtain ⟨v4, c11H, h⟩ := bind_some' h
    obtain ⟨c11A, c11B, c11C⟩ := prtH_some c11H
    try simp only [Int.reduceToNat, Int.toNat_zero, Int.toNat_one, Int.toNat_natCast, List.take_length] at c11C
    refine zS (zRF (a3 c11A c11B c11C)) ?_
    obtain ⟨v5, c13H, h⟩ := bind_some' h
    obtain ⟨c13A, c13B, c13C⟩ := prtL_some c13H
    try simp only [Int.reduceToNat, Int.toNat_zero, Int.toNat_one, Int.toNat_natCast, List.take_length] at c13C
    refine zS (zRF (a3 c13A c13B c13C)) (zS z0 ?_)
    refine r_ret ?_
    cases h
    refine zAR hQ
noncomputable def impl_hasOne (v1 : Int) : Option Bool :=
  (Option.bind (impl_in v1 1 3) fun v2 => (some (v2 || (v1 == 10))))
theorem con_impl_hasOne (v1 : Int) (res_ : Bool) (h : impl_hasOne v1 = some res_) : Con Try.prog C0 45 [.sc (.int .i64 (v1))] []
    (fun x σ' => x = .sc (.bool (res_)) ∧ σ' = []) := by
  refine zCon hP 0 [0, 2] [.tmp 2] Try.func45 (by unfold Try.f45; rfl) fun Q hQ => ?_
  unfold impl_hasOne at h
  refine zS z0 ?_
  obtain ⟨v2, c3H, h⟩ := bind_some' h
  refine zS (zC1 (lF [] (con_impl_in _ _ _ _ c3H))) (r_ret ?_)
  cases h
  refine zAR hQ
noncomputable def impl_opFits (v1 : Int) (v2 : Int) : Option Bool :=
  (cond (v1 == 10) (Option.bind (impl_in v2 21 37) fun v3 => (some v3)) (Option.bind (impl_in v2 1 10) fun v4 => (some v4)))
theorem con_impl_opFits (v1 : Int) (v2 : Int) (res_ : Bool) (h : impl_opFits v1 v2 = some res_) : Con Try.prog C0 46 [.sc (.int .i64 (v1)), .sc (.int .i64 (v2))] []
    (fun x σ' => x = .sc (.bool (res_)) ∧ σ' = []) := by
  refine zCon hP 0 [0, 1, 4, 6] [.tmp 4] Try.func46 (by unfold Try.f46; rfl) fun Q hQ => ?_
  unfold impl_opFits at h
  refine zS z0 (sem_cut fun k2 hk2 => ?_)
  refine zS z0 ?_
  refine sem_ifh rfl h ?_ ?_ <;> clear h <;> intro h
  · obtain ⟨v3, c5H, h⟩ := bind_some' h
    refine zS (zC1 (lF [] (con_impl_in _ _ _ _ c5H))) (r_ret ?_)
    refine r_cR hk2 ?_
    cases h
    refine zAR hQ
  · refine r_skip (r_cN hk2 ?_)
    obtain ⟨v4, c7H, h⟩ := bind_some' h
    refine zS (zC1 (lF [] (con_impl_in _ _ _ _ c7H))) (r_ret ?_)
    cases h
    refine zAR hQ
noncomputable def impl_ElemArity_j29 : Bool → Option Int
  | v7 => (cond v7 (some 2) (some 0))
noncomputable def impl_ElemArity_j5 (v1 : Int) : Bool → Option Int
  | v3 => (cond v3 (some 1) (Option.bind (impl_in v1 31 35) fun v4 => (cond v4 (some 3) (Option.bind (impl_in v1 3 10) fun v8 => (cond v8 (impl_ElemArity_j29 v8) (Option.bind (impl_in v1 24 37) fun v9 => (impl_ElemArity_j29 v9)))))))
noncomputable def impl_ElemArity (v1 : Int) : Option Int :=
  (cond (v1 == 1) (impl_ElemArity_j5 v1 (v1 == 1)) (cond (v1 == 2) (impl_ElemArity_j5 v1 (v1 == 2)) (Option.bind (impl_in v1 21 23) fun v10 => (cond v10 (impl_ElemArity_j5 v1 v10) (impl_ElemArity_j5 v1 (v1 == 25))))))
theorem con_impl_ElemArity (v1 : Int) (res_ : Int) (h : impl_ElemArity v1 = some res_) : Con Try.prog C0 47 [.sc (.int .i64 (v1))] []
    (fun x σ' => x = .sc (.int .i64 (res_)) ∧ σ' = []) := by
  refine zCon hP 0 [0, 2, 3, 12, 15] [.tmp 2] Try.func47 (by unfold Try.f47; rfl) fun Q hQ => ?_
  unfold impl_ElemArity at h
  refine zS z0 (sem_cut fun k2 hk2 => ?_)
  refine sem_blk fun k3 hk3 => zCut (fun (x : Bool) => ⟨[(0, .sc (.int .i64 (v1))), (3, .sc (.bool (x)))], []⟩) (impl_ElemArity_j5 v1) res_ ?_ ?_
  · rintro _ v3 h
    simp only [impl_ElemArity_j5] at h
    refine sem_ifh rfl h ?_ ?_ <;> clear h <;> intro h
    · refine zS z0 (r_ret ?_)
      refine r_bR hk3 (r_cR hk2 ?_)
      cases h
      refine zAR hQ
    · obtain ⟨v4, c10H, h⟩ := bind_some' h
      refine zS (zC1 (lF [] (con_impl_in _ _ _ _ c10H))) ?_
      refine sem_ifh rfl h ?_ ?_ <;> clear h <;> intro h
      · refine zS z0 (r_ret ?_)
        refine r_bR hk3 (r_cR hk2 ?_)
        cases h
        refine zAR hQ
      · refine zCut (fun (x : Bool) => ⟨[(15, .sc (.bool (x)))], []⟩) impl_ElemArity_j29 res_ ?_ ?_
        · rintro _ v7 h
          simp only [impl_ElemArity_j29] at h
          refine sem_ifh rfl h ?_ ?_ <;> clear h <;> intro h
          · refine zS z0 (r_ret ?_)
            refine r_bR hk3 (r_cR hk2 ?_)
            cases h
            refine zAR hQ
          · refine r_skip (r_bN hk3 ?_)
            refine r_cN hk2 (zS z0 ?_)
            refine r_ret ?_
            cases h
            refine zAR hQ
        · intro k18 hk18 J17
          obtain ⟨v8, c20H, h⟩ := bind_some' h
          refine zS (zC1 (lF [] (con_impl_in _ _ _ _ c20H))) ?_
          refine sem_ifh rfl h ?_ ?_ <;> clear h <;> intro h
          · refine r_skip (zJ J17 [15] () _ h)
          · obtain ⟨v9, c21H, h⟩ := bind_some' h
            refine zU (zC1 (lF [] (con_impl_in _ _ _ _ c21H))) (zJ J17 [15] () _ h)
  · intro k23 hk23 J22
    refine zS z0 ?_
    refine sem_ifh rfl h ?_ ?_ <;> clear h <;> intro h
    · refine r_skip (zJ J22 [0, 3] () _ h)
    · refine zS z0 ?_
      refine sem_ifh rfl h ?_ ?_ <;> clear h <;> intro h
      · refine r_skip (zJ J22 [0, 3] () _ h)
      · obtain ⟨v10, c27H, h⟩ := bind_some' h
        refine zS (zC1 (lF [] (con_impl_in _ _ _ _ c27H))) ?_
        refine sem_ifh rfl h ?_ ?_ <;> clear h <;> intro h
        · refine r_skip (zJ J22 [0, 3] () _ h)
        · refine zU z0 (zJ J22 [0, 3] () _ h)
noncomputable def impl_signed_j5 : Int → Option Int
  | v4 => (some v4)
noncomputable def impl_signed (v1 : (List Int)) : Option Int :=
  (Option.bind (impl_fromBig v1) fun v2 => (Option.bind (idx v1 (0)) fun v5 => (cond (decide (v5 ≥ 128)) (gd (decide (0 ≤ (IntKind.i64.wrap (8 * ((v1).length : Int))))) (impl_signed_j5 (IntKind.i64.wrap (v2 - (IntKind.i64.wrap (1 * (pw .i64 (IntKind.i64.wrap (8 * ((v1).length : Int)))))))))) (impl_signed_j5 v2))))
theorem con_impl_signed (v1 : (List Int)) (res_ : Int) (h : impl_signed v1 = some res_) : Con Try.prog C0 64 [.fz 1 (R e_u8 (v1))] []
    (fun x σ' => x = .sc (.int .i64 (res_)) ∧ σ' = []) := by
  refine zCon hP 0 [0, 2, 3, 9] [.tmp 2] Try.func64 (by unfold Try.f64; rfl) fun Q hQ => ?_
  unfold impl_signed at h
  refine zS z0 ?_
  obtain ⟨v2, c3H, h⟩ := bind_some' h
  refine zS (zC1 (lF [] (con_impl_fromBig _ _ c3H))) (zCut (fun (x : Int) => ⟨[(3, .sc (.int .i64 (x)))], []⟩) impl_signed_j5 res_ ?_ ?_)
  · rintro _ v4 h
    simp only [impl_signed_j5] at h
    refine zS z0 (r_ret ?_)
    cases h
    refine zAR hQ
  · intro k9 hk9 J8
    obtain ⟨v5, h, c11⟩ := bN 0 h
    refine zS (zRF c11) ?_
    refine sem_ifh rfl h ?_ ?_ <;> clear h <;> intro h
    · obtain ⟨g12, h⟩ := gDec h
      refine zU (zRF g12) (zJ J8 [3] () _ h)
    · refine r_skip (zJ J8 [3] () _ h)
noncomputable def impl_picReader_arg_j5 (v3 : Int) : ((List Int) × Int × Int × Int) → Option (DevArg × picReader)
  | (v13, v14, v15, v16) => (some ((⟨(IntKind.i64.wrap (v3)), v15, v16⟩ : DevArg), (⟨v13, v14⟩ : picReader)))
noncomputable def impl_picReader_arg (v1 : picReader) : Option (DevArg × picReader) :=
  (Option.bind (impl_picReader_take v1 1) fun v2 => (Option.bind (idx v2.1 (0)) fun v3 => (cond (v2.2.code != 0) (impl_picReader_arg_j5 v3 (v2.2.left, v2.2.code, 0, 0)) (Option.bind (impl_in (IntKind.i64.wrap (v3)) 1 10) fun v17 => (cond (v17 || ((IntKind.i64.wrap (v3)) == 13)) (Option.bind (impl_picReader_take v2.2 1) fun v18 => (Option.bind (idx v18.1 (0)) fun v19 => (impl_picReader_arg_j5 v3 (v18.2.left, v18.2.code, (IntKind.i64.wrap (v19)), 0)))) (cond ((IntKind.i64.wrap (v3)) == 11) (Option.bind (impl_picReader_take v2.2 2) fun v20 => (Option.bind (impl_signed v20.1) fun v21 => (impl_picReader_arg_j5 v3 (v20.2.left, v20.2.code, v21, 0)))) (cond ((IntKind.i64.wrap (v3)) == 12) (Option.bind (impl_picReader_take v2.2 4) fun v22 => (Option.bind (impl_signed v22.1) fun v23 => (Option.bind (impl_picReader_take v22.2 1) fun v24 => (Option.bind (idx v24.1 (0)) fun v25 => (impl_picReader_arg_j5 v3 (v24.2.left, v24.2.code, v23, (IntKind.i64.wrap (v25)))))))) (impl_picReader_arg_j5 v3 (v2.2.left, 3, 0, 0)))))))))
theorem con_impl_picReader_arg (v1 : picReader) (res_ : (DevArg × picReader)) (h : impl_picReader_arg v1 = some res_) : Con Try.prog C0 48 [.pt 0 0] [.rc [.fz 1 (R e_u8 (v1.left)), .sc (.int .i64 (v1.code))]]
    (fun x σ' => x = .agg [.sc (.int .i64 (res_.1.Kind)), .sc (.int .i64 (res_.1.N)), .sc (.int .i64 (res_.1.P))] ∧ σ' = [.rc [.fz 1 (R e_u8 (res_.2.left)), .sc (.int .i64 (res_.2.code))]]) := by
  refine zCon hP 1 [0, 2, 3, 13, 19, 34, 42] [.cell 2 77] Try.func48 (by unfold Try.f48; rfl) fun Q hQ => ?_
  unfold impl_picReader_arg at h
  refine zS z0 ?_
  obtain ⟨v2, c3H, h⟩ := bind_some' h
  obtain ⟨v3, h, c4⟩ := bN 0 h
  refine zS (zC1F (lC [[0]] (con_impl_picReader_take _ _ _ c3H)) c4) (zCut (fun (x : ((List Int) × Int × Int × Int)) => ⟨[(2, .pt 1 0), (3, .pt 2 0)], [.rc [.fz 1 (R e_u8 (x.1)), .sc (.int .i64 (x.2.1))], .rc [.sc (.int .i64 (0)), .sc (.int .i64 (0)), .sc (.int .i64 (0))], .rc [.sc (.int .i64 ((IntKind.i64.wrap (v3)))), .sc (.int .i64 (x.2.2.1)), .sc (.int .i64 (x.2.2.2))]]⟩) (impl_picReader_arg_j5 v3) res_ ?_ ?_)
  · rintro _ ⟨v13, v14, v15, v16⟩ h
    simp only [impl_picReader_arg_j5] at h
    refine zS z0 (r_ret ?_)
    cases h
    refine zAR hQ
  · intro k22 hk22 J21
    refine sem_blk fun k23 hk23 => zS z0 ?_
    refine sem_ifh rfl h ?_ ?_ <;> clear h <;> intro h
    · refine r_skip (r_bN hk23 ?_)
      refine zJ J21 [2, 3] () _ h
    · obtain ⟨v17, c26H, h⟩ := bind_some' h
      refine zS (zC1 (lF [] (con_impl_in _ _ _ _ c26H))) ?_
      refine sem_ifh rfl h ?_ ?_ <;> clear h <;> intro h
      · obtain ⟨v18, c27H, h⟩ := bind_some' h
        obtain ⟨v19, h, c28⟩ := bN 0 h
        refine zU (zC1F (lC [[0]] (con_impl_picReader_take _ _ _ c27H)) c28) (r_bN hk23 ?_)
        refine zJ J21 [2, 3] () _ h
      · refine zS z0 ?_
        refine sem_ifh rfl h ?_ ?_ <;> clear h <;> intro h
        · obtain ⟨v20, c30H, h⟩ := bind_some' h
          obtain ⟨v21, c31H, h⟩ := bind_some' h
          refine zU (zC2 (lC [[0]] (con_impl_picReader_take _ _ _ c30H)) (lF [] (con_impl_signed _ _ c31H))) (r_bN hk23 ?_)
          refine zJ J21 [2, 3] () _ h
        · refine zS z0 ?_
          refine sem_ifh rfl h ?_ ?_ <;> clear h <;> intro h
          · obtain ⟨v22, c34H, h⟩ := bind_some' h
            obtain ⟨v23, c35H, h⟩ := bind_some' h
            refine zS (zC2 (lC [[0]] (con_impl_picReader_take _ _ _ c34H)) (lF [] (con_impl_signed _ _ c35H))) ?_
            obtain ⟨v24, c36H, h⟩ := bind_some' h
            obtain ⟨v25, h, c37⟩ := bN 0 h
            refine zU (zC1F (lC [[0]] (con_impl_picReader_take _ _ _ c36H)) c37) (r_bN hk23 ?_)
            refine zJ J21 [2, 3] () _ h
          · refine zU z0 (r_bN hk23 ?_)
            refine zJ J21 [2, 3] () _ h
noncomputable def impl_picReader_inst_j27 (v3 : Int) (v8 : Int) : ((List Int) × Int × (List DevArg)) → Option (Inst × picReader)
  | (v26, v27, v28) => (some ((⟨(IntKind.i64.wrap (v3)), (IntKind.i64.wrap (v8)), v28⟩ : Inst), (⟨v26, v27⟩ : picReader)))
noncomputable def impl_picReader_inst_s31 (v8 : Int) : ((List Int) × Int × (List DevArg) × Int) → Option (((List Int) × Int × (List DevArg) × Int) ⊕ ((List Int) × Int × (List DevArg)))
  | (v31, v32, v33, v34) => (Option.bind (impl_ElemArity (IntKind.i64.wrap (v8))) fun v40 => (cond ((decide (v34 < v40)) && (v32 == 0)) (Option.bind (impl_picReader_arg (⟨v31, v32⟩ : picReader)) fun v41 => (gd (apOk ((v33 ++ [v41.1])).length 24) (some (.inl (v41.2.left, v41.2.code, (v33 ++ [v41.1]), (IntKind.i64.wrap (v34 + 1))))))) (some (.inr (v31, v32, v33)))))
noncomputable def impl_picReader_inst_j21 (v3 : Int) (v7 : ((List Int) × picReader)) (v8 : Int) : Int → Option (Inst × picReader)
  | v10 => ((loop (impl_picReader_inst_s31 v8) (v7.2.left, v10, [], 0)).bind (fun v39 => (impl_picReader_inst_j27 v3 v8 (v39.1, v39.2.1, v39.2.2))))
noncomputable def impl_picReader_inst_j5 (v2 : ((List Int) × picReader)) (v3 : Int) : Int → Option (Inst × picReader)
  | v5 => (cond (v5 != 0) (some ((⟨(IntKind.i64.wrap (v3)), 0, []⟩ : Inst), (⟨v2.2.left, v5⟩ : picReader))) (Option.bind (impl_hasOne (IntKind.i64.wrap (v3))) fun v6 => (cond (!v6) (some ((⟨(IntKind.i64.wrap (v3)), 0, []⟩ : Inst), (⟨v2.2.left, v5⟩ : picReader))) (Option.bind (impl_picReader_take (⟨v2.2.left, v5⟩ : picReader) 1) fun v7 => (Option.bind (idx v7.1 (0)) fun v8 => (cond (v7.2.code == 0) (Option.bind (impl_opFits (IntKind.i64.wrap (v3)) (IntKind.i64.wrap (v8))) fun v44 => (cond (!v44) (impl_picReader_inst_j21 v3 v7 v8 2) (impl_picReader_inst_j21 v3 v7 v8 v7.2.code))) (impl_picReader_inst_j21 v3 v7 v8 v7.2.code)))))))
noncomputable def impl_picReader_inst (v1 : picReader) : Option (Inst × picReader) :=
  (Option.bind (impl_picReader_take v1 1) fun v2 => (Option.bind (idx v2.1 (0)) fun v3 => (cond (v2.2.code == 0) (Option.bind (impl_in (IntKind.i64.wrap (v3)) 1 11) fun v45 => (cond (!v45) (impl_picReader_inst_j5 v2 v3 2) (impl_picReader_inst_j5 v2 v3 v2.2.code))) (impl_picReader_inst_j5 v2 v3 v2.2.code))))
theorem con_impl_picReader_inst (v1 : picReader) (res_ : (Inst × picReader)) (h : impl_picReader_inst v1 = some res_) : Con Try.prog C0 22 [.pt 0 0] [.rc [.fz 1 (R e_u8 (v1.left)), .sc (.int .i64 (v1.code))]]
    (fun x σ' => x = .agg [.sc (.int .i64 (res_.1.Code)), .sc (.int .i64 (res_.1.One_Op)), .fz 3 (R e_DevArg (res_.1.One_Args))] ∧ σ' = [.rc [.fz 1 (R e_u8 (res_.2.left)), .sc (.int .i64 (res_.2.code))]]) := by
  refine zCon hP 1 [0, 2, 3, 4, 21, 35, 57, 73] [.cell 2 49] Try.func22 (by unfold Try.f22; rfl) fun Q hQ => ?_
  unfold impl_picReader_inst at h
  refine zS z0 ?_
  obtain ⟨v2, c3H, h⟩ := bind_some' h
  obtain ⟨v3, h, c4⟩ := bN 0 h
  refine zS (zC1F (lC [[0]] (con_impl_picReader_take _ _ _ c3H)) c4) (zCut (fun (x : Int) => ⟨[(0, .pt 0 0), (2, .pt 1 0), (3, .pt 2 0)], [.rc [.fz 1 (R e_u8 (v2.2.left)), .sc (.int .i64 (x))], .rc [.sc (.int .i64 (0)), .sc (.int .i64 (0)), .sc (.slice none 0 0)], .rc [.sc (.int .i64 ((IntKind.i64.wrap (v3)))), .sc (.int .i64 (0)), .sc (.slice none 0 0)]]⟩) (impl_picReader_inst_j5 v2 v3) res_ ?_ ?_)
  · rintro _ v5 h
    simp only [impl_picReader_inst_j5] at h
    refine sem_cut fun k8 hk8 => sem_cut fun k9 hk9 => ?_
    rcases Bool.eq_false_or_eq_true (v5 != 0) with g10 | g10
    · replace h := cond_t h g10
      refine zU (zRF g10) (r_cN hk9 ?_)
      refine sem_ifT rfl ?_
      try replace h := cond_t h rfl
      refine zS z0 (r_ret ?_)
      refine r_cR hk8 ?_
      cases h
      refine zARw hQ
    · replace h := cond_f h g10
      obtain ⟨v6, c12H, h⟩ := bind_some' h
      refine zU (zC1F (lF [] (con_impl_hasOne _ _ c12H)) g10) (r_cN hk9 ?_)
      refine sem_ifh rfl h ?_ ?_ <;> clear h <;> intro h
      · refine zS z0 (r_ret ?_)
        refine r_cR hk8 ?_
        cases h
        refine zARw hQ
      · refine r_skip (r_cN hk8 ?_)
        obtain ⟨v7, c15H, h⟩ := bind_some' h
        obtain ⟨v8, h, c16⟩ := bN 0 h
        refine zS (zC1F (lC [[0]] (con_impl_picReader_take _ _ _ c15H)) c16) (zCut (fun (x : Int) => ⟨[(0, .pt 0 0), (2, .pt 1 0), (3, .pt 2 0)], [.rc [.fz 1 (R e_u8 (v7.2.left)), .sc (.int .i64 (x))], .rc [.sc (.int .i64 (0)), .sc (.int .i64 (0)), .sc (.slice none 0 0)], .rc [.sc (.int .i64 ((IntKind.i64.wrap (v3)))), .sc (.int .i64 ((IntKind.i64.wrap (v8)))), .sc (.slice none 0 0)]]⟩) (impl_picReader_inst_j21 v3 v7 v8) res_ ?_ ?_)
        · rintro _ v10 h
          simp only [impl_picReader_inst_j21] at h
          refine sem_cutJ (fun (i : P2) (x : ((List Int) × Int × (List DevArg))) => match i with | .a => (⟨[(2, .pt 1 0), (3, .pt 2 0)], [.rc [.fz 1 (R e_u8 (x.1)), .sc (.int .i64 (x.2.1))], .rc [.sc (.int .i64 (0)), .sc (.int .i64 (0)), .sc (.slice none 0 0)], .rc [.sc (.int .i64 ((IntKind.i64.wrap (v3)))), .sc (.int .i64 ((IntKind.i64.wrap (v8)))), .sl 3 0 ((x.2.2).length)], .arr true 3 (R e_DevArg (x.2.2))]⟩ : St) | .b => (⟨[(2, .pt 1 0), (3, .pt 2 0)], [.rc [.fz 1 (R e_u8 (x.1)), .sc (.int .i64 (x.2.1))], .rc [.sc (.int .i64 (0)), .sc (.int .i64 (0)), .sc (.slice none 0 0)], .rc [.sc (.int .i64 ((IntKind.i64.wrap (v3)))), .sc (.int .i64 ((IntKind.i64.wrap (v8)))), .sc (.slice none 0 0)]]⟩ : St)) (fun (i : P2) (x : ((List Int) × Int × (List DevArg))) => (match i with | .a => True | .b => x.2.2 = []) ∧ impl_picReader_inst_j27 v3 v8 x = some res_) ?_ ?_
          · rintro (_ | _) ⟨v26, v27, v28⟩ ⟨hp, h⟩
            · simp only [impl_picReader_inst_j27] at h
              refine zS z0 (r_ret ?_)
              cases h
              refine zAR hQ
            · replace hp : v28 = [] := hp
              subst hp
              simp only [impl_picReader_inst_j27] at h
              try simp only [List.nil_append, List.length_nil, Int.natCast_zero] at h
              refine zS z0 (r_ret ?_)
              cases h
              refine zARw hQ
          · intro k61 hk61 J60
            refine zS z0 (sem_blk fun k63 hk63 => ?_)
            obtain ⟨oq85, hLq85, hKq85⟩ := bind_some' h
            clear h
            refine sem_loopP [0, 2, 3, 4] (fun (i : P2) (x : ((List Int) × Int × (List DevArg) × Int)) => match i with | .a => (⟨[(0, .pt 0 0), (2, .pt 1 0), (3, .pt 2 0), (4, .sc (.int .i64 (x.2.2.2)))], [.rc [.fz 1 (R e_u8 (x.1)), .sc (.int .i64 (x.2.1))], .rc [.sc (.int .i64 (0)), .sc (.int .i64 (0)), .sc (.slice none 0 0)], .rc [.sc (.int .i64 ((IntKind.i64.wrap (v3)))), .sc (.int .i64 ((IntKind.i64.wrap (v8)))), .sl 3 0 ((x.2.2.1).length)], .arr true 3 (R e_DevArg (x.2.2.1))]⟩ : St) | .b => (⟨[(0, .pt 0 0), (2, .pt 1 0), (3, .pt 2 0), (4, .sc (.int .i64 (x.2.2.2)))], [.rc [.fz 1 (R e_u8 (x.1)), .sc (.int .i64 (x.2.1))], .rc [.sc (.int .i64 (0)), .sc (.int .i64 (0)), .sc (.slice none 0 0)], .rc [.sc (.int .i64 ((IntKind.i64.wrap (v3)))), .sc (.int .i64 ((IntKind.i64.wrap (v8)))), .sc (.slice none 0 0)]]⟩ : St)) (fun (i : P2) (x : ((List Int) × Int × (List DevArg) × Int)) => (match i with | .a => True | .b => x.2.2.1 = [])) (impl_picReader_inst_s31 v8) (.b) (v7.2.left, v10, [], 0) hLq85 (by rfl) (by rfl) ⟨?_, rfl⟩ ?_
            · first | exact wkSt_same rfl | (simp (decide := true) only [go_sem, reduceIte, Nat.reduceAdd, Int.reduceToNat, Nat.reduceSub, Nat.reduceMul]; exact wkSt_same rfl)
            · rintro nq85 (_ | _) ⟨v31, v32, v33, v34⟩ xq85 kq85 hkq85 hp h hIq85 hEq85
              · simp only [impl_picReader_inst_s31] at h
                refine sem_cut fun k86 hk86 => ?_
                obtain ⟨v40, c88H, h⟩ := bind_some' h
                refine zS (zC1 (lF [] (con_impl_ElemArity _ _ c88H))) ?_
                refine sem_ifh rfl h ?_ ?_ <;> clear h <;> intro h
                · refine r_skip (r_cN hk86 ?_)
                  refine sem_cut fun k89 hk89 => sem_blk fun k90 hk90 => ?_
                  obtain ⟨v41, c91H, h⟩ := bind_some' h
                  obtain ⟨g92, h⟩ := gAp h
                  refine zU (zPC1F (.take 0 (.take 1 (.take 2 (.take 3 (.one 4 (.one 5 (.last 6 (.take 7 (.take 8 (.last 9 .done)))))))))) [2] (lC [[0]] (con_impl_picReader_arg _ _ c91H)) g92) (r_bN hk90 ?_)
                  refine r_cN hk89 (zU z0 ?_)
                  refine zB hkq85 h hIq85 (.a) trivial
                · refine r_exit (r_cE hk86 ?_)
                  replace h := zX h hEq85 hKq85
                  refine r_kE hkq85 (r_bE hk63 ?_)
                  refine zJ J60 [2, 3] (.a) (v31, v32, v33) ⟨trivial, h⟩
              · replace hp : v33 = [] := hp
                subst hp
                simp only [impl_picReader_inst_s31] at h
                try simp only [List.nil_append, List.length_nil, Int.natCast_zero] at h
                refine sem_cut fun k93 hk93 => ?_
                obtain ⟨v42, c95H, h⟩ := bind_some' h
                refine zS (zC1 (lF [] (con_impl_ElemArity _ _ c95H))) ?_
                refine sem_ifh rfl h ?_ ?_ <;> clear h <;> intro h
                · refine r_skip (r_cN hk93 ?_)
                  refine sem_cut fun k96 hk96 => sem_blk fun k97 hk97 => ?_
                  obtain ⟨v43, c98H, h⟩ := bind_some' h
                  obtain ⟨g99, h⟩ := gAp h
                  refine zU (zPC1F (.take 0 (.take 1 (.take 2 (.take 3 (.one 4 (.one 5 (.last 6 (.take 7 (.take 8 (.last 9 .done)))))))))) [2] (lC [[0]] (con_impl_picReader_arg _ _ c98H)) g99) (r_bN hk97 ?_)
                  refine r_cN hk96 (zU z0 ?_)
                  refine zB hkq85 h hIq85 (.a) trivial
                · refine r_exit (r_cE hk93 ?_)
                  replace h := zX h hEq85 hKq85
                  refine r_kE hkq85 (r_bE hk63 ?_)
                  refine zJ J60 [2, 3] (.b) (v31, v32, []) ⟨rfl, h⟩
        · intro k101 hk101 J100
          refine sem_cut fun k102 hk102 => ?_
          rcases Bool.eq_false_or_eq_true (v7.2.code == 0) with g103 | g103
          · replace h := cond_t h g103
            obtain ⟨v44, c104H, h⟩ := bind_some' h
            refine zU (zC1F (lF [] (con_impl_opFits _ _ _ c104H)) g103) (r_cN hk102 ?_)
            refine sem_ifh rfl h ?_ ?_ <;> clear h <;> intro h
            · refine zU z0 (zJ J100 [0, 2, 3] () _ h)
            · refine r_skip (zJ J100 [0, 2, 3] () _ h)
          · replace h := cond_f h g103
            refine zU (zRF g103) (r_cN hk102 ?_)
            refine sem_ifF rfl ?_
            try replace h := cond_f h rfl
            refine r_skip (zJ J100 [0, 2, 3] () _ h)
  · intro k106 hk106 J105
    refine sem_cut fun k107 hk107 => ?_
    rcases Bool.eq_false_or_eq_true (v2.2.code == 0) with g108 | g108
    · replace h := cond_t h g108
      obtain ⟨v45, c109H, h⟩ := bind_some' h
      refine zU (zC1F (lF [] (con_impl_in _ _ _ _ c109H)) g108) (r_cN hk107 ?_)
      refine sem_ifh rfl h ?_ ?_ <;> clear h <;> intro h
      · refine zU z0 (zJ J105 [0, 2, 3] () _ h)
      · refine r_skip (zJ J105 [0, 2, 3] () _ h)
    · replace h := cond_f h g108
      refine zU (zRF g108) (r_cN hk107 ?_)
      refine sem_ifF rfl ?_
      try replace h := cond_f h rfl
      refine r_skip (zJ J105 [0, 2, 3] () _ h)
noncomputable def slices_Clone_impl_DevArg_impl_DevArg (v1 : (List DevArg)) : Option (List DevArg) :=
  (nilq v1 fun v2 => (cond v2 (some []) (gd (apOk (v1).length 24) (some v1))))
theorem con_slices_Clone_impl_DevArg_impl_DevArg (v1 : (List DevArg)) (res_ : (List DevArg)) (h : slices_Clone_impl_DevArg_impl_DevArg v1 = some res_) : Con Try.prog C0 73 [.fz 3 (R e_DevArg (v1))] []
    (fun x σ' => x = .fz 3 (R e_DevArg (res_)) ∧ σ' = []) := by
  refine zCon hP 0 [0, 2, 4] [.tmp 2] Try.func73 (by unfold Try.f73; rfl) fun Q hQ => ?_
  unfold slices_Clone_impl_DevArg_impl_DevArg at h
  refine zS z0 (sem_cut fun k2 hk2 => ?_)
  refine sem_cut fun k3 hk3 => ?_
  have c4H := nilq_some h
  clear h
  repeat' (first | with_reducible refine And.intro ?_ ?_ | exact True.intro | with_reducible assumption | exact fun hf => False.elim hf | (intro hg; first | (simp +contextual [hg]; done) | grind) | omega | ((with_reducible refine r_nileq ?_); refine ⟨?_, ?_⟩) | (intro v2 c4B) | simp (decide := true) only [go_sem, reduceIte, Nat.reduceAdd, Int.reduceToNat, Nat.reduceSub, Nat.reduceMul])
  replace h := c4H v2 (fun e => by have e2 := c4B e; simpa only [go_sem, reduceIte, Nat.reduceEqDiff] using e2)
  refine r_cN hk3 ?_
  refine sem_ifh rfl h ?_ ?_ <;> clear h <;> intro h
  · refine zS z0 (r_ret ?_)
    refine r_cR hk2 ?_
    cases h
    refine zARw hQ
  · refine r_skip (r_cN hk2 ?_)
    obtain ⟨g7, h⟩ := gAp h
    refine zS (zRF g7) (r_ret ?_)
    cases h
    refine zAR hQ
noncomputable def slices_Clip_impl_DevArg_impl_DevArg (v1 : (List DevArg)) : Option (List DevArg) :=
  (Option.bind (prtH v1 (((v1).length : Int))) fun v2 => (some v2))
theorem con_slices_Clip_impl_DevArg_impl_DevArg (v1 : (List DevArg)) (res_ : (List DevArg)) (h : slices_Clip_impl_DevArg_impl_DevArg v1 = some res_) : Con Try.prog C0 72 [.fz 3 (R e_DevArg (v1))] []
    (fun x σ' => x = .fz 3 (R e_DevArg (res_)) ∧ σ' = []) := by
  refine zCon hP 0 [0, 2] [.tmp 2] Try.func72 (by unfold Try.f72; rfl) fun Q hQ => ?_
  unfold slices_Clip_impl_DevArg_impl_DevArg at h
  refine zS z0 ?_
  obtain ⟨v2, c3H, h⟩ := bind_some' h
  obtain ⟨c3A, c3B, c3C⟩ := prtH_some c3H
  try simp only [Int.reduceToNat, Int.toNat_zero, Int.toNat_one, Int.toNat_natCast, List.take_length] at c3C
  refine zS (zRF (a3 c3A c3B c3C)) (r_ret ?_)
  cases h
  refine zAR hQ
noncomputable def impl_clone_impl_DevArg (v1 : (List DevArg)) : Option (List DevArg) :=
  (Option.bind (slices_Clone_impl_DevArg_impl_DevArg v1) fun v2 => (Option.bind (slices_Clip_impl_DevArg_impl_DevArg v2) fun v3 => (some v3)))
theorem con_impl_clone_impl_DevArg (v1 : (List DevArg)) (res_ : (List DevArg)) (h : impl_clone_impl_DevArg v1 = some res_) : Con Try.prog C0 65 [.fz 3 (R e_DevArg (v1))] []
    (fun x σ' => x = .fz 3 (R e_DevArg (res_)) ∧ σ' = []) := by
  refine zCon hP 0 [0, 2] [.tmp 2] Try.func65 (by unfold Try.f65; rfl) fun Q hQ => ?_
  unfold impl_clone_impl_DevArg at h
  refine zS z0 ?_
  obtain ⟨v2, c3H, h⟩ := bind_some' h
  obtain ⟨v3, c4H, h⟩ := bind_some' h
  refine zS (zC2 (lC [] (con_slices_Clone_impl_DevArg_impl_DevArg _ _ c3H)) (lC [] (con_slices_Clip_impl_DevArg_impl_DevArg _ _ c4H))) (r_ret ?_)
  cases h
  refine zAR hQ
noncomputable def impl_Elem_copyOf (v1 : Elem) : Option Elem :=
  (Option.bind (impl_clone_impl_DevArg v1.Args) fun v2 => (some (⟨v1.Op, v2⟩ : Elem)))
theorem con_impl_Elem_copyOf (v1 : Elem) (res_ : Elem) (h : impl_Elem_copyOf v1 = some res_) : Con Try.prog C0 49 [.agg [.sc (.int .i64 (v1.Op)), .fz 3 (R e_DevArg (v1.Args))]] []
    (fun x σ' => x = .agg [.sc (.int .i64 (res_.Op)), .fz 3 (R e_DevArg (res_.Args))] ∧ σ' = []) := by
  refine zCon hP 0 [0, 1, 2] [.cell 2 47] Try.func49 (by unfold Try.f49; rfl) fun Q hQ => ?_
  unfold impl_Elem_copyOf at h
  refine zS z0 ?_
  obtain ⟨v2, c3H, h⟩ := bind_some' h
  refine zS (zPC1 (.take 0 (.take 1 (.take 2 (.take 3 (.one 4 (.take 5 (.last 6 .done))))))) [0] (lC [] (con_impl_clone_impl_DevArg _ _ c3H))) (r_ret ?_)
  cases h
  refine zAR hQ
noncomputable def impl_copyList_j5 : (List Inst) → Option (List Inst)
  | v14 => (some v14)
noncomputable def impl_copyList_s9 (v1 : (List Inst)) : ((List Inst) × Int) → Option (((List Inst) × Int) ⊕ (List Inst))
  | (v18, v19) => (cond (decide (v19 < ((v1).length : Int))) (Option.bind (idx v1 (v19)) fun v24 => (Option.bind (impl_Elem_copyOf (⟨v24.One_Op, v24.One_Args⟩ : Elem)) fun v25 => (Option.bind (idx v18 (v19)) fun v26 => (some (.inl (((v18).set (v19).toNat (⟨v24.Code, v25.Op, v25.Args⟩ : Inst)), (IntKind.i64.wrap (v19 + 1)))))))) (some (.inr v18)))
noncomputable def impl_copyList (v1 : (List Inst)) : Option (List Inst) :=
  (gd (mkOk (((v1).length : Int)) (((v1).length : Int)) 40) ((loop (impl_copyList_s9 v1) ((List.replicate (((v1).length : Int)).toNat (⟨0, 0, []⟩ : Inst)), 0)).bind (fun v23 => (impl_copyList_j5 v23))))
theorem con_impl_copyList (v1 : (List Inst)) (res_ : (List Inst)) (h : impl_copyList v1 = some res_) : Con Try.prog C0 23 [.fz 3 (R e_Inst (v1))] []
    (fun x σ' => x = .sl 0 0 ((res_).length) ∧ σ' = [.arr true 3 (R e_Inst (res_))]) := by
  refine zCon hP 0 [0, 2, 3, 4, 5, 9, 10, 11, 12] [.tmp 2] Try.func23 (by unfold Try.f23; rfl) fun Q hQ => ?_
  unfold impl_copyList at h
  refine zS z0 ?_
  obtain ⟨g3, h⟩ := gMk h
  refine zS (zRF g3) (zCut (fun (x : (List Inst)) => ⟨[(3, .sl 0 0 ((x).length))], [.arr true 3 (R e_Inst (x))]⟩) impl_copyList_j5 res_ ?_ ?_)
  · rintro _ v14 h
    simp only [impl_copyList_j5] at h
    refine zS z0 (r_ret ?_)
    cases h
    refine zOR hQ
  · intro k33 hk33 J32
    refine zS z0 (sem_blk fun k35 hk35 => ?_)
    obtain ⟨oq52, hLq52, hKq52⟩ := bind_some' h
    clear h
    refine sem_loopP [3, 9, 10, 11] (fun (_ : Unit) (x : ((List Inst) × Int)) => (⟨[(3, .sl 0 0 ((x.1).length)), (9, .fz 3 (R e_Inst (v1))), (10, .sc (.int .i64 (((v1).length : Int)))), (11, .sc (.int .i64 (x.2)))], [.arr true 3 (R e_Inst (x.1))]⟩ : St)) (fun (_ : Unit) (x : ((List Inst) × Int)) => True) (impl_copyList_s9 v1) () ((List.replicate (((v1).length : Int)).toNat (⟨0, 0, []⟩ : Inst)), 0) hLq52 (by rfl) (by rfl) ⟨?_, trivial⟩ ?_
    · simp (decide := true) only [go_sem, reduceIte, Nat.reduceAdd, Int.reduceToNat, Nat.reduceSub, Nat.reduceMul]
      (apply wkSt_mk <;> repeat' (first | exact wkE_nil | (with_reducible apply wkE_cons) | exact wkC_nil _ | exact wkV_nil _ | exact wkA_nil _ | (with_reducible apply wkV_agg) | (with_reducible apply wkV_tup) | (with_reducible apply wkA_agg) | exact wkA_refl _ | exact wkV_refl _ | exact wkS_nil | (with_reducible apply wkS_cons) | (with_reducible apply wkO_rc) | (with_reducible apply wkO_arr) | exact wkO_refl _ | exact wkL_nil | (with_reducible apply wkL_cons) | exact wkC_refl _ | exact wkT_nil | (with_reducible apply wkT_cons) | (with_reducible apply wkR_appR) | (with_reducible apply wkR_consR) | exact wkR_nilR _ | exact wkR_refl _ | (refine wkR_repR ?_ _) | apply wkL_cons | (simp only [R_len, List.length_append, List.length_cons, List.length_nil, List.length_replicate]; exact wkV_refl _) | (simp only [R_len, List.length_append, List.length_cons, List.length_nil]; exact wkC_refl _) | (with_reducible apply wkV_fz) | (with_reducible apply wkA_fz) | (with_reducible apply wkC_fz) | (with_reducible apply wkR0_consR) | exact wkR0_nilR _ | exact wkL0_nil | apply wkL0_cons | exact wkC0_nil _ | exact wkC0_refl _))
    · rintro nq52 _ ⟨v18, v19⟩ xq52 kq52 hkq52 - h hIq52 hEq52
      simp only [impl_copyList_s9] at h
      refine zS z0 (sem_cut fun k54 hk54 => ?_)
      refine sem_ifh rfl h ?_ ?_ <;> clear h <;> intro h
      · refine r_skip (r_cN hk54 ?_)
        refine sem_cut fun k55 hk55 => sem_blk fun k56 hk56 => ?_
        obtain ⟨v24, h, c58⟩ := bI h
        refine zS (zRF c58) ?_
        obtain ⟨v25, c59H, h⟩ := bind_some' h
        obtain ⟨v26, h, c60⟩ := bI h
        refine zU (zPC1F (.take 0 (.take 1 (.take 2 (.take 3 (.take 4 (.take 5 (.one 6 (.take 7 (.take 8 (.last 9 .done)))))))))) [1] (lC [] (con_impl_Elem_copyOf _ _ c59H)) c60) (r_bN hk56 ?_)
        refine r_cN hk55 (zU z0 ?_)
        refine zB hkq52 h hIq52 () trivial
      · refine r_exit (r_cE hk54 ?_)
        replace h := zX h hEq52 hKq52
        refine r_kE hkq52 (r_bE hk35 ?_)
        refine zJ J32 [3] () _ h

end Go.AM
