/- Pure functions and their contracts. Conditions: none. -/
import Derived.Test.YtkafcijfljjlaabAmQa1
set_option linter.unusedSimpArgs false
set_option linter.unusedVariables false
set_option maxRecDepth 10000
set_option maxHeartbeats 4000000
namespace Go.AM
open Go Go.Proofs
noncomputable def spec_l11Spoil_j15 : ((List Int) × Int × (List Inst)) → Option ((List Inst) × l26Rd)
  | (v28, v29, v30) => (some (v30, (⟨v28, v29⟩ : l26Rd)))
noncomputable def spec_l11Spoil_s55 (v39 : Inst) : ((List Int) × Int × (List Inst)) → Option (((List Int) × Int × (List Inst)) ⊕ ((List Int) × Int × (List Inst)))
  | (v41, v42, v43) => (Option.bind (spec_l26Rd_pick (⟨v41, v42⟩ : l26Rd) 2) fun v46 => (cond (decide ((((v43).length : Nat) : Int) < (IntKind.i64.wrap (1000 + v46.1)))) (gd (apOk ((v43 ++ [v39])).length 40) (some (.inl (v46.2.b, v46.2.p, (v43 ++ [v39]))))) (some (.inr (v46.2.b, v46.2.p, v43)))))
noncomputable def spec_l11Spoil (v1 : l26Rd) (v2 : (List Inst)) : Option ((List Inst) × l26Rd) :=
  (gd (apOk (v2).length 40) (cond ((((v2).length : Nat) : Int) == 0) (Option.bind (spec_l11Inst v1) fun v3 => (gd (apOk ((v2 ++ [v3.1])).length 40) (some ((v2 ++ [v3.1]), v3.2)))) (Option.bind (spec_l26Rd_pick v1 (((v2).length : Nat) : Int)) fun v4 => (Option.bind (spec_l26Rd_pick v4.2 9) fun v31 => (cond (v31.1 == 0) (gd (decide (0 ≤ v4.1) && decide (v4.1 ≤ (((v2).length : Nat) : Int))) (gd (decide (0 ≤ (IntKind.i64.wrap (v4.1 + 1))) && decide ((IntKind.i64.wrap (v4.1 + 1)) ≤ (((v2).length : Nat) : Int)) && decide ((((v2).length : Nat) : Int) ≤ (((v2).length : Nat) : Int))) (gd (apOk (((v2).take ((v4.1).toNat) ++ ((v2).drop (((IntKind.i64.wrap (v4.1 + 1))).toNat)).take ((((v2).length) - ((IntKind.i64.wrap (v4.1 + 1))).toNat)))).length 40) (some (((v2).take ((v4.1).toNat) ++ ((v2).drop (((IntKind.i64.wrap (v4.1 + 1))).toNat)).take ((((v2).length) - ((IntKind.i64.wrap (v4.1 + 1))).toNat))), v31.2))))) (cond (v31.1 == 1) (gd (decide (0 ≤ v4.1) && decide (v4.1 ≤ (((v2).length : Nat) : Int))) (gd (decide (0 ≤ v4.1) && decide (v4.1 ≤ (((v2).length : Nat) : Int)) && decide ((((v2).length : Nat) : Int) ≤ (((v2).length : Nat) : Int))) (gd (apOk ((v2).take ((v4.1).toNat)).length 40) (Option.bind (spec_l11Inst v31.2) fun v32 => (gd (apOk (((v2).take ((v4.1).toNat) ++ [v32.1])).length 40) (gd (apOk ((((v2).take ((v4.1).toNat) ++ [v32.1]) ++ ((v2).drop ((v4.1).toNat)).take ((((v2).length) - (v4.1).toNat)))).length 40) (some ((((v2).take ((v4.1).toNat) ++ [v32.1]) ++ ((v2).drop ((v4.1).toNat)).take ((((v2).length) - (v4.1).toNat))), v32.2)))))))) (cond (v31.1 == 2) (Option.bind (spec_l11Inst v31.2) fun v33 => (Option.bind (idx v2 (v4.1)) fun v34 => (spec_l11Spoil_j15 (v33.2.b, v33.2.p, ((v2).set (v4.1).toNat v33.1))))) (cond (v31.1 == 3) (Option.bind (spec_l26Rd_pick v31.2 14) fun v35 => (Option.bind (idx v2 (v4.1)) fun v36 => (spec_l11Spoil_j15 (v35.2.b, v35.2.p, ((v2).set (v4.1).toNat (⟨(IntKind.i64.wrap (v35.1 - 1)), v36.One_Op, v36.One_Args⟩ : Inst)))))) (cond (v31.1 == 4) (Option.bind (idx v2 (v4.1)) fun v37 => (Option.bind (spec_l4Spoil v31.2 (⟨v37.One_Op, v37.One_Args⟩ : Elem)) fun v38 => (spec_l11Spoil_j15 (v38.2.b, v38.2.p, ((v2).set (v4.1).toNat (⟨v37.Code, v38.1.Op, v38.1.Args⟩ : Inst)))))) (cond (v31.1 == 5) (gd (decide (0 ≤ v4.1) && decide (v4.1 ≤ (((v2).length : Nat) : Int))) (some ((v2).take ((v4.1).toNat), v31.2))) (cond (v31.1 == 6) (Option.bind (idx v2 (v4.1)) fun v39 => ((loop (spec_l11Spoil_s55 v39) (v31.2.b, v31.2.p, v2)).bind (fun v45 => (spec_l11Spoil_j15 (v45.1, v45.2.1, v45.2.2))))) (cond (v31.1 == 7) (Option.bind (spec_l26Rd_pick v31.2 (((v2).length : Nat) : Int)) fun v47 => (Option.bind (idx v2 (v4.1)) fun v48 => (Option.bind (idx v2 (v47.1)) fun v49 => (Option.bind (idx v2 (v4.1)) fun v50 => (Option.bind (idx ((v2).set (v4.1).toNat v49) (v47.1)) fun v51 => (spec_l11Spoil_j15 (v47.2.b, v47.2.p, ((((v2).set (v4.1).toNat v49)).set (v47.1).toNat v48)))))))) (Option.bind (spec_l4Any v31.2) fun v52 => (Option.bind (idx v2 (v4.1)) fun v53 => (spec_l11Spoil_j15 (v52.2.b, v52.2.p, ((v2).set (v4.1).toNat (⟨v53.Code, v52.1.Op, v52.1.Args⟩ : Inst))))))))))))))))))
theorem con_spec_l11Spoil (v1 : l26Rd) (v2 : (List Inst)) (res_ : ((List Inst) × l26Rd)) (h : spec_l11Spoil v1 v2 = some res_) : Con Try.prog C0 25 [.pt 0 0, .fz 3 (R e_Inst (v2))] [.rc [.fz 1 (R e_u8 (v1.b)), .sc (.int .i64 (v1.p))]]
    (fun x σ' => x = .fz 3 (R e_Inst (res_.1)) ∧ σ' = [.rc [.fz 1 (R e_u8 (res_.2.b)), .sc (.int .i64 (res_.2.p))]]) := by
  refine zCon hP 1 [0, 1, 4, 5, 6, 7, 8, 9, 15, 26, 33, 43, 58, 65, 74, 87, 92, 103, 108] [.tmp 4] Try.func25 (by unfold Try.f25; rfl) fun Q hQ => ?_
  unfold spec_l11Spoil at h
  refine zS z0 ?_
  obtain ⟨g3, h⟩ := gAp h
  refine zS (zRF g3) (sem_cut fun k4 hk4 => ?_)
  refine zS z0 ?_
  refine sem_ifh rfl h ?_ ?_ <;> clear h <;> intro h
  · obtain ⟨v3, c7H, h⟩ := bind_some' h
    obtain ⟨g8, h⟩ := gAp h
    refine zS (zC1F (lC [[0]] (con_spec_l11Inst _ _ c7H)) g8) (r_ret ?_)
    refine r_cR hk4 ?_
    cases h
    refine zAR hQ
  · refine r_skip (r_cN hk4 ?_)
    obtain ⟨v4, c10H, h⟩ := bind_some' h
    refine zS (zC1 (lC [[0]] (con_spec_l26Rd_pick _ _ _ c10H))) (zCut (fun (x : ((List Int) × Int × (List Inst))) => ⟨[(5, .sl 1 0 ((x.2.2).length))], [.rc [.fz 1 (R e_u8 (x.1)), .sc (.int .i64 (x.2.1))], .arr true 3 (R e_Inst (x.2.2))]⟩) spec_l11Spoil_j15 res_ ?_ ?_)
    · rintro _ ⟨v28, v29, v30⟩ h
      simp only [spec_l11Spoil_j15] at h
      refine zS z0 (r_ret ?_)
      cases h
      refine zAR hQ
    · intro k72 hk72 J71
      obtain ⟨v31, c74H, h⟩ := bind_some' h
      refine zS (zC1 (lC [[0]] (con_spec_l26Rd_pick _ _ _ c74H))) (sem_blk fun k75 hk75 => ?_)
      refine zS z0 ?_
      refine sem_ifh rfl h ?_ ?_ <;> clear h <;> intro h
      · obtain ⟨g78, h⟩ := gD2 h
        obtain ⟨g79, h⟩ := gD3 h
        obtain ⟨g80, h⟩ := gAp h
        refine zS (zPRF (.take 0 (.take 1 (.take 2 (.take 3 (.take 4 (.take 5 (.take 6 (.last 7 (.take 8 .done))))))))) [] (a3 g78 g79 g80)) (r_ret ?_)
        refine r_bR hk75 (r_jR hk72 ?_)
        cases h
        refine zAR hQ
      · refine zS z0 ?_
        refine sem_ifh rfl h ?_ ?_ <;> clear h <;> intro h
        · obtain ⟨g83, h⟩ := gD2 h
          obtain ⟨g84, h⟩ := gD3 h
          obtain ⟨g85, h⟩ := gAp h
          obtain ⟨v32, c86H, h⟩ := bind_some' h
          obtain ⟨g87, h⟩ := gAp h
          obtain ⟨g88, h⟩ := gAp h
          refine zS (zPC1F (.take 1 (.take 2 (.take 3 (.take 5 (.take 9 (.take 10 (.take 11 (.last 0 (.last 4 (.last 6 (.last 7 (.last 8 (.last 12 (.take 13 .done)))))))))))))) [] (lC [[0]] (con_spec_l11Inst _ _ c86H)) (a4 g83 g84 g85 (a2 g87 g88))) (r_ret ?_)
          refine r_bR hk75 (r_jR hk72 ?_)
          cases h
          refine zAR hQ
        · refine zS z0 ?_
          refine sem_ifh rfl h ?_ ?_ <;> clear h <;> intro h
          · obtain ⟨v33, c90H, h⟩ := bind_some' h
            obtain ⟨v34, h, c91⟩ := bI h
            refine zU (zC1F (lC [[0]] (con_spec_l11Inst _ _ c90H)) c91) (r_bN hk75 ?_)
            refine zJ J71 [5] () _ h
          · refine zS z0 ?_
            refine sem_ifh rfl h ?_ ?_ <;> clear h <;> intro h
            · obtain ⟨v35, c93H, h⟩ := bind_some' h
              obtain ⟨v36, h, c94⟩ := bI h
              refine zU (zC1F (lC [[0]] (con_spec_l26Rd_pick _ _ _ c93H)) c94) (r_bN hk75 ?_)
              refine zJ J71 [5] () _ h
            · refine zS z0 ?_
              refine sem_ifh rfl h ?_ ?_ <;> clear h <;> intro h
              · obtain ⟨v37, h, c96⟩ := bI h
                obtain ⟨v38, c97H, h⟩ := bind_some' h
                refine zU (zC1F (lC [[0]] (con_spec_l4Spoil _ _ _ c97H)) c96) (r_bN hk75 ?_)
                refine zJ J71 [5] () _ h
              · refine zS z0 ?_
                refine sem_ifh rfl h ?_ ?_ <;> clear h <;> intro h
                · obtain ⟨g100, h⟩ := gD2 h
                  refine zS (zRF g100) (r_ret ?_)
                  refine r_bR hk75 (r_jR hk72 ?_)
                  cases h
                  refine zAR hQ
                · refine zS z0 ?_
                  refine sem_ifh rfl h ?_ ?_ <;> clear h <;> intro h
                  · obtain ⟨v39, h, c103⟩ := bI h
                    refine zS (zRF c103) (sem_blk fun k104 hk104 => ?_)
                    obtain ⟨oq115, hLq115, hKq115⟩ := bind_some' h
                    clear h
                    refine sem_loopP [0, 5, 7] (fun (_ : Unit) (x : ((List Int) × Int × (List Inst))) => (⟨[(0, .pt 0 0), (5, .sl 1 0 ((x.2.2).length)), (7, .pt 2 0)], [.rc [.fz 1 (R e_u8 (x.1)), .sc (.int .i64 (x.2.1))], .arr true 3 (R e_Inst (x.2.2)), .rc [.sc (.int .i64 (v39.Code)), .sc (.int .i64 (v39.One_Op)), .fz 3 (R e_DevArg (v39.One_Args))]]⟩ : St)) (fun (_ : Unit) (x : ((List Int) × Int × (List Inst))) => True) (spec_l11Spoil_s55 v39) () (v31.2.b, v31.2.p, v2) hLq115 (by rfl) (by rfl) ⟨?_, trivial⟩ ?_
                    · first | exact wkSt_same rfl | (simp (decide := true) only [go_sem, reduceIte, Nat.reduceAdd, Int.reduceToNat, Nat.reduceSub, Nat.reduceMul]; exact wkSt_same rfl)
                    · rintro nq115 _ ⟨v41, v42, v43⟩ xq115 kq115 hkq115 - h hIq115 hEq115
                      simp only [spec_l11Spoil_s55] at h
                      refine sem_cut fun k116 hk116 => ?_
                      obtain ⟨v46, c118H, h⟩ := bind_some' h
                      refine zS (zC1 (lC [[0]] (con_spec_l26Rd_pick _ _ _ c118H))) ?_
                      refine sem_ifh rfl h ?_ ?_ <;> clear h <;> intro h
                      · refine r_skip (r_cN hk116 ?_)
                        refine sem_blk fun k119 hk119 => ?_
                        obtain ⟨g120, h⟩ := gAp h
                        refine zU (zRF g120) (r_bN hk119 ?_)
                        refine zB hkq115 h hIq115 () trivial
                      · refine r_exit (r_cE hk116 ?_)
                        replace h := zX h hEq115 hKq115
                        refine r_kE hkq115 (r_bE hk104 ?_)
                        refine r_bN hk75 (zJ J71 [5] () _ h)
                  · refine zS z0 ?_
                    refine sem_ifh rfl h ?_ ?_ <;> clear h <;> intro h
                    · obtain ⟨v47, c123H, h⟩ := bind_some' h
                      refine zS (zC1 (lC [[0]] (con_spec_l26Rd_pick _ _ _ c123H))) ?_
                      obtain ⟨v48, h, c125⟩ := bI h
                      refine zS (zRF c125) ?_
                      obtain ⟨v49, h, c127⟩ := bI h
                      obtain ⟨v50, h, c128⟩ := bI h
                      refine zS (zRF (a2 c127 c128)) ?_
                      obtain ⟨v51, h, c129⟩ := bI h
                      refine zU (zRF c129) (r_bN hk75 ?_)
                      refine zJ J71 [5] () _ h
                    · obtain ⟨v52, c130H, h⟩ := bind_some' h
                      obtain ⟨v53, h, c131⟩ := bI h
                      refine zU (zC1F (lC [[0]] (con_spec_l4Any _ _ c130H)) c131) (r_bN hk75 ?_)
                      refine zJ J71 [5] () _ h
noncomputable def spec_l11Any (v1 : l26Rd) : Option ((List Inst) × l26Rd) :=
  (Option.bind (spec_l11Sure v1) fun v2 => (Option.bind (spec_l26Rd_pick v2.2 16) fun v3 => (cond (v3.1 == 0) (Option.bind (spec_l11Spoil v3.2 v2.1) fun v4 => (some (v4.1, v4.2))) (some (v2.1, v3.2)))))
theorem con_spec_l11Any (v1 : l26Rd) (res_ : ((List Inst) × l26Rd)) (h : spec_l11Any v1 = some res_) : Con Try.prog C0 50 [.pt 0 0] [.rc [.fz 1 (R e_u8 (v1.b)), .sc (.int .i64 (v1.p))]]
    (fun x σ' => x = .fz 3 (R e_Inst (res_.1)) ∧ σ' = [.rc [.fz 1 (R e_u8 (res_.2.b)), .sc (.int .i64 (res_.2.p))]]) := by
  refine zCon hP 1 [0, 2, 3, 8] [.tmp 2] Try.func50 (by unfold Try.f50; rfl) fun Q hQ => ?_
  unfold spec_l11Any at h
  refine zS z0 ?_
  obtain ⟨v2, c3H, h⟩ := bind_some' h
  refine zS (zC1 (lC [[0]] (con_spec_l11Sure _ _ c3H))) (sem_cut fun k4 hk4 => ?_)
  obtain ⟨v3, c6H, h⟩ := bind_some' h
  refine zS (zC1 (lC [[0]] (con_spec_l26Rd_pick _ _ _ c6H))) ?_
  refine sem_ifh rfl h ?_ ?_ <;> clear h <;> intro h
  · obtain ⟨v4, c8H, h⟩ := bind_some' h
    refine zS (zC1 (lC [[0]] (con_spec_l11Spoil _ _ _ c8H))) (r_ret ?_)
    refine r_cR hk4 ?_
    cases h
    refine zAR hQ
  · refine r_skip (r_cN hk4 ?_)
    refine zS z0 (r_ret ?_)
    cases h
    refine zAR hQ
noncomputable def spec_l17Has (v1 : Int) : Option Bool :=
  (some ((((v1 == 1) || (v1 == 2)) || (v1 == 3)) || (v1 == 10)))
theorem con_spec_l17Has (v1 : Int) (res_ : Bool) (h : spec_l17Has v1 = some res_) : Con Try.prog C0 40 [.sc (.int .i64 (v1))] []
    (fun x σ' => x = .sc (.bool (res_)) ∧ σ' = []) := by
  refine zCon hP 0 [0, 2] [.tmp 2] Try.func40 (by unfold Try.f40; rfl) fun Q hQ => ?_
  unfold spec_l17Has at h
  refine zS z0 (zS zR ?_)
  refine r_ret ?_
  cases h
  refine zAR hQ
noncomputable def spec_l17Arg (v1 : l26Rd) : Option (DevArg × l26Rd) :=
  (Option.bind (spec_l26Rd_pick v1 8) fun v2 => (cond (v2.1 == 0) (Option.bind (spec_l26Rd_num v2.2 [(-2147483648), 2147483647, 0, (-1), 2147483648, (-2147483649)]) fun v3 => (Option.bind (spec_l26Rd_num v3.2 [0, 7, 255, 255, 256, (-1)]) fun v4 => (some ((⟨12, v3.1, v4.1⟩ : DevArg), v4.2)))) (cond (v2.1 == 1) (Option.bind (spec_l26Rd_num v2.2 [(-32768), 32767, (-1), 255, 256, 32768, (-32769)]) fun v5 => (some ((⟨11, v5.1, 0⟩ : DevArg), v5.2))) (cond (v2.1 == 2) (Option.bind (spec_l26Rd_num v2.2 [0, 255, 256, 4]) fun v6 => (some ((⟨13, v6.1, 0⟩ : DevArg), v6.2))) (cond (v2.1 == 3) (Option.bind (spec_l26Rd_num v2.2 [0, 1, 10, 13, 14, 255]) fun v7 => (some ((⟨v7.1, 7, 0⟩ : DevArg), v7.2))) (Option.bind (spec_l26Rd_pick v2.2 10) fun v8 => (Option.bind (spec_l26Rd_num v8.2 [0, 255, 64, 100, 256, (-1)]) fun v9 => (some ((⟨(IntKind.i64.wrap (1 + v8.1)), v9.1, 0⟩ : DevArg), v9.2)))))))))
theorem con_spec_l17Arg (v1 : l26Rd) (res_ : (DevArg × l26Rd)) (h : spec_l17Arg v1 = some res_) : Con Try.prog C0 52 [.pt 0 0] [.rc [.fz 1 (R e_u8 (v1.b)), .sc (.int .i64 (v1.p))]]
    (fun x σ' => x = .agg [.sc (.int .i64 (res_.1.Kind)), .sc (.int .i64 (res_.1.N)), .sc (.int .i64 (res_.1.P))] ∧ σ' = [.rc [.fz 1 (R e_u8 (res_.2.b)), .sc (.int .i64 (res_.2.p))]]) := by
  refine zCon hP 1 [0, 2, 4, 5, 14, 20, 26] [.cell 2 77] Try.func52 (by unfold Try.f52; rfl) fun Q hQ => ?_
  unfold spec_l17Arg at h
  refine zS z0 (sem_cut fun k2 hk2 => ?_)
  obtain ⟨v2, c4H, h⟩ := bind_some' h
  refine zS (zC1 (lC [[0]] (con_spec_l26Rd_pick _ _ _ c4H))) (sem_blk fun k5 hk5 => ?_)
  refine zS z0 ?_
  refine sem_ifh rfl h ?_ ?_ <;> clear h <;> intro h
  · obtain ⟨v3, c8H, h⟩ := bind_some' h
    obtain ⟨v4, c9H, h⟩ := bind_some' h
    refine zS (zC2 (lC [[0]] (con_spec_l26Rd_num _ _ _ c8H)) (lC [[0]] (con_spec_l26Rd_num _ _ _ c9H))) (r_ret ?_)
    refine r_bR hk5 (r_cR hk2 ?_)
    cases h
    refine zAR hQ
  · refine zS z0 ?_
    refine sem_ifh rfl h ?_ ?_ <;> clear h <;> intro h
    · obtain ⟨v5, c12H, h⟩ := bind_some' h
      refine zS (zC1 (lC [[0]] (con_spec_l26Rd_num _ _ _ c12H))) (r_ret ?_)
      refine r_bR hk5 (r_cR hk2 ?_)
      cases h
      refine zAR hQ
    · refine zS z0 ?_
      refine sem_ifh rfl h ?_ ?_ <;> clear h <;> intro h
      · obtain ⟨v6, c15H, h⟩ := bind_some' h
        refine zS (zC1 (lC [[0]] (con_spec_l26Rd_num _ _ _ c15H))) (r_ret ?_)
        refine r_bR hk5 (r_cR hk2 ?_)
        cases h
        refine zAR hQ
      · refine zS z0 ?_
        refine sem_ifh rfl h ?_ ?_ <;> clear h <;> intro h
        · obtain ⟨v7, c18H, h⟩ := bind_some' h
          refine zS (zC1 (lC [[0]] (con_spec_l26Rd_num _ _ _ c18H))) (r_ret ?_)
          refine r_bR hk5 (r_cR hk2 ?_)
          cases h
          refine zAR hQ
        · refine r_skip (r_bN hk5 ?_)
          refine r_cN hk2 ?_
          obtain ⟨v8, c20H, h⟩ := bind_some' h
          obtain ⟨v9, c21H, h⟩ := bind_some' h
          refine zS (zC2 (lC [[0]] (con_spec_l26Rd_pick _ _ _ c20H)) (lC [[0]] (con_spec_l26Rd_num _ _ _ c21H))) (r_ret ?_)
          cases h
          refine zAR hQ
noncomputable def spec_l17List_j13 : ((List Int) × Int × (List Inst)) → Option ((List Inst) × l26Rd)
  | (v52, v53, v54) => (some (v54, (⟨v52, v53⟩ : l26Rd)))
noncomputable def spec_l17List_j28 (v72 : (List Inst)) (v73 : Int) (v89 : (Inst × l26Rd)) : ((List Int) × Int × (List DevArg)) → Option (((List Int) × Int × (List Inst) × Int) ⊕ ((List Int) × Int × (List Inst)))
  | (v95, v96, v97) => (gd (apOk ((v72 ++ [(⟨v89.1.Code, v89.1.One_Op, v97⟩ : Inst)])).length 40) (some (.inl (v95, v96, (v72 ++ [(⟨v89.1.Code, v89.1.One_Op, v97⟩ : Inst)]), (IntKind.i64.wrap (v73 - 1))))))
noncomputable def spec_l17List_s17 : ((List Int) × Int × (List Inst) × Int) → Option (((List Int) × Int × (List Inst) × Int) ⊕ ((List Int) × Int × (List Inst)))
  | (v70, v71, v72, v73) => (cond (decide (v73 > 0)) (Option.bind (spec_l11Inst (⟨v70, v71⟩ : l26Rd)) fun v89 => (Option.bind (spec_l17Has v89.1.Code) fun v98 => (cond v98 (Option.bind (spec_l26Rd_pick v89.2 3) fun v99 => (cond (v99.1 == 0) (gd (apOk (v89.1.One_Args).length 24) (Option.bind (spec_l26Rd_pick v99.2 (((v89.1.One_Args).length : Nat) : Int)) fun v100 => (Option.bind (spec_l17Arg v100.2) fun v101 => (Option.bind (idx v89.1.One_Args (v100.1)) fun v102 => (spec_l17List_j28 v72 v73 v89 (v101.2.b, v101.2.p, ((v89.1.One_Args).set (v100.1).toNat v101.1))))))) (spec_l17List_j28 v72 v73 v89 (v99.2.b, v99.2.p, v89.1.One_Args)))) (spec_l17List_j28 v72 v73 v89 (v89.2.b, v89.2.p, v89.1.One_Args))))) (some (.inr (v70, v71, v72))))
noncomputable def spec_l17List (v1 : l26Rd) : Option ((List Inst) × l26Rd) :=
  (Option.bind (spec_l26Rd_pick v1 3) fun v2 => (cond (v2.1 == 0) (Option.bind (spec_l11Any v2.2) fun v3 => (some (v3.1, v3.2))) (Option.bind (spec_l26Rd_pick v2.2 12) fun v55 => ((loop spec_l17List_s17 (v55.2.b, v55.2.p, [], v55.1)).bind (fun v88 => (spec_l17List_j13 (v88.1, v88.2.1, v88.2.2)))))))
theorem con_spec_l17List (v1 : l26Rd) (res_ : ((List Inst) × l26Rd)) (h : spec_l17List v1 = some res_) : Con Try.prog C0 24 [.pt 0 0] [.rc [.fz 1 (R e_u8 (v1.b)), .sc (.int .i64 (v1.p))]]
    (fun x σ' => x = .fz 3 (R e_Inst (res_.1)) ∧ σ' = [.rc [.fz 1 (R e_u8 (res_.2.b)), .sc (.int .i64 (res_.2.p))]]) := by
  refine zCon hP 1 [0, 2, 3, 4, 5, 6, 7, 10, 17, 29] [.tmp 2] Try.func24 (by unfold Try.f24; rfl) fun Q hQ => ?_
  unfold spec_l17List at h
  refine zS z0 (sem_cut fun k2 hk2 => ?_)
  obtain ⟨v2, c4H, h⟩ := bind_some' h
  refine zS (zC1 (lC [[0]] (con_spec_l26Rd_pick _ _ _ c4H))) ?_
  refine sem_ifh rfl h ?_ ?_ <;> clear h <;> intro h
  · obtain ⟨v3, c6H, h⟩ := bind_some' h
    refine zS (zC1 (lC [[0]] (con_spec_l11Any _ _ c6H))) (r_ret ?_)
    refine r_cR hk2 ?_
    cases h
    refine zAR hQ
  · refine r_skip (r_cN hk2 ?_)
    refine zS z0 (zCut (fun (x : ((List Int) × Int × (List Inst))) => ⟨[(3, .sl 1 0 ((x.2.2).length))], [.rc [.fz 1 (R e_u8 (x.1)), .sc (.int .i64 (x.2.1))], .arr true 3 (R e_Inst (x.2.2))]⟩) spec_l17List_j13 res_ ?_ ?_)
    · rintro _ ⟨v52, v53, v54⟩ h
      simp only [spec_l17List_j13] at h
      refine zS z0 (r_ret ?_)
      cases h
      refine zAR hQ
    · intro k110 hk110 J109
      obtain ⟨v55, c112H, h⟩ := bind_some' h
      refine zS (zC1 (lC [[0]] (con_spec_l26Rd_pick _ _ _ c112H))) (sem_blk fun k113 hk113 => ?_)
      obtain ⟨oq178, hLq178, hKq178⟩ := bind_some' h
      clear h
      refine sem_loopP [0, 3, 4] (fun (_ : Unit) (x : ((List Int) × Int × (List Inst) × Int)) => (⟨[(0, .pt 0 0), (3, .sl 1 0 ((x.2.2.1).length)), (4, .sc (.int .i64 (x.2.2.2)))], [.rc [.fz 1 (R e_u8 (x.1)), .sc (.int .i64 (x.2.1))], .arr true 3 (R e_Inst (x.2.2.1))]⟩ : St)) (fun (_ : Unit) (x : ((List Int) × Int × (List Inst) × Int)) => True) spec_l17List_s17 () (v55.2.b, v55.2.p, [], v55.1) hLq178 (by rfl) (by rfl) ⟨?_, trivial⟩ ?_
      · first | exact wkSt_same rfl | (simp (decide := true) only [go_sem, reduceIte, Nat.reduceAdd, Int.reduceToNat, Nat.reduceSub, Nat.reduceMul]; exact wkSt_same rfl)
      · rintro nq178 _ ⟨v70, v71, v72, v73⟩ xq178 kq178 hkq178 - h hIq178 hEq178
        simp only [spec_l17List_s17] at h
        refine sem_cut fun k179 hk179 => zS z0 ?_
        refine sem_ifh rfl h ?_ ?_ <;> clear h <;> intro h
        · refine r_skip (r_cN hk179 ?_)
          refine sem_cut fun k181 hk181 => sem_blk fun k182 hk182 => ?_
          obtain ⟨v89, c184H, h⟩ := bind_some' h
          refine zS (zC1 (lC [[0]] (con_spec_l11Inst _ _ c184H))) (sem_cutJ (fun (i : P2) (x : ((List Int) × Int × (List DevArg))) => match i with | .a => (⟨[(0, .pt 0 0), (3, .sl 1 0 ((v72).length)), (4, .sc (.int .i64 (v73))), (5, .pt 2 0)], [.rc [.fz 1 (R e_u8 (x.1)), .sc (.int .i64 (x.2.1))], .arr true 3 (R e_Inst (v72)), .rc [.sc (.int .i64 (v89.1.Code)), .sc (.int .i64 (v89.1.One_Op)), .sl 3 0 ((x.2.2).length)], .arr true 3 (R e_DevArg (x.2.2))]⟩ : St) | .b => (⟨[(0, .pt 0 0), (3, .sl 1 0 ((v72).length)), (4, .sc (.int .i64 (v73))), (5, .pt 2 0)], [.rc [.fz 1 (R e_u8 (x.1)), .sc (.int .i64 (x.2.1))], .arr true 3 (R e_Inst (v72)), .rc [.sc (.int .i64 (v89.1.Code)), .sc (.int .i64 (v89.1.One_Op)), .fz 3 (R e_DevArg (x.2.2))]]⟩ : St)) (fun (i : P2) (x : ((List Int) × Int × (List DevArg))) => (match i with | .a => True | .b => True) ∧ spec_l17List_j28 v72 v73 v89 x = some xq178) ?_ ?_)
          · rintro (_ | _) ⟨v95, v96, v97⟩ ⟨hp, h⟩
            · simp only [spec_l17List_j28] at h
              obtain ⟨g196, h⟩ := gAp h
              refine zU (zRF g196) (r_bN hk182 ?_)
              refine r_cN hk181 (zU z0 ?_)
              refine zB hkq178 h hIq178 () trivial
            · simp only [spec_l17List_j28] at h
              obtain ⟨g197, h⟩ := gAp h
              refine zU (zRF g197) (r_bN hk182 ?_)
              refine r_cN hk181 (zU z0 ?_)
              refine zB hkq178 h hIq178 () trivial
          · intro k199 hk199 J198
            refine sem_cut fun k200 hk200 => ?_
            obtain ⟨v98, c201H, h⟩ := bind_some' h
            rcases Bool.eq_false_or_eq_true v98 with g202 | g202
            · replace h := cond_t h g202
              obtain ⟨v99, c203H, h⟩ := bind_some' h
              refine zU (zC2F (lF [] (con_spec_l17Has _ _ c201H)) (lC [[0]] (con_spec_l26Rd_pick _ _ _ c203H)) g202) (r_cN hk200 ?_)
              refine sem_ifh rfl h ?_ ?_ <;> clear h <;> intro h
              · obtain ⟨g205, h⟩ := gAp h
                refine zS (zRF g205) ?_
                obtain ⟨v100, c207H, h⟩ := bind_some' h
                refine zS (zC1 (lC [[0]] (con_spec_l26Rd_pick _ _ _ c207H))) ?_
                obtain ⟨v101, c209H, h⟩ := bind_some' h
                obtain ⟨v102, h, c210⟩ := bI h
                refine zS (zC1F (lC [[0]] (con_spec_l17Arg _ _ c209H)) c210) (zU z0 ?_)
                refine zJ J198 [0, 3, 4, 5] (.a) (v101.2.b, v101.2.p, ((v89.1.One_Args).set (v100.1).toNat v101.1)) ⟨trivial, h⟩
              · refine r_skip (zJ J198 [0, 3, 4, 5] (.b) (v99.2.b, v99.2.p, v89.1.One_Args) ⟨trivial, h⟩)
            · replace h := cond_f h g202
              refine zU (zC1F (lF [] (con_spec_l17Has _ _ c201H)) g202) (r_cN hk200 ?_)
              refine sem_ifF rfl ?_
              try replace h := cond_f h rfl
              refine r_skip (zJ J198 [0, 3, 4, 5] (.b) (v89.2.b, v89.2.p, v89.1.One_Args) ⟨trivial, h⟩)
        · refine r_exit (r_cE hk179 ?_)
          replace h := zX h hEq178 hKq178
          refine r_kE hkq178 (r_bE hk113 ?_)
          refine zJ J109 [3] () _ h
noncomputable def spec_DrawPicMake (v1 : (List Int)) : Option (List Inst) :=
  (Option.bind (spec_l26Open v1) fun v2 => (Option.bind (spec_l17List v2) fun v3 => (Option.bind (spec_l26Rd_pick v3.2 4) fun v4 => (cond (v4.1 == 0) (Option.bind (spec_l11Spoil v4.2 v3.1) fun v5 => (some v5.1)) (some v3.1)))))
theorem con_spec_DrawPicMake (v1 : (List Int)) (res_ : (List Inst)) (h : spec_DrawPicMake v1 = some res_) : Con Try.prog C0 8 [.fz 1 (R e_u8 (v1))] []
    (fun x σ' => x = .fz 3 (R e_Inst (res_)) ∧ σ' = []) := by
  refine zCon hP 0 [0, 2, 3, 4, 11] [.tmp 2] Try.func8 (by unfold Try.f8; rfl) fun Q hQ => ?_
  unfold spec_DrawPicMake at h
  refine zS z0 ?_
  obtain ⟨v2, c3H, h⟩ := bind_some' h
  refine zS (zC1 (lC [] (con_spec_l26Open _ _ c3H))) ?_
  obtain ⟨v3, c5H, h⟩ := bind_some' h
  refine zS (zC1 (lC [[0]] (con_spec_l17List _ _ c5H))) (sem_cut fun k6 hk6 => ?_)
  obtain ⟨v4, c8H, h⟩ := bind_some' h
  refine zS (zC1 (lC [[0]] (con_spec_l26Rd_pick _ _ _ c8H))) ?_
  refine sem_ifh rfl h ?_ ?_ <;> clear h <;> intro h
  · obtain ⟨v5, c10H, h⟩ := bind_some' h
    refine zS (zC1 (lC [[0]] (con_spec_l11Spoil _ _ _ c10H))) (r_ret ?_)
    refine r_cR hk6 ?_
    cases h
    refine zAR hQ
  · refine r_skip (r_cN hk6 ?_)
    refine zS z0 (r_ret ?_)
    cases h
    refine zAR hQ
noncomputable def impl_in (v1 : Int) (v2 : Int) (v3 : Int) : Option Bool :=
  (some ((decide (v1 ≥ v2)) && (decide (v1 ≤ v3))))
theorem con_impl_in (v1 : Int) (v2 : Int) (v3 : Int) (res_ : Bool) (h : impl_in v1 v2 v3 = some res_) : Con Try.prog C0 19 [.sc (.int .i64 (v1)), .sc (.int .i64 (v2)), .sc (.int .i64 (v3))] []
    (fun x σ' => x = .sc (.bool (res_)) ∧ σ' = []) := by
  refine zCon hP 0 [0, 1, 2, 6] [.tmp 6] Try.func19 (by unfold Try.f19; rfl) fun Q hQ => ?_
  unfold impl_in at h
  refine zS z0 (zS zR ?_)
  refine r_ret ?_
  cases h
  refine zAR hQ
noncomputable def impl_hasOne (v1 : Int) : Option Bool :=
  (Option.bind (impl_in v1 1 3) fun v2 => (some (v2 || (v1 == 10))))
theorem con_impl_hasOne (v1 : Int) (res_ : Bool) (h : impl_hasOne v1 = some res_) : Con Try.prog C0 45 [.sc (.int .i64 (v1))] []
    (fun x σ' => x = .sc (.bool (res_)) ∧ σ' = []) := by
  refine zCon hP 0 [0, 2] [.tmp 2] Try.func45 (by unfold Try.f45; rfl) fun Q hQ => ?_
  unfold impl_hasOne at h
  refine zS z0 ?_
  obtain ⟨v2, c3H, h⟩ := bind_some' h
  refine zS (zC1 (lF [] (con_impl_in _ _ _ _ c3H))) (r_ret ?_)
  cases h
  refine zAR hQ
noncomputable def impl_opFits (v1 : Int) (v2 : Int) : Option Bool :=
  (cond (v1 == 10) (Option.bind (impl_in v2 21 37) fun v3 => (some v3)) (Option.bind (impl_in v2 1 10) fun v4 => (some v4)))
theorem con_impl_opFits (v1 : Int) (v2 : Int) (res_ : Bool) (h : impl_opFits v1 v2 = some res_) : Con Try.prog C0 46 [.sc (.int .i64 (v1)), .sc (.int .i64 (v2))] []
    (fun x σ' => x = .sc (.bool (res_)) ∧ σ' = []) := by
  refine zCon hP 0 [0, 1, 4, 6] [.tmp 4] Try.func46 (by unfold Try.f46; rfl) fun Q hQ => ?_
  unfold impl_opFits at h
  refine zS z0 (sem_cut fun k2 hk2 => ?_)
  refine zS z0 ?_
  refine sem_ifh rfl h ?_ ?_ <;> clear h <;> intro h
  · obtain ⟨v3, c5H, h⟩ := bind_some' h
    refine zS (zC1 (lF [] (con_impl_in _ _ _ _ c5H))) (r_ret ?_)
    refine r_cR hk2 ?_
    cases h
    refine zAR hQ
  · refine r_skip (r_cN hk2 ?_)
    obtain ⟨v4, c7H, h⟩ := bind_some' h
    refine zS (zC1 (lF [] (con_impl_in _ _ _ _ c7H))) (r_ret ?_)
    cases h
    refine zAR hQ
noncomputable def impl_ElemArity_j29 : Bool → Option Int
  | v7 => (cond v7 (some 2) (some 0))
noncomputable def impl_ElemArity_j5 (v1 : Int) : Bool → Option Int
  | v3 => (cond v3 (some 1) (Option.bind (impl_in v1 31 35) fun v4 => (cond v4 (some 3) (Option.bind (impl_in v1 3 10) fun v8 => (cond v8 (impl_ElemArity_j29 v8) (Option.bind (impl_in v1 24 37) fun v9 => (impl_ElemArity_j29 v9)))))))
noncomputable def impl_ElemArity (v1 : Int) : Option Int :=
  (cond (v1 == 1) (impl_ElemArity_j5 v1 (v1 == 1)) (cond (v1 == 2) (impl_ElemArity_j5 v1 (v1 == 2)) (Option.bind (impl_in v1 21 23) fun v10 => (cond v10 (impl_ElemArity_j5 v1 v10) (impl_ElemArity_j5 v1 (v1 == 25))))))
theorem con_impl_ElemArity (v1 : Int) (res_ : Int) (h : impl_ElemArity v1 = some res_) : Con Try.prog C0 47 [.sc (.int .i64 (v1))] []
    (fun x σ' => x = .sc (.int .i64 (res_)) ∧ σ' = []) := by
  refine zCon hP 0 [0, 2, 3, 12, 15] [.tmp 2] Try.func47 (by unfold Try.f47; rfl) fun Q hQ => ?_
  unfold impl_ElemArity at h
  refine zS z0 (sem_cut fun k2 hk2 => ?_)
  refine sem_blk fun k3 hk3 => zCut (fun (x : Bool) => ⟨[(0, .sc (.int .i64 (v1))), (3, .sc (.bool (x)))], []⟩) (impl_ElemArity_j5 v1) res_ ?_ ?_
  · rintro _ v3 h
    simp only [impl_ElemArity_j5] at h
    refine sem_ifh rfl h ?_ ?_ <;> clear h <;> intro h
    · refine zS z0 (r_ret ?_)
      refine r_bR hk3 (r_cR hk2 ?_)
      cases h
      refine zAR hQ
    · obtain ⟨v4, c10H, h⟩ := bind_some' h
      refine zS (zC1 (lF [] (con_impl_in _ _ _ _ c10H))) ?_
      refine sem_ifh rfl h ?_ ?_ <;> clear h <;> intro h
      · refine zS z0 (r_ret ?_)
        refine r_bR hk3 (r_cR hk2 ?_)
        cases h
        refine zAR hQ
      · refine zCut (fun (x : Bool) => ⟨[(15, .sc (.bool (x)))], []⟩) impl_ElemArity_j29 res_ ?_ ?_
        · rintro _ v7 h
          simp only [impl_ElemArity_j29] at h
          refine sem_ifh rfl h ?_ ?_ <;> clear h <;> intro h
          · refine zS z0 (r_ret ?_)
            refine r_bR hk3 (r_cR hk2 ?_)
            cases h
            refine zAR hQ
          · refine r_skip (r_bN hk3 ?_)
            refine r_cN hk2 (zS z0 ?_)
            refine r_ret ?_
            cases h
            refine zAR hQ
        · intro k18 hk18 J17
          obtain ⟨v8, c20H, h⟩ := bind_some' h
          refine zS (zC1 (lF [] (con_impl_in _ _ _ _ c20H))) ?_
          refine sem_ifh rfl h ?_ ?_ <;> clear h <;> intro h
          · refine r_skip (zJ J17 [15] () _ h)
          · obtain ⟨v9, c21H, h⟩ := bind_some' h
            refine zU (zC1 (lF [] (con_impl_in _ _ _ _ c21H))) (zJ J17 [15] () _ h)
  · intro k23 hk23 J22
    refine zS z0 ?_
    refine sem_ifh rfl h ?_ ?_ <;> clear h <;> intro h
    · refine r_skip (zJ J22 [0, 3] () _ h)
    · refine zS z0 ?_
      refine sem_ifh rfl h ?_ ?_ <;> clear h <;> intro h
      · refine r_skip (zJ J22 [0, 3] () _ h)
      · obtain ⟨v10, c27H, h⟩ := bind_some' h
        refine zS (zC1 (lF [] (con_impl_in _ _ _ _ c27H))) ?_
        refine sem_ifh rfl h ?_ ?_ <;> clear h <;> intro h
        · refine r_skip (zJ J22 [0, 3] () _ h)
        · refine zU z0 (zJ J22 [0, 3] () _ h)
noncomputable def impl_Elem_bare (v1 : Elem) : Option Bool :=
  (some ((v1.Op == 0) && (((v1.Args).length : Int) == 0)))
theorem con_impl_Elem_bare (v1 : Elem) (res_ : Bool) (h : impl_Elem_bare v1 = some res_) : Con Try.prog C0 55 [.agg [.sc (.int .i64 (v1.Op)), .fz 3 (R e_DevArg (v1.Args))]] []
    (fun x σ' => x = .sc (.bool (res_)) ∧ σ' = []) := by
  refine zCon hP 0 [0, 1, 2] [.tmp 2] Try.func55 (by unfold Try.f55; rfl) fun Q hQ => ?_
  unfold impl_Elem_bare at h
  refine zS z0 (zS zR ?_)
  refine r_ret ?_
  cases h
  refine zAR hQ
noncomputable def impl_big_j5 : (List Int) → Option (List Int)
  | v9 => (some v9)
noncomputable def impl_big_s9 (v1 : Int) (v2 : Int) : ((List Int) × Int) → Option (((List Int) × Int) ⊕ (List Int))
  | (v11, v12) => (cond (decide (v12 < (((v2).toNat : Nat) : Int))) (gd (decide (0 ≤ (IntKind.i64.wrap (8 * (IntKind.i64.wrap ((IntKind.i64.wrap (v2 - 1)) - v12)))))) (Option.bind (idx v11 (v12)) fun v15 => (some (.inl (((v11).set (v12).toNat (IntKind.u8.wrap (((v1).fdiv (pw .i64 (IntKind.i64.wrap (8 * (IntKind.i64.wrap ((IntKind.i64.wrap (v2 - 1)) - v12))))))))), (IntKind.i64.wrap (v12 + 1))))))) (some (.inr v11)))
noncomputable def impl_big (v1 : Int) (v2 : Int) : Option (List Int) :=
  (gd (mkOk (v2) (v2) 1) ((loop (impl_big_s9 v1 v2) ((List.replicate (v2).toNat 0), 0)).bind (fun v14 => (impl_big_j5 v14))))
theorem con_impl_big (v1 : Int) (v2 : Int) (res_ : (List Int)) (h : impl_big v1 v2 = some res_) : Con Try.prog C0 28 [.sc (.int .i64 (v1)), .sc (.int .i64 (v2))] []
    (fun x σ' => x = .sl 0 0 ((res_).length) ∧ σ' = [.arr true 1 (R e_u8 (res_))]) := by
  refine zCon hP 0 [0, 1, 4, 5, 6, 10, 11, 12] [.tmp 4] Try.func28 (by unfold Try.f28; rfl) fun Q hQ => ?_
  unfold impl_big at h
  refine zS z0 ?_
  obtain ⟨g3, h⟩ := gMk h
  refine zS (zRF g3) (zCut (fun (x : (List Int)) => ⟨[(5, .sl 0 0 ((x).length))], [.arr true 1 (R e_u8 (x))]⟩) impl_big_j5 res_ ?_ ?_)
  · rintro _ v9 h
    simp only [impl_big_j5] at h
    refine zS z0 (r_ret ?_)
    cases h
    refine zOR hQ
  · intro k30 hk30 J29
    refine zS z0 (sem_blk fun k32 hk32 => ?_)
    obtain ⟨oq47, hLq47, hKq47⟩ := bind_some' h
    clear h
    refine sem_loopP [0, 1, 5, 10, 11] (fun (_ : Unit) (x : ((List Int) × Int)) => (⟨[(0, .sc (.int .i64 (v1))), (1, .sc (.int .i64 (v2))), (5, .sl 0 0 ((x.1).length)), (10, .sc (.int .i64 ((((v2).toNat : Nat) : Int)))), (11, .sc (.int .i64 (x.2)))], [.arr true 1 (R e_u8 (x.1))]⟩ : St)) (fun (_ : Unit) (x : ((List Int) × Int)) => True) (impl_big_s9 v1 v2) () ((List.replicate (v2).toNat 0), 0) hLq47 (by rfl) (by rfl) ⟨?_, trivial⟩ ?_
    · first | exact wkSt_same rfl | (simp (decide := true) only [go_sem, reduceIte, Nat.reduceAdd, Int.reduceToNat, Nat.reduceSub, Nat.reduceMul]; exact wkSt_same rfl)
    · rintro nq47 _ ⟨v11, v12⟩ xq47 kq47 hkq47 - h hIq47 hEq47
      simp only [impl_big_s9] at h
      refine zS z0 (sem_cut fun k49 hk49 => ?_)
      refine sem_ifh rfl h ?_ ?_ <;> clear h <;> intro h
      · refine r_skip (r_cN hk49 ?_)
        refine sem_cut fun k50 hk50 => sem_blk fun k51 hk51 => zS z0 ?_
        obtain ⟨g53, h⟩ := gDec h
        obtain ⟨v15, h, c54⟩ := bI h
        refine zU (zRF (a2 g53 c54)) (r_bN hk51 ?_)
        refine r_cN hk50 (zU z0 ?_)
        refine zB hkq47 h hIq47 () trivial
      · refine r_exit (r_cE hk49 ?_)
        replace h := zX h hEq47 hKq47
        refine r_kE hkq47 (r_bE hk32 ?_)
        refine zJ J29 [5] () _ h
noncomputable def impl_picArg (v1 : DevArg) : Option ((List Int) × Bool) :=
  (cond ((v1.Kind != 12) && (v1.P != 0)) (some ([], false)) (Option.bind (impl_in v1.Kind 1 10) fun v2 => (cond (v2 || (v1.Kind == 13)) (gd (apOk (([(IntKind.u8.wrap (v1.Kind))] ++ [(IntKind.u8.wrap (v1.N))])).length 1) (Option.bind (impl_in v1.N 0 255) fun v3 => (some (([(IntKind.u8.wrap (v1.Kind))] ++ [(IntKind.u8.wrap (v1.N))]), v3)))) (cond (v1.Kind == 11) (Option.bind (impl_big v1.N 2) fun v4 => (gd (apOk (([(IntKind.u8.wrap (v1.Kind))] ++ v4)).length 1) (Option.bind (impl_in v1.N (-32768) 32767) fun v5 => (some (([(IntKind.u8.wrap (v1.Kind))] ++ v4), v5))))) (cond (v1.Kind == 12) (Option.bind (impl_big v1.N 4) fun v6 => (gd (apOk (([(IntKind.u8.wrap (v1.Kind))] ++ v6)).length 1) (gd (apOk ((([(IntKind.u8.wrap (v1.Kind))] ++ v6) ++ [(IntKind.u8.wrap (v1.P))])).length 1) (Option.bind (impl_in v1.N (-2147483648) 2147483647) fun v7 => (cond v7 (Option.bind (impl_in v1.P 0 255) fun v8 => (some ((([(IntKind.u8.wrap (v1.Kind))] ++ v6) ++ [(IntKind.u8.wrap (v1.P))]), v8))) (some ((([(IntKind.u8.wrap (v1.Kind))] ++ v6) ++ [(IntKind.u8.wrap (v1.P))]), false))))))) (some ([], false)))))))
theorem con_impl_picArg (v1 : DevArg) (res_ : ((List Int) × Bool)) (h : impl_picArg v1 = some res_) : Con Try.prog C0 56 [.agg [.sc (.int .i64 (v1.Kind)), .sc (.int .i64 (v1.N)), .sc (.int .i64 (v1.P))]] []
    (fun x σ' => x = .tup [.fz 1 (R e_u8 (res_.1)), .sc (.bool (res_.2))] ∧ σ' = []) := by
  refine zCon hP 0 [0, 1, 2, 3, 4, 12, 17, 35, 47] [.tmp 2, .tmp 3] Try.func56 (by unfold Try.f56; rfl) fun Q hQ => ?_
  unfold impl_picArg at h
  refine zS z0 (sem_cut fun k2 hk2 => ?_)
  refine zS zR ?_
  refine sem_ifh rfl h ?_ ?_ <;> clear h <;> intro h
  · refine zS z0 (r_ret ?_)
    refine r_cR hk2 ?_
    cases h
    refine zARw hQ
  · refine r_skip (r_cN hk2 ?_)
    refine zS z0 (sem_cut fun k6 hk6 => ?_)
    refine sem_blk fun k7 hk7 => ?_
    obtain ⟨v2, c9H, h⟩ := bind_some' h
    refine zS (zC1 (lF [] (con_impl_in _ _ _ _ c9H))) ?_
    refine sem_ifh rfl h ?_ ?_ <;> clear h <;> intro h
    · obtain ⟨g11, h⟩ := gAp h
      obtain ⟨v3, c12H, h⟩ := bind_some' h
      refine zS (zPC1Fn (.take 0 (.take 1 (.take 2 (.take 3 (.take 6 (.take 7 (.one 4 (.one 5 (.one 8 (.take 9 (.take 10 .done))))))))))) [0] (lF [] (con_impl_in _ _ _ _ c12H)) g11) (r_ret ?_)
      refine r_bR hk7 (r_cR hk6 ?_)
      cases h
      refine zAR hQ
    · refine zS z0 ?_
      refine sem_ifh rfl h ?_ ?_ <;> clear h <;> intro h
      · obtain ⟨v4, c15H, h⟩ := bind_some' h
        obtain ⟨g16, h⟩ := gAp h
        obtain ⟨v5, c17H, h⟩ := bind_some' h
        refine zS (zPC2Fn (.take 0 (.take 1 (.take 2 (.take 5 (.take 6 (.one 3 (.one 4 (.one 7 (.take 8 (.take 9 .done)))))))))) [0] (lF [] (con_impl_big _ _ _ c15H)) (lF [] (con_impl_in _ _ _ _ c17H)) g16) (r_ret ?_)
        refine r_bR hk7 (r_cR hk6 ?_)
        cases h
        refine zAR hQ
      · refine zS z0 ?_
        refine sem_ifh rfl h ?_ ?_ <;> clear h <;> intro h
        · refine sem_cut fun k19 hk19 => ?_
          obtain ⟨v6, c20H, h⟩ := bind_some' h
          obtain ⟨g21, h⟩ := gAp h
          obtain ⟨g22, h⟩ := gAp h
          obtain ⟨v7, c23H, h⟩ := bind_some' h
          rcases Bool.eq_false_or_eq_true v7 with g24 | g24
          · replace h := cond_t h g24
            obtain ⟨v8, c25H, h⟩ := bind_some' h
            with_reducible refine sem_plan (id := 9) (.take 0 (.take 1 (.take 2 (.take 5 (.take 6 (.take 7 (.take 10 (.take 11 (.two 3 8 (.two 4 8 (.one 8 (.one 9 (.one 12 (.take 13 (.take 14 (.take 15 (.one 16 (.take 17 (.take 18 (.take 19 .done)))))))))) (.one 4 (.one 9 (.one 12 (.take 13 (.take 14 (.take 15 (.one 16 (.take 17 (.take 18 (.take 19 .done))))))))))) (.one 3 (.one 4 (.one 9 (.one 12 (.take 13 (.take 14 (.take 15 (.one 16 (.take 17 (.take 18 (.take 19 .done)))))))))))))))))))) [0] ?_ ?_
            focus kernel_rfl
            repeat' (first | with_reducible refine And.intro ?_ ?_ | ((with_reducible refine i_call (n := 28) ?_); refine call_openF [] ?_) | ((with_reducible refine i_callW (n := 28) ?_); refine callW_use (con_impl_big v1.N 4 v6 c20H) ?_; rintro x σ' ⟨rfl, rfl⟩ <;> ((refine ⟨?_, ?_⟩; (focus simp (decide := true) only [go_sem, reduceIte, Nat.reduceAdd, Int.reduceToNat, Nat.reduceSub, Nat.reduceMul, g21, g22, g24])); (with_reducible refine behind_go ?_))) | ((with_reducible refine i_call (n := 19) ?_); refine call_openF [] ?_) | ((with_reducible refine i_callW (n := 19) ?_); refine callW_use (con_impl_in v1.N (-2147483648) 2147483647 v7 c23H) ?_; rintro x σ' ⟨rfl, rfl⟩ <;> ((refine ⟨?_, ?_⟩; (focus simp (decide := true) only [go_sem, reduceIte, Nat.reduceAdd, Int.reduceToNat, Nat.reduceSub, Nat.reduceMul, g21, g22, g24])); (with_reducible refine behind_go ?_))) | ((with_reducible refine i_callW (n := 19) ?_); refine callW_use (con_impl_in v1.P 0 255 v8 c25H) ?_; rintro x σ' ⟨rfl, rfl⟩ <;> ((refine ⟨?_, ?_⟩; (focus simp (decide := true) only [go_sem, reduceIte, Nat.reduceAdd, Int.reduceToNat, Nat.reduceSub, Nat.reduceMul, g21, g22, g24])); (with_reducible refine behind_go ?_))) | (simp only [List.length_append, List.length_cons, List.length_nil, R_len] at *; omega) | exact True.intro | with_reducible assumption | exact fun hf => False.elim hf | (intro hg; first | (simp +contextual [hg]; done) | grind) | omega | simp (decide := true) only [go_sem, reduceIte, Nat.reduceAdd, Int.reduceToNat, Nat.reduceSub, Nat.reduceMul, g21, g22, g24])
            all_goals
              refine r_cN hk19 (r_ret ?_)
              refine r_bR hk7 (r_cR hk6 ?_)
              cases h
              refine zAR hQ
          · replace h := cond_f h g24
            with_reducible refine sem_plan (id := 9) (.take 0 (.take 1 (.take 2 (.take 5 (.take 6 (.take 7 (.take 10 (.take 11 (.two 3 8 (.two 4 8 (.one 8 (.one 9 (.one 12 (.take 13 (.take 14 (.take 15 (.one 16 (.take 17 (.take 18 (.take 19 .done)))))))))) (.one 4 (.one 9 (.one 12 (.take 13 (.take 14 (.take 15 (.one 16 (.take 17 (.take 18 (.take 19 .done))))))))))) (.one 3 (.one 4 (.one 9 (.one 12 (.take 13 (.take 14 (.take 15 (.one 16 (.take 17 (.take 18 (.take 19 .done)))))))))))))))))))) [0] ?_ ?_
            focus kernel_rfl
            repeat' (first | with_reducible refine And.intro ?_ ?_ | ((with_reducible refine i_call (n := 28) ?_); refine call_openF [] ?_) | ((with_reducible refine i_callW (n := 28) ?_); refine callW_use (con_impl_big v1.N 4 v6 c20H) ?_; rintro x σ' ⟨rfl, rfl⟩ <;> ((refine ⟨?_, ?_⟩; (focus simp (decide := true) only [go_sem, reduceIte, Nat.reduceAdd, Int.reduceToNat, Nat.reduceSub, Nat.reduceMul, g21, g22, g24])); (with_reducible refine behind_go ?_))) | ((with_reducible refine i_call (n := 19) ?_); refine call_openF [] ?_) | ((with_reducible refine i_callW (n := 19) ?_); refine callW_use (con_impl_in v1.N (-2147483648) 2147483647 v7 c23H) ?_; rintro x σ' ⟨rfl, rfl⟩ <;> ((refine ⟨?_, ?_⟩; (focus simp (decide := true) only [go_sem, reduceIte, Nat.reduceAdd, Int.reduceToNat, Nat.reduceSub, Nat.reduceMul, g21, g22, g24])); (with_reducible refine behind_go ?_))) | (simp only [List.length_append, List.length_cons, List.length_nil, R_len] at *; omega) | exact True.intro | with_reducible assumption | exact fun hf => False.elim hf | (intro hg; first | (simp +contextual [hg]; done) | grind) | omega | simp (decide := true) only [go_sem, reduceIte, Nat.reduceAdd, Int.reduceToNat, Nat.reduceSub, Nat.reduceMul, g21, g22, g24])
            all_goals
              refine r_cN hk19 (r_ret ?_)
              refine r_bR hk7 (r_cR hk6 ?_)
              cases h
              refine zAR hQ
        · refine r_skip (r_bN hk7 ?_)
          refine r_cN hk6 (zS z0 ?_)
          refine r_ret ?_
          cases h
          refine zARw hQ
noncomputable def impl_picInst_j32 : (List Int) → Option ((List Int) × Int)
  | v22 => (some (v22, 0))
noncomputable def impl_picInst_s36 (v1 : Inst) : ((List Int) × Int) → Option (((List Int) × Int) ⊕ (Unit ⊕ (List Int)))
  | (v25, v26) => (cond (decide (v26 < ((v1.One_Args).length : Int))) (Option.bind (idx v1.One_Args (v26)) fun v31 => (Option.bind (impl_picArg v31) fun v32 => (cond (!v32.2) (some (.inr (.inl ()))) (gd (apOk ((v25 ++ v32.1)).length 1) (some (.inl ((v25 ++ v32.1), (IntKind.i64.wrap (v26 + 1))))))))) (some (.inr (.inr v25))))
noncomputable def impl_picInst_j5 (v1 : Inst) : Bool → Option ((List Int) × Int)
  | v10 => (cond v10 (some ([], 2)) (Option.bind (impl_hasOne v1.Code) fun v11 => (cond (!v11) (some ([(IntKind.u8.wrap (v1.Code))], 0)) (gd (apOk (([(IntKind.u8.wrap (v1.Code))] ++ [(IntKind.u8.wrap (v1.One_Op))])).length 1) ((loop (impl_picInst_s36 v1) (([(IntKind.u8.wrap (v1.Code))] ++ [(IntKind.u8.wrap (v1.One_Op))]), 0)).bind (Sum.elim (fun v29 => (some ([], 3))) (fun v30 => (impl_picInst_j32 v30))))))))
noncomputable def impl_picInst (v1 : Inst) : Option ((List Int) × Int) :=
  (Option.bind (impl_in v1.Code 1 11) fun v33 => (cond (!v33) (impl_picInst_j5 v1 (!v33)) (Option.bind (impl_hasOne v1.Code) fun v34 => (cond v34 (Option.bind (impl_opFits v1.Code v1.One_Op) fun v35 => (cond v35 (Option.bind (impl_ElemArity v1.One_Op) fun v36 => (cond (((v1.One_Args).length : Int) != v36) (impl_picInst_j5 v1 (((v1.One_Args).length : Int) != v36)) (Option.bind (impl_hasOne v1.Code) fun v37 => (cond v37 (impl_picInst_j5 v1 false) (Option.bind (impl_Elem_bare (⟨v1.One_Op, v1.One_Args⟩ : Elem)) fun v38 => (impl_picInst_j5 v1 (!v38))))))) (impl_picInst_j5 v1 true))) (Option.bind (impl_hasOne v1.Code) fun v39 => (cond v39 (impl_picInst_j5 v1 false) (Option.bind (impl_Elem_bare (⟨v1.One_Op, v1.One_Args⟩ : Elem)) fun v40 => (impl_picInst_j5 v1 (!v40)))))))))
theorem con_impl_picInst (v1 : Inst) (res_ : ((List Int) × Int)) (h : impl_picInst v1 = some res_) : Con Try.prog C0 26 [.agg [.sc (.int .i64 (v1.Code)), .sc (.int .i64 (v1.One_Op)), .fz 3 (R e_DevArg (v1.One_Args))]] []
    (fun x σ' => x = .tup [.fz 1 (R e_u8 (res_.1)), .sc (.int .i64 (res_.2))] ∧ σ' = []) := by
  refine zCon hP 0 [0, 1, 2, 3, 4, 6, 7, 8, 9, 54, 65, 66, 67, 68, 77] [.tmp 2, .tmp 3] Try.func26 (by unfold Try.f26; rfl) fun Q hQ => ?_
  unfold impl_picInst at h
  refine zS z0 (sem_cut fun k2 hk2 => ?_)
  refine sem_blk fun k3 hk3 => zCut (fun (x : Bool) => ⟨[(1, .pt 0 0), (9, .sc (.bool (x)))], [.rc [.sc (.int .i64 (v1.Code)), .sc (.int .i64 (v1.One_Op)), .fz 3 (R e_DevArg (v1.One_Args))]]⟩) (impl_picInst_j5 v1) res_ ?_ ?_
  · rintro _ v10 h
    simp only [impl_picInst_j5] at h
    refine sem_ifh rfl h ?_ ?_ <;> clear h <;> intro h
    · refine zS z0 (r_ret ?_)
      refine r_bR hk3 (r_cR hk2 ?_)
      cases h
      refine zARw hQ
    · refine r_skip (r_bN hk3 ?_)
      refine r_cN hk2 (zS z0 ?_)
      refine sem_cut fun k20 hk20 => ?_
      obtain ⟨v11, c22H, h⟩ := bind_some' h
      refine zS (zC1 (lF [] (con_impl_hasOne _ _ c22H))) ?_
      refine sem_ifh rfl h ?_ ?_ <;> clear h <;> intro h
      · refine zS z0 (r_ret ?_)
        refine r_cR hk20 ?_
        cases h
        refine zAR hQ
      · refine r_skip (r_cN hk20 ?_)
        obtain ⟨g25, h⟩ := gAp h
        refine zS (zRFn g25) (zCut (fun (x : (List Int)) => ⟨[(4, .sl 0 0 ((x).length))], [.arr true 1 (R e_u8 (x))]⟩) impl_picInst_j32 res_ ?_ ?_)
        · rintro _ v22 h
          simp only [impl_picInst_j32] at h
          refine zS z0 (r_ret ?_)
          cases h
          refine zAR hQ
        · intro k67 hk67 J66
          refine zS z0 (sem_blk fun k69 hk69 => ?_)
          obtain ⟨oq94, hLq94, hKq94⟩ := bind_some' h
          clear h
          refine sem_loopP [4, 65, 66, 67] (fun (_ : Unit) (x : ((List Int) × Int)) => (⟨[(4, .sl 0 0 ((x.1).length)), (65, .fz 3 (R e_DevArg (v1.One_Args))), (66, .sc (.int .i64 (((v1.One_Args).length : Int)))), (67, .sc (.int .i64 (x.2)))], [.arr true 1 (R e_u8 (x.1))]⟩ : St)) (fun (_ : Unit) (x : ((List Int) × Int)) => True) (impl_picInst_s36 v1) () (([(IntKind.u8.wrap (v1.Code))] ++ [(IntKind.u8.wrap (v1.One_Op))]), 0) hLq94 (by rfl) (by rfl) ⟨?_, trivial⟩ ?_
          · first | exact wkSt_same rfl | (simp (decide := true) only [go_sem, reduceIte, Nat.reduceAdd, Int.reduceToNat, Nat.reduceSub, Nat.reduceMul]; exact wkSt_same rfl)
          · rintro nq94 _ ⟨v25, v26⟩ xq94 kq94 hkq94 - h hIq94 hEq94
            simp only [impl_picInst_s36] at h
            refine zS z0 (sem_cut fun k96 hk96 => ?_)
            refine sem_ifh rfl h ?_ ?_ <;> clear h <;> intro h
            · refine r_skip (r_cN hk96 ?_)
              refine sem_cut fun k97 hk97 => sem_blk fun k98 hk98 => ?_
              obtain ⟨v31, h, c100⟩ := bI h
              refine zS (zRF c100) ?_
              obtain ⟨v32, c102H, h⟩ := bind_some' h
              refine zS (zC1 (lC [] (con_impl_picArg _ _ c102H))) (sem_cut fun k103 hk103 => ?_)
              refine zS z0 ?_
              refine sem_ifh rfl h ?_ ?_ <;> clear h <;> intro h
              · refine zS z0 (r_ret ?_)
                refine r_cR hk103 (r_bR hk98 ?_)
                refine r_cR hk97 ?_
                replace h := zX h hEq94 hKq94
                simp only [Sum.elim_inl, Sum.elim_inr] at h
                refine r_kR hkq94 (r_bR hk69 ?_)
                refine r_jR hk67 ?_
                cases h
                refine zARw hQ
              · refine r_skip (r_cN hk103 ?_)
                obtain ⟨g106, h⟩ := gAp h
                refine zU (zRF g106) (r_bN hk98 ?_)
                refine r_cN hk97 (zU z0 ?_)
                refine zB hkq94 h hIq94 () trivial
            · refine r_exit (r_cE hk96 ?_)
              replace h := zX h hEq94 hKq94
              simp only [Sum.elim_inl, Sum.elim_inr] at h
              refine r_kE hkq94 (r_bE hk69 ?_)
              refine zJ J66 [4] () _ h
  · intro k108 hk108 J107
    obtain ⟨v33, c110H, h⟩ := bind_some' h
    refine zS (zC1 (lF [] (con_impl_in _ _ _ _ c110H))) ?_
    refine sem_ifh rfl h ?_ ?_ <;> clear h <;> intro h
    · refine r_skip (zJ J107 [1, 9] () _ h)
    · refine sem_cut fun k111 hk111 => ?_
      obtain ⟨v34, c112H, h⟩ := bind_some' h
      rcases Bool.eq_false_or_eq_true v34 with g113 | g113
      · replace h := cond_t h g113
        obtain ⟨v35, c114H, h⟩ := bind_some' h
        rcases Bool.eq_false_or_eq_true v35 with g115 | g115
        · replace h := cond_t h g115
          obtain ⟨v36, c116H, h⟩ := bind_some' h
          refine zU (zPC3F (.take 0 (.take 1 (.one 2 (.take 3 (.take 4 (.take 5 (.take 6 (.take 7 (.take 8 (.one 9 (.take 10 (.take 11 (.take 12 (.take 13 (.take 14 (.take 15 (.take 16 (.take 17 (.take 18 (.one 19 (.take 20 (.take 21 (.take 22 (.take 23 .done)))))))))))))))))))))))) [0] (lF [] (con_impl_hasOne _ _ c112H)) (lF [] (con_impl_opFits _ _ _ c114H)) (lF [] (con_impl_ElemArity _ _ c116H)) (a2 g113 g115)) (r_cN hk111 ?_)
          refine sem_ifh rfl h ?_ ?_ <;> clear h <;> intro h
          · refine r_skip (zJ J107 [1, 9] () _ h)
          · obtain ⟨v37, c117H, h⟩ := bind_some' h
            rcases Bool.eq_false_or_eq_true v37 with g118 | g118
            · replace h := cond_t h g118
              refine zU (zC1F (lF [] (con_impl_hasOne _ _ c117H)) g118) (zJ J107 [1, 9] () _ h)
            · replace h := cond_f h g118
              obtain ⟨v38, c119H, h⟩ := bind_some' h
              refine zU (zC2F (lF [] (con_impl_hasOne _ _ c117H)) (lF [] (con_impl_Elem_bare _ _ c119H)) g118) (zJ J107 [1, 9] () _ h)
        · replace h := cond_f h g115
          refine zU (zPC2F (.take 0 (.take 1 (.one 2 (.take 3 (.take 4 (.take 5 (.take 6 (.take 7 (.take 8 (.one 9 (.take 10 (.take 11 (.take 12 (.take 13 (.take 14 (.take 15 (.take 16 (.take 17 (.take 18 (.one 19 (.take 20 (.take 21 (.take 22 (.take 23 .done)))))))))))))))))))))))) [0] (lF [] (con_impl_hasOne _ _ c112H)) (lF [] (con_impl_opFits _ _ _ c114H)) (a2 g113 g115)) (r_cN hk111 ?_)
          refine sem_ifT rfl ?_
          try replace h := cond_t h rfl
          refine r_skip (zJ J107 [1, 9] () _ h)
      · replace h := cond_f h g113
        refine zU (zPC1F (.take 0 (.take 1 (.one 2 (.take 3 (.take 4 (.take 5 (.take 6 (.take 7 (.take 8 (.one 9 (.take 10 (.take 11 (.take 12 (.take 13 (.take 14 (.take 15 (.take 16 (.take 17 (.take 18 (.one 19 (.take 20 (.take 21 (.take 22 (.take 23 .done)))))))))))))))))))))))) [0] (lF [] (con_impl_hasOne _ _ c112H)) g113) (r_cN hk111 ?_)
        refine sem_ifF rfl ?_
        try replace h := cond_f h rfl
        obtain ⟨v39, c120H, h⟩ := bind_some' h
        rcases Bool.eq_false_or_eq_true v39 with g121 | g121
        · replace h := cond_t h g121
          refine zU (zC1F (lF [] (con_impl_hasOne _ _ c120H)) g121) (zJ J107 [1, 9] () _ h)
        · replace h := cond_f h g121
          obtain ⟨v40, c122H, h⟩ := bind_some' h
          refine zU (zC2F (lF [] (con_impl_hasOne _ _ c120H)) (lF [] (con_impl_Elem_bare _ _ c122H)) g121) (zJ J107 [1, 9] () _ h)
noncomputable def slices_Grow_byte_byte_nil_j9 (v1 : Int) : Unit → Option ((List Int) × Nat)
  | () => (some ((List.replicate ((IntKind.i64.wrap (v1 - (IntKind.i64.wrap (0 - 0))))).toNat 0), 0))
noncomputable def slices_Grow_byte_byte_nil (v1 : Int) : Option ((List Int) × Nat) :=
  (cond (decide (v1 < 0)) none (cond (decide ((IntKind.i64.wrap (v1 - (IntKind.i64.wrap (0 - 0)))) > 0)) (cond (zq (IntKind.i64.wrap (v1 - (IntKind.i64.wrap (0 - 0))))) (gd (zaOk (IntKind.i64.wrap (v1 - (IntKind.i64.wrap (0 - 0)))) 1) none) (gd (zaOk (IntKind.i64.wrap (v1 - (IntKind.i64.wrap (0 - 0)))) 1) (gd (decide (0 ≤ 0) && decide (0 ≤ ((((IntKind.i64.wrap (v1 - (IntKind.i64.wrap (0 - 0))))).toNat : Nat) : Int))) (slices_Grow_byte_byte_nil_j9 v1 ())))) none))
theorem con_slices_Grow_byte_byte_nil (v1 : Int) (res_ : ((List Int) × Nat)) (h : slices_Grow_byte_byte_nil v1 = some res_) : Con Try.prog C0 57 [.sc (.slice none 0 0), .sc (.int .i64 (v1))] []
    (fun x σ' => x = .sl 0 0 (res_.2) ∧ σ' = [.arr true 1 (R e_u8 (res_.1))]) := by
  refine zCon hP 0 [0, 1, 4, 6, 16] [.tmp 4] Try.func57 (by unfold Try.f57; rfl) fun Q hQ => ?_
  unfold slices_Grow_byte_byte_nil at h
  refine zS z0 (sem_cut fun k3 hk3 => ?_)
  refine zS z0 ?_
  refine sem_ifh rfl h ?_ ?_ <;> clear h <;> intro h
  · cases h
  · refine r_skip (r_cN hk3 ?_)
    refine zCut (fun (x : Unit) => ⟨[(0, .sl 0 0 (0))], [.arr true 1 (R e_u8 ((List.replicate ((IntKind.i64.wrap (v1 - (IntKind.i64.wrap (0 - 0))))).toNat 0)))]⟩) (slices_Grow_byte_byte_nil_j9 v1) res_ ?_ ?_
    · rintro _ _ h
      simp only [slices_Grow_byte_byte_nil_j9] at h
      refine zS z0 (r_ret ?_)
      cases h
      refine zOR hQ
    · intro k13 hk13 J12
      refine zS z0 (zS z0 ?_)
      refine sem_ifh rfl h ?_ ?_ <;> clear h <;> intro h
      · rcases Bool.eq_false_or_eq_true (zq (IntKind.i64.wrap (v1 - (IntKind.i64.wrap (0 - 0))))) with g16 | g16
        · replace h := cond_t h g16
          have g16E := zq_t g16
          obtain ⟨g17, h⟩ := gZa h
          refine zU (zRF (a2 g16E g17)) ?_
          cases h
        · replace h := cond_f h g16
          have g16E := zq_f g16
          obtain ⟨g18, h⟩ := gZa h
          obtain ⟨g19, h⟩ := gD2 h
          refine zU (zRF (a3 g16E g18 g19)) (zJ J12 [0] () _ h)
      · refine r_skip ?_
        cases h
noncomputable def slices_Grow_byte_byte_nil_w (v1 : Int) : Option (List Int) :=
  (slices_Grow_byte_byte_nil v1).map fun r => r.1.take r.2
theorem con_slices_Grow_byte_byte_nil_w (v1 : Int) (res_ : (List Int)) (h : slices_Grow_byte_byte_nil_w v1 = some res_) : Con Try.prog C0 57 [.sc (.slice none 0 0), .sc (.int .i64 (v1))] []
    (fun x σ' => x = .sl 0 0 ((res_).length) ∧ σ' = [.arr true 1 (R e_u8 (res_))]) := by
  unfold slices_Grow_byte_byte_nil_w at h
  obtain ⟨r, hr, rfl⟩ := Option.map_eq_some_iff.1 h
  refine Con.shrink (con_slices_Grow_byte_byte_nil v1 r hr) fun x σ' hp => ?_
  obtain ⟨rfl, rfl⟩ := hp
  refine .inr ⟨_, _, _, rfl, rfl, fun hn => ⟨?_, ?_⟩⟩
  · rw [R_len] at hn; rw [List.length_take, Nat.min_eq_left hn]
  · rw [R_take]
noncomputable def slices_Concat_byte_byte_j30 : (List Int) → Option (List Int)
  | v19 => (some v19)
noncomputable def slices_Concat_byte_byte_s34 (v1 : (List (List Int))) : ((List Int) × Int) → Option (((List Int) × Int) ⊕ (List Int))
  | (v21, v22) => (cond (decide (v22 < ((v1).length : Int))) (Option.bind (idx v1 (v22)) fun v25 => (gd (apOk ((v21 ++ v25)).length 1) (some (.inl ((v21 ++ v25), (IntKind.i64.wrap (v22 + 1))))))) (some (.inr v21)))
noncomputable def slices_Concat_byte_byte_j5 (v1 : (List (List Int))) : Int → Option (List Int)
  | v11 => (Option.bind (slices_Grow_byte_byte_nil_w v11) fun v12 => ((loop (slices_Concat_byte_byte_s34 v1) (v12, 0)).bind (fun v24 => (slices_Concat_byte_byte_j30 v24))))
noncomputable def slices_Concat_byte_byte_s9 (v1 : (List (List Int))) : (Int × Int) → Option ((Int × Int) ⊕ Int)
  | (v28, v29) => (cond (decide (v29 < ((v1).length : Int))) (Option.bind (idx v1 (v29)) fun v34 => (cond (decide ((IntKind.i64.wrap (v28 + ((v34).length : Int))) < 0)) none (some (.inl ((IntKind.i64.wrap (v28 + ((v34).length : Int))), (IntKind.i64.wrap (v29 + 1))))))) (some (.inr v28)))
noncomputable def slices_Concat_byte_byte (v1 : (List (List Int))) : Option (List Int) :=
  ((loop (slices_Concat_byte_byte_s9 v1) (0, 0)).bind (fun v32 => (slices_Concat_byte_byte_j5 v1 v32)))
theorem con_slices_Concat_byte_byte (v1 : (List (List Int))) (res_ : (List Int)) (h : slices_Concat_byte_byte v1 = some res_) : Con Try.prog C0 27 [.fz 1 (R e_L_u8 (v1))] []
    (fun x σ' => x = .sl 0 0 ((res_).length) ∧ σ' = [.arr true 1 (R e_u8 (res_))]) := by
  refine zCon hP 0 [0, 2, 3, 5, 6, 8, 9, 10, 11, 12, 20, 25, 26, 27, 28] [.tmp 2] Try.func27 (by unfold Try.f27; rfl) fun Q hQ => ?_
  unfold slices_Concat_byte_byte at h
  refine zS z0 (zS z0 ?_)
  refine zCut (fun (x : Int) => ⟨[(0, .fz 1 (R e_L_u8 (v1))), (3, .sc (.int .i64 (x)))], []⟩) (slices_Concat_byte_byte_j5 v1) res_ ?_ ?_
  · rintro _ v11 h
    simp only [slices_Concat_byte_byte_j5] at h
    obtain ⟨v12, c46H, h⟩ := bind_some' h
    refine zS (zC1w (lF [] (con_slices_Grow_byte_byte_nil_w _ _ c46H))) (zCut (fun (x : (List Int)) => ⟨[(6, .sl 0 0 ((x).length))], [.arr true 1 (R e_u8 (x))]⟩) slices_Concat_byte_byte_j30 res_ ?_ ?_)
    · rintro _ v19 h
      simp only [slices_Concat_byte_byte_j30] at h
      refine zS z0 (r_ret ?_)
      cases h
      refine zOR hQ
    · intro k73 hk73 J72
      refine zS z0 (sem_blk fun k75 hk75 => ?_)
      obtain ⟨oq90, hLq90, hKq90⟩ := bind_some' h
      clear h
      refine sem_loopP [6, 25, 26, 27] (fun (_ : Unit) (x : ((List Int) × Int)) => (⟨[(6, .sl 0 0 ((x.1).length)), (25, .fz 1 (R e_L_u8 (v1))), (26, .sc (.int .i64 (((v1).length : Int)))), (27, .sc (.int .i64 (x.2)))], [.arr true 1 (R e_u8 (x.1))]⟩ : St)) (fun (_ : Unit) (x : ((List Int) × Int)) => True) (slices_Concat_byte_byte_s34 v1) () (v12, 0) hLq90 (by rfl) (by rfl) ⟨?_, trivial⟩ ?_
      · first | exact wkSt_same rfl | (simp (decide := true) only [go_sem, reduceIte, Nat.reduceAdd, Int.reduceToNat, Nat.reduceSub, Nat.reduceMul]; exact wkSt_same rfl)
      · rintro nq90 _ ⟨v21, v22⟩ xq90 kq90 hkq90 - h hIq90 hEq90
        simp only [slices_Concat_byte_byte_s34] at h
        refine zS z0 (sem_cut fun k92 hk92 => ?_)
        refine sem_ifh rfl h ?_ ?_ <;> clear h <;> intro h
        · refine r_skip (r_cN hk92 ?_)
          refine sem_cut fun k93 hk93 => sem_blk fun k94 hk94 => ?_
          obtain ⟨v25, h, c96⟩ := bI h
          refine zS (zRF c96) ?_
          obtain ⟨g97, h⟩ := gAp h
          refine zU (zRF g97) (r_bN hk94 ?_)
          refine r_cN hk93 (zU z0 ?_)
          refine zB hkq90 h hIq90 () trivial
        · refine r_exit (r_cE hk92 ?_)
          replace h := zX h hEq90 hKq90
          refine r_kE hkq90 (r_bE hk75 ?_)
          refine zJ J72 [6] () _ h
  · intro k99 hk99 J98
    refine zS z0 (sem_blk fun k101 hk101 => ?_)
    obtain ⟨oq128, hLq128, hKq128⟩ := bind_some' h
    clear h
    refine sem_loopP [0, 3, 9, 10, 11] (fun (_ : Unit) (x : (Int × Int)) => (⟨[(0, .fz 1 (R e_L_u8 (v1))), (3, .sc (.int .i64 (x.1))), (9, .fz 1 (R e_L_u8 (v1))), (10, .sc (.int .i64 (((v1).length : Int)))), (11, .sc (.int .i64 (x.2)))], []⟩ : St)) (fun (_ : Unit) (x : (Int × Int)) => True) (slices_Concat_byte_byte_s9 v1) () (0, 0) hLq128 (by rfl) (by rfl) ⟨?_, trivial⟩ ?_
    · first | exact wkSt_same rfl | (simp (decide := true) only [go_sem, reduceIte, Nat.reduceAdd, Int.reduceToNat, Nat.reduceSub, Nat.reduceMul]; exact wkSt_same rfl)
    · rintro nq128 _ ⟨v28, v29⟩ xq128 kq128 hkq128 - h hIq128 hEq128
      simp only [slices_Concat_byte_byte_s9] at h
      refine zS z0 (sem_cut fun k130 hk130 => ?_)
      refine sem_ifh rfl h ?_ ?_ <;> clear h <;> intro h
      · refine r_skip (r_cN hk130 ?_)
        refine sem_cut fun k136 hk136 => sem_blk fun k137 hk137 => ?_
        obtain ⟨v34, h, c139⟩ := bI h
        refine zS (zRF c139) (zS z0 ?_)
        refine zS z0 ?_
        refine sem_ifh rfl h ?_ ?_ <;> clear h <;> intro h
        · cases h
        · refine r_skip (r_bN hk137 ?_)
          refine r_cN hk136 (zU z0 ?_)
          refine zB hkq128 h hIq128 () trivial
      · refine r_exit (r_cE hk130 ?_)
        replace h := zX h hEq128 hKq128
        refine r_kE hkq128 (r_bE hk101 ?_)
        refine zJ J98 [0, 3] () _ h
noncomputable def impl_PicSum_j5 : Int → Option Int
  | v50 => (some v50)
noncomputable def impl_PicSum_j16 (v67 : Int) : Int → Option ((Int × Int) ⊕ Int)
  | v91 => (some (.inl (v91, (IntKind.i64.wrap (v67 + 1)))))
noncomputable def impl_PicSum_j32 (v95 : Int) : Int → Option ((Int × Int) ⊕ Int)
  | v98 => (some (.inl (v98, (IntKind.i64.wrap (v95 + 1)))))
noncomputable def impl_PicSum_s25 : (Int × Int) → Option ((Int × Int) ⊕ Int)
  | (v94, v95) => (cond (decide (v95 < 8)) (cond (((v94).fdiv 32768) == 1) (impl_PicSum_j32 v95 (bxor .u16 (IntKind.u16.wrap (v94 * 2)) 4129)) (impl_PicSum_j32 v95 (IntKind.u16.wrap (v94 * 2)))) (some (.inr v94)))
noncomputable def impl_PicSum_s9 (v1 : (List Int)) : (Int × Int) → Option ((Int × Int) ⊕ Int)
  | (v66, v67) => (cond (decide (v67 < ((v1).length : Int))) (Option.bind (idx v1 (v67)) fun v92 => ((loop impl_PicSum_s25 ((bxor .u16 v66 (IntKind.u16.wrap ((IntKind.u16.wrap (v92)) * 256))), 0)).bind (fun v97 => (impl_PicSum_j16 v67 v97)))) (some (.inr v66)))
noncomputable def impl_PicSum (v1 : (List Int)) : Option Int :=
  ((loop (impl_PicSum_s9 v1) (65535, 0)).bind (fun v83 => (impl_PicSum_j5 v83)))
theorem con_impl_PicSum (v1 : (List Int)) (res_ : Int) (h : impl_PicSum v1 = some res_) : Con Try.prog C0 21 [.fz 1 (R e_u8 (v1))] []
    (fun x σ' => x = .sc (.int .u16 (res_)) ∧ σ' = []) := by
  refine zCon hP 0 [0, 2, 3, 5, 6, 7, 8, 9, 10, 18, 19, 25] [.tmp 2] Try.func21 (by unfold Try.f21; rfl) fun Q hQ => ?_
  unfold impl_PicSum at h
  refine zS z0 (zS z0 ?_)
  refine zCut (fun (x : Int) => ⟨[(3, .sc (.int .u16 (x)))], []⟩) impl_PicSum_j5 res_ ?_ ?_
  · rintro _ v50 h
    simp only [impl_PicSum_j5] at h
    refine zS z0 (r_ret ?_)
    cases h
    refine zAR hQ
  · intro k278 hk278 J277
    refine zS z0 (sem_blk fun k280 hk280 => ?_)
    obtain ⟨oq461, hLq461, hKq461⟩ := bind_some' h
    clear h
    refine sem_loopP [3, 7, 8, 9] (fun (_ : Unit) (x : (Int × Int)) => (⟨[(3, .sc (.int .u16 (x.1))), (7, .fz 1 (R e_u8 (v1))), (8, .sc (.int .i64 (((v1).length : Int)))), (9, .sc (.int .i64 (x.2)))], []⟩ : St)) (fun (_ : Unit) (x : (Int × Int)) => True) (impl_PicSum_s9 v1) () (65535, 0) hLq461 (by rfl) (by rfl) ⟨?_, trivial⟩ ?_
    · first | exact wkSt_same rfl | (simp (decide := true) only [go_sem, reduceIte, Nat.reduceAdd, Int.reduceToNat, Nat.reduceSub, Nat.reduceMul]; exact wkSt_same rfl)
    · rintro nq461 _ ⟨v66, v67⟩ xq461 kq461 hkq461 - h hIq461 hEq461
      simp only [impl_PicSum_s9] at h
      refine zS z0 (sem_cut fun k463 hk463 => ?_)
      refine sem_ifh rfl h ?_ ?_ <;> clear h <;> intro h
      · refine r_skip (r_cN hk463 ?_)
        refine zCut (fun (x : Int) => ⟨[(3, .sc (.int .u16 (x))), (7, .fz 1 (R e_u8 (v1))), (8, .sc (.int .i64 (((v1).length : Int)))), (9, .sc (.int .i64 (v67)))], []⟩) (impl_PicSum_j16 v67) xq461 ?_ ?_
        · rintro _ v91 h
          simp only [impl_PicSum_j16] at h
          refine zU z0 (zB hkq461 h hIq461 () trivial)
        · intro k508 hk508 J507
          refine sem_blk fun k509 hk509 => ?_
          obtain ⟨v92, h, c511⟩ := bI h
          refine zS (zRF c511) (zS zR ?_)
          refine zS z0 (sem_blk fun k514 hk514 => ?_)
          obtain ⟨oq539, hLq539, hKq539⟩ := bind_some' h
          clear h
          refine sem_loopP [3, 7, 8, 9, 18] (fun (_ : Unit) (x : (Int × Int)) => (⟨[(3, .sc (.int .u16 (x.1))), (7, .fz 1 (R e_u8 (v1))), (8, .sc (.int .i64 (((v1).length : Int)))), (9, .sc (.int .i64 (v67))), (18, .sc (.int .i64 (x.2)))], []⟩ : St)) (fun (_ : Unit) (x : (Int × Int)) => True) impl_PicSum_s25 () ((bxor .u16 v66 (IntKind.u16.wrap ((IntKind.u16.wrap (v92)) * 256))), 0) hLq539 (by rfl) (by rfl) ⟨?_, trivial⟩ ?_
          · first | exact wkSt_same rfl | (simp (decide := true) only [go_sem, reduceIte, Nat.reduceAdd, Int.reduceToNat, Nat.reduceSub, Nat.reduceMul]; exact wkSt_same rfl)
          · rintro nq539 _ ⟨v94, v95⟩ xq539 kq539 hkq539 - h hIq539 hEq539
            simp only [impl_PicSum_s25] at h
            refine zS z0 (sem_cut fun k541 hk541 => ?_)
            refine sem_ifh rfl h ?_ ?_ <;> clear h <;> intro h
            · refine r_skip (r_cN hk541 ?_)
              refine zCut (fun (x : Int) => ⟨[(3, .sc (.int .u16 (x))), (7, .fz 1 (R e_u8 (v1))), (8, .sc (.int .i64 (((v1).length : Int)))), (9, .sc (.int .i64 (v67))), (18, .sc (.int .i64 (v95)))], []⟩) (impl_PicSum_j32 v95) xq539 ?_ ?_
              · rintro _ v98 h
                simp only [impl_PicSum_j32] at h
                refine zU z0 (zB hkq539 h hIq539 () trivial)
              · intro k547 hk547 J546
                refine sem_blk fun k548 hk548 => zS zR (zS zR ?_)
                refine zS z0 ?_
                refine sem_ifh rfl h ?_ ?_ <;> clear h <;> intro h
                · refine zU z0 (r_bN hk548 ?_)
                  refine zJ J546 [3, 7, 8, 9, 18] () _ h
                · refine r_skip (r_bN hk548 ?_)
                  refine zJ J546 [3, 7, 8, 9, 18] () _ h
            · refine r_exit (r_cE hk541 ?_)
              replace h := zX h hEq539 hKq539
              refine r_kE hkq539 (r_bE hk514 ?_)
              refine r_bN hk509 (zJ J507 [3, 7, 8, 9] () _ h)
      · refine r_exit (r_cE hk463 ?_)
        replace h := zX h hEq461 hKq461
        refine r_kE hkq461 (r_bE hk280 ?_)
        refine zJ J277 [3] () _ h
noncomputable def slices_Clone_byte_byte (v1 : (List Int)) : Option (List Int) :=
  (nilq v1 fun v2 => (cond v2 (some []) (gd (apOk (v1).length 1) (some v1))))
theorem con_slices_Clone_byte_byte (v1 : (List Int)) (res_ : (List Int)) (h : slices_Clone_byte_byte v1 = some res_) : Con Try.prog C0 59 [.fz 1 (R e_u8 (v1))] []
    (fun x σ' => x = .fz 1 (R e_u8 (res_)) ∧ σ' = []) := by
  refine zCon hP 0 [0, 2, 4] [.tmp 2] Try.func59 (by unfold Try.f59; rfl) fun Q hQ => ?_
  unfold slices_Clone_byte_byte at h
  refine zS z0 (sem_cut fun k2 hk2 => ?_)
  refine sem_cut fun k3 hk3 => ?_
  have c4H := nilq_some h
  clear h
  repeat' (first | with_reducible refine And.intro ?_ ?_ | exact True.intro | with_reducible assumption | exact fun hf => False.elim hf | (intro hg; first | (simp +contextual [hg]; done) | grind) | omega | ((with_reducible refine r_nileq ?_); refine ⟨?_, ?_⟩) | (intro v2 c4B) | simp (decide := true) only [go_sem, reduceIte, Nat.reduceAdd, Int.reduceToNat, Nat.reduceSub, Nat.reduceMul])
  replace h := c4H v2 (fun e => by have e2 := c4B e; simpa only [go_sem, reduceIte, Nat.reduceEqDiff] using e2)
  refine r_cN hk3 ?_
  refine sem_ifh rfl h ?_ ?_ <;> clear h <;> intro h
  · refine zS z0 (r_ret ?_)
    refine r_cR hk2 ?_
    cases h
    refine zARw hQ
  · refine r_skip (r_cN hk2 ?_)
    obtain ⟨g7, h⟩ := gAp h
    refine zS (zRF g7) (r_ret ?_)
    cases h
    refine zAR hQ
noncomputable def slices_Clip_byte_byte (v1 : (List Int)) : Option (List Int) :=
  (Option.bind (prtH v1 (((v1).length : Int))) fun v2 => (some v2))
theorem con_slices_Clip_byte_byte (v1 : (List Int)) (res_ : (List Int)) (h : slices_Clip_byte_byte v1 = some res_) : Con Try.prog C0 58 [.fz 1 (R e_u8 (v1))] []
    (fun x σ' => x = .fz 1 (R e_u8 (res_)) ∧ σ' = []) := by
  refine zCon hP 0 [0, 2] [.tmp 2] Try.func58 (by unfold Try.f58; rfl) fun Q hQ => ?_
  unfold slices_Clip_byte_byte at h
  refine zS z0 ?_
  obtain ⟨v2, c3H, h⟩ := bind_some' h
  obtain ⟨c3A, c3B, c3C⟩ := prtH_some c3H
  try simp only [Int.reduceToNat, Int.toNat_zero, Int.toNat_one, Int.toNat_natCast, List.take_length] at c3C
  refine zS (zRF (a3 c3A c3B c3C)) (r_ret ?_)
  cases h
  refine zAR hQ
noncomputable def impl_clone_byte (v1 : (List Int)) : Option (List Int) :=
  (Option.bind (slices_Clone_byte_byte v1) fun v2 => (Option.bind (slices_Clip_byte_byte v2) fun v3 => (some v3)))
theorem con_impl_clone_byte (v1 : (List Int)) (res_ : (List Int)) (h : impl_clone_byte v1 = some res_) : Con Try.prog C0 29 [.fz 1 (R e_u8 (v1))] []
    (fun x σ' => x = .fz 1 (R e_u8 (res_)) ∧ σ' = []) := by
  refine zCon hP 0 [0, 2] [.tmp 2] Try.func29 (by unfold Try.f29; rfl) fun Q hQ => ?_
  unfold impl_clone_byte at h
  refine zS z0 ?_
  obtain ⟨v2, c3H, h⟩ := bind_some' h
  obtain ⟨v3, c4H, h⟩ := bind_some' h
  refine zS (zC2 (lC [] (con_slices_Clone_byte_byte _ _ c3H)) (lC [] (con_slices_Clip_byte_byte _ _ c4H))) (r_ret ?_)
  cases h
  refine zAR hQ
noncomputable def impl_PicMake_j13 (v1 : (List Inst)) : (List Int) → Option ((List Int) × PicFault)
  | v16 => (Option.bind (impl_big (IntKind.i64.wrap ((((v16).length : Nat) : Int) + 8)) 2) fun v17 => (Option.bind (impl_big ((v1).length : Int) 2) fun v18 => (Option.bind (slices_Concat_byte_byte [[83, 116], v17, v18, v16]) fun v19 => (Option.bind (impl_PicSum v19) fun v20 => (Option.bind (impl_big (IntKind.i64.wrap (v20)) 2) fun v21 => (gd (apOk ((v19 ++ v21)).length 1) (Option.bind (impl_clone_byte (v19 ++ v21)) fun v22 => (some (v22, (⟨0, 0⟩ : PicFault))))))))))
noncomputable def impl_PicMake_s17 (v1 : (List Inst)) : ((List Int) × Int) → Option (((List Int) × Int) ⊕ ((Int × Int) ⊕ (List Int)))
  | (v31, v32) => (cond (decide (v32 < ((v1).length : Int))) (Option.bind (idx v1 (v32)) fun v39 => (Option.bind (impl_picInst v39) fun v40 => (cond (v40.2 != 0) (some (.inr (.inl (v40.2, v32)))) (gd (apOk ((v31 ++ v40.1)).length 1) (some (.inl ((v31 ++ v40.1), (IntKind.i64.wrap (v32 + 1))))))))) (some (.inr (.inr v31))))
noncomputable def impl_PicMake (v1 : (List Inst)) : Option ((List Int) × PicFault) :=
  (cond (decide (((v1).length : Int) > 1000)) (some ([], (⟨1, 0⟩ : PicFault))) ((loop (impl_PicMake_s17 v1) ([], 0)).bind (Sum.elim (fun v37 => (some ([], (⟨v37.1, v37.2⟩ : PicFault)))) (fun v38 => (impl_PicMake_j13 v1 v38)))))
theorem con_impl_PicMake (v1 : (List Inst)) (res_ : ((List Int) × PicFault)) (h : impl_PicMake v1 = some res_) : Con Try.prog C0 9 [.fz 3 (R e_Inst (v1))] []
    (fun x σ' => x = .tup [.fz 1 (R e_u8 (res_.1)), .agg [.sc (.int .i64 (res_.2.Code)), .sc (.int .i64 (res_.2.At))]] ∧ σ' = []) := by
  refine zCon hP 0 [0, 2, 3, 4, 5, 6, 7, 8, 9, 12, 14, 15, 16, 17, 27] [.tmp 2, .cell 3 26] Try.func9 (by unfold Try.f9; rfl) fun Q hQ => ?_
  unfold impl_PicMake at h
  refine zS z0 (sem_cut fun k2 hk2 => ?_)
  refine zS z0 ?_
  refine sem_ifh rfl h ?_ ?_ <;> clear h <;> intro h
  · refine zS z0 (r_ret ?_)
    refine r_cR hk2 ?_
    cases h
    refine zARw hQ
  · refine r_skip (r_cN hk2 ?_)
    refine zS z0 (sem_cutJ (fun (i : P2) (x : (List Int)) => match i with | .a => (⟨[(0, .fz 3 (R e_Inst (v1))), (3, .pt 0 0), (4, .sl 1 0 ((x).length))], [.rc [.sc (.int .i64 (0)), .sc (.int .i64 (0))], .arr true 1 (R e_u8 (x))]⟩ : St) | .b => (⟨[(0, .fz 3 (R e_Inst (v1))), (3, .pt 0 0), (4, .sc (.slice none 0 0))], [.rc [.sc (.int .i64 (0)), .sc (.int .i64 (0))]]⟩ : St)) (fun (i : P2) (x : (List Int)) => (match i with | .a => True | .b => x = []) ∧ impl_PicMake_j13 v1 x = some res_) ?_ ?_)
    · rintro (_ | _) v16 ⟨hp, h⟩
      · simp only [impl_PicMake_j13] at h
        obtain ⟨v17, c76H, h⟩ := bind_some' h
        obtain ⟨v18, c77H, h⟩ := bind_some' h
        obtain ⟨v19, c78H, h⟩ := bind_some' h
        refine zS (zC3 (lF [] (con_impl_big _ _ _ c76H)) (lF [] (con_impl_big _ _ _ c77H)) (lF [] (con_slices_Concat_byte_byte _ _ c78H))) ?_
        obtain ⟨v20, c80H, h⟩ := bind_some' h
        obtain ⟨v21, c81H, h⟩ := bind_some' h
        obtain ⟨g82, h⟩ := gAp h
        obtain ⟨v22, c83H, h⟩ := bind_some' h
        refine zS (zC3F (lF [] (con_impl_PicSum _ _ c80H)) (lF [] (con_impl_big _ _ _ c81H)) (lC [] (con_impl_clone_byte _ _ c83H)) g82) (r_ret ?_)
        cases h
        refine zAR hQ
      · replace hp : v16 = [] := hp
        subst hp
        simp only [impl_PicMake_j13] at h
        try simp only [List.nil_append, List.length_nil, Int.natCast_zero] at h
        obtain ⟨v23, c85H, h⟩ := bind_some' h
        obtain ⟨v24, c86H, h⟩ := bind_some' h
        obtain ⟨v25, c87H, h⟩ := bind_some' h
        refine zS (zC3d (lF [] (con_impl_big _ _ _ c85H)) (lF [] (con_impl_big _ _ _ c86H)) (lF [] (con_slices_Concat_byte_byte _ _ c87H))) ?_
        obtain ⟨v26, c89H, h⟩ := bind_some' h
        obtain ⟨v27, c90H, h⟩ := bind_some' h
        obtain ⟨g91, h⟩ := gAp h
        obtain ⟨v28, c92H, h⟩ := bind_some' h
        refine zS (zC3F (lF [] (con_impl_PicSum _ _ c89H)) (lF [] (con_impl_big _ _ _ c90H)) (lC [] (con_impl_clone_byte _ _ c92H)) g91) (r_ret ?_)
        cases h
        refine zAR hQ
    · intro k94 hk94 J93
      refine zS z0 (sem_blk fun k96 hk96 => ?_)
      obtain ⟨oq137, hLq137, hKq137⟩ := bind_some' h
      clear h
      refine sem_loopP [0, 3, 4, 14, 15, 16] (fun (i : P2) (x : ((List Int) × Int)) => match i with | .a => (⟨[(0, .fz 3 (R e_Inst (v1))), (3, .pt 0 0), (4, .sl 1 0 ((x.1).length)), (14, .fz 3 (R e_Inst (v1))), (15, .sc (.int .i64 (((v1).length : Int)))), (16, .sc (.int .i64 (x.2)))], [.rc [.sc (.int .i64 (0)), .sc (.int .i64 (0))], .arr true 1 (R e_u8 (x.1))]⟩ : St) | .b => (⟨[(0, .fz 3 (R e_Inst (v1))), (3, .pt 0 0), (4, .sc (.slice none 0 0)), (14, .fz 3 (R e_Inst (v1))), (15, .sc (.int .i64 (((v1).length : Int)))), (16, .sc (.int .i64 (x.2)))], [.rc [.sc (.int .i64 (0)), .sc (.int .i64 (0))]]⟩ : St)) (fun (i : P2) (x : ((List Int) × Int)) => (match i with | .a => True | .b => x.1 = [])) (impl_PicMake_s17 v1) (.b) ([], 0) hLq137 (by rfl) (by rfl) ⟨?_, rfl⟩ ?_
      · first | exact wkSt_same rfl | (simp (decide := true) only [go_sem, reduceIte, Nat.reduceAdd, Int.reduceToNat, Nat.reduceSub, Nat.reduceMul]; exact wkSt_same rfl)
      · rintro nq137 (_ | _) ⟨v31, v32⟩ xq137 kq137 hkq137 hp h hIq137 hEq137
        · simp only [impl_PicMake_s17] at h
          refine zS z0 (sem_cut fun k139 hk139 => ?_)
          refine sem_ifh rfl h ?_ ?_ <;> clear h <;> intro h
          · refine r_skip (r_cN hk139 ?_)
            refine sem_cut fun k140 hk140 => sem_blk fun k141 hk141 => ?_
            obtain ⟨v39, h, c143⟩ := bI h
            refine zS (zRF c143) ?_
            obtain ⟨v40, c145H, h⟩ := bind_some' h
            refine zS (zC1 (lC [] (con_impl_picInst _ _ c145H))) (sem_cut fun k146 hk146 => ?_)
            refine zS z0 ?_
            refine sem_ifh rfl h ?_ ?_ <;> clear h <;> intro h
            · refine zS z0 (r_ret ?_)
              refine r_cR hk146 (r_bR hk141 ?_)
              refine r_cR hk140 ?_
              replace h := zX h hEq137 hKq137
              simp only [Sum.elim_inl, Sum.elim_inr] at h
              refine r_kR hkq137 (r_bR hk96 ?_)
              refine r_jR hk94 ?_
              cases h
              refine zARw hQ
            · refine r_skip (r_cN hk146 ?_)
              obtain ⟨g149, h⟩ := gAp h
              refine zU (zRF g149) (r_bN hk141 ?_)
              refine r_cN hk140 (zU z0 ?_)
              refine zB hkq137 h hIq137 (.a) trivial
          · refine r_exit (r_cE hk139 ?_)
            replace h := zX h hEq137 hKq137
            simp only [Sum.elim_inl, Sum.elim_inr] at h
            refine r_kE hkq137 (r_bE hk96 ?_)
            refine zJ J93 [0, 3, 4] (.a) v31 ⟨trivial, h⟩
        · replace hp : v31 = [] := hp
          subst hp
          simp only [impl_PicMake_s17] at h
          try simp only [List.nil_append, List.length_nil, Int.natCast_zero] at h
          refine zS z0 (sem_cut fun k151 hk151 => ?_)
          refine sem_ifh rfl h ?_ ?_ <;> clear h <;> intro h
          · refine r_skip (r_cN hk151 ?_)
            refine sem_cut fun k152 hk152 => sem_blk fun k153 hk153 => ?_
            obtain ⟨v41, h, c155⟩ := bI h
            refine zS (zRF c155) ?_
            obtain ⟨v42, c157H, h⟩ := bind_some' h
            refine zS (zC1 (lC [] (con_impl_picInst _ _ c157H))) (sem_cut fun k158 hk158 => ?_)
            refine zS z0 ?_
            refine sem_ifh rfl h ?_ ?_ <;> clear h <;> intro h
            · refine zS z0 (r_ret ?_)
              refine r_cR hk158 (r_bR hk153 ?_)
              refine r_cR hk152 ?_
              replace h := zX h hEq137 hKq137
              simp only [Sum.elim_inl, Sum.elim_inr] at h
              refine r_kR hkq137 (r_bR hk96 ?_)
              refine r_jR hk94 ?_
              cases h
              refine zARw hQ
            · refine r_skip (r_cN hk158 ?_)
              rcases Bool.eq_false_or_eq_true ((v42.1).isEmpty) with g161 | g161
              · have g161E := isE_t g161
                simp only [List.isEmpty_iff.1 g161] at h
                obtain ⟨g162, h⟩ := gAp h
                refine zU (zRF (a2 g161E g162)) (r_bN hk153 ?_)
                refine r_cN hk152 (zU z0 ?_)
                refine zB hkq137 h hIq137 (.b) rfl
              · have g161E := isE_f g161
                obtain ⟨g163, h⟩ := gAp h
                refine zU (zRF (a2 g161E g163)) (r_bN hk153 ?_)
                refine r_cN hk152 (zU z0 ?_)
                refine zB hkq137 h hIq137 (.a) trivial
          · refine r_exit (r_cE hk151 ?_)
            replace h := zX h hEq137 hKq137
            simp only [Sum.elim_inl, Sum.elim_inr] at h
            refine r_kE hkq137 (r_bE hk96 ?_)
            refine zJ J93 [0, 3, 4] (.b) [] ⟨rfl, h⟩
noncomputable def spec_l17Known (v1 : Int) (v2 : Int) : Option Bool :=
  (cond (v1 == 10) (some ((decide (v2 ≥ 21)) && (decide (v2 ≤ 37)))) (some ((decide (v2 ≥ 1)) && (decide (v2 ≤ 10)))))
theorem con_spec_l17Known (v1 : Int) (v2 : Int) (res_ : Bool) (h : spec_l17Known v1 v2 = some res_) : Con Try.prog C0 41 [.sc (.int .i64 (v1)), .sc (.int .i64 (v2))] []
    (fun x σ' => x = .sc (.bool (res_)) ∧ σ' = []) := by
  refine zCon hP 0 [0, 1, 4, 6] [.tmp 4] Try.func41 (by unfold Try.f41; rfl) fun Q hQ => ?_
  unfold spec_l17Known at h
  refine zS z0 (sem_cut fun k2 hk2 => ?_)
  refine zS z0 ?_
  refine sem_ifh rfl h ?_ ?_ <;> clear h <;> intro h
  · refine zS zR (r_ret ?_)
    refine r_cR hk2 ?_
    cases h
    refine zAR hQ
  · refine r_skip (r_cN hk2 ?_)
    refine zS zR (r_ret ?_)
    cases h
    refine zAR hQ
noncomputable def spec_l17Field (v1 : DevArg) : Option Bool :=
  (cond (v1.Kind == 11) (some (((decide (v1.N ≥ (-32768))) && (decide (v1.N ≤ 32767))) && (v1.P == 0))) (cond (v1.Kind == 12) (some ((((decide (v1.N ≥ (-2147483648))) && (decide (v1.N ≤ 2147483647))) && (decide (v1.P ≥ 0))) && (decide (v1.P ≤ 255)))) (cond (v1.Kind == 13) (some (((decide (v1.N ≥ 0)) && (decide (v1.N ≤ 255))) && (v1.P == 0))) (some (((((decide (v1.Kind ≥ 1)) && (decide (v1.Kind ≤ 10))) && (decide (v1.N ≥ 0))) && (decide (v1.N ≤ 255))) && (v1.P == 0))))))
theorem con_spec_l17Field (v1 : DevArg) (res_ : Bool) (h : spec_l17Field v1 = some res_) : Con Try.prog C0 60 [.agg [.sc (.int .i64 (v1.Kind)), .sc (.int .i64 (v1.N)), .sc (.int .i64 (v1.P))]] []
    (fun x σ' => x = .sc (.bool (res_)) ∧ σ' = []) := by
  refine zCon hP 0 [0, 1, 2, 4, 5, 20, 40] [.tmp 2] Try.func60 (by unfold Try.f60; rfl) fun Q hQ => ?_
  unfold spec_l17Field at h
  refine zS z0 (sem_cut fun k2 hk2 => ?_)
  refine zS z0 (sem_blk fun k4 hk4 => ?_)
  refine zS z0 ?_
  refine sem_ifh rfl h ?_ ?_ <;> clear h <;> intro h
  · refine zS zR (r_ret ?_)
    refine r_bR hk4 (r_cR hk2 ?_)
    cases h
    refine zAR hQ
  · refine zS z0 ?_
    refine sem_ifh rfl h ?_ ?_ <;> clear h <;> intro h
    · refine zS zR (r_ret ?_)
      refine r_bR hk4 (r_cR hk2 ?_)
      cases h
      refine zAR hQ
    · refine zS z0 ?_
      refine sem_ifh rfl h ?_ ?_ <;> clear h <;> intro h
      · refine zS zR (r_ret ?_)
        refine r_bR hk4 (r_cR hk2 ?_)
        cases h
        refine zAR hQ
      · refine r_skip (r_bN hk4 ?_)
        refine r_cN hk2 (zS zR ?_)
        refine r_ret ?_
        cases h
        refine zAR hQ
noncomputable def spec_l17Wrong_j35 : Unit → Option Int
  | () => (some 0)
noncomputable def spec_l17Wrong_s39 (v1 : Inst) : Int → Option (Int ⊕ (Unit ⊕ Unit))
  | v16 => (cond (decide (v16 < ((v1.One_Args).length : Int))) (Option.bind (idx v1.One_Args (v16)) fun v21 => (Option.bind (spec_l17Field v21) fun v22 => (cond (!v22) (some (.inr (.inl ()))) (some (.inl (IntKind.i64.wrap (v16 + 1))))))) (some (.inr (.inr ()))))
noncomputable def spec_l17Wrong (v1 : Inst) : Option Int :=
  (cond ((decide (v1.Code < 1)) || (decide (v1.Code > 11))) (some 2) (Option.bind (spec_l17Has v1.Code) fun v2 => (cond (!v2) (cond ((v1.One_Op != 0) || (decide (((v1.One_Args).length : Int) > 0))) (some 2) (some 0)) (Option.bind (spec_l17Known v1.Code v1.One_Op) fun v3 => (cond v3 (Option.bind (spec_ElemArity v1.One_Op) fun v4 => (cond (((v1.One_Args).length : Int) != v4) (some 2) ((loop (spec_l17Wrong_s39 v1) 0).bind (Sum.elim (fun v19 => (some 3)) (fun v20 => (spec_l17Wrong_j35 ())))))) (some 2))))))
theorem con_spec_l17Wrong (v1 : Inst) (res_ : Int) (h : spec_l17Wrong v1 = some res_) : Con Try.prog C0 30 [.agg [.sc (.int .i64 (v1.Code)), .sc (.int .i64 (v1.One_Op)), .fz 3 (R e_DevArg (v1.One_Args))]] []
    (fun x σ' => x = .sc (.int .i64 (res_)) ∧ σ' = []) := by
  refine zCon hP 0 [0, 1, 2, 3, 11, 15, 26, 44, 50, 60] [.tmp 2] Try.func30 (by unfold Try.f30; rfl) fun Q hQ => ?_
  unfold spec_l17Wrong at h
  refine zS z0 (sem_cut fun k2 hk2 => ?_)
  refine zS zR ?_
  refine sem_ifh rfl h ?_ ?_ <;> clear h <;> intro h
  · refine zS z0 (r_ret ?_)
    refine r_cR hk2 ?_
    cases h
    refine zAR hQ
  · refine r_skip (r_cN hk2 ?_)
    refine sem_cut fun k5 hk5 => ?_
    obtain ⟨v2, c7H, h⟩ := bind_some' h
    refine zS (zC1 (lF [] (con_spec_l17Has _ _ c7H))) ?_
    refine sem_ifh rfl h ?_ ?_ <;> clear h <;> intro h
    · refine sem_cut fun k8 hk8 => zS zR ?_
      refine sem_ifh rfl h ?_ ?_ <;> clear h <;> intro h
      · refine zS z0 (r_ret ?_)
        refine r_cR hk8 (r_cR hk5 ?_)
        cases h
        refine zAR hQ
      · refine r_skip (r_cN hk8 ?_)
        refine zS z0 (r_ret ?_)
        refine r_cR hk5 ?_
        cases h
        refine zAR hQ
    · refine r_skip (r_cN hk5 ?_)
      refine sem_cut fun k12 hk12 => sem_cut fun k13 hk13 => ?_
      obtain ⟨v3, c14H, h⟩ := bind_some' h
      rcases Bool.eq_false_or_eq_true v3 with g15 | g15
      · replace h := cond_t h g15
        obtain ⟨v4, c16H, h⟩ := bind_some' h
        refine zU (zPC2F (.take 0 (.take 1 (.take 2 (.take 3 (.take 4 (.one 5 (.take 6 (.take 7 (.take 8 (.take 9 (.take 10 (.take 11 (.take 12 (.take 13 (.take 14 (.one 15 (.take 16 (.take 17 .done)))))))))))))))))) [0] (lF [] (con_spec_l17Known _ _ _ c14H)) (lF [] (con_spec_ElemArity _ _ c16H)) g15) (r_cN hk13 ?_)
        refine sem_ifh rfl h ?_ ?_ <;> clear h <;> intro h
        · refine zS z0 (r_ret ?_)
          refine r_cR hk12 ?_
          cases h
          refine zAR hQ
        · refine r_skip (r_cN hk12 ?_)
          refine zCut (fun (x : Unit) => ⟨[], []⟩) spec_l17Wrong_j35 res_ ?_ ?_
          · rintro _ _ h
            simp only [spec_l17Wrong_j35] at h
            refine zS z0 (r_ret ?_)
            cases h
            refine zAR hQ
          · intro k47 hk47 J46
            refine zS z0 (sem_blk fun k49 hk49 => ?_)
            obtain ⟨oq66, hLq66, hKq66⟩ := bind_some' h
            clear h
            refine sem_loopP [1, 3] (fun (_ : Unit) (x : Int) => (⟨[(1, .pt 0 0), (3, .sc (.int .i64 (x)))], [.rc [.sc (.int .i64 (v1.Code)), .sc (.int .i64 (v1.One_Op)), .fz 3 (R e_DevArg (v1.One_Args))]]⟩ : St)) (fun (_ : Unit) (x : Int) => True) (spec_l17Wrong_s39 v1) () 0 hLq66 (by rfl) (by rfl) ⟨?_, trivial⟩ ?_
            · first | exact wkSt_same rfl | (simp (decide := true) only [go_sem, reduceIte, Nat.reduceAdd, Int.reduceToNat, Nat.reduceSub, Nat.reduceMul]; exact wkSt_same rfl)
            · rintro nq66 _ v16 xq66 kq66 hkq66 - h hIq66 hEq66
              simp only [spec_l17Wrong_s39] at h
              refine sem_cut fun k67 hk67 => zS z0 ?_
              refine sem_ifh rfl h ?_ ?_ <;> clear h <;> intro h
              · refine r_skip (r_cN hk67 ?_)
                refine sem_cut fun k69 hk69 => sem_blk fun k70 hk70 => ?_
                obtain ⟨v21, h, c72⟩ := bI h
                obtain ⟨v22, c73H, h⟩ := bind_some' h
                refine zS (zC1F (lF [] (con_spec_l17Field _ _ c73H)) c72) ?_
                refine sem_ifh rfl h ?_ ?_ <;> clear h <;> intro h
                · refine zS z0 (r_ret ?_)
                  refine r_bR hk70 (r_cR hk69 ?_)
                  replace h := zX h hEq66 hKq66
                  simp only [Sum.elim_inl, Sum.elim_inr] at h
                  refine r_kR hkq66 (r_bR hk49 ?_)
                  refine r_jR hk47 ?_
                  cases h
                  refine zAR hQ
                · refine r_skip (r_bN hk70 ?_)
                  refine r_cN hk69 (zU z0 ?_)
                  refine zB hkq66 h hIq66 () trivial
              · refine r_exit (r_cE hk67 ?_)
                replace h := zX h hEq66 hKq66
                simp only [Sum.elim_inl, Sum.elim_inr] at h
                refine r_kE hkq66 (r_bE hk49 ?_)
                refine zJ J46 [] () _ h
      · replace h := cond_f h g15
        refine zU (zPC1F (.take 0 (.take 1 (.take 2 (.take 3 (.take 4 (.one 5 (.take 6 (.take 7 (.take 8 (.take 9 (.take 10 (.take 11 (.take 12 (.take 13 (.take 14 (.one 15 (.take 16 (.take 17 .done)))))))))))))))))) [0] (lF [] (con_spec_l17Known _ _ _ c14H)) g15) (r_cN hk13 ?_)
        refine sem_ifT rfl ?_
        try replace h := cond_t h rfl
        refine zS z0 (r_ret ?_)
        refine r_cR hk12 ?_
        cases h
        refine zAR hQ
noncomputable def spec_l17Wide (v1 : Int) : Option Int :=
  (cond (v1 == 11) (some 2) (cond (v1 == 12) (some 4) (some 1)))
theorem con_spec_l17Wide (v1 : Int) (res_ : Int) (h : spec_l17Wide v1 = some res_) : Con Try.prog C0 61 [.sc (.int .i64 (v1))] []
    (fun x σ' => x = .sc (.int .i64 (res_)) ∧ σ' = []) := by
  refine zCon hP 0 [0, 2, 3, 4, 6] [.tmp 2] Try.func61 (by unfold Try.f61; rfl) fun Q hQ => ?_
  unfold spec_l17Wide at h
  refine zS z0 (sem_cut fun k2 hk2 => ?_)
  refine zS z0 (sem_blk fun k4 hk4 => ?_)
  refine zS z0 ?_
  refine sem_ifh rfl h ?_ ?_ <;> clear h <;> intro h
  · refine zS z0 (r_ret ?_)
    refine r_bR hk4 (r_cR hk2 ?_)
    cases h
    refine zAR hQ
  · refine zS z0 ?_
    refine sem_ifh rfl h ?_ ?_ <;> clear h <;> intro h
    · refine zS z0 (r_ret ?_)
      refine r_bR hk4 (r_cR hk2 ?_)
      cases h
      refine zAR hQ
    · refine r_skip (r_bN hk4 ?_)
      refine r_cN hk2 (zS z0 ?_)
      refine r_ret ?_
      cases h
      refine zAR hQ
noncomputable def spec_l17Num_j5 : (List Int) → Option (List Int)
  | v13 => (some v13)
noncomputable def spec_l17Num_j20 (v16 : Int) (v17 : (List Int)) (v18 : Int) : Int → Option ((Int × (List Int) × Int) ⊕ (List Int))
  | v22 => (Option.bind (idx v17 (v18)) fun v23 => (some (.inl ((IntKind.i64.wrap (((IntKind.i64.wrap (v16 - v22))).tdiv 256)), ((v17).set (v18).toNat (IntKind.u8.wrap (v22))), (IntKind.i64.wrap (v18 - 1))))))
noncomputable def spec_l17Num_s9 : (Int × (List Int) × Int) → Option ((Int × (List Int) × Int) ⊕ (List Int))
  | (v16, v17, v18) => (cond (decide (v18 ≥ 0)) (cond (decide (((v16).tmod 256) < 0)) (spec_l17Num_j20 v16 v17 v18 (IntKind.i64.wrap (((v16).tmod 256) + 256))) (spec_l17Num_j20 v16 v17 v18 ((v16).tmod 256))) (some (.inr v17)))
noncomputable def spec_l17Num (v1 : Int) (v2 : Int) : Option (List Int) :=
  (gd (mkOk (v2) (v2) 1) ((loop spec_l17Num_s9 (v1, (List.replicate (v2).toNat 0), (IntKind.i64.wrap (v2 - 1)))).bind (fun v21 => (spec_l17Num_j5 v21))))
theorem con_spec_l17Num (v1 : Int) (v2 : Int) (res_ : (List Int)) (h : spec_l17Num v1 v2 = some res_) : Con Try.prog C0 32 [.sc (.int .i64 (v1)), .sc (.int .i64 (v2))] []
    (fun x σ' => x = .sl 0 0 ((res_).length) ∧ σ' = [.arr true 1 (R e_u8 (res_))]) := by
  refine zCon hP 0 [0, 1, 4, 5, 6, 7, 13, 19] [.tmp 4] Try.func32 (by unfold Try.f32; rfl) fun Q hQ => ?_
  unfold spec_l17Num at h
  refine zS z0 ?_
  obtain ⟨g3, h⟩ := gMk h
  refine zS (zRF g3) (zCut (fun (x : (List Int)) => ⟨[(5, .sl 0 0 ((x).length))], [.arr true 1 (R e_u8 (x))]⟩) spec_l17Num_j5 res_ ?_ ?_)
  · rintro _ v13 h
    simp only [spec_l17Num_j5] at h
    refine zS z0 (r_ret ?_)
    cases h
    refine zOR hQ
  · intro k42 hk42 J41
    refine zS z0 (sem_blk fun k44 hk44 => ?_)
    obtain ⟨oq67, hLq67, hKq67⟩ := bind_some' h
    clear h
    refine sem_loopP [0, 5, 6] (fun (_ : Unit) (x : (Int × (List Int) × Int)) => (⟨[(0, .sc (.int .i64 (x.1))), (5, .sl 0 0 ((x.2.1).length)), (6, .sc (.int .i64 (x.2.2)))], [.arr true 1 (R e_u8 (x.2.1))]⟩ : St)) (fun (_ : Unit) (x : (Int × (List Int) × Int)) => True) spec_l17Num_s9 () (v1, (List.replicate (v2).toNat 0), (IntKind.i64.wrap (v2 - 1))) hLq67 (by rfl) (by rfl) ⟨?_, trivial⟩ ?_
    · first | exact wkSt_same rfl | (simp (decide := true) only [go_sem, reduceIte, Nat.reduceAdd, Int.reduceToNat, Nat.reduceSub, Nat.reduceMul]; exact wkSt_same rfl)
    · rintro nq67 _ ⟨v16, v17, v18⟩ xq67 kq67 hkq67 - h hIq67 hEq67
      simp only [spec_l17Num_s9] at h
      refine sem_cut fun k68 hk68 => zS z0 ?_
      refine sem_ifh rfl h ?_ ?_ <;> clear h <;> intro h
      · refine r_skip (r_cN hk68 ?_)
        refine sem_cut fun k70 hk70 => sem_blk fun k71 hk71 => zS zR (zCut (fun (x : Int) => ⟨[(0, .sc (.int .i64 (v16))), (5, .sl 0 0 ((v17).length)), (6, .sc (.int .i64 (v18))), (7, .sc (.int .i64 (x)))], [.arr true 1 (R e_u8 (v17))]⟩) (spec_l17Num_j20 v16 v17 v18) xq67 ?_ ?_)
        · rintro _ v22 h
          simp only [spec_l17Num_j20] at h
          obtain ⟨v23, h, c75⟩ := bI h
          refine zS (zRF c75) (zU zR ?_)
          refine r_bN hk71 (r_cN hk70 ?_)
          refine zU z0 (zB hkq67 h hIq67 () trivial)
        · intro k77 hk77 J76
          refine zS z0 ?_
          refine sem_ifh rfl h ?_ ?_ <;> clear h <;> intro h
          · refine zU z0 (zJ J76 [0, 5, 6, 7] () _ h)
          · refine r_skip (zJ J76 [0, 5, 6, 7] () _ h)
      · refine r_exit (r_cE hk68 ?_)
        replace h := zX h hEq67 hKq67
        refine r_kE hkq67 (r_bE hk44 ?_)
        refine zJ J41 [5] () _ h
noncomputable def spec_l17Inst_j15 : (List Int) → Option (List Int)
  | v27 => (some v27)
noncomputable def spec_l17Inst_j26 (v36 : Int) : (List Int) → Option (((List Int) × Int) ⊕ (List Int))
  | v48 => (some (.inl (v48, (IntKind.i64.wrap (v36 + 1)))))
noncomputable def spec_l17Inst_s19 (v1 : Inst) : ((List Int) × Int) → Option (((List Int) × Int) ⊕ (List Int))
  | (v35, v36) => (cond (decide (v36 < ((v1.One_Args).length : Int))) (Option.bind (idx v1.One_Args (v36)) fun v49 => (gd (apOk ((v35 ++ [(IntKind.u8.wrap (v49.Kind))])).length 1) (Option.bind (spec_l17Wide v49.Kind) fun v50 => (Option.bind (spec_l17Num v49.N v50) fun v51 => (gd (apOk (((v35 ++ [(IntKind.u8.wrap (v49.Kind))]) ++ v51)).length 1) (cond (v49.Kind == 12) (gd (apOk ((((v35 ++ [(IntKind.u8.wrap (v49.Kind))]) ++ v51) ++ [(IntKind.u8.wrap (v49.P))])).length 1) (spec_l17Inst_j26 v36 (((v35 ++ [(IntKind.u8.wrap (v49.Kind))]) ++ v51) ++ [(IntKind.u8.wrap (v49.P))]))) (spec_l17Inst_j26 v36 ((v35 ++ [(IntKind.u8.wrap (v49.Kind))]) ++ v51)))))))) (some (.inr v35)))
noncomputable def spec_l17Inst (v1 : Inst) : Option (List Int) :=
  (Option.bind (spec_l17Has v1.Code) fun v2 => (cond (!v2) (some [(IntKind.u8.wrap (v1.Code))]) (gd (apOk (([(IntKind.u8.wrap (v1.Code))] ++ [(IntKind.u8.wrap (v1.One_Op))])).length 1) ((loop (spec_l17Inst_s19 v1) (([(IntKind.u8.wrap (v1.Code))] ++ [(IntKind.u8.wrap (v1.One_Op))]), 0)).bind (fun v44 => (spec_l17Inst_j15 v44))))))
theorem con_spec_l17Inst (v1 : Inst) (res_ : (List Int)) (h : spec_l17Inst v1 = some res_) : Con Try.prog C0 31 [.agg [.sc (.int .i64 (v1.Code)), .sc (.int .i64 (v1.One_Op)), .fz 3 (R e_DevArg (v1.One_Args))]] []
    (fun x σ' => x = .sl 0 0 ((res_).length) ∧ σ' = [.arr true 1 (R e_u8 (res_))]) := by
  refine zCon hP 0 [0, 1, 2, 3, 4, 5, 13, 27, 52] [.tmp 2] Try.func31 (by unfold Try.f31; rfl) fun Q hQ => ?_
  unfold spec_l17Inst at h
  refine zS z0 (zS z0 ?_)
  refine sem_cut fun k3 hk3 => ?_
  obtain ⟨v2, c5H, h⟩ := bind_some' h
  refine zS (zC1 (lF [] (con_spec_l17Has _ _ c5H))) ?_
  refine sem_ifh rfl h ?_ ?_ <;> clear h <;> intro h
  · refine zS z0 (r_ret ?_)
    refine r_cR hk3 ?_
    cases h
    refine zOR hQ
  · refine r_skip (r_cN hk3 ?_)
    obtain ⟨g8, h⟩ := gAp h
    refine zS (zRFn g8) (zCut (fun (x : (List Int)) => ⟨[(3, .sl 0 0 ((x).length))], [.arr true 1 (R e_u8 (x))]⟩) spec_l17Inst_j15 res_ ?_ ?_)
    · rintro _ v27 h
      simp only [spec_l17Inst_j15] at h
      refine zS z0 (r_ret ?_)
      cases h
      refine zOR hQ
    · intro k92 hk92 J91
      refine zS z0 (sem_blk fun k94 hk94 => ?_)
      obtain ⟨oq147, hLq147, hKq147⟩ := bind_some' h
      clear h
      refine sem_loopP [1, 3, 4] (fun (_ : Unit) (x : ((List Int) × Int)) => (⟨[(1, .pt 0 0), (3, .sl 1 0 ((x.1).length)), (4, .sc (.int .i64 (x.2)))], [.rc [.sc (.int .i64 (v1.Code)), .sc (.int .i64 (v1.One_Op)), .fz 3 (R e_DevArg (v1.One_Args))], .arr true 1 (R e_u8 (x.1))]⟩ : St)) (fun (_ : Unit) (x : ((List Int) × Int)) => True) (spec_l17Inst_s19 v1) () (([(IntKind.u8.wrap (v1.Code))] ++ [(IntKind.u8.wrap (v1.One_Op))]), 0) hLq147 (by rfl) (by rfl) ⟨?_, trivial⟩ ?_
      · first | exact wkSt_same rfl | (simp (decide := true) only [go_sem, reduceIte, Nat.reduceAdd, Int.reduceToNat, Nat.reduceSub, Nat.reduceMul]; exact wkSt_same rfl)
      · rintro nq147 _ ⟨v35, v36⟩ xq147 kq147 hkq147 - h hIq147 hEq147
        simp only [spec_l17Inst_s19] at h
        refine sem_cut fun k148 hk148 => zS z0 ?_
        refine sem_ifh rfl h ?_ ?_ <;> clear h <;> intro h
        · refine r_skip (r_cN hk148 ?_)
          refine zCut (fun (x : (List Int)) => ⟨[(1, .pt 0 0), (3, .sl 1 0 ((x).length)), (4, .sc (.int .i64 (v36)))], [.rc [.sc (.int .i64 (v1.Code)), .sc (.int .i64 (v1.One_Op)), .fz 3 (R e_DevArg (v1.One_Args))], .arr true 1 (R e_u8 (x))]⟩) (spec_l17Inst_j26 v36) xq147 ?_ ?_
          · rintro _ v48 h
            simp only [spec_l17Inst_j26] at h
            refine zU z0 (zB hkq147 h hIq147 () trivial)
          · intro k162 hk162 J161
            refine sem_blk fun k163 hk163 => ?_
            obtain ⟨v49, h, c165⟩ := bI h
            refine zS (zRF c165) ?_
            obtain ⟨g167, h⟩ := gAp h
            refine zS (zRF g167) ?_
            obtain ⟨v50, c169H, h⟩ := bind_some' h
            obtain ⟨v51, c170H, h⟩ := bind_some' h
            obtain ⟨g171, h⟩ := gAp h
            refine zS (zPC2F (.take 0 (.take 1 (.take 2 (.take 3 (.take 4 (.one 5 (.one 6 (.one 7 (.take 8 .done))))))))) [2] (lF [] (con_spec_l17Wide _ _ c169H)) (lF [] (con_spec_l17Num _ _ _ c170H)) g171) (zS z0 ?_)
            refine sem_ifh rfl h ?_ ?_ <;> clear h <;> intro h
            · obtain ⟨g173, h⟩ := gAp h
              refine zU (zRF g173) (r_bN hk163 ?_)
              refine zJ J161 [1, 3, 4] () _ h
            · refine r_skip (r_bN hk163 ?_)
              refine zJ J161 [1, 3, 4] () _ h
        · refine r_exit (r_cE hk148 ?_)
          replace h := zX h hEq147 hKq147
          refine r_kE hkq147 (r_bE hk94 ?_)
          refine zJ J91 [3] () _ h
noncomputable def spec_l17Xor_j7 : Int → Option Int
  | v11 => (some v11)
noncomputable def spec_l17Xor_j17 (v13 : Int) (v14 : Int) (v16 : Int) : Int → Option ((Int × Int × Int × Int) ⊕ Int)
  | v19 => (some (.inl ((IntKind.i64.wrap ((v13).tdiv 2)), (IntKind.i64.wrap ((v14).tdiv 2)), v19, (IntKind.i64.wrap (v16 * 2)))))
noncomputable def spec_l17Xor_s9 : (Int × Int × Int × Int) → Option ((Int × Int × Int × Int) ⊕ Int)
  | (v13, v14, v15, v16) => (cond (decide (v16 < 65536)) (cond (((v13).tmod 2) != ((v14).tmod 2)) (spec_l17Xor_j17 v13 v14 v16 (IntKind.i64.wrap (v15 + v16))) (spec_l17Xor_j17 v13 v14 v16 v15)) (some (.inr v15)))
noncomputable def spec_l17Xor (v1 : Int) (v2 : Int) : Option Int :=
  ((loop spec_l17Xor_s9 (v1, v2, 0, 1)).bind (fun v18 => (spec_l17Xor_j7 v18)))
theorem con_spec_l17Xor (v1 : Int) (v2 : Int) (res_ : Int) (h : spec_l17Xor v1 v2 = some res_) : Con Try.prog C0 37 [.sc (.int .i64 (v1)), .sc (.int .i64 (v2))] []
    (fun x σ' => x = .sc (.int .i64 (res_)) ∧ σ' = []) := by
  refine zCon hP 0 [0, 1, 4, 5, 6, 8, 13] [.tmp 4] Try.func37 (by unfold Try.f37; rfl) fun Q hQ => ?_
  unfold spec_l17Xor at h
  refine zS z0 (zS z0 ?_)
  refine zS z0 (zCut (fun (x : Int) => ⟨[(5, .sc (.int .i64 (x)))], []⟩) spec_l17Xor_j7 res_ ?_ ?_)
  · rintro _ v11 h
    simp only [spec_l17Xor_j7] at h
    refine zS z0 (r_ret ?_)
    cases h
    refine zAR hQ
  · intro k35 hk35 J34
    refine sem_blk fun k36 hk36 => ?_
    obtain ⟨oq55, hLq55, hKq55⟩ := bind_some' h
    clear h
    refine sem_loopP [0, 1, 5, 6] (fun (_ : Unit) (x : (Int × Int × Int × Int)) => (⟨[(0, .sc (.int .i64 (x.1))), (1, .sc (.int .i64 (x.2.1))), (5, .sc (.int .i64 (x.2.2.1))), (6, .sc (.int .i64 (x.2.2.2)))], []⟩ : St)) (fun (_ : Unit) (x : (Int × Int × Int × Int)) => True) spec_l17Xor_s9 () (v1, v2, 0, 1) hLq55 (by rfl) (by rfl) ⟨?_, trivial⟩ ?_
    · first | exact wkSt_same rfl | (simp (decide := true) only [go_sem, reduceIte, Nat.reduceAdd, Int.reduceToNat, Nat.reduceSub, Nat.reduceMul]; exact wkSt_same rfl)
    · rintro nq55 _ ⟨v13, v14, v15, v16⟩ xq55 kq55 hkq55 - h hIq55 hEq55
      simp only [spec_l17Xor_s9] at h
      refine sem_cut fun k56 hk56 => zS z0 ?_
      refine sem_ifh rfl h ?_ ?_ <;> clear h <;> intro h
      · refine r_skip (r_cN hk56 ?_)
        refine sem_blk fun k58 hk58 => zCut (fun (x : Int) => ⟨[(0, .sc (.int .i64 (v13))), (1, .sc (.int .i64 (v14))), (5, .sc (.int .i64 (x))), (6, .sc (.int .i64 (v16)))], []⟩) (spec_l17Xor_j17 v13 v14 v16) xq55 ?_ ?_
        · rintro _ v19 h
          simp only [spec_l17Xor_j17] at h
          refine zS zR (zS zR ?_)
          refine zU z0 (r_bN hk58 ?_)
          refine zB hkq55 h hIq55 () trivial
        · intro k63 hk63 J62
          refine zS zR ?_
          refine sem_ifh rfl h ?_ ?_ <;> clear h <;> intro h
          · refine zU z0 (zJ J62 [0, 1, 5, 6] () _ h)
          · refine r_skip (zJ J62 [0, 1, 5, 6] () _ h)
      · refine r_exit (r_cE hk56 ?_)
        replace h := zX h hEq55 hKq55
        refine r_kE hkq55 (r_bE hk36 ?_)
        refine zJ J34 [5] () _ h
noncomputable def spec_l17Round (v1 : Int) : Option Int :=
  (cond (decide ((IntKind.i64.wrap (v1 * 2)) ≥ 65536)) (Option.bind (spec_l17Xor (IntKind.i64.wrap ((IntKind.i64.wrap (v1 * 2)) - 65536)) 4129) fun v2 => (some v2)) (some (IntKind.i64.wrap (v1 * 2))))
theorem con_spec_l17Round (v1 : Int) (res_ : Int) (h : spec_l17Round v1 = some res_) : Con Try.prog C0 38 [.sc (.int .i64 (v1))] []
    (fun x σ' => x = .sc (.int .i64 (res_)) ∧ σ' = []) := by
  refine zCon hP 0 [0, 2, 6] [.tmp 2] Try.func38 (by unfold Try.f38; rfl) fun Q hQ => ?_
  unfold spec_l17Round at h
  refine zS z0 (zS z0 ?_)
  refine sem_cut fun k3 hk3 => zS z0 ?_
  refine sem_ifh rfl h ?_ ?_ <;> clear h <;> intro h
  · obtain ⟨v2, c6H, h⟩ := bind_some' h
    refine zS (zC1 (lF [] (con_spec_l17Xor _ _ _ c6H))) (r_ret ?_)
    refine r_cR hk3 ?_
    cases h
    refine zAR hQ
  · refine r_skip (r_cN hk3 ?_)
    refine zS z0 (r_ret ?_)
    cases h
    refine zAR hQ
noncomputable def spec_PicSum_j5 : Int → Option Int
  | v56 => (some (IntKind.u16.wrap (v56)))
noncomputable def spec_PicSum_j16 (v75 : Int) : Int → Option ((Int × Int) ⊕ Int)
  | v102 => (some (.inl (v102, (IntKind.i64.wrap (v75 + 1)))))
noncomputable def spec_PicSum_s23 : (Int × Int) → Option ((Int × Int) ⊕ Int)
  | (v106, v107) => (cond (decide (v107 < 8)) (Option.bind (spec_l17Round v106) fun v110 => (some (.inl (v110, (IntKind.i64.wrap (v107 + 1)))))) (some (.inr v106)))
noncomputable def spec_PicSum_s9 (v1 : (List Int)) : (Int × Int) → Option ((Int × Int) ⊕ Int)
  | (v74, v75) => (cond (decide (v75 < ((v1).length : Int))) (Option.bind (idx v1 (v75)) fun v103 => (Option.bind (spec_l17Xor v74 (IntKind.i64.wrap ((IntKind.i64.wrap (v103)) * 256))) fun v104 => ((loop spec_PicSum_s23 (v104, 0)).bind (fun v109 => (spec_PicSum_j16 v75 v109))))) (some (.inr v74)))
noncomputable def spec_PicSum (v1 : (List Int)) : Option Int :=
  ((loop (spec_PicSum_s9 v1) (65535, 0)).bind (fun v93 => (spec_PicSum_j5 v93)))
theorem con_spec_PicSum (v1 : (List Int)) (res_ : Int) (h : spec_PicSum v1 = some res_) : Con Try.prog C0 17 [.fz 1 (R e_u8 (v1))] []
    (fun x σ' => x = .sc (.int .u16 (res_)) ∧ σ' = []) := by
  refine zCon hP 0 [0, 2, 3, 4, 5, 9, 21] [.tmp 2] Try.func17 (by unfold Try.f17; rfl) fun Q hQ => ?_
  unfold spec_PicSum at h
  refine zS z0 (zS z0 ?_)
  refine zCut (fun (x : Int) => ⟨[(3, .sc (.int .i64 (x)))], []⟩) spec_PicSum_j5 res_ ?_ ?_
  · rintro _ v56 h
    simp only [spec_PicSum_j5] at h
    refine zS z0 (r_ret ?_)
    cases h
    refine zAR hQ
  · intro k152 hk152 J151
    refine zS z0 (sem_blk fun k154 hk154 => ?_)
    obtain ⟨oq251, hLq251, hKq251⟩ := bind_some' h
    clear h
    refine sem_loopP [0, 3, 4] (fun (_ : Unit) (x : (Int × Int)) => (⟨[(0, .fz 1 (R e_u8 (v1))), (3, .sc (.int .i64 (x.1))), (4, .sc (.int .i64 (x.2)))], []⟩ : St)) (fun (_ : Unit) (x : (Int × Int)) => True) (spec_PicSum_s9 v1) () (65535, 0) hLq251 (by rfl) (by rfl) ⟨?_, trivial⟩ ?_
    · first | exact wkSt_same rfl | (simp (decide := true) only [go_sem, reduceIte, Nat.reduceAdd, Int.reduceToNat, Nat.reduceSub, Nat.reduceMul]; exact wkSt_same rfl)
    · rintro nq251 _ ⟨v74, v75⟩ xq251 kq251 hkq251 - h hIq251 hEq251
      simp only [spec_PicSum_s9] at h
      refine sem_cut fun k252 hk252 => zS z0 ?_
      refine sem_ifh rfl h ?_ ?_ <;> clear h <;> intro h
      · refine r_skip (r_cN hk252 ?_)
        refine zCut (fun (x : Int) => ⟨[(0, .fz 1 (R e_u8 (v1))), (3, .sc (.int .i64 (x))), (4, .sc (.int .i64 (v75)))], []⟩) (spec_PicSum_j16 v75) xq251 ?_ ?_
        · rintro _ v102 h
          simp only [spec_PicSum_j16] at h
          refine zU z0 (zB hkq251 h hIq251 () trivial)
        · intro k277 hk277 J276
          refine sem_blk fun k278 hk278 => ?_
          obtain ⟨v103, h, c280⟩ := bI h
          obtain ⟨v104, c281H, h⟩ := bind_some' h
          refine zS (zC1F (lF [] (con_spec_l17Xor _ _ _ c281H)) c280) (zS z0 ?_)
          refine sem_blk fun k283 hk283 => ?_
          obtain ⟨oq294, hLq294, hKq294⟩ := bind_some' h
          clear h
          refine sem_loopP [0, 3, 4, 5] (fun (_ : Unit) (x : (Int × Int)) => (⟨[(0, .fz 1 (R e_u8 (v1))), (3, .sc (.int .i64 (x.1))), (4, .sc (.int .i64 (v75))), (5, .sc (.int .i64 (x.2)))], []⟩ : St)) (fun (_ : Unit) (x : (Int × Int)) => True) spec_PicSum_s23 () (v104, 0) hLq294 (by rfl) (by rfl) ⟨?_, trivial⟩ ?_
          · first | exact wkSt_same rfl | (simp (decide := true) only [go_sem, reduceIte, Nat.reduceAdd, Int.reduceToNat, Nat.reduceSub, Nat.reduceMul]; exact wkSt_same rfl)
          · rintro nq294 _ ⟨v106, v107⟩ xq294 kq294 hkq294 - h hIq294 hEq294
            simp only [spec_PicSum_s23] at h
            refine sem_cut fun k295 hk295 => zS z0 ?_
            refine sem_ifh rfl h ?_ ?_ <;> clear h <;> intro h
            · refine r_skip (r_cN hk295 ?_)
              refine sem_cut fun k297 hk297 => sem_blk fun k298 hk298 => ?_
              obtain ⟨v110, c299H, h⟩ := bind_some' h
              refine zU (zC1 (lF [] (con_spec_l17Round _ _ c299H))) (r_bN hk298 ?_)
              refine r_cN hk297 (zU z0 ?_)
              refine zB hkq294 h hIq294 () trivial
            · refine r_exit (r_cE hk295 ?_)
              replace h := zX h hEq294 hKq294
              refine r_kE hkq294 (r_bE hk283 ?_)
              refine r_bN hk278 (zJ J276 [0, 3, 4] () _ h)
      · refine r_exit (r_cE hk252 ?_)
        replace h := zX h hEq251 hKq251
        refine r_kE hkq251 (r_bE hk154 ?_)
        refine zJ J151 [3] () _ h
noncomputable def spec_PicMake_j13 (v1 : (List Inst)) : (List Int) → Option ((List Int) × PicFault)
  | v18 => (Option.bind (spec_l17Num (IntKind.i64.wrap ((((v18).length : Nat) : Int) + 8)) 2) fun v19 => (gd (apOk (([83, 116] ++ v19)).length 1) (Option.bind (spec_l17Num ((v1).length : Int) 2) fun v20 => (gd (apOk ((([83, 116] ++ v19) ++ v20)).length 1) (gd (apOk (((([83, 116] ++ v19) ++ v20) ++ v18)).length 1) (Option.bind (spec_PicSum ((([83, 116] ++ v19) ++ v20) ++ v18)) fun v21 => (Option.bind (spec_l17Num (IntKind.i64.wrap (v21)) 2) fun v22 => (gd (apOk ((((([83, 116] ++ v19) ++ v20) ++ v18) ++ v22)).length 1) (some ((((([83, 116] ++ v19) ++ v20) ++ v18) ++ v22), (⟨0, 0⟩ : PicFault)))))))))))
noncomputable def spec_PicMake_s17 (v1 : (List Inst)) : ((List Int) × Int) → Option (((List Int) × Int) ⊕ ((Int × Int) ⊕ (List Int)))
  | (v27, v28) => (cond (decide (v28 < ((v1).length : Int))) (Option.bind (idx v1 (v28)) fun v35 => (Option.bind (spec_l17Wrong v35) fun v36 => (cond (decide (v36 > 0)) (some (.inr (.inl (v36, v28)))) (Option.bind (idx v1 (v28)) fun v37 => (Option.bind (spec_l17Inst v37) fun v38 => (gd (apOk ((v27 ++ v38)).length 1) (some (.inl ((v27 ++ v38), (IntKind.i64.wrap (v28 + 1))))))))))) (some (.inr (.inr v27))))
noncomputable def spec_PicMake (v1 : (List Inst)) : Option ((List Int) × PicFault) :=
  (cond (decide (((v1).length : Int) > 1000)) (some ([], (⟨1, 0⟩ : PicFault))) ((loop (spec_PicMake_s17 v1) ([], 0)).bind (Sum.elim (fun v33 => (some ([], (⟨v33.1, v33.2⟩ : PicFault)))) (fun v34 => (spec_PicMake_j13 v1 v34)))))
theorem con_spec_PicMake (v1 : (List Inst)) (res_ : ((List Int) × PicFault)) (h : spec_PicMake v1 = some res_) : Con Try.prog C0 10 [.fz 3 (R e_Inst (v1))] []
    (fun x σ' => x = .tup [.fz 1 (R e_u8 (res_.1)), .agg [.sc (.int .i64 (res_.2.Code)), .sc (.int .i64 (res_.2.At))]] ∧ σ' = []) := by
  refine zCon hP 0 [0, 2, 3, 4, 5, 6, 7, 10, 16, 25] [.tmp 2, .cell 3 26] Try.func10 (by unfold Try.f10; rfl) fun Q hQ => ?_
  unfold spec_PicMake at h
  refine zS z0 (sem_cut fun k2 hk2 => ?_)
  refine zS z0 ?_
  refine sem_ifh rfl h ?_ ?_ <;> clear h <;> intro h
  · refine zS z0 (r_ret ?_)
    refine r_cR hk2 ?_
    cases h
    refine zARw hQ
  · refine r_skip (r_cN hk2 ?_)
    refine zS z0 (zCut (fun (x : (List Int)) => ⟨[(0, .fz 3 (R e_Inst (v1))), (3, .pt 0 0), (4, .sl 1 0 ((x).length))], [.rc [.sc (.int .i64 (0)), .sc (.int .i64 (0))], .arr true 1 (R e_u8 (x))]⟩) (spec_PicMake_j13 v1) res_ ?_ ?_)
    · rintro _ v18 h
      simp only [spec_PicMake_j13] at h
      obtain ⟨v19, c49H, h⟩ := bind_some' h
      obtain ⟨g50, h⟩ := gAp h
      refine zS (zC1Fn (lF [] (con_spec_l17Num _ _ _ c49H)) g50) ?_
      obtain ⟨v20, c52H, h⟩ := bind_some' h
      obtain ⟨g53, h⟩ := gAp h
      refine zS (zC1Fn (lF [] (con_spec_l17Num _ _ _ c52H)) g53) ?_
      obtain ⟨g55, h⟩ := gAp h
      refine zS (zRFn g55) ?_
      obtain ⟨v21, c57H, h⟩ := bind_some' h
      obtain ⟨v22, c58H, h⟩ := bind_some' h
      obtain ⟨g59, h⟩ := gAp h
      refine zS (zC2Fn (lF [] (con_spec_PicSum _ _ c57H)) (lF [] (con_spec_l17Num _ _ _ c58H)) g59) (r_ret ?_)
      cases h
      refine zAR hQ
    · intro k61 hk61 J60
      refine zS z0 (sem_blk fun k63 hk63 => ?_)
      obtain ⟨oq90, hLq90, hKq90⟩ := bind_some' h
      clear h
      refine sem_loopP [0, 3, 4, 5] (fun (_ : Unit) (x : ((List Int) × Int)) => (⟨[(0, .fz 3 (R e_Inst (v1))), (3, .pt 0 0), (4, .sl 1 0 ((x.1).length)), (5, .sc (.int .i64 (x.2)))], [.rc [.sc (.int .i64 (0)), .sc (.int .i64 (0))], .arr true 1 (R e_u8 (x.1))]⟩ : St)) (fun (_ : Unit) (x : ((List Int) × Int)) => True) (spec_PicMake_s17 v1) () ([], 0) hLq90 (by rfl) (by rfl) ⟨?_, trivial⟩ ?_
      · first | exact wkSt_same rfl | (simp (decide := true) only [go_sem, reduceIte, Nat.reduceAdd, Int.reduceToNat, Nat.reduceSub, Nat.reduceMul]; exact wkSt_same rfl)
      · rintro nq90 _ ⟨v27, v28⟩ xq90 kq90 hkq90 - h hIq90 hEq90
        simp only [spec_PicMake_s17] at h
        refine sem_cut fun k91 hk91 => zS z0 ?_
        refine sem_ifh rfl h ?_ ?_ <;> clear h <;> intro h
        · refine r_skip (r_cN hk91 ?_)
          refine sem_cut fun k93 hk93 => sem_blk fun k94 hk94 => ?_
          obtain ⟨v35, h, c96⟩ := bI h
          obtain ⟨v36, c97H, h⟩ := bind_some' h
          refine zS (zC1F (lF [] (con_spec_l17Wrong _ _ c97H)) c96) (sem_cut fun k98 hk98 => ?_)
          refine zS z0 ?_
          refine sem_ifh rfl h ?_ ?_ <;> clear h <;> intro h
          · refine zS z0 (r_ret ?_)
            refine r_cR hk98 (r_bR hk94 ?_)
            refine r_cR hk93 ?_
            replace h := zX h hEq90 hKq90
            simp only [Sum.elim_inl, Sum.elim_inr] at h
            refine r_kR hkq90 (r_bR hk63 ?_)
            refine r_jR hk61 ?_
            cases h
            refine zARw hQ
          · refine r_skip (r_cN hk98 ?_)
            obtain ⟨v37, h, c101⟩ := bI h
            obtain ⟨v38, c102H, h⟩ := bind_some' h
            obtain ⟨g103, h⟩ := gAp h
            refine zU (zC1F (lF [] (con_spec_l17Inst _ _ c102H)) (a2 c101 g103)) (r_bN hk94 ?_)
            refine r_cN hk93 (zU z0 ?_)
            refine zB hkq90 h hIq90 () trivial
        · refine r_exit (r_cE hk91 ?_)
          replace h := zX h hEq90 hKq90
          simp only [Sum.elim_inl, Sum.elim_inr] at h
          refine r_kE hkq90 (r_bE hk63 ?_)
          refine zJ J60 [0, 3, 4] () _ h
noncomputable def impl_fromBig_j5 : Int → Option Int
  | v8 => (some v8)
noncomputable def impl_fromBig_s9 (v1 : (List Int)) : (Int × Int) → Option ((Int × Int) ⊕ Int)
  | (v10, v11) => (cond (decide (v11 < ((v1).length : Int))) (Option.bind (idx v1 (v11)) fun v14 => (some (.inl ((bor .i64 (IntKind.i64.wrap (v10 * 256)) (IntKind.i64.wrap (v14))), (IntKind.i64.wrap (v11 + 1)))))) (some (.inr v10)))
noncomputable def impl_fromBig (v1 : (List Int)) : Option Int :=
  ((loop (impl_fromBig_s9 v1) (0, 0)).bind (fun v13 => (impl_fromBig_j5 v13)))
theorem con_impl_fromBig (v1 : (List Int)) (res_ : Int) (h : impl_fromBig v1 = some res_) : Con Try.prog C0 20 [.fz 1 (R e_u8 (v1))] []
    (fun x σ' => x = .sc (.int .i64 (res_)) ∧ σ' = []) := by
  refine zCon hP 0 [0, 2, 3, 5, 6, 7, 8, 9] [.tmp 2] Try.func20 (by unfold Try.f20; rfl) fun Q hQ => ?_
  unfold impl_fromBig at h
  refine zS z0 (zS z0 ?_)
  refine zCut (fun (x : Int) => ⟨[(3, .sc (.int .i64 (x)))], []⟩) impl_fromBig_j5 res_ ?_ ?_
  · rintro _ v8 h
    simp only [impl_fromBig_j5] at h
    refine zS z0 (r_ret ?_)
    cases h
    refine zAR hQ
  · intro k26 hk26 J25
    refine zS z0 (sem_blk fun k28 hk28 => ?_)
    obtain ⟨oq41, hLq41, hKq41⟩ := bind_some' h
    clear h
    refine sem_loopP [3, 6, 7, 8] (fun (_ : Unit) (x : (Int × Int)) => (⟨[(3, .sc (.int .i64 (x.1))), (6, .fz 1 (R e_u8 (v1))), (7, .sc (.int .i64 (((v1).length : Int)))), (8, .sc (.int .i64 (x.2)))], []⟩ : St)) (fun (_ : Unit) (x : (Int × Int)) => True) (impl_fromBig_s9 v1) () (0, 0) hLq41 (by rfl) (by rfl) ⟨?_, trivial⟩ ?_
    · first | exact wkSt_same rfl | (simp (decide := true) only [go_sem, reduceIte, Nat.reduceAdd, Int.reduceToNat, Nat.reduceSub, Nat.reduceMul]; exact wkSt_same rfl)
    · rintro nq41 _ ⟨v10, v11⟩ xq41 kq41 hkq41 - h hIq41 hEq41
      simp only [impl_fromBig_s9] at h
      refine zS z0 (sem_cut fun k43 hk43 => ?_)
      refine sem_ifh rfl h ?_ ?_ <;> clear h <;> intro h
      · refine r_skip (r_cN hk43 ?_)
        refine sem_cut fun k44 hk44 => sem_blk fun k45 hk45 => ?_
        obtain ⟨v14, h, c47⟩ := bI h
        refine zS (zRF c47) (zU zR ?_)
        refine r_bN hk45 (r_cN hk44 ?_)
        refine zU z0 (zB hkq41 h hIq41 () trivial)
      · refine r_exit (r_cE hk43 ?_)
        replace h := zX h hEq41 hKq41
        refine r_kE hkq41 (r_bE hk28 ?_)
        refine zJ J25 [3] () _ h
noncomputable def impl_picReader_take_j7 (v1 : picReader) (v2 : Int) : Int → Option ((List Int) × picReader)
  | v3 => (gd (mkOk (v2) (v2) 1) (some ((List.replicate (v2).toNat 0), (⟨v1.left, v3⟩ : picReader))))
noncomputable def impl_picReader_take (v1 : picReader) (v2 : Int) : Option ((List Int) × picReader) :=
  (cond ((v1.code != 0) || (decide (((v1.left).length : Int) < v2))) (cond (v1.code == 0) (impl_picReader_take_j7 v1 v2 6) (impl_picReader_take_j7 v1 v2 v1.code)) (Option.bind (prtH v1.left (v2)) fun v4 => (Option.bind (prtL v1.left (v2)) fun v5 => (some (v4, (⟨v5, v1.code⟩ : picReader))))))
theorem con_impl_picReader_take (v1 : picReader) (v2 : Int) (res_ : ((List Int) × picReader)) (h : impl_picReader_take v1 v2 = some res_) : Con Try.prog C0 44 [.pt 0 0, .sc (.int .i64 (v2))] [.rc [.fz 1 (R e_u8 (v1.left)), .sc (.int .i64 (v1.code))]]
    (fun x σ' => x = .fz 1 (R e_u8 (res_.1)) ∧ σ' = [.rc [.fz 1 (R e_u8 (res_.2.left)), .sc (.int .i64 (res_.2.code))]]) := by
  refine zCon hP 1 [0, 1, 4, 5, 19, 24] [.tmp 4] Try.func44 (by unfold Try.f44; rfl) fun Q hQ => ?_
  unfold impl_picReader_take at h
  refine zS z0 (sem_cut fun k2 hk2 => ?_)
  refine zS zR ?_
  refine sem_ifh rfl h ?_ ?_ <;> clear h <;> intro h
  · refine zCut (fun (x : Int) => ⟨[(1, .sc (.int .i64 (v2)))], [.rc [.fz 1 (R e_u8 (v1.left)), .sc (.int .i64 (x))]]⟩) (impl_picReader_take_j7 v1 v2) res_ ?_ ?_
    · rintro _ v3 h
      simp only [impl_picReader_take_j7] at h
      obtain ⟨g6, h⟩ := gMk h
      refine zS (zRF g6) (r_ret ?_)
      refine r_cR hk2 ?_
      cases h
      refine zAR hQ
    · intro k8 hk8 J7
      refine zS z0 ?_
      refine sem_ifh rfl h ?_ ?_ <;> clear h <;> intro h
      · refine zU z0 (zJ J7 [1] () _ h)
      · refine r_skip (zJ J7 [1] () _ h)
  · refine r_skip (r_cN hk2 ?_)
    obtain ⟨v4, c11H, h⟩ := bind_some' h
    obtain ⟨c11A, c11B, c11C⟩ := prtH_some c11H
    try simp only [Int.reduceToNat, Int.toNat_zero, Int.toNat_one, Int.toNat_natCast, List.take_length] at c11C
    refine zS (zRF (a3 c11A c11B c11C)) ?_
    obtain ⟨v5, c13H, h⟩ := bind_some' h
    obtain ⟨c13A, c13B, c13C⟩ := prtL_some c13H
    try simp only [Int.reduceToNat, Int.toNat_zero, Int.toNat_one, Int.toNat_natCast, List.take_length] at c13C
    refine zS (zRF (a3 c13A c13B c13C)) (zS z0 ?_)
    refine r_ret ?_
    cases h
    refine zAR hQ
noncomputable def impl_signed_j5 : Int → Option Int
  | v4 => (some v4)
noncomputable def impl_signed (v1 : (List Int)) : Option Int :=
  (Option.bind (impl_fromBig v1) fun v2 => (Option.bind (idx v1 (0)) fun v5 => (cond (decide (v5 ≥ 128)) (gd (decide (0 ≤ (IntKind.i64.wrap (8 * ((v1).length : Int))))) (impl_signed_j5 (IntKind.i64.wrap (v2 - (IntKind.i64.wrap (1 * (pw .i64 (IntKind.i64.wrap (8 * ((v1).length : Int)))))))))) (impl_signed_j5 v2))))
theorem con_impl_signed (v1 : (List Int)) (res_ : Int) (h : impl_signed v1 = some res_) : Con Try.prog C0 64 [.fz 1 (R e_u8 (v1))] []
    (fun x σ' => x = .sc (.int .i64 (res_)) ∧ σ' = []) := by
  refine zCon hP 0 [0, 2, 3, 9] [.tmp 2] Try.func64 (by unfold Try.f64; rfl) fun Q hQ => ?_
  unfold impl_signed at h
  refine zS z0 ?_
  obtain ⟨v2, c3H, h⟩ := bind_some' h
  refine zS (zC1 (lF [] (con_impl_fromBig _ _ c3H))) (zCut (fun (x : Int) => ⟨[(3, .sc (.int .i64 (x)))], []⟩) impl_signed_j5 res_ ?_ ?_)
  · rintro _ v4 h
    simp only [impl_signed_j5] at h
    refine zS z0 (r_ret ?_)
    cases h
    refine zAR hQ
  · intro k9 hk9 J8
    obtain ⟨v5, h, c11⟩ := bN 0 h
    refine zS (zRF c11) ?_
    refine sem_ifh rfl h ?_ ?_ <;> clear h <;> intro h
    · obtain ⟨g12, h⟩ := gDec h
      refine zU (zRF g12) (zJ J8 [3] () _ h)
    · refine r_skip (zJ J8 [3] () _ h)
noncomputable def impl_picReader_arg_j5 (v3 : Int) : ((List Int) × Int × Int × Int) → Option (DevArg × picReader)
  | (v13, v14, v15, v16) => (some ((⟨(IntKind.i64.wrap (v3)), v15, v16⟩ : DevArg), (⟨v13, v14⟩ : picReader)))
noncomputable def impl_picReader_arg (v1 : picReader) : Option (DevArg × picReader) :=
  (Option.bind (impl_picReader_take v1 1) fun v2 => (Option.bind (idx v2.1 (0)) fun v3 => (cond (v2.2.code != 0) (impl_picReader_arg_j5 v3 (v2.2.left, v2.2.code, 0, 0)) (Option.bind (impl_in (IntKind.i64.wrap (v3)) 1 10) fun v17 => (cond (v17 || ((IntKind.i64.wrap (v3)) == 13)) (Option.bind (impl_picReader_take v2.2 1) fun v18 => (Option.bind (idx v18.1 (0)) fun v19 => (impl_picReader_arg_j5 v3 (v18.2.left, v18.2.code, (IntKind.i64.wrap (v19)), 0)))) (cond ((IntKind.i64.wrap (v3)) == 11) (Option.bind (impl_picReader_take v2.2 2) fun v20 => (Option.bind (impl_signed v20.1) fun v21 => (impl_picReader_arg_j5 v3 (v20.2.left, v20.2.code, v21, 0)))) (cond ((IntKind.i64.wrap (v3)) == 12) (Option.bind (impl_picReader_take v2.2 4) fun v22 => (Option.bind (impl_signed v22.1) fun v23 => (Option.bind (impl_picReader_take v22.2 1) fun v24 => (Option.bind (idx v24.1 (0)) fun v25 => (impl_picReader_arg_j5 v3 (v24.2.left, v24.2.code, v23, (IntKind.i64.wrap (v25)))))))) (impl_picReader_arg_j5 v3 (v2.2.left, 3, 0, 0)))))))))
theorem con_impl_picReader_arg (v1 : picReader) (res_ : (DevArg × picReader)) (h : impl_picReader_arg v1 = some res_) : Con Try.prog C0 48 [.pt 0 0] [.rc [.fz 1 (R e_u8 (v1.left)), .sc (.int .i64 (v1.code))]]
    (fun x σ' => x = .agg [.sc (.int .i64 (res_.1.Kind)), .sc (.int .i64 (res_.1.N)), .sc (.int .i64 (res_.1.P))] ∧ σ' = [.rc [.fz 1 (R e_u8 (res_.2.left)), .sc (.int .i64 (res_.2.code))]]) := by
  refine zCon hP 1 [0, 2, 3, 13, 19, 34, 42] [.cell 2 77] Try.func48 (by unfold Try.f48; rfl) fun Q hQ => ?_
  unfold impl_picReader_arg at h
  refine zS z0 ?_
  obtain ⟨v2, c3H, h⟩ := bind_some' h
  obtain ⟨v3, h, c4⟩ := bN 0 h
  refine zS (zC1F (lC [[0]] (con_impl_picReader_take _ _ _ c3H)) c4) (zCut (fun (x : ((List Int) × Int × Int × Int)) => ⟨[(2, .pt 1 0), (3, .pt 2 0)], [.rc [.fz 1 (R e_u8 (x.1)), .sc (.int .i64 (x.2.1))], .rc [.sc (.int .i64 (0)), .sc (.int .i64 (0)), .sc (.int .i64 (0))], .rc [.sc (.int .i64 ((IntKind.i64.wrap (v3)))), .sc (.int .i64 (x.2.2.1)), .sc (.int .i64 (x.2.2.2))]]⟩) (impl_picReader_arg_j5 v3) res_ ?_ ?_)
  · rintro _ ⟨v13, v14, v15, v16⟩ h
    simp only [impl_picReader_arg_j5] at h
    refine zS z0 (r_ret ?_)
    cases h
    refine zAR hQ
  · intro k22 hk22 J21
    refine sem_blk fun k23 hk23 => zS z0 ?_
    refine sem_ifh rfl h ?_ ?_ <;> clear h <;> intro h
    · refine r_skip (r_bN hk23 ?_)
      refine zJ J21 [2, 3] () _ h
    · obtain ⟨v17, c26H, h⟩ := bind_some' h
      refine zS (zC1 (lF [] (con_impl_in _ _ _ _ c26H))) ?_
      refine sem_ifh rfl h ?_ ?_ <;> clear h <;> intro h
      · obtain ⟨v18, c27H, h⟩ := bind_some' h
        obtain ⟨v19, h, c28⟩ := bN 0 h
        refine zU (zC1F (lC [[0]] (con_impl_picReader_take _ _ _ c27H)) c28) (r_bN hk23 ?_)
        refine zJ J21 [2, 3] () _ h
      · refine zS z0 ?_
        refine sem_ifh rfl h ?_ ?_ <;> clear h <;> intro h
        · obtain ⟨v20, c30H, h⟩ := bind_some' h
          obtain ⟨v21, c31H, h⟩ := bind_some' h
          refine zU (zC2 (lC [[0]] (con_impl_picReader_take _ _ _ c30H)) (lF [] (con_impl_signed _ _ c31H))) (r_bN hk23 ?_)
          refine zJ J21 [2, 3] () _ h
        · refine zS z0 ?_
          refine sem_ifh rfl h ?_ ?_ <;> clear h <;> intro h
          · obtain ⟨v22, c34H, h⟩ := bind_some' h
            obtain ⟨v23, c35H, h⟩ := bind_some' h
            refine zS (zC2 (lC [[0]] (con_impl_picReader_take _ _ _ c34H)) (lF [] (con_impl_signed _ _ c35H))) ?_
            obtain ⟨v24, c36H, h⟩ := bind_some' h
            obtain ⟨v25, h, c37⟩ := bN 0 h
            refine zU (zC1F (lC [[0]] (con_impl_picReader_take _ _ _ c36H)) c37) (r_bN hk23 ?_)
            refine zJ J21 [2, 3] () _ h
          · refine zU z0 (r_bN hk23 ?_)
            refine zJ J21 [2, 3] () _ h
noncomputable def impl_picReader_inst_j27 (v3 : Int) (v8 : Int) : ((List Int) × Int × (List DevArg)) → Option (Inst × picReader)
  | (v26, v27, v28) => (some ((⟨(IntKind.i64.wrap (v3)), (IntKind.i64.wrap (v8)), v28⟩ : Inst), (⟨v26, v27⟩ : picReader)))
noncomputable def impl_picReader_inst_s31 (v8 : Int) : ((List Int) × Int × (List DevArg) × Int) → Option (((List Int) × Int × (List DevArg) × Int) ⊕ ((List Int) × Int × (List DevArg)))
  | (v31, v32, v33, v34) => (Option.bind (impl_ElemArity (IntKind.i64.wrap (v8))) fun v40 => (cond ((decide (v34 < v40)) && (v32 == 0)) (Option.bind (impl_picReader_arg (⟨v31, v32⟩ : picReader)) fun v41 => (gd (apOk ((v33 ++ [v41.1])).length 24) (some (.inl (v41.2.left, v41.2.code, (v33 ++ [v41.1]), (IntKind.i64.wrap (v34 + 1))))))) (some (.inr (v31, v32, v33)))))
noncomputable def impl_picReader_inst_j21 (v3 : Int) (v7 : ((List Int) × picReader)) (v8 : Int) : Int → Option (Inst × picReader)
  | v10 => ((loop (impl_picReader_inst_s31 v8) (v7.2.left, v10, [], 0)).bind (fun v39 => (impl_picReader_inst_j27 v3 v8 (v39.1, v39.2.1, v39.2.2))))
noncomputable def impl_picReader_inst_j5 (v2 : ((List Int) × picReader)) (v3 : Int) : Int → Option (Inst × picReader)
  | v5 => (cond (v5 != 0) (some ((⟨(IntKind.i64.wrap (v3)), 0, []⟩ : Inst), (⟨v2.2.left, v5⟩ : picReader))) (Option.bind (impl_hasOne (IntKind.i64.wrap (v3))) fun v6 => (cond (!v6) (some ((⟨(IntKind.i64.wrap (v3)), 0, []⟩ : Inst), (⟨v2.2.left, v5⟩ : picReader))) (Option.bind (impl_picReader_take (⟨v2.2.left, v5⟩ : picReader) 1) fun v7 => (Option.bind (idx v7.1 (0)) fun v8 => (cond (v7.2.code == 0) (Option.bind (impl_opFits (IntKind.i64.wrap (v3)) (IntKind.i64.wrap (v8))) fun v44 => (cond (!v44) (impl_picReader_inst_j21 v3 v7 v8 2) (impl_picReader_inst_j21 v3 v7 v8 v7.2.code))) (impl_picReader_inst_j21 v3 v7 v8 v7.2.code)))))))
noncomputable def impl_picReader_inst (v1 : picReader) : Option (Inst × picReader) :=
  (Option.bind (impl_picReader_take v1 1) fun v2 => (Option.bind (idx v2.1 (0)) fun v3 => (cond (v2.2.code == 0) (Option.bind (impl_in (IntKind.i64.wrap (v3)) 1 11) fun v45 => (cond (!v45) (impl_picReader_inst_j5 v2 v3 2) (impl_picReader_inst_j5 v2 v3 v2.2.code))) (impl_picReader_inst_j5 v2 v3 v2.2.code))))
theorem con_impl_picReader_inst (v1 : picReader) (res_ : (Inst × picReader)) (h : impl_picReader_inst v1 = some res_) : Con Try.prog C0 22 [.pt 0 0] [.rc [.fz 1 (R e_u8 (v1.left)), .sc (.int .i64 (v1.code))]]
    (fun x σ' => x = .agg [.sc (.int .i64 (res_.1.Code)), .sc (.int .i64 (res_.1.One_Op)), .fz 3 (R e_DevArg (res_.1.One_Args))] ∧ σ' = [.rc [.fz 1 (R e_u8 (res_.2.left)), .sc (.int .i64 (res_.2.code))]]) := by
  refine zCon hP 1 [0, 2, 3, 4, 21, 35, 57, 73] [.cell 2 49] Try.func22 (by unfold Try.f22; rfl) fun Q hQ => ?_
  unfold impl_picReader_inst at h
  refine zS z0 ?_
  obtain ⟨v2, c3H, h⟩ := bind_some' h
  obtain ⟨v3, h, c4⟩ := bN 0 h
  refine zS (zC1F (lC [[0]] (con_impl_picReader_take _ _ _ c3H)) c4) (zCut (fun (x : Int) => ⟨[(0, .pt 0 0), (2, .pt 1 0), (3, .pt 2 0)], [.rc [.fz 1 (R e_u8 (v2.2.left)), .sc (.int .i64 (x))], .rc [.sc (.int .i64 (0)), .sc (.int .i64 (0)), .sc (.slice none 0 0)], .rc [.sc (.int .i64 ((IntKind.i64.wrap (v3)))), .sc (.int .i64 (0)), .sc (.slice none 0 0)]]⟩) (impl_picReader_inst_j5 v2 v3) res_ ?_ ?_)
  · rintro _ v5 h
    simp only [impl_picReader_inst_j5] at h
    refine sem_cut fun k8 hk8 => sem_cut fun k9 hk9 => ?_
    rcases Bool.eq_false_or_eq_true (v5 != 0) with g10 | g10
    · replace h := cond_t h g10
      refine zU (zRF g10) (r_cN hk9 ?_)
      refine sem_ifT rfl ?_
      try replace h := cond_t h rfl
      refine zS z0 (r_ret ?_)
      refine r_cR hk8 ?_
      cases h
      refine zARw hQ
    · replace h := cond_f h g10
      obtain ⟨v6, c12H, h⟩ := bind_some' h
      refine zU (zC1F (lF [] (con_impl_hasOne _ _ c12H)) g10) (r_cN hk9 ?_)
      refine sem_ifh rfl h ?_ ?_ <;> clear h <;> intro h
      · refine zS z0 (r_ret ?_)
        refine r_cR hk8 ?_
        cases h
        refine zARw hQ
      · refine r_skip (r_cN hk8 ?_)
        obtain ⟨v7, c15H, h⟩ := bind_some' h
        obtain ⟨v8, h, c16⟩ := bN 0 h
        refine zS (zC1F (lC [[0]] (con_impl_picReader_take _ _ _ c15H)) c16) (zCut (fun (x : Int) => ⟨[(0, .pt 0 0), (2, .pt 1 0), (3, .pt 2 0)], [.rc [.fz 1 (R e_u8 (v7.2.left)), .sc (.int .i64 (x))], .rc [.sc (.int .i64 (0)), .sc (.int .i64 (0)), .sc (.slice none 0 0)], .rc [.sc (.int .i64 ((IntKind.i64.wrap (v3)))), .sc (.int .i64 ((IntKind.i64.wrap (v8)))), .sc (.slice none 0 0)]]⟩) (impl_picReader_inst_j21 v3 v7 v8) res_ ?_ ?_)
        · rintro _ v10 h
          simp only [impl_picReader_inst_j21] at h
          refine sem_cutJ (fun (i : P2) (x : ((List Int) × Int × (List DevArg))) => match i with | .a => (⟨[(2, .pt 1 0), (3, .pt 2 0)], [.rc [.fz 1 (R e_u8 (x.1)), .sc (.int .i64 (x.2.1))], .rc [.sc (.int .i64 (0)), .sc (.int .i64 (0)), .sc (.slice none 0 0)], .rc [.sc (.int .i64 ((IntKind.i64.wrap (v3)))), .sc (.int .i64 ((IntKind.i64.wrap (v8)))), .sl 3 0 ((x.2.2).length)], .arr true 3 (R e_DevArg (x.2.2))]⟩ : St) | .b => (⟨[(2, .pt 1 0), (3, .pt 2 0)], [.rc [.fz 1 (R e_u8 (x.1)), .sc (.int .i64 (x.2.1))], .rc [.sc (.int .i64 (0)), .sc (.int .i64 (0)), .sc (.slice none 0 0)], .rc [.sc (.int .i64 ((IntKind.i64.wrap (v3)))), .sc (.int .i64 ((IntKind.i64.wrap (v8)))), .sc (.slice none 0 0)]]⟩ : St)) (fun (i : P2) (x : ((List Int) × Int × (List DevArg))) => (match i with | .a => True | .b => x.2.2 = []) ∧ impl_picReader_inst_j27 v3 v8 x = some res_) ?_ ?_
          · rintro (_ | _) ⟨v26, v27, v28⟩ ⟨hp, h⟩
            · simp only [impl_picReader_inst_j27] at h
              refine zS z0 (r_ret ?_)
              cases h
              refine zAR hQ
            · replace hp : v28 = [] := hp
              subst hp
              simp only [impl_picReader_inst_j27] at h
              try simp only [List.nil_append, List.length_nil, Int.natCast_zero] at h
              refine zS z0 (r_ret ?_)
              cases h
              refine zARw hQ
          · intro k61 hk61 J60
            refine zS z0 (sem_blk fun k63 hk63 => ?_)
            obtain ⟨oq85, hLq85, hKq85⟩ := bind_some' h
            clear h
            refine sem_loopP [0, 2, 3, 4] (fun (i : P2) (x : ((List Int) × Int × (List DevArg) × Int)) => match i with | .a => (⟨[(0, .pt 0 0), (2, .pt 1 0), (3, .pt 2 0), (4, .sc (.int .i64 (x.2.2.2)))], [.rc [.fz 1 (R e_u8 (x.1)), .sc (.int .i64 (x.2.1))], .rc [.sc (.int .i64 (0)), .sc (.int .i64 (0)), .sc (.slice none 0 0)], .rc [.sc (.int .i64 ((IntKind.i64.wrap (v3)))), .sc (.int .i64 ((IntKind.i64.wrap (v8)))), .sl 3 0 ((x.2.2.1).length)], .arr true 3 (R e_DevArg (x.2.2.1))]⟩ : St) | .b => (⟨[(0, .pt 0 0), (2, .pt 1 0), (3, .pt 2 0), (4, .sc (.int .i64 (x.2.2.2)))], [.rc [.fz 1 (R e_u8 (x.1)), .sc (.int .i64 (x.2.1))], .rc [.sc (.int .i64 (0)), .sc (.int .i64 (0)), .sc (.slice none 0 0)], .rc [.sc (.int .i64 ((IntKind.i64.wrap (v3)))), .sc (.int .i64 ((IntKind.i64.wrap (v8)))), .sc (.slice none 0 0)]]⟩ : St)) (fun (i : P2) (x : ((List Int) × Int × (List DevArg) × Int)) => (match i with | .a => True | .b => x.2.2.1 = [])) (impl_picReader_inst_s31 v8) (.b) (v7.2.left, v10, [], 0) hLq85 (by rfl) (by rfl) ⟨?_, rfl⟩ ?_
            · first | exact wkSt_same rfl | (simp (decide := true) only [go_sem, reduceIte, Nat.reduceAdd, Int.reduceToNat, Nat.reduceSub, Nat.reduceMul]; exact wkSt_same rfl)
            · rintro nq85 (_ | _) ⟨v31, v32, v33, v34⟩ xq85 kq85 hkq85 hp h hIq85 hEq85
              · simp only [impl_picReader_inst_s31] at h
                refine sem_cut fun k86 hk86 => ?_
                obtain ⟨v40, c88H, h⟩ := bind_some' h
                refine zS (zC1 (lF [] (con_impl_ElemArity _ _ c88H))) ?_
                refine sem_ifh rfl h ?_ ?_ <;> clear h <;> intro h
                · refine r_skip (r_cN hk86 ?_)
                  refine sem_cut fun k89 hk89 => sem_blk fun k90 hk90 => ?_
                  obtain ⟨v41, c91H, h⟩ := bind_some' h
                  obtain ⟨g92, h⟩ := gAp h
                  refine zU (zPC1F (.take 0 (.take 1 (.take 2 (.take 3 (.one 4 (.one 5 (.last 6 (.take 7 (.take 8 (.last 9 .done)))))))))) [2] (lC [[0]] (con_impl_picReader_arg _ _ c91H)) g92) (r_bN hk90 ?_)
                  refine r_cN hk89 (zU z0 ?_)
                  refine zB hkq85 h hIq85 (.a) trivial
                · refine r_exit (r_cE hk86 ?_)
                  replace h := zX h hEq85 hKq85
                  refine r_kE hkq85 (r_bE hk63 ?_)
                  refine zJ J60 [2, 3] (.a) (v31, v32, v33) ⟨trivial, h⟩
              · replace hp : v33 = [] := hp
                subst hp
                simp only [impl_picReader_inst_s31] at h
                try simp only [List.nil_append, List.length_nil, Int.natCast_zero] at h
                refine sem_cut fun k93 hk93 => ?_
                obtain ⟨v42, c95H, h⟩ := bind_some' h
                refine zS (zC1 (lF [] (con_impl_ElemArity _ _ c95H))) ?_
                refine sem_ifh rfl h ?_ ?_ <;> clear h <;> intro h
                · refine r_skip (r_cN hk93 ?_)
                  refine sem_cut fun k96 hk96 => sem_blk fun k97 hk97 => ?_
                  obtain ⟨v43, c98H, h⟩ := bind_some' h
                  obtain ⟨g99, h⟩ := gAp h
                  refine zU (zPC1F (.take 0 (.take 1 (.take 2 (.take 3 (.one 4 (.one 5 (.last 6 (.take 7 (.take 8 (.last 9 .done)))))))))) [2] (lC [[0]] (con_impl_picReader_arg _ _ c98H)) g99) (r_bN hk97 ?_)
                  refine r_cN hk96 (zU z0 ?_)
                  refine zB hkq85 h hIq85 (.a) trivial
                · refine r_exit (r_cE hk93 ?_)
                  replace h := zX h hEq85 hKq85
                  refine r_kE hkq85 (r_bE hk63 ?_)
                  refine zJ J60 [2, 3] (.b) (v31, v32, []) ⟨rfl, h⟩
        · intro k101 hk101 J100
          refine sem_cut fun k102 hk102 => ?_
          rcases Bool.eq_false_or_eq_true (v7.2.code == 0) with g103 | g103
          · replace h := cond_t h g103
            obtain ⟨v44, c104H, h⟩ := bind_some' h
            refine zU (zC1F (lF [] (con_impl_opFits _ _ _ c104H)) g103) (r_cN hk102 ?_)
            refine sem_ifh rfl h ?_ ?_ <;> clear h <;> intro h
            · refine zU z0 (zJ J100 [0, 2, 3] () _ h)
            · refine r_skip (zJ J100 [0, 2, 3] () _ h)
          · replace h := cond_f h g103
            refine zU (zRF g103) (r_cN hk102 ?_)
            refine sem_ifF rfl ?_
            try replace h := cond_f h rfl
            refine r_skip (zJ J100 [0, 2, 3] () _ h)
  · intro k106 hk106 J105
    refine sem_cut fun k107 hk107 => ?_
    rcases Bool.eq_false_or_eq_true (v2.2.code == 0) with g108 | g108
    · replace h := cond_t h g108
      obtain ⟨v45, c109H, h⟩ := bind_some' h
      refine zU (zC1F (lF [] (con_impl_in _ _ _ _ c109H)) g108) (r_cN hk107 ?_)
      refine sem_ifh rfl h ?_ ?_ <;> clear h <;> intro h
      · refine zU z0 (zJ J105 [0, 2, 3] () _ h)
      · refine r_skip (zJ J105 [0, 2, 3] () _ h)
    · replace h := cond_f h g108
      refine zU (zRF g108) (r_cN hk107 ?_)
      refine sem_ifF rfl ?_
      try replace h := cond_f h rfl
      refine r_skip (zJ J105 [0, 2, 3] () _ h)
noncomputable def slices_Clone_impl_DevArg_impl_DevArg (v1 : (List DevArg)) : Option (List DevArg) :=
  (nilq v1 fun v2 => (cond v2 (some []) (gd (apOk (v1).length 24) (some v1))))
theorem con_slices_Clone_impl_DevArg_impl_DevArg (v1 : (List DevArg)) (res_ : (List DevArg)) (h : slices_Clone_impl_DevArg_impl_DevArg v1 = some res_) : Con Try.prog C0 73 [.fz 3 (R e_DevArg (v1))] []
    (fun x σ' => x = .fz 3 (R e_DevArg (res_)) ∧ σ' = []) := by
  refine zCon hP 0 [0, 2, 4] [.tmp 2] Try.func73 (by unfold Try.f73; rfl) fun Q hQ => ?_
  unfold slices_Clone_impl_DevArg_impl_DevArg at h
  refine zS z0 (sem_cut fun k2 hk2 => ?_)
  refine sem_cut fun k3 hk3 => ?_
  have c4H := nilq_some h
  clear h
  repeat' (first | with_reducible refine And.intro ?_ ?_ | exact True.intro | with_reducible assumption | exact fun hf => False.elim hf | (intro hg; first | (simp +contextual [hg]; done) | grind) | omega | ((with_reducible refine r_nileq ?_); refine ⟨?_, ?_⟩) | (intro v2 c4B) | simp (decide := true) only [go_sem, reduceIte, Nat.reduceAdd, Int.reduceToNat, Nat.reduceSub, Nat.reduceMul])
  replace h := c4H v2 (fun e => by have e2 := c4B e; simpa only [go_sem, reduceIte, Nat.reduceEqDiff] using e2)
  refine r_cN hk3 ?_
  refine sem_ifh rfl h ?_ ?_ <;> clear h <;> intro h
  · refine zS z0 (r_ret ?_)
    refine r_cR hk2 ?_
    cases h
    refine zARw hQ
  · refine r_skip (r_cN hk2 ?_)
    obtain ⟨g7, h⟩ := gAp h
    refine zS (zRF g7) (r_ret ?_)
    cases h
    refine zAR hQ
noncomputable def slices_Clip_impl_DevArg_impl_DevArg (v1 : (List DevArg)) : Option (List DevArg) :=
  (Option.bind (prtH v1 (((v1).length : Int))) fun v2 => (some v2))
theorem con_slices_Clip_impl_DevArg_impl_DevArg (v1 : (List DevArg)) (res_ : (List DevArg)) (h : slices_Clip_impl_DevArg_impl_DevArg v1 = some res_) : Con Try.prog C0 72 [.fz 3 (R e_DevArg (v1))] []
    (fun x σ' => x = .fz 3 (R e_DevArg (res_)) ∧ σ' = []) := by
  refine zCon hP 0 [0, 2] [.tmp 2] Try.func72 (by unfold Try.f72; rfl) fun Q hQ => ?_
  unfold slices_Clip_impl_DevArg_impl_DevArg at h
  refine zS z0 ?_
  obtain ⟨v2, c3H, h⟩ := bind_some' h
  obtain ⟨c3A, c3B, c3C⟩ := prtH_some c3H
  try simp only [Int.reduceToNat, Int.toNat_zero, Int.toNat_one, Int.toNat_natCast, List.take_length] at c3C
  refine zS (zRF (a3 c3A c3B c3C)) (r_ret ?_)
  cases h
  refine zAR hQ
noncomputable def impl_clone_impl_DevArg (v1 : (List DevArg)) : Option (List DevArg) :=
  (Option.bind (slices_Clone_impl_DevArg_impl_DevArg v1) fun v2 => (Option.bind (slices_Clip_impl_DevArg_impl_DevArg v2) fun v3 => (some v3)))
theorem con_impl_clone_impl_DevArg (v1 : (List DevArg)) (res_ : (List DevArg)) (h : impl_clone_impl_DevArg v1 = some res_) : Con Try.prog C0 65 [.fz 3 (R e_DevArg (v1))] []
    (fun x σ' => x = .fz 3 (R e_DevArg (res_)) ∧ σ' = []) := by
  refine zCon hP 0 [0, 2] [.tmp 2] Try.func65 (by unfold Try.f65; rfl) fun Q hQ => ?_
  unfold impl_clone_impl_DevArg at h
  refine zS z0 ?_
  obtain ⟨v2, c3H, h⟩ := bind_some' h
  obtain ⟨v3, c4H, h⟩ := bind_some' h
  refine zS (zC2 (lC [] (con_slices_Clone_impl_DevArg_impl_DevArg _ _ c3H)) (lC [] (con_slices_Clip_impl_DevArg_impl_DevArg _ _ c4H))) (r_ret ?_)
  cases h
  refine zAR hQ
noncomputable def impl_Elem_copyOf (v1 : Elem) : Option Elem :=
  (Option.bind (impl_clone_impl_DevArg v1.Args) fun v2 => (some (⟨v1.Op, v2⟩ : Elem)))
theorem con_impl_Elem_copyOf (v1 : Elem) (res_ : Elem) (h : impl_Elem_copyOf v1 = some res_) : Con Try.prog C0 49 [.agg [.sc (.int .i64 (v1.Op)), .fz 3 (R e_DevArg (v1.Args))]] []
    (fun x σ' => x = .agg [.sc (.int .i64 (res_.Op)), .fz 3 (R e_DevArg (res_.Args))] ∧ σ' = []) := by
  refine zCon hP 0 [0, 1, 2] [.cell 2 47] Try.func49 (by unfold Try.f49; rfl) fun Q hQ => ?_
  unfold impl_Elem_copyOf at h
  refine zS z0 ?_
  obtain ⟨v2, c3H, h⟩ := bind_some' h
  refine zS (zPC1 (.take 0 (.take 1 (.take 2 (.take 3 (.one 4 (.take 5 (.last 6 .done))))))) [0] (lC [] (con_impl_clone_impl_DevArg _ _ c3H))) (r_ret ?_)
  cases h
  refine zAR hQ
noncomputable def impl_copyList_j5 : (List Inst) → Option (List Inst)
  | v14 => (some v14)
noncomputable def impl_copyList_s9 (v1 : (List Inst)) : ((List Inst) × Int) → Option (((List Inst) × Int) ⊕ (List Inst))
  | (v18, v19) => (cond (decide (v19 < ((v1).length : Int))) (Option.bind (idx v1 (v19)) fun v24 => (Option.bind (impl_Elem_copyOf (⟨v24.One_Op, v24.One_Args⟩ : Elem)) fun v25 => (Option.bind (idx v18 (v19)) fun v26 => (some (.inl (((v18).set (v19).toNat (⟨v24.Code, v25.Op, v25.Args⟩ : Inst)), (IntKind.i64.wrap (v19 + 1)))))))) (some (.inr v18)))
noncomputable def impl_copyList (v1 : (List Inst)) : Option (List Inst) :=
  (gd (mkOk (((v1).length : Int)) (((v1).length : Int)) 40) ((loop (impl_copyList_s9 v1) ((List.replicate (((v1).length : Int)).toNat (⟨0, 0, []⟩ : Inst)), 0)).bind (fun v23 => (impl_copyList_j5 v23))))
theorem con_impl_copyList (v1 : (List Inst)) (res_ : (List Inst)) (h : impl_copyList v1 = some res_) : Con Try.prog C0 23 [.fz 3 (R e_Inst (v1))] []
    (fun x σ' => x = .sl 0 0 ((res_).length) ∧ σ' = [.arr true 3 (R e_Inst (res_))]) := by
  refine zCon hP 0 [0, 2, 3, 4, 5, 9, 10, 11, 12] [.tmp 2] Try.func23 (by unfold Try.f23; rfl) fun Q hQ => ?_
  unfold impl_copyList at h
  refine zS z0 ?_
  obtain ⟨g3, h⟩ := gMk h
  refine zS (zRF g3) (zCut (fun (x : (List Inst)) => ⟨[(3, .sl 0 0 ((x).length))], [.arr true 3 (R e_Inst (x))]⟩) impl_copyList_j5 res_ ?_ ?_)
  · rintro _ v14 h
    simp only [impl_copyList_j5] at h
    refine zS z0 (r_ret ?_)
    cases h
    refine zOR hQ
  · intro k33 hk33 J32
    refine zS z0 (sem_blk fun k35 hk35 => ?_)
    obtain ⟨oq52, hLq52, hKq52⟩ := bind_some' h
    clear h
    refine sem_loopP [3, 9, 10, 11] (fun (_ : Unit) (x : ((List Inst) × Int)) => (⟨[(3, .sl 0 0 ((x.1).length)), (9, .fz 3 (R e_Inst (v1))), (10, .sc (.int .i64 (((v1).length : Int)))), (11, .sc (.int .i64 (x.2)))], [.arr true 3 (R e_Inst (x.1))]⟩ : St)) (fun (_ : Unit) (x : ((List Inst) × Int)) => True) (impl_copyList_s9 v1) () ((List.replicate (((v1).length : Int)).toNat (⟨0, 0, []⟩ : Inst)), 0) hLq52 (by rfl) (by rfl) ⟨?_, trivial⟩ ?_
    · simp (decide := true) only [go_sem, reduceIte, Nat.reduceAdd, Int.reduceToNat, Nat.reduceSub, Nat.reduceMul]
      (apply wkSt_mk <;> repeat' (first | exact wkE_nil | (with_reducible apply wkE_cons) | exact wkC_nil _ | exact wkV_nil _ | exact wkA_nil _ | (with_reducible apply wkV_agg) | (with_reducible apply wkV_tup) | (with_reducible apply wkA_agg) | exact wkA_refl _ | exact wkV_refl _ | exact wkS_nil | (with_reducible apply wkS_cons) | (with_reducible apply wkO_rc) | (with_reducible apply wkO_arr) | exact wkO_refl _ | exact wkL_nil | (with_reducible apply wkL_cons) | exact wkC_refl _ | exact wkT_nil | (with_reducible apply wkT_cons) | (with_reducible apply wkR_appR) | (with_reducible apply wkR_consR) | exact wkR_nilR _ | exact wkR_refl _ | (refine wkR_repR ?_ _) | apply wkL_cons | (simp only [R_len, List.length_append, List.length_cons, List.length_nil, List.length_replicate]; exact wkV_refl _) | (simp only [R_len, List.length_append, List.length_cons, List.length_nil]; exact wkC_refl _) | (with_reducible apply wkV_fz) | (with_reducible apply wkA_fz) | (with_reducible apply wkC_fz) | (with_reducible apply wkR0_consR) | exact wkR0_nilR _ | exact wkL0_nil | apply wkL0_cons | exact wkC0_nil _ | exact wkC0_refl _))
    · rintro nq52 _ ⟨v18, v19⟩ xq52 kq52 hkq52 - h hIq52 hEq52
      simp only [impl_copyList_s9] at h
      refine zS z0 (sem_cut fun k54 hk54 => ?_)
      refine sem_ifh rfl h ?_ ?_ <;> clear h <;> intro h
      · refine r_skip (r_cN hk54 ?_)
        refine sem_cut fun k55 hk55 => sem_blk fun k56 hk56 => ?_
        obtain ⟨v24, h, c58⟩ := bI h
        refine zS (zRF c58) ?_
        obtain ⟨v25, c59H, h⟩ := bind_some' h
        obtain ⟨v26, h, c60⟩ := bI h
        refine zU (zPC1F (.take 0 (.take 1 (.take 2 (.take 3 (.take 4 (.take 5 (.one 6 (.take 7 (.take 8 (.last 9 .done)))))))))) [1] (lC [] (con_impl_Elem_copyOf _ _ c59H)) c60) (r_bN hk56 ?_)
        refine r_cN hk55 (zU z0 ?_)
        refine zB hkq52 h hIq52 () trivial
      · refine r_exit (r_cE hk54 ?_)
        replace h := zX h hEq52 hKq52
        refine r_kE hkq52 (r_bE hk35 ?_)
        refine zJ J32 [3] () _ h
noncomputable def impl_PicRead_j34 (v8 : Int) : ((List Int) × Int × (List Inst)) → Option ((List Inst) × PicFault)
  | (v25, v26, v27) => (cond (decide (((v25).length : Int) > 0)) (some ([], (⟨7, v8⟩ : PicFault))) (Option.bind (impl_copyList v27) fun v28 => (some (v28, (⟨0, 0⟩ : PicFault)))))
noncomputable def impl_PicRead_s38 (v8 : Int) : ((List Int) × Int × (List Inst) × Int) → Option (((List Int) × Int × (List Inst) × Int) ⊕ ((Int × Int) ⊕ ((List Int) × Int × (List Inst))))
  | (v31, v32, v33, v34) => (cond (decide (v34 < v8)) (Option.bind (impl_picReader_inst (⟨v31, v32⟩ : picReader)) fun v39 => (cond (v39.2.code != 0) (some (.inr (.inl (v39.2.code, v34)))) (gd (apOk ((v33 ++ [v39.1])).length 40) (some (.inl (v39.2.left, v39.2.code, (v33 ++ [v39.1]), (IntKind.i64.wrap (v34 + 1)))))))) (some (.inr (.inr (v31, v32, v33)))))
noncomputable def impl_PicRead (v1 : (List Int)) : Option ((List Inst) × PicFault) :=
  (Option.bind (impl_in ((v1).length : Int) 8 20008) fun v2 => (cond v2 (Option.bind (idx v1 (0)) fun v3 => (cond (v3 != 83) (some ([], (⟨4, 0⟩ : PicFault))) (Option.bind (idx v1 (1)) fun v4 => (cond (v4 != 116) (some ([], (⟨4, 0⟩ : PicFault))) (Option.bind (prt v1 (2) (4)) fun v5 => (Option.bind (impl_fromBig v5) fun v6 => (cond (v6 != ((v1).length : Int)) (some ([], (⟨4, 0⟩ : PicFault))) (Option.bind (prt v1 (4) (6)) fun v7 => (Option.bind (impl_fromBig v7) fun v8 => (Option.bind (prtL v1 ((IntKind.i64.wrap (((v1).length : Int) - 2)))) fun v9 => (Option.bind (prtH v1 ((IntKind.i64.wrap (((v1).length : Int) - 2)))) fun v10 => (Option.bind (impl_fromBig v9) fun v11 => (Option.bind (impl_PicSum v10) fun v12 => (cond (v11 != (IntKind.i64.wrap (v12))) (some ([], (⟨5, 0⟩ : PicFault))) (cond (decide (v8 > 1000)) (some ([], (⟨1, 0⟩ : PicFault))) (Option.bind (prt v1 (6) ((IntKind.i64.wrap (((v1).length : Int) - 2)))) fun v13 => ((loop (impl_PicRead_s38 v8) (v13, 0, [], 0)).bind (Sum.elim (fun v37 => (some ([], (⟨v37.1, v37.2⟩ : PicFault)))) (fun v38 => (impl_PicRead_j34 v8 (v38.1, v38.2.1, v38.2.2))))))))))))))))))))) (some ([], (⟨4, 0⟩ : PicFault)))))
theorem con_impl_PicRead (v1 : (List Int)) (res_ : ((List Inst) × PicFault)) (h : impl_PicRead v1 = some res_) : Con Try.prog C0 7 [.fz 1 (R e_u8 (v1))] []
    (fun x σ' => x = .tup [.fz 3 (R e_Inst (res_.1)), .agg [.sc (.int .i64 (res_.2.Code)), .sc (.int .i64 (res_.2.At))]] ∧ σ' = []) := by
  refine zCon hP 0 [0, 2, 3, 4, 5, 6, 7, 8, 9, 33, 38, 52, 62, 63, 64, 72, 89] [.tmp 2, .cell 3 26] Try.func7 (by unfold Try.f7; rfl) fun Q hQ => ?_
  unfold impl_PicRead at h
  refine zS z0 (zS z0 ?_)
  refine sem_cut fun k3 hk3 => sem_cut fun k4 hk4 => ?_
  obtain ⟨v2, c5H, h⟩ := bind_some' h
  rcases Bool.eq_false_or_eq_true v2 with g6 | g6
  · replace h := cond_t h g6
    obtain ⟨v3, h, c7⟩ := bN 0 h
    rcases Bool.eq_false_or_eq_true (v3 != 83) with g8 | g8
    · replace h := cond_t h g8
      refine zU (zC1F (lF [] (con_impl_in _ _ _ _ c5H)) (a3 g6 c7 g8)) (r_cN hk4 ?_)
      refine sem_ifT rfl ?_
      try replace h := cond_t h rfl
      refine zS z0 (r_ret ?_)
      refine r_cR hk3 ?_
      cases h
      refine zARw hQ
    · replace h := cond_f h g8
      obtain ⟨v4, h, c10⟩ := bN 1 h
      rcases Bool.eq_false_or_eq_true (v4 != 116) with g11 | g11
      · replace h := cond_t h g11
        refine zU (zC1F (lF [] (con_impl_in _ _ _ _ c5H)) (a4 g6 c7 g8 (a2 c10 g11))) (r_cN hk4 ?_)
        refine sem_ifT rfl ?_
        try replace h := cond_t h rfl
        refine zS z0 (r_ret ?_)
        refine r_cR hk3 ?_
        cases h
        refine zARw hQ
      · replace h := cond_f h g11
        obtain ⟨v5, c13H, h⟩ := bind_some' h
        obtain ⟨c13A, c13B, c13C, c13D⟩ := prt_some c13H
        try simp only [Int.reduceToNat, Int.toNat_zero, Int.toNat_one, Int.toNat_natCast, List.take_length] at c13D
        obtain ⟨v6, c14H, h⟩ := bind_some' h
        refine zU (zC2F (lF [] (con_impl_in _ _ _ _ c5H)) (lF [] (con_impl_fromBig _ _ c14H)) (a4 g6 c7 g8 (a4 c10 g11 c13A (a3 c13B c13C c13D)))) (r_cN hk4 ?_)
        refine sem_ifh rfl h ?_ ?_ <;> clear h <;> intro h
        · refine zS z0 (r_ret ?_)
          refine r_cR hk3 ?_
          cases h
          refine zARw hQ
        · refine r_skip (r_cN hk3 ?_)
          obtain ⟨v7, c17H, h⟩ := bind_some' h
          obtain ⟨c17A, c17B, c17C, c17D⟩ := prt_some c17H
          try simp only [Int.reduceToNat, Int.toNat_zero, Int.toNat_one, Int.toNat_natCast, List.take_length] at c17D
          obtain ⟨v8, c18H, h⟩ := bind_some' h
          refine zS (zC1F (lF [] (con_impl_fromBig _ _ c18H)) (a4 c17A c17B c17C c17D)) (sem_cut fun k19 hk19 => ?_)
          refine sem_blk fun k20 hk20 => ?_
          obtain ⟨v9, c22H, h⟩ := bind_some' h
          obtain ⟨c22A, c22B, c22C⟩ := prtL_some c22H
          try simp only [Int.reduceToNat, Int.toNat_zero, Int.toNat_one, Int.toNat_natCast, List.take_length] at c22C
          obtain ⟨v10, c23H, h⟩ := bind_some' h
          obtain ⟨c23A, c23B, c23C⟩ := prtH_some c23H
          try simp only [Int.reduceToNat, Int.toNat_zero, Int.toNat_one, Int.toNat_natCast, List.take_length] at c23C
          obtain ⟨v11, c24H, h⟩ := bind_some' h
          obtain ⟨v12, c25H, h⟩ := bind_some' h
          refine zS (zPC2F (.take 0 (.take 1 (.take 2 (.take 3 (.take 5 (.take 6 (.take 7 (.take 8 (.last 4 (.last 9 (.take 10 (.take 11 (.take 12 .done))))))))))))) [] (lF [] (con_impl_fromBig _ _ c24H)) (lF [] (con_impl_PicSum _ _ c25H)) (a4 c22A c22B c22C (a3 c23A c23B c23C))) ?_
          refine sem_ifh rfl h ?_ ?_ <;> clear h <;> intro h
          · refine zS z0 (r_ret ?_)
            refine r_bR hk20 (r_cR hk19 ?_)
            cases h
            refine zARw hQ
          · refine zS z0 ?_
            refine sem_ifh rfl h ?_ ?_ <;> clear h <;> intro h
            · refine zS z0 (r_ret ?_)
              refine r_bR hk20 (r_cR hk19 ?_)
              cases h
              refine zARw hQ
            · refine r_skip (r_bN hk20 ?_)
              refine r_cN hk19 ?_
              obtain ⟨v13, c30H, h⟩ := bind_some' h
              obtain ⟨c30A, c30B, c30C, c30D⟩ := prt_some c30H
              try simp only [Int.reduceToNat, Int.toNat_zero, Int.toNat_one, Int.toNat_natCast, List.take_length] at c30D
              refine zS (zRF (a4 c30A c30B c30C c30D)) (zS z0 ?_)
              refine sem_cutJ (fun (i : P2) (x : ((List Int) × Int × (List Inst))) => match i with | .a => (⟨[(3, .pt 0 0), (5, .sc (.int .i64 (v8))), (6, .pt 1 0), (7, .sl 2 0 ((x.2.2).length))], [.rc [.sc (.int .i64 (0)), .sc (.int .i64 (0))], .rc [.fz 1 (R e_u8 (x.1)), .sc (.int .i64 (x.2.1))], .arr true 3 (R e_Inst (x.2.2))]⟩ : St) | .b => (⟨[(3, .pt 0 0), (5, .sc (.int .i64 (v8))), (6, .pt 1 0), (7, .sc (.slice none 0 0))], [.rc [.sc (.int .i64 (0)), .sc (.int .i64 (0))], .rc [.fz 1 (R e_u8 (x.1)), .sc (.int .i64 (x.2.1))]]⟩ : St)) (fun (i : P2) (x : ((List Int) × Int × (List Inst))) => (match i with | .a => True | .b => x.2.2 = []) ∧ impl_PicRead_j34 v8 x = some res_) ?_ ?_
              · rintro (_ | _) ⟨v25, v26, v27⟩ ⟨hp, h⟩
                · simp only [impl_PicRead_j34] at h
                  refine sem_cut fun k90 hk90 => zS z0 ?_
                  refine sem_ifh rfl h ?_ ?_ <;> clear h <;> intro h
                  · refine zS z0 (r_ret ?_)
                    refine r_cR hk90 ?_
                    cases h
                    refine zARw hQ
                  · refine r_skip (r_cN hk90 ?_)
                    obtain ⟨v28, c94H, h⟩ := bind_some' h
                    refine zS (zC1 (lC [] (con_impl_copyList _ _ c94H))) (r_ret ?_)
                    cases h
                    refine zAR hQ
                · replace hp : v27 = [] := hp
                  subst hp
                  simp only [impl_PicRead_j34] at h
                  try simp only [List.nil_append, List.length_nil, Int.natCast_zero] at h
                  refine sem_cut fun k95 hk95 => zS z0 ?_
                  refine sem_ifh rfl h ?_ ?_ <;> clear h <;> intro h
                  · refine zS z0 (r_ret ?_)
                    refine r_cR hk95 ?_
                    cases h
                    refine zARw hQ
                  · refine r_skip (r_cN hk95 ?_)
                    obtain ⟨v29, c99H, h⟩ := bind_some' h
                    refine zS (zC1w (lC [] (con_impl_copyList _ _ c99H))) (r_ret ?_)
                    cases h
                    refine zAR hQ
              · intro k101 hk101 J100
                refine zS z0 (sem_blk fun k103 hk103 => ?_)
                obtain ⟨oq137, hLq137, hKq137⟩ := bind_some' h
                clear h
                refine sem_loopP [3, 5, 6, 7, 62, 63] (fun (i : P2) (x : ((List Int) × Int × (List Inst) × Int)) => match i with | .a => (⟨[(3, .pt 0 0), (5, .sc (.int .i64 (v8))), (6, .pt 1 0), (7, .sl 2 0 ((x.2.2.1).length)), (62, .sc (.int .i64 (v8))), (63, .sc (.int .i64 (x.2.2.2)))], [.rc [.sc (.int .i64 (0)), .sc (.int .i64 (0))], .rc [.fz 1 (R e_u8 (x.1)), .sc (.int .i64 (x.2.1))], .arr true 3 (R e_Inst (x.2.2.1))]⟩ : St) | .b => (⟨[(3, .pt 0 0), (5, .sc (.int .i64 (v8))), (6, .pt 1 0), (7, .sc (.slice none 0 0)), (62, .sc (.int .i64 (v8))), (63, .sc (.int .i64 (x.2.2.2)))], [.rc [.sc (.int .i64 (0)), .sc (.int .i64 (0))], .rc [.fz 1 (R e_u8 (x.1)), .sc (.int .i64 (x.2.1))]]⟩ : St)) (fun (i : P2) (x : ((List Int) × Int × (List Inst) × Int)) => (match i with | .a => True | .b => x.2.2.1 = [])) (impl_PicRead_s38 v8) (.b) (v13, 0, [], 0) hLq137 (by rfl) (by rfl) ⟨?_, rfl⟩ ?_
                · first | exact wkSt_same rfl | (simp (decide := true) only [go_sem, reduceIte, Nat.reduceAdd, Int.reduceToNat, Nat.reduceSub, Nat.reduceMul]; exact wkSt_same rfl)
                · rintro nq137 (_ | _) ⟨v31, v32, v33, v34⟩ xq137 kq137 hkq137 hp h hIq137 hEq137
                  · simp only [impl_PicRead_s38] at h
                    refine zS z0 (sem_cut fun k139 hk139 => ?_)
                    refine sem_ifh rfl h ?_ ?_ <;> clear h <;> intro h
                    · refine r_skip (r_cN hk139 ?_)
                      refine sem_cut fun k140 hk140 => sem_blk fun k141 hk141 => zS z0 ?_
                      obtain ⟨v39, c144H, h⟩ := bind_some' h
                      refine zS (zC1 (lC [[0]] (con_impl_picReader_inst _ _ c144H))) (sem_cut fun k145 hk145 => ?_)
                      refine zS z0 ?_
                      refine sem_ifh rfl h ?_ ?_ <;> clear h <;> intro h
                      · refine zS (zPR (.take 0 (.take 1 (.take 2 (.take 3 (.take 4 (.take 5 (.take 6 (.last 7 .done)))))))) [1]) (r_ret ?_)
                        refine r_cR hk145 (r_bR hk141 ?_)
                        refine r_cR hk140 ?_
                        replace h := zX h hEq137 hKq137
                        simp only [Sum.elim_inl, Sum.elim_inr] at h
                        refine r_kR hkq137 (r_bR hk103 ?_)
                        refine r_jR hk101 ?_
                        cases h
                        refine zARw hQ
                      · refine r_skip (r_cN hk145 ?_)
                        obtain ⟨g148, h⟩ := gAp h
                        refine zU (zRF g148) (r_bN hk141 ?_)
                        refine r_cN hk140 (zU z0 ?_)
                        refine zB hkq137 h hIq137 (.a) trivial
                    · refine r_exit (r_cE hk139 ?_)
                      replace h := zX h hEq137 hKq137
                      simp only [Sum.elim_inl, Sum.elim_inr] at h
                      refine r_kE hkq137 (r_bE hk103 ?_)
                      refine zJ J100 [3, 5, 6, 7] (.a) (v31, v32, v33) ⟨trivial, h⟩
                  · replace hp : v33 = [] := hp
                    subst hp
                    simp only [impl_PicRead_s38] at h
                    try simp only [List.nil_append, List.length_nil, Int.natCast_zero] at h
                    refine zS z0 (sem_cut fun k150 hk150 => ?_)
                    refine sem_ifh rfl h ?_ ?_ <;> clear h <;> intro h
                    · refine r_skip (r_cN hk150 ?_)
                      refine sem_cut fun k151 hk151 => sem_blk fun k152 hk152 => zS z0 ?_
                      obtain ⟨v40, c155H, h⟩ := bind_some' h
                      refine zS (zC1 (lC [[0]] (con_impl_picReader_inst _ _ c155H))) (sem_cut fun k156 hk156 => ?_)
                      refine zS z0 ?_
                      refine sem_ifh rfl h ?_ ?_ <;> clear h <;> intro h
                      · refine zS (zPR (.take 0 (.take 1 (.take 2 (.take 3 (.take 4 (.take 5 (.take 6 (.last 7 .done)))))))) [1]) (r_ret ?_)
                        refine r_cR hk156 (r_bR hk152 ?_)
                        refine r_cR hk151 ?_
                        replace h := zX h hEq137 hKq137
                        simp only [Sum.elim_inl, Sum.elim_inr] at h
                        refine r_kR hkq137 (r_bR hk103 ?_)
                        refine r_jR hk101 ?_
                        cases h
                        refine zARw hQ
                      · refine r_skip (r_cN hk156 ?_)
                        obtain ⟨g159, h⟩ := gAp h
                        refine zU (zRF g159) (r_bN hk152 ?_)
                        refine r_cN hk151 (zU z0 ?_)
                        refine zB hkq137 h hIq137 (.a) trivial
                    · refine r_exit (r_cE hk150 ?_)
                      replace h := zX h hEq137 hKq137
                      simp only [Sum.elim_inl, Sum.elim_inr] at h
                      refine r_kE hkq137 (r_bE hk103 ?_)
                      refine zJ J100 [3, 5, 6, 7] (.b) (v31, v32, []) ⟨rfl, h⟩
  · replace h := cond_f h g6
    refine zU (zC1F (lF [] (con_impl_in _ _ _ _ c5H)) g6) (r_cN hk4 ?_)
    refine sem_ifT rfl ?_
    try replace h := cond_t h rfl
    refine zS z0 (r_ret ?_)
    refine r_cR hk3 ?_
    cases h
    refine zARw hQ

end Go.AM
