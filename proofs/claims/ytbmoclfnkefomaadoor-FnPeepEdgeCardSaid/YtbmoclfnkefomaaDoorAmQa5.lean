/- Pure functions and their contracts. Conditions: none. -/
import Derived.Test.YtbmoclfnkefomaaDoorAmQa4
set_option linter.unusedSimpArgs false
set_option linter.unusedVariables false
set_option maxRecDepth 10000
set_option maxHeartbeats 4000000
namespace Go.AM
open Go Go.Proofs
noncomputable def spec_l11Spoil_j15 : ((List Int) × Int × (List Inst)) → Option ((List Inst) × l26Rd)
  | (v28, v29, v30) => (some (v30, (⟨v28, v29⟩ : l26Rd)))
noncomputable def spec_l11Spoil_s55 (v39 : Inst) : ((List Int) × Int × (List Inst)) → Option (((List Int) × Int × (List Inst)) ⊕ ((List Int) × Int × (List Inst)))
  | (v41, v42, v43) => (Option.bind (spec_l26Rd_pick (⟨v41, v42⟩ : l26Rd) 2) fun v46 => (cond (decide ((((v43).length : Nat) : Int) < (IntKind.i64.wrap (1000 + v46.1)))) (gd (apOk ((v43 ++ [v39])).length 40) (some (.inl (v46.2.b, v46.2.p, (v43 ++ [v39]))))) (some (.inr (v46.2.b, v46.2.p, v43)))))
noncomputable def spec_l11Spoil (v1 : l26Rd) (v2 : (List Inst)) : Option ((List Inst) × l26Rd) :=
  (gd (apOk (v2).length 40) (cond ((((v2).length : Nat) : Int) == 0) (Option.bind (spec_l11Inst v1) fun v3 => (gd (apOk ((v2 ++ [v3.1])).length 40) (some ((v2 ++ [v3.1]), v3.2)))) (Option.bind (spec_l26Rd_pick v1 (((v2).length : Nat) : Int)) fun v4 => (Option.bind (spec_l26Rd_pick v4.2 9) fun v31 => (cond (v31.1 == 0) (gd (decide (0 ≤ v4.1) && decide (v4.1 ≤ (((v2).length : Nat) : Int))) (gd (decide (0 ≤ (IntKind.i64.wrap (v4.1 + 1))) && decide ((IntKind.i64.wrap (v4.1 + 1)) ≤ (((v2).length : Nat) : Int)) && decide ((((v2).length : Nat) : Int) ≤ (((v2).length : Nat) : Int))) (gd (apOk (((v2).take ((v4.1).toNat) ++ ((v2).drop (((IntKind.i64.wrap (v4.1 + 1))).toNat)).take ((((v2).length) - ((IntKind.i64.wrap (v4.1 + 1))).toNat)))).length 40) (some (((v2).take ((v4.1).toNat) ++ ((v2).drop (((IntKind.i64.wrap (v4.1 + 1))).toNat)).take ((((v2).length) - ((IntKind.i64.wrap (v4.1 + 1))).toNat))), v31.2))))) (cond (v31.1 == 1) (gd (decide (0 ≤ v4.1) && decide (v4.1 ≤ (((v2).length : Nat) : Int))) (gd (decide (0 ≤ v4.1) && decide (v4.1 ≤ (((v2).length : Nat) : Int)) && decide ((((v2).length : Nat) : Int) ≤ (((v2).length : Nat) : Int))) (gd (apOk ((v2).take ((v4.1).toNat)).length 40) (Option.bind (spec_l11Inst v31.2) fun v32 => (gd (apOk (((v2).take ((v4.1).toNat) ++ [v32.1])).length 40) (gd (apOk ((((v2).take ((v4.1).toNat) ++ [v32.1]) ++ ((v2).drop ((v4.1).toNat)).take ((((v2).length) - (v4.1).toNat)))).length 40) (some ((((v2).take ((v4.1).toNat) ++ [v32.1]) ++ ((v2).drop ((v4.1).toNat)).take ((((v2).length) - (v4.1).toNat))), v32.2)))))))) (cond (v31.1 == 2) (Option.bind (spec_l11Inst v31.2) fun v33 => (Option.bind (idx v2 (v4.1)) fun v34 => (spec_l11Spoil_j15 (v33.2.b, v33.2.p, ((v2).set (v4.1).toNat v33.1))))) (cond (v31.1 == 3) (Option.bind (spec_l26Rd_pick v31.2 14) fun v35 => (Option.bind (idx v2 (v4.1)) fun v36 => (spec_l11Spoil_j15 (v35.2.b, v35.2.p, ((v2).set (v4.1).toNat (⟨(IntKind.i64.wrap (v35.1 - 1)), v36.One_Op, v36.One_Args⟩ : Inst)))))) (cond (v31.1 == 4) (Option.bind (idx v2 (v4.1)) fun v37 => (Option.bind (spec_l4Spoil v31.2 (⟨v37.One_Op, v37.One_Args⟩ : Elem)) fun v38 => (spec_l11Spoil_j15 (v38.2.b, v38.2.p, ((v2).set (v4.1).toNat (⟨v37.Code, v38.1.Op, v38.1.Args⟩ : Inst)))))) (cond (v31.1 == 5) (gd (decide (0 ≤ v4.1) && decide (v4.1 ≤ (((v2).length : Nat) : Int))) (some ((v2).take ((v4.1).toNat), v31.2))) (cond (v31.1 == 6) (Option.bind (idx v2 (v4.1)) fun v39 => ((loop (spec_l11Spoil_s55 v39) (v31.2.b, v31.2.p, v2)).bind (fun v45 => (spec_l11Spoil_j15 (v45.1, v45.2.1, v45.2.2))))) (cond (v31.1 == 7) (Option.bind (spec_l26Rd_pick v31.2 (((v2).length : Nat) : Int)) fun v47 => (Option.bind (idx v2 (v4.1)) fun v48 => (Option.bind (idx v2 (v47.1)) fun v49 => (Option.bind (idx v2 (v4.1)) fun v50 => (Option.bind (idx ((v2).set (v4.1).toNat v49) (v47.1)) fun v51 => (spec_l11Spoil_j15 (v47.2.b, v47.2.p, ((((v2).set (v4.1).toNat v49)).set (v47.1).toNat v48)))))))) (Option.bind (spec_l4Any v31.2) fun v52 => (Option.bind (idx v2 (v4.1)) fun v53 => (spec_l11Spoil_j15 (v52.2.b, v52.2.p, ((v2).set (v4.1).toNat (⟨v53.Code, v52.1.Op, v52.1.Args⟩ : Inst))))))))))))))))))
theorem con_spec_l11Spoil (v1 : l26Rd) (v2 : (List Inst)) (res_ : ((List Inst) × l26Rd)) (h : spec_l11Spoil v1 v2 = some res_) : Con Tryd.prog C0 20 [.pt 0 0, .fz 3 (R e_Inst (v2))] [.rc [.fz 1 (R e_u8 (v1.b)), .sc (.int .i64 (v1.p))]]
    (fun x σ' => x = .fz 3 (R e_Inst (res_.1)) ∧ σ' = [.rc [.fz 1 (R e_u8 (res_.2.b)), .sc (.int .i64 (res_.2.p))]]) := by
  refine zCon hP 1 [0, 1, 4, 5, 6, 7, 8, 9, 15, 26, 33, 43, 58, 65, 74, 87, 92, 103, 108] [.tmp 4] Tryd.func20 (by unfold Tryd.f20; rfl) fun Q hQ => ?_
  unfold spec_l11Spoil at h
  refine zS z0 ?_
  obtain ⟨g3, h⟩ := gAp h
  refine zS (zRF g3) (sem_cut fun k4 hk4 => ?_)
  refine zS z0 ?_
  refine sem_ifh rfl h ?_ ?_ <;> clear h <;> intro h
  · obtain ⟨v3, c7H, h⟩ := bind_some' h
    obtain ⟨g8, h⟩ := gAp h
    refine zS (zC1F (lC [[0]] (con_spec_l11Inst _ _ c7H)) g8) (r_ret ?_)
    refine r_cR hk4 ?_
    cases h
    refine zAR hQ
  · refine r_skip (r_cN hk4 ?_)
    obtain ⟨v4, c10H, h⟩ := bind_some' h
    refine zS (zC1 (lC [[0]] (con_spec_l26Rd_pick _ _ _ c10H))) (zCut (fun (x : ((List Int) × Int × (List Inst))) => ⟨[(5, .sl 1 0 ((x.2.2).length))], [.rc [.fz 1 (R e_u8 (x.1)), .sc (.int .i64 (x.2.1))], .arr true 3 (R e_Inst (x.2.2))]⟩) spec_l11Spoil_j15 res_ ?_ ?_)
    · rintro _ ⟨v28, v29, v30⟩ h
      simp only [spec_l11Spoil_j15] at h
      refine zS z0 (r_ret ?_)
      cases h
      refine zAR hQ
    · intro k72 hk72 J71
      obtain ⟨v31, c74H, h⟩ := bind_some' h
      refine zS (zC1 (lC [[0]] (con_spec_l26Rd_pick _ _ _ c74H))) (sem_blk fun k75 hk75 => ?_)
      refine zS z0 ?_
      refine sem_ifh rfl h ?_ ?_ <;> clear h <;> intro h
      · obtain ⟨g78, h⟩ := gD2 h
        obtain ⟨g79, h⟩ := gD3 h
        obtain ⟨g80, h⟩ := gAp h
        refine zS (zPRF (.take 0 (.take 1 (.take 2 (.take 3 (.take 4 (.take 5 (.take 6 (.last 7 (.take 8 .done))))))))) [] (a3 g78 g79 g80)) (r_ret ?_)
        refine r_bR hk75 (r_jR hk72 ?_)
        cases h
        refine zAR hQ
      · refine zS z0 ?_
        refine sem_ifh rfl h ?_ ?_ <;> clear h <;> intro h
        · obtain ⟨g83, h⟩ := gD2 h
          obtain ⟨g84, h⟩ := gD3 h
          obtain ⟨g85, h⟩ := gAp h
          obtain ⟨v32, c86H, h⟩ := bind_some' h
          obtain ⟨g87, h⟩ := gAp h
          obtain ⟨g88, h⟩ := gAp h
          refine zS (zPC1F (.take 1 (.take 2 (.take 3 (.take 5 (.take 9 (.take 10 (.take 11 (.last 0 (.last 4 (.last 6 (.last 7 (.last 8 (.last 12 (.take 13 .done)))))))))))))) [] (lC [[0]] (con_spec_l11Inst _ _ c86H)) (a4 g83 g84 g85 (a2 g87 g88))) (r_ret ?_)
          refine r_bR hk75 (r_jR hk72 ?_)
          cases h
          refine zAR hQ
        · refine zS z0 ?_
          refine sem_ifh rfl h ?_ ?_ <;> clear h <;> intro h
          · obtain ⟨v33, c90H, h⟩ := bind_some' h
            obtain ⟨v34, h, c91⟩ := bI h
            refine zU (zC1F (lC [[0]] (con_spec_l11Inst _ _ c90H)) c91) (r_bN hk75 ?_)
            refine zJ J71 [5] () _ h
          · refine zS z0 ?_
            refine sem_ifh rfl h ?_ ?_ <;> clear h <;> intro h
            · obtain ⟨v35, c93H, h⟩ := bind_some' h
              obtain ⟨v36, h, c94⟩ := bI h
              refine zU (zC1F (lC [[0]] (con_spec_l26Rd_pick _ _ _ c93H)) c94) (r_bN hk75 ?_)
              refine zJ J71 [5] () _ h
            · refine zS z0 ?_
              refine sem_ifh rfl h ?_ ?_ <;> clear h <;> intro h
              · obtain ⟨v37, h, c96⟩ := bI h
                obtain ⟨v38, c97H, h⟩ := bind_some' h
                refine zU (zC1F (lC [[0]] (con_spec_l4Spoil _ _ _ c97H)) c96) (r_bN hk75 ?_)
                refine zJ J71 [5] () _ h
              · refine zS z0 ?_
                refine sem_ifh rfl h ?_ ?_ <;> clear h <;> intro h
                · obtain ⟨g100, h⟩ := gD2 h
                  refine zS (zRF g100) (r_ret ?_)
                  refine r_bR hk75 (r_jR hk72 ?_)
                  cases h
                  refine zAR hQ
                · refine zS z0 ?_
                  refine sem_ifh rfl h ?_ ?_ <;> clear h <;> intro h
                  · obtain ⟨v39, h, c103⟩ := bI h
                    refine zS (zRF c103) (sem_blk fun k104 hk104 => ?_)
                    obtain ⟨oq115, hLq115, hKq115⟩ := bind_some' h
                    clear h
                    refine sem_loopP [0, 5, 7] (fun (_ : Unit) (x : ((List Int) × Int × (List Inst))) => (⟨[(0, .pt 0 0), (5, .sl 1 0 ((x.2.2).length)), (7, .pt 2 0)], [.rc [.fz 1 (R e_u8 (x.1)), .sc (.int .i64 (x.2.1))], .arr true 3 (R e_Inst (x.2.2)), .rc [.sc (.int .i64 (v39.Code)), .sc (.int .i64 (v39.One_Op)), .fz 3 (R e_DevArg (v39.One_Args))]]⟩ : St)) (fun (_ : Unit) (x : ((List Int) × Int × (List Inst))) => True) (spec_l11Spoil_s55 v39) () (v31.2.b, v31.2.p, v2) hLq115 (by rfl) (by rfl) ⟨?_, trivial⟩ ?_
                    · first | exact wkSt_same rfl | (simp (decide := true) only [go_sem, reduceIte, Nat.reduceAdd, Int.reduceToNat, Nat.reduceSub, Nat.reduceMul]; exact wkSt_same rfl)
                    · rintro nq115 _ ⟨v41, v42, v43⟩ xq115 kq115 hkq115 - h hIq115 hEq115
                      simp only [spec_l11Spoil_s55] at h
                      refine sem_cut fun k116 hk116 => ?_
                      obtain ⟨v46, c118H, h⟩ := bind_some' h
                      refine zS (zC1 (lC [[0]] (con_spec_l26Rd_pick _ _ _ c118H))) ?_
                      refine sem_ifh rfl h ?_ ?_ <;> clear h <;> intro h
                      · refine r_skip (r_cN hk116 ?_)
                        refine sem_blk fun k119 hk119 => ?_
                        obtain ⟨g120, h⟩ := gAp h
                        refine zU (zRF g120) (r_bN hk119 ?_)
                        refine zB hkq115 h hIq115 () trivial
                      · refine r_exit (r_cE hk116 ?_)
                        replace h := zX h hEq115 hKq115
                        refine r_kE hkq115 (r_bE hk104 ?_)
                        refine r_bN hk75 (zJ J71 [5] () _ h)
                  · refine zS z0 ?_
                    refine sem_ifh rfl h ?_ ?_ <;> clear h <;> intro h
                    · obtain ⟨v47, c123H, h⟩ := bind_some' h
                      refine zS (zC1 (lC [[0]] (con_spec_l26Rd_pick _ _ _ c123H))) ?_
                      obtain ⟨v48, h, c125⟩ := bI h
                      refine zS (zRF c125) ?_
                      obtain ⟨v49, h, c127⟩ := bI h
                      obtain ⟨v50, h, c128⟩ := bI h
                      refine zS (zRF (a2 c127 c128)) ?_
                      obtain ⟨v51, h, c129⟩ := bI h
                      refine zU (zRF c129) (r_bN hk75 ?_)
                      refine zJ J71 [5] () _ h
                    · obtain ⟨v52, c130H, h⟩ := bind_some' h
                      obtain ⟨v53, h, c131⟩ := bI h
                      refine zU (zC1F (lC [[0]] (con_spec_l4Any _ _ c130H)) c131) (r_bN hk75 ?_)
                      refine zJ J71 [5] () _ h
noncomputable def spec_l12Deep_j68 (v3 : (Elem × l26Rd)) (v34 : (Int × l26Rd)) : (List Inst) → Option ((List Inst) × l26Rd)
  | v42 => (gd (apOk ((v42 ++ [(⟨10, v3.1.Op, v3.1.Args⟩ : Inst), (⟨11, 0, []⟩ : Inst)])).length 40) (some ((v42 ++ [(⟨10, v3.1.Op, v3.1.Args⟩ : Inst), (⟨11, 0, []⟩ : Inst)]), v34.2)))
noncomputable def spec_l12Deep_s72 (v3 : (Elem × l26Rd)) (v34 : (Int × l26Rd)) : ((List Inst) × Int) → Option (((List Inst) × Int) ⊕ (List Inst))
  | (v43, v44) => (cond (decide (v44 < v34.1)) (gd (apOk ((v43 ++ [(⟨10, v3.1.Op, v3.1.Args⟩ : Inst), (⟨9, 0, []⟩ : Inst)])).length 40) (some (.inl ((v43 ++ [(⟨10, v3.1.Op, v3.1.Args⟩ : Inst), (⟨9, 0, []⟩ : Inst)]), (IntKind.i64.wrap (v44 + 1)))))) (some (.inr v43)))
noncomputable def spec_l12Deep_j53 (v3 : (Elem × l26Rd)) (v34 : (Int × l26Rd)) : (List Inst) → Option ((List Inst) × l26Rd)
  | v38 => ((loop (spec_l12Deep_s72 v3 v34) (v38, 0)).bind (fun v45 => (spec_l12Deep_j68 v3 v34 v45)))
noncomputable def spec_l12Deep_s57 (v34 : (Int × l26Rd)) : ((List Inst) × Int) → Option (((List Inst) × Int) ⊕ (List Inst))
  | (v46, v47) => (cond (decide (v47 < v34.1)) (gd (apOk ((v46 ++ [(⟨7, 0, []⟩ : Inst)])).length 40) (some (.inl ((v46 ++ [(⟨7, 0, []⟩ : Inst)]), (IntKind.i64.wrap (v47 + 1)))))) (some (.inr v46)))
noncomputable def spec_l12Deep_j11 (v2 : (Elem × l26Rd)) (v3 : (Elem × l26Rd)) : ((List Int) × Int) → Option ((List Inst) × l26Rd)
  | (v32, v33) => (Option.bind (spec_l26Rd_num (⟨v32, v33⟩ : l26Rd) [7, 8, 9]) fun v34 => (gd (apOk ([(⟨1, v2.1.Op, v2.1.Args⟩ : Inst)]).length 40) ((loop (spec_l12Deep_s57 v34) ([(⟨1, v2.1.Op, v2.1.Args⟩ : Inst)], 0)).bind (fun v48 => (spec_l12Deep_j53 v3 v34 v48)))))
noncomputable def spec_l12Deep_j30 (v3 : (Elem × l26Rd)) : ((List Int) × Int × (List Inst)) → Option ((List Inst) × l26Rd)
  | (v62, v63, v64) => (gd (apOk ((v64 ++ [(⟨10, v3.1.Op, v3.1.Args⟩ : Inst), (⟨11, 0, []⟩ : Inst)])).length 40) (some ((v64 ++ [(⟨10, v3.1.Op, v3.1.Args⟩ : Inst), (⟨11, 0, []⟩ : Inst)]), (⟨v62, v63⟩ : l26Rd))))
noncomputable def spec_l12Deep_s34 (v4 : (Int × l26Rd)) : ((List Int) × Int × (List Inst) × Int) → Option (((List Int) × Int × (List Inst) × Int) ⊕ ((List Int) × Int × (List Inst)))
  | (v66, v67, v68, v69) => (cond (decide (v69 < v4.1)) (Option.bind (spec_l26Rd_pick (⟨v66, v67⟩ : l26Rd) 2) fun v72 => (gd (apOk ((v68 ++ [(⟨(IntKind.i64.wrap (4 + v72.1)), 0, []⟩ : Inst)])).length 40) (some (.inl (v72.2.b, v72.2.p, (v68 ++ [(⟨(IntKind.i64.wrap (4 + v72.1)), 0, []⟩ : Inst)]), (IntKind.i64.wrap (v69 + 1))))))) (some (.inr (v66, v67, v68))))
noncomputable def spec_l12Deep_j15 (v3 : (Elem × l26Rd)) (v4 : (Int × l26Rd)) (v49 : (Int × l26Rd)) : (List Inst) → Option ((List Inst) × l26Rd)
  | v53 => ((loop (spec_l12Deep_s34 v4) (v49.2.b, v49.2.p, v53, 1)).bind (fun v71 => (spec_l12Deep_j30 v3 (v71.1, v71.2.1, v71.2.2))))
noncomputable def spec_l12Deep_s19 (v2 : (Elem × l26Rd)) (v4 : (Int × l26Rd)) : ((List Inst) × Int) → Option (((List Inst) × Int) ⊕ (List Inst))
  | (v73, v74) => (cond (decide (v74 < v4.1)) (gd (apOk ((v73 ++ [(⟨1, v2.1.Op, v2.1.Args⟩ : Inst)])).length 40) (some (.inl ((v73 ++ [(⟨1, v2.1.Op, v2.1.Args⟩ : Inst)]), (IntKind.i64.wrap (v74 + 1)))))) (some (.inr v73)))
noncomputable def spec_l12Deep (v1 : l26Rd) : Option ((List Inst) × l26Rd) :=
  (Option.bind (spec_l4Contact v1) fun v2 => (Option.bind (spec_l4Coil v2.2) fun v3 => (Option.bind (spec_l26Rd_num v3.2 [15, 16, 17]) fun v4 => (Option.bind (spec_l26Rd_pick v4.2 2) fun v49 => (cond (v49.1 == 0) ((loop (spec_l12Deep_s19 v2 v4) ([], 0)).bind (fun v75 => (spec_l12Deep_j15 v3 v4 v49 v75))) (spec_l12Deep_j11 v2 v3 (v49.2.b, v49.2.p)))))))
theorem con_spec_l12Deep (v1 : l26Rd) (res_ : ((List Inst) × l26Rd)) (h : spec_l12Deep v1 = some res_) : Con Tryd.prog C0 22 [.pt 0 0] [.rc [.fz 1 (R e_u8 (v1.b)), .sc (.int .i64 (v1.p))]]
    (fun x σ' => x = .sl 1 0 ((res_.1).length) ∧ σ' = [.rc [.fz 1 (R e_u8 (res_.2.b)), .sc (.int .i64 (res_.2.p))], .arr true 3 (R e_Inst (res_.1))]) := by
  refine zCon hP 1 [0, 2, 3, 4, 5, 6, 7, 8, 9, 10, 23, 26, 35, 59, 68] [.tmp 2] Tryd.func22 (by unfold Tryd.f22; rfl) fun Q hQ => ?_
  unfold spec_l12Deep at h
  refine zS z0 (zS z0 ?_)
  obtain ⟨v2, c4H, h⟩ := bind_some' h
  refine zS (zC1 (lC [[0]] (con_spec_l4Contact _ _ c4H))) ?_
  obtain ⟨v3, c6H, h⟩ := bind_some' h
  refine zS (zC1 (lC [[0]] (con_spec_l4Coil _ _ c6H))) ?_
  obtain ⟨v4, c8H, h⟩ := bind_some' h
  refine zS (zC1 (lC [[0]] (con_spec_l26Rd_num _ _ _ c8H))) (zCut (fun (x : ((List Int) × Int)) => ⟨[(0, .pt 0 0), (3, .sl 1 0 (0)), (4, .pt 2 0), (5, .pt 4 0)], [.rc [.fz 1 (R e_u8 (x.1)), .sc (.int .i64 (x.2))], .arr true 3 [], .rc [.sc (.int .i64 (1)), .sc (.int .i64 (v2.1.Op)), .sl 3 0 ((v2.1.Args).length)], .arr true 3 (R e_DevArg (v2.1.Args)), .rc [.sc (.int .i64 (10)), .sc (.int .i64 (v3.1.Op)), .fz 3 (R e_DevArg (v3.1.Args))]]⟩) (spec_l12Deep_j11 v2 v3) res_ ?_ ?_)
  · rintro _ ⟨v32, v33⟩ h
    simp only [spec_l12Deep_j11] at h
    obtain ⟨v34, c116H, h⟩ := bind_some' h
    refine zS (zC1 (lC [[0]] (con_spec_l26Rd_num _ _ _ c116H))) ?_
    obtain ⟨g118, h⟩ := gAp h
    refine zS (zRFn g118) (zCut (fun (x : (List Inst)) => ⟨[(3, .sl 1 0 ((x).length)), (5, .pt 2 0), (6, .sc (.int .i64 (v34.1)))], [.rc [.fz 1 (R e_u8 (v34.2.b)), .sc (.int .i64 (v34.2.p))], .arr true 3 (R e_Inst (x)), .rc [.sc (.int .i64 (10)), .sc (.int .i64 (v3.1.Op)), .fz 3 (R e_DevArg (v3.1.Args))]]⟩) (spec_l12Deep_j53 v3 v34) res_ ?_ ?_)
    · rintro _ v38 h
      simp only [spec_l12Deep_j53] at h
      refine zCut (fun (x : (List Inst)) => ⟨[(3, .sl 1 0 ((x).length)), (5, .pt 2 0)], [.rc [.fz 1 (R e_u8 (v34.2.b)), .sc (.int .i64 (v34.2.p))], .arr true 3 (R e_Inst (x)), .rc [.sc (.int .i64 (10)), .sc (.int .i64 (v3.1.Op)), .fz 3 (R e_DevArg (v3.1.Args))]]⟩) (spec_l12Deep_j68 v3 v34) res_ ?_ ?_
      · rintro _ v42 h
        simp only [spec_l12Deep_j68] at h
        obtain ⟨g156, h⟩ := gAp h
        refine zS (zRFn g156) (r_ret ?_)
        cases h
        refine zORd hQ
      · intro k158 hk158 J157
        refine zS z0 (sem_blk fun k160 hk160 => ?_)
        obtain ⟨oq171, hLq171, hKq171⟩ := bind_some' h
        clear h
        refine sem_loopP [3, 5, 6, 10] (fun (_ : Unit) (x : ((List Inst) × Int)) => (⟨[(3, .sl 1 0 ((x.1).length)), (5, .pt 2 0), (6, .sc (.int .i64 (v34.1))), (10, .sc (.int .i64 (x.2)))], [.rc [.fz 1 (R e_u8 (v34.2.b)), .sc (.int .i64 (v34.2.p))], .arr true 3 (R e_Inst (x.1)), .rc [.sc (.int .i64 (10)), .sc (.int .i64 (v3.1.Op)), .fz 3 (R e_DevArg (v3.1.Args))]]⟩ : St)) (fun (_ : Unit) (x : ((List Inst) × Int)) => True) (spec_l12Deep_s72 v3 v34) () (v38, 0) hLq171 (by rfl) (by rfl) ⟨?_, trivial⟩ ?_
        · first | exact wkSt_same rfl | (simp (decide := true) only [go_sem, reduceIte, Nat.reduceAdd, Int.reduceToNat, Nat.reduceSub, Nat.reduceMul]; exact wkSt_same rfl)
        · rintro nq171 _ ⟨v43, v44⟩ xq171 kq171 hkq171 - h hIq171 hEq171
          simp only [spec_l12Deep_s72] at h
          refine sem_cut fun k172 hk172 => zS z0 ?_
          refine sem_ifh rfl h ?_ ?_ <;> clear h <;> intro h
          · refine r_skip (r_cN hk172 ?_)
            refine sem_cut fun k174 hk174 => sem_blk fun k175 hk175 => ?_
            obtain ⟨g176, h⟩ := gAp h
            refine zU (zRFn g176) (r_bN hk175 ?_)
            refine r_cN hk174 (zU z0 ?_)
            refine zBd hkq171 h hIq171 () trivial
          · refine r_exit (r_cE hk172 ?_)
            replace h := zX h hEq171 hKq171
            refine r_kE hkq171 (r_bE hk160 ?_)
            refine zJ J157 [3, 5] () _ h
    · intro k178 hk178 J177
      refine zS z0 (sem_blk fun k180 hk180 => ?_)
      obtain ⟨oq191, hLq191, hKq191⟩ := bind_some' h
      clear h
      refine sem_loopP [3, 5, 6, 9] (fun (_ : Unit) (x : ((List Inst) × Int)) => (⟨[(3, .sl 1 0 ((x.1).length)), (5, .pt 2 0), (6, .sc (.int .i64 (v34.1))), (9, .sc (.int .i64 (x.2)))], [.rc [.fz 1 (R e_u8 (v34.2.b)), .sc (.int .i64 (v34.2.p))], .arr true 3 (R e_Inst (x.1)), .rc [.sc (.int .i64 (10)), .sc (.int .i64 (v3.1.Op)), .fz 3 (R e_DevArg (v3.1.Args))]]⟩ : St)) (fun (_ : Unit) (x : ((List Inst) × Int)) => True) (spec_l12Deep_s57 v34) () ([(⟨1, v2.1.Op, v2.1.Args⟩ : Inst)], 0) hLq191 (by rfl) (by rfl) ⟨?_, trivial⟩ ?_
      · first | exact wkSt_same rfl | (simp (decide := true) only [go_sem, reduceIte, Nat.reduceAdd, Int.reduceToNat, Nat.reduceSub, Nat.reduceMul]; exact wkSt_same rfl)
      · rintro nq191 _ ⟨v46, v47⟩ xq191 kq191 hkq191 - h hIq191 hEq191
        simp only [spec_l12Deep_s57] at h
        refine sem_cut fun k192 hk192 => zS z0 ?_
        refine sem_ifh rfl h ?_ ?_ <;> clear h <;> intro h
        · refine r_skip (r_cN hk192 ?_)
          refine sem_cut fun k194 hk194 => sem_blk fun k195 hk195 => ?_
          obtain ⟨g196, h⟩ := gAp h
          refine zU (zRFn g196) (r_bN hk195 ?_)
          refine r_cN hk194 (zU z0 ?_)
          refine zBd hkq191 h hIq191 () trivial
        · refine r_exit (r_cE hk192 ?_)
          replace h := zX h hEq191 hKq191
          refine r_kE hkq191 (r_bE hk180 ?_)
          refine zJ J177 [3, 5, 6] () _ h
  · intro k198 hk198 J197
    obtain ⟨v49, c200H, h⟩ := bind_some' h
    refine zS (zC1 (lC [[0]] (con_spec_l26Rd_pick _ _ _ c200H))) ?_
    refine sem_ifh rfl h ?_ ?_ <;> clear h <;> intro h
    · refine zCut (fun (x : (List Inst)) => ⟨[(0, .pt 0 0), (3, .sl 1 0 ((x).length)), (5, .pt 2 0), (6, .sc (.int .i64 (v4.1)))], [.rc [.fz 1 (R e_u8 (v49.2.b)), .sc (.int .i64 (v49.2.p))], .arr true 3 (R e_Inst (x)), .rc [.sc (.int .i64 (10)), .sc (.int .i64 (v3.1.Op)), .fz 3 (R e_DevArg (v3.1.Args))]]⟩) (spec_l12Deep_j15 v3 v4 v49) res_ ?_ ?_
      · rintro _ v53 h
        simp only [spec_l12Deep_j15] at h
        refine zCut (fun (x : ((List Int) × Int × (List Inst))) => ⟨[(3, .sl 1 0 ((x.2.2).length)), (5, .pt 2 0)], [.rc [.fz 1 (R e_u8 (x.1)), .sc (.int .i64 (x.2.1))], .arr true 3 (R e_Inst (x.2.2)), .rc [.sc (.int .i64 (10)), .sc (.int .i64 (v3.1.Op)), .fz 3 (R e_DevArg (v3.1.Args))]]⟩) (spec_l12Deep_j30 v3) res_ ?_ ?_
        · rintro _ ⟨v62, v63, v64⟩ h
          simp only [spec_l12Deep_j30] at h
          obtain ⟨g251, h⟩ := gAp h
          refine zS (zRFn g251) (r_ret ?_)
          refine r_jR hk198 ?_
          cases h
          refine zORd hQ
        · intro k253 hk253 J252
          refine zS z0 (sem_blk fun k255 hk255 => ?_)
          obtain ⟨oq268, hLq268, hKq268⟩ := bind_some' h
          clear h
          refine sem_loopP [0, 3, 5, 6, 8] (fun (_ : Unit) (x : ((List Int) × Int × (List Inst) × Int)) => (⟨[(0, .pt 0 0), (3, .sl 1 0 ((x.2.2.1).length)), (5, .pt 2 0), (6, .sc (.int .i64 (v4.1))), (8, .sc (.int .i64 (x.2.2.2)))], [.rc [.fz 1 (R e_u8 (x.1)), .sc (.int .i64 (x.2.1))], .arr true 3 (R e_Inst (x.2.2.1)), .rc [.sc (.int .i64 (10)), .sc (.int .i64 (v3.1.Op)), .fz 3 (R e_DevArg (v3.1.Args))]]⟩ : St)) (fun (_ : Unit) (x : ((List Int) × Int × (List Inst) × Int)) => True) (spec_l12Deep_s34 v4) () (v49.2.b, v49.2.p, v53, 1) hLq268 (by rfl) (by rfl) ⟨?_, trivial⟩ ?_
          · first | exact wkSt_same rfl | (simp (decide := true) only [go_sem, reduceIte, Nat.reduceAdd, Int.reduceToNat, Nat.reduceSub, Nat.reduceMul]; exact wkSt_same rfl)
          · rintro nq268 _ ⟨v66, v67, v68, v69⟩ xq268 kq268 hkq268 - h hIq268 hEq268
            simp only [spec_l12Deep_s34] at h
            refine sem_cut fun k269 hk269 => zS z0 ?_
            refine sem_ifh rfl h ?_ ?_ <;> clear h <;> intro h
            · refine r_skip (r_cN hk269 ?_)
              refine sem_cut fun k271 hk271 => sem_blk fun k272 hk272 => ?_
              obtain ⟨v72, c273H, h⟩ := bind_some' h
              obtain ⟨g274, h⟩ := gAp h
              refine zU (zC1Fn (lC [[0]] (con_spec_l26Rd_pick _ _ _ c273H)) g274) (r_bN hk272 ?_)
              refine r_cN hk271 (zU z0 ?_)
              refine zBd hkq268 h hIq268 () trivial
            · refine r_exit (r_cE hk269 ?_)
              replace h := zX h hEq268 hKq268
              refine r_kE hkq268 (r_bE hk255 ?_)
              refine zJ J252 [3, 5] () _ h
      · intro k276 hk276 J275
        refine zS z0 (sem_blk fun k278 hk278 => ?_)
        obtain ⟨oq294, hLq294, hKq294⟩ := bind_some' h
        clear h
        refine sem_loopP [0, 3, 4, 5, 6, 7] (fun (i : P2) (x : ((List Inst) × Int)) => match i with | .a => (⟨[(0, .pt 0 0), (3, .sl 1 0 ((x.1).length)), (4, .pt 2 0), (5, .pt 4 0), (6, .sc (.int .i64 (v4.1))), (7, .sc (.int .i64 (x.2)))], [.rc [.fz 1 (R e_u8 (v49.2.b)), .sc (.int .i64 (v49.2.p))], .arr true 3 (R e_Inst (x.1)), .rc [.sc (.int .i64 (1)), .sc (.int .i64 (v2.1.Op)), .sl 3 0 ((v2.1.Args).length)], .arr true 3 (R e_DevArg (v2.1.Args)), .rc [.sc (.int .i64 (10)), .sc (.int .i64 (v3.1.Op)), .fz 3 (R e_DevArg (v3.1.Args))]]⟩ : St) | .b => (⟨[(0, .pt 0 0), (3, .sl 1 0 ((x.1).length)), (4, .pt 2 0), (5, .pt 4 0), (6, .sc (.int .i64 (v4.1))), (7, .sc (.int .i64 (x.2)))], [.rc [.fz 1 (R e_u8 (v49.2.b)), .sc (.int .i64 (v49.2.p))], .arr true 3 (R e_Inst (x.1)), .rc [.sc (.int .i64 (1)), .sc (.int .i64 (v2.1.Op)), .sl 3 0 ((v2.1.Args).length)], .arr false 3 (R e_DevArg (v2.1.Args)), .rc [.sc (.int .i64 (10)), .sc (.int .i64 (v3.1.Op)), .fz 3 (R e_DevArg (v3.1.Args))]]⟩ : St)) (fun (i : P2) (x : ((List Inst) × Int)) => (match i with | .a => True | .b => True)) (spec_l12Deep_s19 v2 v4) (.a) ([], 0) hLq294 (by rfl) (by rfl) ⟨?_, trivial⟩ ?_
        · first | exact wkSt_same rfl | (simp (decide := true) only [go_sem, reduceIte, Nat.reduceAdd, Int.reduceToNat, Nat.reduceSub, Nat.reduceMul]; exact wkSt_same rfl)
        · rintro nq294 (_ | _) ⟨v73, v74⟩ xq294 kq294 hkq294 hp h hIq294 hEq294
          · simp only [spec_l12Deep_s19] at h
            refine sem_cut fun k295 hk295 => zS z0 ?_
            refine sem_ifh rfl h ?_ ?_ <;> clear h <;> intro h
            · refine r_skip (r_cN hk295 ?_)
              refine sem_cut fun k297 hk297 => sem_blk fun k298 hk298 => ?_
              obtain ⟨g299, h⟩ := gAp h
              refine zU (zRF g299) (r_bN hk298 ?_)
              refine r_cN hk297 (zU z0 ?_)
              refine zB hkq294 h hIq294 (.b) trivial
            · refine r_exit (r_cE hk295 ?_)
              replace h := zX h hEq294 hKq294
              refine r_kE hkq294 (r_bE hk278 ?_)
              refine zJ J275 [0, 3, 5, 6] () _ h
          · simp only [spec_l12Deep_s19] at h
            refine sem_cut fun k300 hk300 => zS z0 ?_
            refine sem_ifh rfl h ?_ ?_ <;> clear h <;> intro h
            · refine r_skip (r_cN hk300 ?_)
              refine sem_cut fun k302 hk302 => sem_blk fun k303 hk303 => ?_
              obtain ⟨g304, h⟩ := gAp h
              refine zU (zRF g304) (r_bN hk303 ?_)
              refine r_cN hk302 (zU z0 ?_)
              refine zB hkq294 h hIq294 (.b) trivial
            · refine r_exit (r_cE hk300 ?_)
              replace h := zX h hEq294 hKq294
              refine r_kE hkq294 (r_bE hk278 ?_)
              refine zJ J275 [0, 3, 5, 6] () _ h
    · refine r_skip (zJ J197 [0, 3, 4, 5] () _ h)
noncomputable def spec_l16Any (v1 : l26Rd) : Option ((List Inst) × l26Rd) :=
  (Option.bind (spec_l26Rd_pick v1 16) fun v2 => (cond (v2.1 == 0) (Option.bind (spec_l16Bait v2.2) fun v3 => (Option.bind (spec_l11Spoil v3.2 v3.1) fun v4 => (some (v4.1, v4.2)))) (cond (v2.1 == 1) (Option.bind (spec_l12Deep v2.2) fun v5 => (some (v5.1, v5.2))) (Option.bind (spec_l16Bait v2.2) fun v6 => (some (v6.1, v6.2))))))
theorem con_spec_l16Any (v1 : l26Rd) (res_ : ((List Inst) × l26Rd)) (h : spec_l16Any v1 = some res_) : Con Tryd.prog C0 9 [.pt 0 0] [.rc [.fz 1 (R e_u8 (v1.b)), .sc (.int .i64 (v1.p))]]
    (fun x σ' => x = .fz 3 (R e_Inst (res_.1)) ∧ σ' = [.rc [.fz 1 (R e_u8 (res_.2.b)), .sc (.int .i64 (res_.2.p))]]) := by
  refine zCon hP 1 [0, 2, 4, 5, 11] [.tmp 2] Tryd.func9 (by unfold Tryd.f9; rfl) fun Q hQ => ?_
  unfold spec_l16Any at h
  refine zS z0 (sem_cut fun k2 hk2 => ?_)
  obtain ⟨v2, c4H, h⟩ := bind_some' h
  refine zS (zC1 (lC [[0]] (con_spec_l26Rd_pick _ _ _ c4H))) (sem_blk fun k5 hk5 => ?_)
  refine zS z0 ?_
  refine sem_ifh rfl h ?_ ?_ <;> clear h <;> intro h
  · obtain ⟨v3, c8H, h⟩ := bind_some' h
    obtain ⟨v4, c9H, h⟩ := bind_some' h
    refine zS (zC2 (lC [[0]] (con_spec_l16Bait _ _ c8H)) (lC [[0]] (con_spec_l11Spoil _ _ _ c9H))) (r_ret ?_)
    refine r_bR hk5 (r_cR hk2 ?_)
    cases h
    refine zAR hQ
  · refine zS z0 ?_
    refine sem_ifh rfl h ?_ ?_ <;> clear h <;> intro h
    · obtain ⟨v5, c12H, h⟩ := bind_some' h
      refine zS (zC1 (lC [[0]] (con_spec_l12Deep _ _ c12H))) (r_ret ?_)
      refine r_bR hk5 (r_cR hk2 ?_)
      cases h
      refine zAR hQ
    · refine r_skip (r_bN hk5 ?_)
      refine r_cN hk2 ?_
      obtain ⟨v6, c14H, h⟩ := bind_some' h
      refine zS (zC1 (lC [[0]] (con_spec_l16Bait _ _ c14H))) (r_ret ?_)
      cases h
      refine zAR hQ
noncomputable def spec_DrawPeepAll (v1 : (List Int)) : Option (List Inst) :=
  (Option.bind (spec_l26Open v1) fun v2 => (Option.bind (spec_l16Any v2) fun v3 => (some v3.1)))
theorem con_spec_DrawPeepAll (v1 : (List Int)) (res_ : (List Inst)) (h : spec_DrawPeepAll v1 = some res_) : Con Tryd.prog C0 4 [.fz 1 (R e_u8 (v1))] []
    (fun x σ' => x = .fz 3 (R e_Inst (res_)) ∧ σ' = []) := by
  refine zCon hP 0 [0, 2] [.tmp 2] Tryd.func4 (by unfold Tryd.f4; rfl) fun Q hQ => ?_
  unfold spec_DrawPeepAll at h
  refine zS z0 ?_
  obtain ⟨v2, c3H, h⟩ := bind_some' h
  obtain ⟨v3, c4H, h⟩ := bind_some' h
  refine zS (zC2 (lC [] (con_spec_l26Open _ _ c3H)) (lC [[0]] (con_spec_l16Any _ _ c4H))) (r_ret ?_)
  cases h
  refine zAR hQ
noncomputable def impl_in (v1 : Int) (v2 : Int) (v3 : Int) : Option Bool :=
  (some ((decide (v1 ≥ v2)) && (decide (v1 ≤ v3))))
theorem con_impl_in (v1 : Int) (v2 : Int) (v3 : Int) (res_ : Bool) (h : impl_in v1 v2 v3 = some res_) : Con Tryd.prog C0 44 [.sc (.int .i64 (v1)), .sc (.int .i64 (v2)), .sc (.int .i64 (v3))] []
    (fun x σ' => x = .sc (.bool (res_)) ∧ σ' = []) := by
  refine zCon hP 0 [0, 1, 2, 6] [.tmp 6] Tryd.func44 (by unfold Tryd.f44; rfl) fun Q hQ => ?_
  unfold impl_in at h
  refine zS z0 (zS zR ?_)
  refine r_ret ?_
  cases h
  refine zAR hQ
noncomputable def impl_ElemArity_j29 : Bool → Option Int
  | v7 => (cond v7 (some 2) (some 0))
noncomputable def impl_ElemArity_j5 (v1 : Int) : Bool → Option Int
  | v3 => (cond v3 (some 1) (Option.bind (impl_in v1 31 35) fun v4 => (cond v4 (some 3) (Option.bind (impl_in v1 3 10) fun v8 => (cond v8 (impl_ElemArity_j29 v8) (Option.bind (impl_in v1 24 37) fun v9 => (impl_ElemArity_j29 v9)))))))
noncomputable def impl_ElemArity (v1 : Int) : Option Int :=
  (cond (v1 == 1) (impl_ElemArity_j5 v1 (v1 == 1)) (cond (v1 == 2) (impl_ElemArity_j5 v1 (v1 == 2)) (Option.bind (impl_in v1 21 23) fun v10 => (cond v10 (impl_ElemArity_j5 v1 v10) (impl_ElemArity_j5 v1 (v1 == 25))))))
theorem con_impl_ElemArity (v1 : Int) (res_ : Int) (h : impl_ElemArity v1 = some res_) : Con Tryd.prog C0 79 [.sc (.int .i64 (v1))] []
    (fun x σ' => x = .sc (.int .i64 (res_)) ∧ σ' = []) := by
  refine zCon hP 0 [0, 2, 3, 12, 15] [.tmp 2] Tryd.func79 (by unfold Tryd.f79; rfl) fun Q hQ => ?_
  unfold impl_ElemArity at h
  refine zS z0 (sem_cut fun k2 hk2 => ?_)
  refine sem_blk fun k3 hk3 => zCut (fun (x : Bool) => ⟨[(0, .sc (.int .i64 (v1))), (3, .sc (.bool (x)))], []⟩) (impl_ElemArity_j5 v1) res_ ?_ ?_
  · rintro _ v3 h
    simp only [impl_ElemArity_j5] at h
    refine sem_ifh rfl h ?_ ?_ <;> clear h <;> intro h
    · refine zS z0 (r_ret ?_)
      refine r_bR hk3 (r_cR hk2 ?_)
      cases h
      refine zAR hQ
    · obtain ⟨v4, c10H, h⟩ := bind_some' h
      refine zS (zC1 (lF [] (con_impl_in _ _ _ _ c10H))) ?_
      refine sem_ifh rfl h ?_ ?_ <;> clear h <;> intro h
      · refine zS z0 (r_ret ?_)
        refine r_bR hk3 (r_cR hk2 ?_)
        cases h
        refine zAR hQ
      · refine zCut (fun (x : Bool) => ⟨[(15, .sc (.bool (x)))], []⟩) impl_ElemArity_j29 res_ ?_ ?_
        · rintro _ v7 h
          simp only [impl_ElemArity_j29] at h
          refine sem_ifh rfl h ?_ ?_ <;> clear h <;> intro h
          · refine zS z0 (r_ret ?_)
            refine r_bR hk3 (r_cR hk2 ?_)
            cases h
            refine zAR hQ
          · refine r_skip (r_bN hk3 ?_)
            refine r_cN hk2 (zS z0 ?_)
            refine r_ret ?_
            cases h
            refine zAR hQ
        · intro k18 hk18 J17
          obtain ⟨v8, c20H, h⟩ := bind_some' h
          refine zS (zC1 (lF [] (con_impl_in _ _ _ _ c20H))) ?_
          refine sem_ifh rfl h ?_ ?_ <;> clear h <;> intro h
          · refine r_skip (zJ J17 [15] () _ h)
          · obtain ⟨v9, c21H, h⟩ := bind_some' h
            refine zU (zC1 (lF [] (con_impl_in _ _ _ _ c21H))) (zJ J17 [15] () _ h)
  · intro k23 hk23 J22
    refine zS z0 ?_
    refine sem_ifh rfl h ?_ ?_ <;> clear h <;> intro h
    · refine r_skip (zJ J22 [0, 3] () _ h)
    · refine zS z0 ?_
      refine sem_ifh rfl h ?_ ?_ <;> clear h <;> intro h
      · refine r_skip (zJ J22 [0, 3] () _ h)
      · obtain ⟨v10, c27H, h⟩ := bind_some' h
        refine zS (zC1 (lF [] (con_impl_in _ _ _ _ c27H))) ?_
        refine sem_ifh rfl h ?_ ?_ <;> clear h <;> intro h
        · refine r_skip (zJ J22 [0, 3] () _ h)
        · refine zU z0 (zJ J22 [0, 3] () _ h)
noncomputable def impl_DevSize (v1 : Int) : Option Int :=
  (Option.bind (impl_in v1 1 10) fun v2 => (cond (!v2) (some 0) (Option.bind (idx pt_devSizes (v1)) fun v3 => (some v3))))
theorem con_impl_DevSize (v1 : Int) (res_ : Int) (h : impl_DevSize v1 = some res_) : Con Tryd.prog C0 92 [.sc (.int .i64 (v1))] []
    (fun x σ' => x = .sc (.int .i64 (res_)) ∧ σ' = []) := by
  refine zCon hP 0 [0, 2, 5] [.tmp 2] Tryd.func92 (by unfold Tryd.f92; rfl) fun Q hQ => ?_
  unfold impl_DevSize at h
  refine zS z0 (sem_cut fun k2 hk2 => ?_)
  obtain ⟨v2, c4H, h⟩ := bind_some' h
  refine zS (zC1 (lF [] (con_impl_in _ _ _ _ c4H))) ?_
  refine sem_ifh rfl h ?_ ?_ <;> clear h <;> intro h
  · refine zS z0 (r_ret ?_)
    refine r_cR hk2 ?_
    cases h
    refine zAR hQ
  · refine r_skip (r_cN hk2 ?_)
    obtain ⟨v3, h, c7⟩ := bI h
    refine zS (zRF c7) (r_ret ?_)
    cases h
    refine zAR hQ
noncomputable def impl_DevOk (v1 : DevArg) : Option Bool :=
  (cond (v1.Kind == 11) (Option.bind (impl_in v1.N (-32768) 32767) fun v2 => (some (v2 && (v1.P == 0)))) (cond (v1.Kind == 12) (Option.bind (impl_in v1.N (-999999999) 999999999) fun v3 => (cond v3 (Option.bind (impl_in v1.P 1 6) fun v4 => (some (v4 && ((v1.P == 1) || (((v1.N).tmod 10) != 0))))) (some false))) (cond (v1.Kind == 13) (Option.bind (impl_in v1.N 0 (IntKind.i64.wrap (((pt_devWords).length : Int) - 1))) fun v5 => (some (v5 && (v1.P == 0)))) (cond (decide (v1.N ≥ 0)) (Option.bind (impl_DevSize v1.Kind) fun v6 => (some ((decide (v1.N < v6)) && (v1.P == 0)))) (some false)))))
theorem con_impl_DevOk (v1 : DevArg) (res_ : Bool) (h : impl_DevOk v1 = some res_) : Con Tryd.prog C0 89 [.agg [.sc (.int .i64 (v1.Kind)), .sc (.int .i64 (v1.N)), .sc (.int .i64 (v1.P))]] []
    (fun x σ' => x = .sc (.bool (res_)) ∧ σ' = []) := by
  refine zCon hP 0 [0, 1, 2, 4, 5, 15, 36] [.tmp 2] Tryd.func89 (by unfold Tryd.f89; rfl) fun Q hQ => ?_
  unfold impl_DevOk at h
  refine zS z0 (sem_cut fun k2 hk2 => ?_)
  refine zS z0 (sem_blk fun k4 hk4 => ?_)
  refine zS z0 ?_
  refine sem_ifh rfl h ?_ ?_ <;> clear h <;> intro h
  · obtain ⟨v2, c7H, h⟩ := bind_some' h
    refine zS (zC1 (lF [] (con_impl_in _ _ _ _ c7H))) (r_ret ?_)
    refine r_bR hk4 (r_cR hk2 ?_)
    cases h
    refine zAR hQ
  · refine zS z0 ?_
    refine sem_ifh rfl h ?_ ?_ <;> clear h <;> intro h
    · refine sem_cut fun k9 hk9 => ?_
      obtain ⟨v3, c10H, h⟩ := bind_some' h
      rcases Bool.eq_false_or_eq_true v3 with g11 | g11
      · replace h := cond_t h g11
        obtain ⟨v4, c12H, h⟩ := bind_some' h
        refine zU (zC2F (lF [] (con_impl_in _ _ _ _ c10H)) (lF [] (con_impl_in _ _ _ _ c12H)) g11) (r_cN hk9 ?_)
        refine r_ret (r_bR hk4 ?_)
        refine r_cR hk2 ?_
        cases h
        refine zAR hQ
      · replace h := cond_f h g11
        refine zU (zC1F (lF [] (con_impl_in _ _ _ _ c10H)) g11) (r_cN hk9 ?_)
        refine r_ret (r_bR hk4 ?_)
        refine r_cR hk2 ?_
        cases h
        refine zAR hQ
    · refine zS z0 ?_
      refine sem_ifh rfl h ?_ ?_ <;> clear h <;> intro h
      · obtain ⟨v5, c15H, h⟩ := bind_some' h
        refine zS (zC1 (lF [] (con_impl_in _ _ _ _ c15H))) (r_ret ?_)
        refine r_bR hk4 (r_cR hk2 ?_)
        cases h
        refine zAR hQ
      · refine r_skip (r_bN hk4 ?_)
        refine r_cN hk2 (sem_cut fun k16 hk16 => ?_)
        rcases Bool.eq_false_or_eq_true (decide (v1.N ≥ 0)) with g17 | g17
        · replace h := cond_t h g17
          obtain ⟨v6, c18H, h⟩ := bind_some' h
          refine zU (zPC1F (.take 0 (.take 1 (.take 2 (.take 3 (.take 4 (.take 5 (.take 6 (.take 7 (.one 8 (.take 9 (.take 10 (.take 11 (.take 12 (.take 13 (.take 14 (.take 15 (.take 16 .done))))))))))))))))) [0] (lF [] (con_impl_DevSize _ _ c18H)) g17) (r_cN hk16 ?_)
          refine r_ret ?_
          cases h
          refine zAR hQ
        · replace h := cond_f h g17
          refine zU (zPRF (.take 0 (.take 1 (.take 2 (.take 3 (.take 4 (.take 5 (.take 6 (.take 7 (.one 8 (.take 9 (.take 10 (.take 11 (.take 12 (.take 13 (.take 14 (.take 15 (.take 16 .done))))))))))))))))) [0] g17) (r_cN hk16 ?_)
          refine r_ret ?_
          cases h
          refine zAR hQ
noncomputable def slices_Index_int_int_j3 : Unit → Option Int
  | () => (some (-1))
noncomputable def slices_Index_int_int_s7 (v1 : (List Int)) (v2 : Int) : Int → Option (Int ⊕ (Int ⊕ Unit))
  | v10 => (cond (decide (v10 < ((v1).length : Int))) (Option.bind (idx v1 (v10)) fun v14 => (cond (v2 == v14) (some (.inr (.inl v10))) (some (.inl (IntKind.i64.wrap (v10 + 1)))))) (some (.inr (.inr ()))))
noncomputable def slices_Index_int_int (v1 : (List Int)) (v2 : Int) : Option Int :=
  ((loop (slices_Index_int_int_s7 v1 v2) 0).bind (Sum.elim (fun v12 => (some v12)) (fun v13 => (slices_Index_int_int_j3 ()))))
theorem con_slices_Index_int_int (v1 : (List Int)) (v2 : Int) (res_ : Int) (h : slices_Index_int_int v1 v2 = some res_) : Con Tryd.prog C0 64 [.fz 1 (R e_i64 (v1)), .sc (.int .i64 (v2))] []
    (fun x σ' => x = .sc (.int .i64 (res_)) ∧ σ' = []) := by
  refine zCon hP 0 [0, 1, 4, 5, 7, 8, 9, 16] [.tmp 4] Tryd.func64 (by unfold Tryd.f64; rfl) fun Q hQ => ?_
  unfold slices_Index_int_int at h
  refine zS z0 (zCut (fun (x : Unit) => ⟨[], []⟩) slices_Index_int_int_j3 res_ ?_ ?_)
  · rintro _ _ h
    simp only [slices_Index_int_int_j3] at h
    refine zS z0 (r_ret ?_)
    cases h
    refine zAR hQ
  · intro k31 hk31 J30
    refine zS z0 (sem_blk fun k33 hk33 => ?_)
    obtain ⟨oq50, hLq50, hKq50⟩ := bind_some' h
    clear h
    refine sem_loopP [0, 1, 7, 8] (fun (_ : Unit) (x : Int) => (⟨[(0, .fz 1 (R e_i64 (v1))), (1, .sc (.int .i64 (v2))), (7, .sc (.int .i64 (((v1).length : Int)))), (8, .sc (.int .i64 (x)))], []⟩ : St)) (fun (_ : Unit) (x : Int) => True) (slices_Index_int_int_s7 v1 v2) () 0 hLq50 (by rfl) (by rfl) ⟨?_, trivial⟩ ?_
    · first | exact wkSt_same rfl | (simp (decide := true) only [go_sem, reduceIte, Nat.reduceAdd, Int.reduceToNat, Nat.reduceSub, Nat.reduceMul]; exact wkSt_same rfl)
    · rintro nq50 _ v10 xq50 kq50 hkq50 - h hIq50 hEq50
      simp only [slices_Index_int_int_s7] at h
      refine zS z0 (sem_cut fun k52 hk52 => ?_)
      refine sem_ifh rfl h ?_ ?_ <;> clear h <;> intro h
      · refine r_skip (r_cN hk52 ?_)
        refine sem_cut fun k53 hk53 => sem_blk fun k54 hk54 => zS z0 ?_
        obtain ⟨v14, h, c57⟩ := bI h
        refine zS (zRF c57) ?_
        refine sem_ifh rfl h ?_ ?_ <;> clear h <;> intro h
        · refine zS z0 (r_ret ?_)
          refine r_bR hk54 (r_cR hk53 ?_)
          replace h := zX h hEq50 hKq50
          simp only [Sum.elim_inl, Sum.elim_inr] at h
          refine r_kR hkq50 (r_bR hk33 ?_)
          refine r_jR hk31 ?_
          cases h
          refine zAR hQ
        · refine r_skip (r_bN hk54 ?_)
          refine r_cN hk53 (zU z0 ?_)
          refine zB hkq50 h hIq50 () trivial
      · refine r_exit (r_cE hk52 ?_)
        replace h := zX h hEq50 hKq50
        simp only [Sum.elim_inl, Sum.elim_inr] at h
        refine r_kE hkq50 (r_bE hk33 ?_)
        refine zJ J30 [] () _ h
noncomputable def slices_Contains_int_int (v1 : (List Int)) (v2 : Int) : Option Bool :=
  (Option.bind (slices_Index_int_int v1 v2) fun v3 => (some (decide (v3 ≥ 0))))
theorem con_slices_Contains_int_int (v1 : (List Int)) (v2 : Int) (res_ : Bool) (h : slices_Contains_int_int v1 v2 = some res_) : Con Tryd.prog C0 45 [.fz 1 (R e_i64 (v1)), .sc (.int .i64 (v2))] []
    (fun x σ' => x = .sc (.bool (res_)) ∧ σ' = []) := by
  refine zCon hP 0 [0, 1, 4] [.tmp 4] Tryd.func45 (by unfold Tryd.f45; rfl) fun Q hQ => ?_
  unfold slices_Contains_int_int at h
  refine zS z0 ?_
  obtain ⟨v3, c3H, h⟩ := bind_some' h
  refine zS (zC1 (lF [] (con_slices_Index_int_int _ _ _ c3H))) (r_ret ?_)
  cases h
  refine zAR hQ
noncomputable def impl_DevArg_kindIs (v1 : DevArg) (v2 : (List Int)) : Option Bool :=
  (Option.bind (impl_DevOk v1) fun v3 => (cond v3 (Option.bind (slices_Contains_int_int v2 v1.Kind) fun v4 => (some v4)) (some false)))
theorem con_impl_DevArg_kindIs (v1 : DevArg) (v2 : (List Int)) (res_ : Bool) (h : impl_DevArg_kindIs v1 v2 = some res_) : Con Tryd.prog C0 81 [.agg [.sc (.int .i64 (v1.Kind)), .sc (.int .i64 (v1.N)), .sc (.int .i64 (v1.P))], .fz 1 (R e_i64 (v2))] []
    (fun x σ' => x = .sc (.bool (res_)) ∧ σ' = []) := by
  refine zCon hP 0 [0, 1, 2, 4] [.tmp 4] Tryd.func81 (by unfold Tryd.f81; rfl) fun Q hQ => ?_
  unfold impl_DevArg_kindIs at h
  refine zS z0 (sem_cut fun k2 hk2 => ?_)
  obtain ⟨v3, c3H, h⟩ := bind_some' h
  rcases Bool.eq_false_or_eq_true v3 with g4 | g4
  · replace h := cond_t h g4
    obtain ⟨v4, c5H, h⟩ := bind_some' h
    refine zU (zC2F (lF [] (con_impl_DevOk _ _ c3H)) (lF [] (con_slices_Contains_int_int _ _ _ c5H)) g4) (r_cN hk2 ?_)
    refine r_ret ?_
    cases h
    refine zAR hQ
  · replace h := cond_f h g4
    refine zU (zC1F (lF [] (con_impl_DevOk _ _ c3H)) g4) (r_cN hk2 ?_)
    refine r_ret ?_
    cases h
    refine zAR hQ
noncomputable def impl_DevIsBit (v1 : DevArg) : Option Bool :=
  (Option.bind (impl_DevArg_kindIs v1 [1, 2, 3, 4, 6, 7, 8]) fun v2 => (some v2))
theorem con_impl_DevIsBit (v1 : DevArg) (res_ : Bool) (h : impl_DevIsBit v1 = some res_) : Con Tryd.prog C0 80 [.agg [.sc (.int .i64 (v1.Kind)), .sc (.int .i64 (v1.N)), .sc (.int .i64 (v1.P))]] []
    (fun x σ' => x = .sc (.bool (res_)) ∧ σ' = []) := by
  refine zCon hP 0 [0, 1, 2] [.tmp 2] Tryd.func80 (by unfold Tryd.f80; rfl) fun Q hQ => ?_
  unfold impl_DevIsBit at h
  refine zS z0 ?_
  obtain ⟨v2, c3H, h⟩ := bind_some' h
  refine zS (zC1 (lF [] (con_impl_DevArg_kindIs _ _ _ c3H))) (r_ret ?_)
  cases h
  refine zAR hQ
noncomputable def impl_DevIsWhole (v1 : DevArg) : Option Bool :=
  (Option.bind (impl_DevArg_kindIs v1 [7, 8, 9, 11]) fun v2 => (some v2))
theorem con_impl_DevIsWhole (v1 : DevArg) (res_ : Bool) (h : impl_DevIsWhole v1 = some res_) : Con Tryd.prog C0 84 [.agg [.sc (.int .i64 (v1.Kind)), .sc (.int .i64 (v1.N)), .sc (.int .i64 (v1.P))]] []
    (fun x σ' => x = .sc (.bool (res_)) ∧ σ' = []) := by
  refine zCon hP 0 [0, 1, 2] [.tmp 2] Tryd.func84 (by unfold Tryd.f84; rfl) fun Q hQ => ?_
  unfold impl_DevIsWhole at h
  refine zS z0 ?_
  obtain ⟨v2, c3H, h⟩ := bind_some' h
  refine zS (zC1 (lF [] (con_impl_DevArg_kindIs _ _ _ c3H))) (r_ret ?_)
  cases h
  refine zAR hQ
noncomputable def impl_all_1_fimpl_DevIsWhole (v1 : DevArg) : Option Bool :=
  (Option.bind (impl_DevIsWhole v1) fun v2 => (some (!v2)))
theorem con_impl_all_1_fimpl_DevIsWhole (v1 : DevArg) (res_ : Bool) (h : impl_all_1_fimpl_DevIsWhole v1 = some res_) : Con Tryd.prog C0 91 [.agg [.sc (.int .i64 (v1.Kind)), .sc (.int .i64 (v1.N)), .sc (.int .i64 (v1.P))], .pt 0 0] [.rc [.sc (.func (.func 84) #[] #[])]]
    (fun x σ' => x = .sc (.bool (res_)) ∧ σ' = [.rc [.sc (.func (.func 84) #[] #[])]]) := by
  refine zCon hP 1 [0, 1, 2, 3] [.tmp 3] Tryd.func91 (by unfold Tryd.f91; rfl) fun Q hQ => ?_
  unfold impl_all_1_fimpl_DevIsWhole at h
  refine zS z0 ?_
  obtain ⟨v2, c3H, h⟩ := bind_some' h
  refine zS (zC1 (lF [] (con_impl_DevIsWhole _ _ c3H))) (r_ret ?_)
  cases h
  refine zAR hQ
noncomputable def slices_IndexFunc_impl_DevArg_impl_DevArg_fimpl_all_1_impl_DevIsWhole_j3 : Unit → Option Int
  | () => (some (-1))
noncomputable def slices_IndexFunc_impl_DevArg_impl_DevArg_fimpl_all_1_impl_DevIsWhole_s7 (v1 : (List DevArg)) : Int → Option (Int ⊕ (Int ⊕ Unit))
  | v13 => (cond (decide (v13 < ((v1).length : Int))) (Option.bind (idx v1 (v13)) fun v18 => (Option.bind (impl_all_1_fimpl_DevIsWhole v18) fun v19 => (cond v19 (some (.inr (.inl v13))) (some (.inl (IntKind.i64.wrap (v13 + 1))))))) (some (.inr (.inr ()))))
noncomputable def slices_IndexFunc_impl_DevArg_impl_DevArg_fimpl_all_1_impl_DevIsWhole (v1 : (List DevArg)) : Option Int :=
  ((loop (slices_IndexFunc_impl_DevArg_impl_DevArg_fimpl_all_1_impl_DevIsWhole_s7 v1) 0).bind (Sum.elim (fun v16 => (some v16)) (fun v17 => (slices_IndexFunc_impl_DevArg_impl_DevArg_fimpl_all_1_impl_DevIsWhole_j3 ()))))
theorem con_slices_IndexFunc_impl_DevArg_impl_DevArg_fimpl_all_1_impl_DevIsWhole (v1 : (List DevArg)) (res_ : Int) (h : slices_IndexFunc_impl_DevArg_impl_DevArg_fimpl_all_1_impl_DevIsWhole v1 = some res_) : Con Tryd.prog C0 93 [.fz 3 (R e_DevArg (v1)), .clo 91 [(0, 0)]] [.rc [.sc (.func (.func 84) #[] #[])]]
    (fun x σ' => x = .sc (.int .i64 (res_)) ∧ σ' = [.rc [.sc (.func (.func 84) #[] #[])]]) := by
  refine zCon hP 1 [0, 1, 4, 5, 7, 8, 9, 16] [.tmp 4] Tryd.func93 (by unfold Tryd.f93; rfl) fun Q hQ => ?_
  unfold slices_IndexFunc_impl_DevArg_impl_DevArg_fimpl_all_1_impl_DevIsWhole at h
  refine zS z0 (zCut (fun (x : Unit) => ⟨[], [.rc [.sc (.func (.func 84) #[] #[])]]⟩) slices_IndexFunc_impl_DevArg_impl_DevArg_fimpl_all_1_impl_DevIsWhole_j3 res_ ?_ ?_)
  · rintro _ _ h
    simp only [slices_IndexFunc_impl_DevArg_impl_DevArg_fimpl_all_1_impl_DevIsWhole_j3] at h
    refine zS z0 (r_ret ?_)
    cases h
    refine zAR hQ
  · intro k34 hk34 J33
    refine zS z0 (sem_blk fun k36 hk36 => ?_)
    obtain ⟨oq55, hLq55, hKq55⟩ := bind_some' h
    clear h
    refine sem_loopP [0, 1, 7, 8] (fun (_ : Unit) (x : Int) => (⟨[(0, .fz 3 (R e_DevArg (v1))), (1, .clo 91 [(0, 0)]), (7, .sc (.int .i64 (((v1).length : Int)))), (8, .sc (.int .i64 (x)))], [.rc [.sc (.func (.func 84) #[] #[])]]⟩ : St)) (fun (_ : Unit) (x : Int) => True) (slices_IndexFunc_impl_DevArg_impl_DevArg_fimpl_all_1_impl_DevIsWhole_s7 v1) () 0 hLq55 (by rfl) (by rfl) ⟨?_, trivial⟩ ?_
    · first | exact wkSt_same rfl | (simp (decide := true) only [go_sem, reduceIte, Nat.reduceAdd, Int.reduceToNat, Nat.reduceSub, Nat.reduceMul]; exact wkSt_same rfl)
    · rintro nq55 _ v13 xq55 kq55 hkq55 - h hIq55 hEq55
      simp only [slices_IndexFunc_impl_DevArg_impl_DevArg_fimpl_all_1_impl_DevIsWhole_s7] at h
      refine zS z0 (sem_cut fun k57 hk57 => ?_)
      refine sem_ifh rfl h ?_ ?_ <;> clear h <;> intro h
      · refine r_skip (r_cN hk57 ?_)
        refine sem_cut fun k58 hk58 => sem_blk fun k59 hk59 => zS z0 ?_
        obtain ⟨v18, h, c62⟩ := bI h
        obtain ⟨v19, c63H, h⟩ := bind_some' h
        refine zS (zC1F (lF [[1]] (con_impl_all_1_fimpl_DevIsWhole _ _ c63H)) c62) ?_
        refine sem_ifh rfl h ?_ ?_ <;> clear h <;> intro h
        · refine zS z0 (r_ret ?_)
          refine r_bR hk59 (r_cR hk58 ?_)
          replace h := zX h hEq55 hKq55
          simp only [Sum.elim_inl, Sum.elim_inr] at h
          refine r_kR hkq55 (r_bR hk36 ?_)
          refine r_jR hk34 ?_
          cases h
          refine zAR hQ
        · refine r_skip (r_bN hk59 ?_)
          refine r_cN hk58 (zU z0 ?_)
          refine zB hkq55 h hIq55 () trivial
      · refine r_exit (r_cE hk57 ?_)
        replace h := zX h hEq55 hKq55
        simp only [Sum.elim_inl, Sum.elim_inr] at h
        refine r_kE hkq55 (r_bE hk36 ?_)
        refine zJ J33 [] () _ h
noncomputable def slices_ContainsFunc_impl_DevArg_impl_DevArg_fimpl_all_1_impl_DevIsWhole (v1 : (List DevArg)) : Option Bool :=
  (Option.bind (slices_IndexFunc_impl_DevArg_impl_DevArg_fimpl_all_1_impl_DevIsWhole v1) fun v2 => (some (decide (v2 ≥ 0))))
theorem con_slices_ContainsFunc_impl_DevArg_impl_DevArg_fimpl_all_1_impl_DevIsWhole (v1 : (List DevArg)) (res_ : Bool) (h : slices_ContainsFunc_impl_DevArg_impl_DevArg_fimpl_all_1_impl_DevIsWhole v1 = some res_) : Con Tryd.prog C0 90 [.fz 3 (R e_DevArg (v1)), .clo 91 [(0, 0)]] [.rc [.sc (.func (.func 84) #[] #[])]]
    (fun x σ' => x = .sc (.bool (res_)) ∧ σ' = [.rc [.sc (.func (.func 84) #[] #[])]]) := by
  refine zCon hP 1 [0, 1, 4] [.tmp 4] Tryd.func90 (by unfold Tryd.f90; rfl) fun Q hQ => ?_
  unfold slices_ContainsFunc_impl_DevArg_impl_DevArg_fimpl_all_1_impl_DevIsWhole at h
  refine zS z0 ?_
  obtain ⟨v2, c3H, h⟩ := bind_some' h
  refine zS (zC1 (lF [[1]] (con_slices_IndexFunc_impl_DevArg_impl_DevArg_fimpl_all_1_impl_DevIsWhole _ _ c3H))) (r_ret ?_)
  cases h
  refine zAR hQ
noncomputable def impl_all_fimpl_DevIsWhole (v1 : (List DevArg)) : Option Bool :=
  (Option.bind (slices_ContainsFunc_impl_DevArg_impl_DevArg_fimpl_all_1_impl_DevIsWhole v1) fun v2 => (some (!v2)))
theorem con_impl_all_fimpl_DevIsWhole (v1 : (List DevArg)) (res_ : Bool) (h : impl_all_fimpl_DevIsWhole v1 = some res_) : Con Tryd.prog C0 83 [.fz 3 (R e_DevArg (v1)), .sc (.func (.func 84) #[] #[])] []
    (fun x σ' => x = .sc (.bool (res_)) ∧ σ' = []) := by
  refine zCon hP 0 [0, 1, 3, 4] [.tmp 4] Tryd.func83 (by unfold Tryd.f83; rfl) fun Q hQ => ?_
  unfold impl_all_fimpl_DevIsWhole at h
  refine zS z0 ?_
  obtain ⟨v2, c3H, h⟩ := bind_some' h
  refine zS (zC1 (lF [[1]] (con_slices_ContainsFunc_impl_DevArg_impl_DevArg_fimpl_all_1_impl_DevIsWhole _ _ c3H))) (r_ret ?_)
  cases h
  refine zAR hQ
noncomputable def impl_DevIsReal (v1 : DevArg) : Option Bool :=
  (Option.bind (impl_DevArg_kindIs v1 [10, 12, 13]) fun v2 => (some v2))
theorem con_impl_DevIsReal (v1 : DevArg) (res_ : Bool) (h : impl_DevIsReal v1 = some res_) : Con Tryd.prog C0 88 [.agg [.sc (.int .i64 (v1.Kind)), .sc (.int .i64 (v1.N)), .sc (.int .i64 (v1.P))]] []
    (fun x σ' => x = .sc (.bool (res_)) ∧ σ' = []) := by
  refine zCon hP 0 [0, 1, 2] [.tmp 2] Tryd.func88 (by unfold Tryd.f88; rfl) fun Q hQ => ?_
  unfold impl_DevIsReal at h
  refine zS z0 ?_
  obtain ⟨v2, c3H, h⟩ := bind_some' h
  refine zS (zC1 (lF [] (con_impl_DevArg_kindIs _ _ _ c3H))) (r_ret ?_)
  cases h
  refine zAR hQ
noncomputable def impl_all_1_fimpl_DevIsReal (v1 : DevArg) : Option Bool :=
  (Option.bind (impl_DevIsReal v1) fun v2 => (some (!v2)))
theorem con_impl_all_1_fimpl_DevIsReal (v1 : DevArg) (res_ : Bool) (h : impl_all_1_fimpl_DevIsReal v1 = some res_) : Con Tryd.prog C0 91 [.agg [.sc (.int .i64 (v1.Kind)), .sc (.int .i64 (v1.N)), .sc (.int .i64 (v1.P))], .pt 0 0] [.rc [.sc (.func (.func 88) #[] #[])]]
    (fun x σ' => x = .sc (.bool (res_)) ∧ σ' = [.rc [.sc (.func (.func 88) #[] #[])]]) := by
  refine zCon hP 1 [0, 1, 2, 3] [.tmp 3] Tryd.func91 (by unfold Tryd.f91; rfl) fun Q hQ => ?_
  unfold impl_all_1_fimpl_DevIsReal at h
  refine zS z0 ?_
  obtain ⟨v2, c3H, h⟩ := bind_some' h
  refine zS (zC1 (lF [] (con_impl_DevIsReal _ _ c3H))) (r_ret ?_)
  cases h
  refine zAR hQ
noncomputable def slices_IndexFunc_impl_DevArg_impl_DevArg_fimpl_all_1_impl_DevIsReal_j3 : Unit → Option Int
  | () => (some (-1))
noncomputable def slices_IndexFunc_impl_DevArg_impl_DevArg_fimpl_all_1_impl_DevIsReal_s7 (v1 : (List DevArg)) : Int → Option (Int ⊕ (Int ⊕ Unit))
  | v13 => (cond (decide (v13 < ((v1).length : Int))) (Option.bind (idx v1 (v13)) fun v18 => (Option.bind (impl_all_1_fimpl_DevIsReal v18) fun v19 => (cond v19 (some (.inr (.inl v13))) (some (.inl (IntKind.i64.wrap (v13 + 1))))))) (some (.inr (.inr ()))))
noncomputable def slices_IndexFunc_impl_DevArg_impl_DevArg_fimpl_all_1_impl_DevIsReal (v1 : (List DevArg)) : Option Int :=
  ((loop (slices_IndexFunc_impl_DevArg_impl_DevArg_fimpl_all_1_impl_DevIsReal_s7 v1) 0).bind (Sum.elim (fun v16 => (some v16)) (fun v17 => (slices_IndexFunc_impl_DevArg_impl_DevArg_fimpl_all_1_impl_DevIsReal_j3 ()))))
theorem con_slices_IndexFunc_impl_DevArg_impl_DevArg_fimpl_all_1_impl_DevIsReal (v1 : (List DevArg)) (res_ : Int) (h : slices_IndexFunc_impl_DevArg_impl_DevArg_fimpl_all_1_impl_DevIsReal v1 = some res_) : Con Tryd.prog C0 93 [.fz 3 (R e_DevArg (v1)), .clo 91 [(0, 0)]] [.rc [.sc (.func (.func 88) #[] #[])]]
    (fun x σ' => x = .sc (.int .i64 (res_)) ∧ σ' = [.rc [.sc (.func (.func 88) #[] #[])]]) := by
  refine zCon hP 1 [0, 1, 4, 5, 7, 8, 9, 16] [.tmp 4] Tryd.func93 (by unfold Tryd.f93; rfl) fun Q hQ => ?_
  unfold slices_IndexFunc_impl_DevArg_impl_DevArg_fimpl_all_1_impl_DevIsReal at h
  refine zS z0 (zCut (fun (x : Unit) => ⟨[], [.rc [.sc (.func (.func 88) #[] #[])]]⟩) slices_IndexFunc_impl_DevArg_impl_DevArg_fimpl_all_1_impl_DevIsReal_j3 res_ ?_ ?_)
  · rintro _ _ h
    simp only [slices_IndexFunc_impl_DevArg_impl_DevArg_fimpl_all_1_impl_DevIsReal_j3] at h
    refine zS z0 (r_ret ?_)
    cases h
    refine zAR hQ
  · intro k34 hk34 J33
    refine zS z0 (sem_blk fun k36 hk36 => ?_)
    obtain ⟨oq55, hLq55, hKq55⟩ := bind_some' h
    clear h
    refine sem_loopP [0, 1, 7, 8] (fun (_ : Unit) (x : Int) => (⟨[(0, .fz 3 (R e_DevArg (v1))), (1, .clo 91 [(0, 0)]), (7, .sc (.int .i64 (((v1).length : Int)))), (8, .sc (.int .i64 (x)))], [.rc [.sc (.func (.func 88) #[] #[])]]⟩ : St)) (fun (_ : Unit) (x : Int) => True) (slices_IndexFunc_impl_DevArg_impl_DevArg_fimpl_all_1_impl_DevIsReal_s7 v1) () 0 hLq55 (by rfl) (by rfl) ⟨?_, trivial⟩ ?_
    · first | exact wkSt_same rfl | (simp (decide := true) only [go_sem, reduceIte, Nat.reduceAdd, Int.reduceToNat, Nat.reduceSub, Nat.reduceMul]; exact wkSt_same rfl)
    · rintro nq55 _ v13 xq55 kq55 hkq55 - h hIq55 hEq55
      simp only [slices_IndexFunc_impl_DevArg_impl_DevArg_fimpl_all_1_impl_DevIsReal_s7] at h
      refine zS z0 (sem_cut fun k57 hk57 => ?_)
      refine sem_ifh rfl h ?_ ?_ <;> clear h <;> intro h
      · refine r_skip (r_cN hk57 ?_)
        refine sem_cut fun k58 hk58 => sem_blk fun k59 hk59 => zS z0 ?_
        obtain ⟨v18, h, c62⟩ := bI h
        obtain ⟨v19, c63H, h⟩ := bind_some' h
        refine zS (zC1F (lF [[1]] (con_impl_all_1_fimpl_DevIsReal _ _ c63H)) c62) ?_
        refine sem_ifh rfl h ?_ ?_ <;> clear h <;> intro h
        · refine zS z0 (r_ret ?_)
          refine r_bR hk59 (r_cR hk58 ?_)
          replace h := zX h hEq55 hKq55
          simp only [Sum.elim_inl, Sum.elim_inr] at h
          refine r_kR hkq55 (r_bR hk36 ?_)
          refine r_jR hk34 ?_
          cases h
          refine zAR hQ
        · refine r_skip (r_bN hk59 ?_)
          refine r_cN hk58 (zU z0 ?_)
          refine zB hkq55 h hIq55 () trivial
      · refine r_exit (r_cE hk57 ?_)
        replace h := zX h hEq55 hKq55
        simp only [Sum.elim_inl, Sum.elim_inr] at h
        refine r_kE hkq55 (r_bE hk36 ?_)
        refine zJ J33 [] () _ h
noncomputable def slices_ContainsFunc_impl_DevArg_impl_DevArg_fimpl_all_1_impl_DevIsReal (v1 : (List DevArg)) : Option Bool :=
  (Option.bind (slices_IndexFunc_impl_DevArg_impl_DevArg_fimpl_all_1_impl_DevIsReal v1) fun v2 => (some (decide (v2 ≥ 0))))
theorem con_slices_ContainsFunc_impl_DevArg_impl_DevArg_fimpl_all_1_impl_DevIsReal (v1 : (List DevArg)) (res_ : Bool) (h : slices_ContainsFunc_impl_DevArg_impl_DevArg_fimpl_all_1_impl_DevIsReal v1 = some res_) : Con Tryd.prog C0 90 [.fz 3 (R e_DevArg (v1)), .clo 91 [(0, 0)]] [.rc [.sc (.func (.func 88) #[] #[])]]
    (fun x σ' => x = .sc (.bool (res_)) ∧ σ' = [.rc [.sc (.func (.func 88) #[] #[])]]) := by
  refine zCon hP 1 [0, 1, 4] [.tmp 4] Tryd.func90 (by unfold Tryd.f90; rfl) fun Q hQ => ?_
  unfold slices_ContainsFunc_impl_DevArg_impl_DevArg_fimpl_all_1_impl_DevIsReal at h
  refine zS z0 ?_
  obtain ⟨v2, c3H, h⟩ := bind_some' h
  refine zS (zC1 (lF [[1]] (con_slices_IndexFunc_impl_DevArg_impl_DevArg_fimpl_all_1_impl_DevIsReal _ _ c3H))) (r_ret ?_)
  cases h
  refine zAR hQ
noncomputable def impl_all_fimpl_DevIsReal (v1 : (List DevArg)) : Option Bool :=
  (Option.bind (slices_ContainsFunc_impl_DevArg_impl_DevArg_fimpl_all_1_impl_DevIsReal v1) fun v2 => (some (!v2)))
theorem con_impl_all_fimpl_DevIsReal (v1 : (List DevArg)) (res_ : Bool) (h : impl_all_fimpl_DevIsReal v1 = some res_) : Con Tryd.prog C0 83 [.fz 3 (R e_DevArg (v1)), .sc (.func (.func 88) #[] #[])] []
    (fun x σ' => x = .sc (.bool (res_)) ∧ σ' = []) := by
  refine zCon hP 0 [0, 1, 3, 4] [.tmp 4] Tryd.func83 (by unfold Tryd.f83; rfl) fun Q hQ => ?_
  unfold impl_all_fimpl_DevIsReal at h
  refine zS z0 ?_
  obtain ⟨v2, c3H, h⟩ := bind_some' h
  refine zS (zC1 (lF [[1]] (con_slices_ContainsFunc_impl_DevArg_impl_DevArg_fimpl_all_1_impl_DevIsReal _ _ c3H))) (r_ret ?_)
  cases h
  refine zAR hQ
noncomputable def impl_numbers (v1 : (List DevArg)) : Option Bool :=
  (Option.bind (impl_all_fimpl_DevIsWhole v1) fun v2 => (cond v2 (some true) (Option.bind (impl_all_fimpl_DevIsReal v1) fun v3 => (some v3))))
theorem con_impl_numbers (v1 : (List DevArg)) (res_ : Bool) (h : impl_numbers v1 = some res_) : Con Tryd.prog C0 82 [.fz 3 (R e_DevArg (v1))] []
    (fun x σ' => x = .sc (.bool (res_)) ∧ σ' = []) := by
  refine zCon hP 0 [0, 2] [.tmp 2] Tryd.func82 (by unfold Tryd.f82; rfl) fun Q hQ => ?_
  unfold impl_numbers at h
  refine zS z0 (sem_cut fun k2 hk2 => ?_)
  obtain ⟨v2, c3H, h⟩ := bind_some' h
  rcases Bool.eq_false_or_eq_true v2 with g4 | g4
  · replace h := cond_t h g4
    refine zU (zC1F (lF [] (con_impl_all_fimpl_DevIsWhole _ _ c3H)) g4) (r_cN hk2 ?_)
    refine r_ret ?_
    cases h
    refine zAR hQ
  · replace h := cond_f h g4
    obtain ⟨v3, c5H, h⟩ := bind_some' h
    refine zU (zC2F (lF [] (con_impl_all_fimpl_DevIsWhole _ _ c3H)) (lF [] (con_impl_all_fimpl_DevIsReal _ _ c5H)) g4) (r_cN hk2 ?_)
    refine r_ret ?_
    cases h
    refine zAR hQ

end Go.AM
