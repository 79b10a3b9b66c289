/- Pure functions and their contracts. Conditions: none. -/
import Derived.Test.YtbmoclfnkefomaaDoorAmQa3
set_option linter.unusedSimpArgs false
set_option linter.unusedVariables false
set_option maxRecDepth 10000
set_option maxHeartbeats 4000000
namespace Go.AM
open Go Go.Proofs
noncomputable def spec_ElemIsCoil_j47 (v1 : Elem) (v3 : DevArg) : Bool → Option Bool
  | v14 => (cond v14 (Option.bind (spec_l4Kind v3 7 7) fun v15 => (cond v15 (Option.bind (idx v1.Args (1)) fun v16 => (Option.bind (spec_l4Kind v16 11 11) fun v17 => (cond v17 (some (decide (v16.N ≥ 0))) (some false)))) (some false))) (cond (v1.Op == 29) (Option.bind (spec_l4Kind v3 8 8) fun v18 => (cond v18 (Option.bind (idx v1.Args (1)) fun v19 => (Option.bind (spec_l4Kind v19 11 11) fun v20 => (cond v20 (some (decide (v19.N ≥ 0))) (some false)))) (some false))) (cond (v1.Op == 36) (Option.bind (spec_l4Kind v3 10 10) fun v21 => (cond v21 (Option.bind (idx v1.Args (1)) fun v22 => (Option.bind (spec_DevIsWhole v22) fun v23 => (some v23))) (some false))) (cond (v1.Op == 37) (Option.bind (spec_l4Kind v3 9 9) fun v24 => (cond v24 (Option.bind (idx v1.Args (1)) fun v25 => (Option.bind (spec_DevIsReal v25) fun v26 => (some v26))) (some false))) (Option.bind (spec_l4Calc v1) fun v27 => (some v27))))))
noncomputable def spec_ElemIsCoil (v1 : Elem) : Option Bool :=
  (cond (decide (v1.Op < 21)) (some false) (cond (decide (v1.Op > 37)) (some false) (Option.bind (spec_ElemArity v1.Op) fun v2 => (cond (((v1.Args).length : Int) != v2) (some false) (Option.bind (idx v1.Args (0)) fun v3 => (cond (v1.Op == 21) (Option.bind (spec_l4Kind v3 2 3) fun v4 => (some v4)) (cond (v1.Op == 22) (Option.bind (spec_l4Kind v3 2 3) fun v5 => (cond v5 (some true) (Option.bind (spec_l4Kind v3 4 4) fun v6 => (some v6)))) (cond (v1.Op == 23) (Option.bind (spec_l4Kind v3 2 3) fun v7 => (cond v7 (some true) (Option.bind (spec_l4Kind v3 4 7) fun v8 => (cond v8 (some true) (Option.bind (spec_l4Kind v3 8 8) fun v9 => (some v9)))))) (cond (v1.Op == 24) (Option.bind (spec_l4Kind v3 2 3) fun v10 => (cond v10 (Option.bind (idx v1.Args (1)) fun v11 => (Option.bind (spec_l4Kind v11 5 5) fun v12 => (some v12))) (some false))) (cond (v1.Op == 25) (Option.bind (spec_l4Kind v3 4 4) fun v13 => (some v13)) (cond (v1.Op == 26) (spec_ElemIsCoil_j47 v1 v3 (v1.Op == 26)) (cond (v1.Op == 27) (spec_ElemIsCoil_j47 v1 v3 (v1.Op == 27)) (spec_ElemIsCoil_j47 v1 v3 (v1.Op == 28))))))))))))))
theorem con_spec_ElemIsCoil (v1 : Elem) (res_ : Bool) (h : spec_ElemIsCoil v1 = some res_) : Con Tryd.prog C0 49 [.agg [.sc (.int .i64 (v1.Op)), .fz 3 (R e_DevArg (v1.Args))]] []
    (fun x σ' => x = .sc (.bool (res_)) ∧ σ' = []) := by
  refine zCon hP 0 [0, 1, 2, 3, 20, 26, 27, 31, 39, 51, 62, 66, 87, 106, 117] [.tmp 2] Tryd.func49 (by unfold Tryd.f49; rfl) fun Q hQ => ?_
  unfold spec_ElemIsCoil at h
  refine zS z0 (sem_cut fun k2 hk2 => ?_)
  refine sem_cut fun k3 hk3 => ?_
  rcases Bool.eq_false_or_eq_true (decide (v1.Op < 21)) with g4 | g4
  · replace h := cond_t h g4
    refine zU (zPRF (.take 0 (.take 1 (.take 2 (.take 3 (.take 4 (.take 5 (.take 6 (.take 7 (.take 8 (.take 9 (.take 10 (.take 11 (.take 12 (.take 13 (.one 14 (.take 15 (.take 16 .done))))))))))))))))) [0] g4) (r_cN hk3 ?_)
    refine sem_ifT rfl ?_
    try replace h := cond_t h rfl
    refine zS z0 (r_ret ?_)
    refine r_cR hk2 ?_
    cases h
    refine zAR hQ
  · replace h := cond_f h g4
    rcases Bool.eq_false_or_eq_true (decide (v1.Op > 37)) with g6 | g6
    · replace h := cond_t h g6
      refine zU (zPRF (.take 0 (.take 1 (.take 2 (.take 3 (.take 4 (.take 5 (.take 6 (.take 7 (.take 8 (.take 9 (.take 10 (.take 11 (.take 12 (.take 13 (.one 14 (.take 15 (.take 16 .done))))))))))))))))) [0] (a2 g4 g6)) (r_cN hk3 ?_)
      refine sem_ifT rfl ?_
      try replace h := cond_t h rfl
      refine zS z0 (r_ret ?_)
      refine r_cR hk2 ?_
      cases h
      refine zAR hQ
    · replace h := cond_f h g6
      obtain ⟨v2, c8H, h⟩ := bind_some' h
      refine zU (zPC1F (.take 0 (.take 1 (.take 2 (.take 3 (.take 4 (.take 5 (.take 6 (.take 7 (.take 8 (.take 9 (.take 10 (.take 11 (.take 12 (.take 13 (.one 14 (.take 15 (.take 16 .done))))))))))))))))) [0] (lF [] (con_spec_ElemArity _ _ c8H)) (a2 g4 g6)) (r_cN hk3 ?_)
      refine sem_ifh rfl h ?_ ?_ <;> clear h <;> intro h
      · refine zS z0 (r_ret ?_)
        refine r_cR hk2 ?_
        cases h
        refine zAR hQ
      · refine r_skip (r_cN hk2 ?_)
        obtain ⟨v3, h, c11⟩ := bN 0 h
        refine zS (zRF c11) (sem_cut fun k12 hk12 => ?_)
        refine zS z0 (sem_blk fun k14 hk14 => ?_)
        refine zS z0 ?_
        refine sem_ifh rfl h ?_ ?_ <;> clear h <;> intro h
        · obtain ⟨v4, c17H, h⟩ := bind_some' h
          refine zS (zC1 (lF [] (con_spec_l4Kind _ _ _ _ c17H))) (r_ret ?_)
          refine r_bR hk14 (r_cR hk12 ?_)
          cases h
          refine zAR hQ
        · refine zS z0 ?_
          refine sem_ifh rfl h ?_ ?_ <;> clear h <;> intro h
          · refine sem_cut fun k19 hk19 => ?_
            obtain ⟨v5, c20H, h⟩ := bind_some' h
            rcases Bool.eq_false_or_eq_true v5 with g21 | g21
            · replace h := cond_t h g21
              refine zU (zC1F (lF [] (con_spec_l4Kind _ _ _ _ c20H)) g21) (r_cN hk19 ?_)
              refine r_ret (r_bR hk14 ?_)
              refine r_cR hk12 ?_
              cases h
              refine zAR hQ
            · replace h := cond_f h g21
              obtain ⟨v6, c22H, h⟩ := bind_some' h
              refine zU (zC2F (lF [] (con_spec_l4Kind _ _ _ _ c20H)) (lF [] (con_spec_l4Kind _ _ _ _ c22H)) g21) (r_cN hk19 ?_)
              refine r_ret (r_bR hk14 ?_)
              refine r_cR hk12 ?_
              cases h
              refine zAR hQ
          · refine zS z0 ?_
            refine sem_ifh rfl h ?_ ?_ <;> clear h <;> intro h
            · refine sem_cut fun k24 hk24 => ?_
              obtain ⟨v7, c25H, h⟩ := bind_some' h
              rcases Bool.eq_false_or_eq_true v7 with g26 | g26
              · replace h := cond_t h g26
                refine zU (zC1F (lF [] (con_spec_l4Kind _ _ _ _ c25H)) g26) (r_cN hk24 ?_)
                refine r_ret (r_bR hk14 ?_)
                refine r_cR hk12 ?_
                cases h
                refine zAR hQ
              · replace h := cond_f h g26
                obtain ⟨v8, c27H, h⟩ := bind_some' h
                rcases Bool.eq_false_or_eq_true v8 with g28 | g28
                · replace h := cond_t h g28
                  refine zU (zC2F (lF [] (con_spec_l4Kind _ _ _ _ c25H)) (lF [] (con_spec_l4Kind _ _ _ _ c27H)) (a2 g26 g28)) (r_cN hk24 ?_)
                  refine r_ret (r_bR hk14 ?_)
                  refine r_cR hk12 ?_
                  cases h
                  refine zAR hQ
                · replace h := cond_f h g28
                  obtain ⟨v9, c29H, h⟩ := bind_some' h
                  refine zU (zC3F (lF [] (con_spec_l4Kind _ _ _ _ c25H)) (lF [] (con_spec_l4Kind _ _ _ _ c27H)) (lF [] (con_spec_l4Kind _ _ _ _ c29H)) (a2 g26 g28)) (r_cN hk24 ?_)
                  refine r_ret (r_bR hk14 ?_)
                  refine r_cR hk12 ?_
                  cases h
                  refine zAR hQ
            · refine zS z0 ?_
              refine sem_ifh rfl h ?_ ?_ <;> clear h <;> intro h
              · refine sem_cut fun k31 hk31 => ?_
                obtain ⟨v10, c32H, h⟩ := bind_some' h
                rcases Bool.eq_false_or_eq_true v10 with g33 | g33
                · replace h := cond_t h g33
                  obtain ⟨v11, h, c34⟩ := bN 1 h
                  obtain ⟨v12, c35H, h⟩ := bind_some' h
                  refine zU (zC2F (lF [] (con_spec_l4Kind _ _ _ _ c32H)) (lF [] (con_spec_l4Kind _ _ _ _ c35H)) (a2 g33 c34)) (r_cN hk31 ?_)
                  refine r_ret (r_bR hk14 ?_)
                  refine r_cR hk12 ?_
                  cases h
                  refine zAR hQ
                · replace h := cond_f h g33
                  refine zU (zC1F (lF [] (con_spec_l4Kind _ _ _ _ c32H)) g33) (r_cN hk31 ?_)
                  refine r_ret (r_bR hk14 ?_)
                  refine r_cR hk12 ?_
                  cases h
                  refine zAR hQ
              · refine zS z0 ?_
                refine sem_ifh rfl h ?_ ?_ <;> clear h <;> intro h
                · obtain ⟨v13, c38H, h⟩ := bind_some' h
                  refine zS (zC1 (lF [] (con_spec_l4Kind _ _ _ _ c38H))) (r_ret ?_)
                  refine r_bR hk14 (r_cR hk12 ?_)
                  cases h
                  refine zAR hQ
                · refine zCut (fun (x : Bool) => ⟨[(1, .pt 0 0), (3, .pt 1 0), (26, .sc (.int .i64 (v1.Op))), (66, .sc (.bool (x)))], [.rc [.sc (.int .i64 (v1.Op)), .fz 3 (R e_DevArg (v1.Args))], .rc [.sc (.int .i64 (v3.Kind)), .sc (.int .i64 (v3.N)), .sc (.int .i64 (v3.P))]]⟩) (spec_ElemIsCoil_j47 v1 v3) res_ ?_ ?_
                  · rintro _ v14 h
                    simp only [spec_ElemIsCoil_j47] at h
                    refine sem_ifh rfl h ?_ ?_ <;> clear h <;> intro h
                    · refine sem_cut fun k41 hk41 => ?_
                      obtain ⟨v15, c42H, h⟩ := bind_some' h
                      rcases Bool.eq_false_or_eq_true v15 with g43 | g43
                      · replace h := cond_t h g43
                        obtain ⟨v16, h, c44⟩ := bN 1 h
                        obtain ⟨v17, c45H, h⟩ := bind_some' h
                        rcases Bool.eq_false_or_eq_true v17 with g46 | g46
                        · replace h := cond_t h g46
                          refine zU (zC2F (lF [] (con_spec_l4Kind _ _ _ _ c42H)) (lF [] (con_spec_l4Kind _ _ _ _ c45H)) (a3 g43 c44 g46)) (r_cN hk41 ?_)
                          refine r_ret (r_bR hk14 ?_)
                          refine r_cR hk12 ?_
                          cases h
                          refine zAR hQ
                        · replace h := cond_f h g46
                          refine zU (zC2F (lF [] (con_spec_l4Kind _ _ _ _ c42H)) (lF [] (con_spec_l4Kind _ _ _ _ c45H)) (a3 g43 c44 g46)) (r_cN hk41 ?_)
                          refine r_ret (r_bR hk14 ?_)
                          refine r_cR hk12 ?_
                          cases h
                          refine zAR hQ
                      · replace h := cond_f h g43
                        refine zU (zC1F (lF [] (con_spec_l4Kind _ _ _ _ c42H)) g43) (r_cN hk41 ?_)
                        refine r_ret (r_bR hk14 ?_)
                        refine r_cR hk12 ?_
                        cases h
                        refine zAR hQ
                    · refine zS z0 ?_
                      refine sem_ifh rfl h ?_ ?_ <;> clear h <;> intro h
                      · refine sem_cut fun k48 hk48 => ?_
                        obtain ⟨v18, c49H, h⟩ := bind_some' h
                        rcases Bool.eq_false_or_eq_true v18 with g50 | g50
                        · replace h := cond_t h g50
                          obtain ⟨v19, h, c51⟩ := bN 1 h
                          obtain ⟨v20, c52H, h⟩ := bind_some' h
                          rcases Bool.eq_false_or_eq_true v20 with g53 | g53
                          · replace h := cond_t h g53
                            refine zU (zC2F (lF [] (con_spec_l4Kind _ _ _ _ c49H)) (lF [] (con_spec_l4Kind _ _ _ _ c52H)) (a3 g50 c51 g53)) (r_cN hk48 ?_)
                            refine r_ret (r_bR hk14 ?_)
                            refine r_cR hk12 ?_
                            cases h
                            refine zAR hQ
                          · replace h := cond_f h g53
                            refine zU (zC2F (lF [] (con_spec_l4Kind _ _ _ _ c49H)) (lF [] (con_spec_l4Kind _ _ _ _ c52H)) (a3 g50 c51 g53)) (r_cN hk48 ?_)
                            refine r_ret (r_bR hk14 ?_)
                            refine r_cR hk12 ?_
                            cases h
                            refine zAR hQ
                        · replace h := cond_f h g50
                          refine zU (zC1F (lF [] (con_spec_l4Kind _ _ _ _ c49H)) g50) (r_cN hk48 ?_)
                          refine r_ret (r_bR hk14 ?_)
                          refine r_cR hk12 ?_
                          cases h
                          refine zAR hQ
                      · refine zS z0 ?_
                        refine sem_ifh rfl h ?_ ?_ <;> clear h <;> intro h
                        · refine sem_cut fun k55 hk55 => ?_
                          obtain ⟨v21, c56H, h⟩ := bind_some' h
                          rcases Bool.eq_false_or_eq_true v21 with g57 | g57
                          · replace h := cond_t h g57
                            obtain ⟨v22, h, c58⟩ := bN 1 h
                            obtain ⟨v23, c59H, h⟩ := bind_some' h
                            refine zU (zC2F (lF [] (con_spec_l4Kind _ _ _ _ c56H)) (lF [] (con_spec_DevIsWhole _ _ c59H)) (a2 g57 c58)) (r_cN hk55 ?_)
                            refine r_ret (r_bR hk14 ?_)
                            refine r_cR hk12 ?_
                            cases h
                            refine zAR hQ
                          · replace h := cond_f h g57
                            refine zU (zC1F (lF [] (con_spec_l4Kind _ _ _ _ c56H)) g57) (r_cN hk55 ?_)
                            refine r_ret (r_bR hk14 ?_)
                            refine r_cR hk12 ?_
                            cases h
                            refine zAR hQ
                        · refine zS z0 ?_
                          refine sem_ifh rfl h ?_ ?_ <;> clear h <;> intro h
                          · refine sem_cut fun k61 hk61 => ?_
                            obtain ⟨v24, c62H, h⟩ := bind_some' h
                            rcases Bool.eq_false_or_eq_true v24 with g63 | g63
                            · replace h := cond_t h g63
                              obtain ⟨v25, h, c64⟩ := bN 1 h
                              obtain ⟨v26, c65H, h⟩ := bind_some' h
                              refine zU (zC2F (lF [] (con_spec_l4Kind _ _ _ _ c62H)) (lF [] (con_spec_DevIsReal _ _ c65H)) (a2 g63 c64)) (r_cN hk61 ?_)
                              refine r_ret (r_bR hk14 ?_)
                              refine r_cR hk12 ?_
                              cases h
                              refine zAR hQ
                            · replace h := cond_f h g63
                              refine zU (zC1F (lF [] (con_spec_l4Kind _ _ _ _ c62H)) g63) (r_cN hk61 ?_)
                              refine r_ret (r_bR hk14 ?_)
                              refine r_cR hk12 ?_
                              cases h
                              refine zAR hQ
                          · refine r_skip (r_bN hk14 ?_)
                            refine r_cN hk12 ?_
                            obtain ⟨v27, c67H, h⟩ := bind_some' h
                            refine zS (zC1 (lF [] (con_spec_l4Calc _ _ c67H))) (r_ret ?_)
                            cases h
                            refine zAR hQ
                  · intro k69 hk69 J68
                    refine zS z0 ?_
                    refine sem_ifh rfl h ?_ ?_ <;> clear h <;> intro h
                    · refine r_skip (zJ J68 [1, 3, 26, 66] () _ h)
                    · refine zS z0 ?_
                      refine sem_ifh rfl h ?_ ?_ <;> clear h <;> intro h
                      · refine r_skip (zJ J68 [1, 3, 26, 66] () _ h)
                      · refine zU z0 (zJ J68 [1, 3, 26, 66] () _ h)
noncomputable def spec_ListOk (v1 : Inst) : Option Bool :=
  (cond ((decide (v1.Code < 1)) || (decide (v1.Code > 11))) (some false) (cond (decide (v1.Code ≤ 3)) (Option.bind (spec_ElemIsContact (⟨v1.One_Op, v1.One_Args⟩ : Elem)) fun v2 => (some v2)) (cond (v1.Code == 10) (Option.bind (spec_ElemIsCoil (⟨v1.One_Op, v1.One_Args⟩ : Elem)) fun v3 => (some v3)) (some ((v1.One_Op == 0) && (((v1.One_Args).length : Int) == 0))))))
theorem con_spec_ListOk (v1 : Inst) (res_ : Bool) (h : spec_ListOk v1 = some res_) : Con Tryd.prog C0 27 [.agg [.sc (.int .i64 (v1.Code)), .sc (.int .i64 (v1.One_Op)), .fz 3 (R e_DevArg (v1.One_Args))]] []
    (fun x σ' => x = .sc (.bool (res_)) ∧ σ' = []) := by
  refine zCon hP 0 [0, 1, 2, 3, 12, 19] [.tmp 2] Tryd.func27 (by unfold Tryd.f27; rfl) fun Q hQ => ?_
  unfold spec_ListOk at h
  refine zS z0 (sem_cut fun k2 hk2 => ?_)
  refine sem_blk fun k3 hk3 => zS zR ?_
  refine sem_ifh rfl h ?_ ?_ <;> clear h <;> intro h
  · refine zS z0 (r_ret ?_)
    refine r_bR hk3 (r_cR hk2 ?_)
    cases h
    refine zAR hQ
  · refine zS z0 ?_
    refine sem_ifh rfl h ?_ ?_ <;> clear h <;> intro h
    · obtain ⟨v2, c8H, h⟩ := bind_some' h
      refine zS (zC1 (lF [] (con_spec_ElemIsContact _ _ c8H))) (r_ret ?_)
      refine r_bR hk3 (r_cR hk2 ?_)
      cases h
      refine zAR hQ
    · refine zS z0 ?_
      refine sem_ifh rfl h ?_ ?_ <;> clear h <;> intro h
      · obtain ⟨v3, c11H, h⟩ := bind_some' h
        refine zS (zC1 (lF [] (con_spec_ElemIsCoil _ _ c11H))) (r_ret ?_)
        refine r_bR hk3 (r_cR hk2 ?_)
        cases h
        refine zAR hQ
      · refine r_skip (r_bN hk3 ?_)
        refine r_cN hk2 (zS zR ?_)
        refine r_ret ?_
        cases h
        refine zAR hQ
noncomputable def spec_l12Needs_j13 : Bool → Option Int
  | v2 => (cond v2 (some 2) (some 1))
noncomputable def spec_l12Needs (v1 : Int) : Option Int :=
  (cond (v1 == 1) (some 0) (cond (v1 == 4) (spec_l12Needs_j13 (v1 == 4)) (spec_l12Needs_j13 (v1 == 5))))
theorem con_spec_l12Needs (v1 : Int) (res_ : Int) (h : spec_l12Needs v1 = some res_) : Con Tryd.prog C0 28 [.sc (.int .i64 (v1))] []
    (fun x σ' => x = .sc (.int .i64 (res_)) ∧ σ' = []) := by
  refine zCon hP 0 [0, 2, 3, 4, 6] [.tmp 2] Tryd.func28 (by unfold Tryd.f28; rfl) fun Q hQ => ?_
  unfold spec_l12Needs at h
  refine zS z0 (sem_cut fun k2 hk2 => ?_)
  refine zS z0 (sem_blk fun k4 hk4 => ?_)
  refine zS z0 ?_
  refine sem_ifh rfl h ?_ ?_ <;> clear h <;> intro h
  · refine zS z0 (r_ret ?_)
    refine r_bR hk4 (r_cR hk2 ?_)
    cases h
    refine zAR hQ
  · refine zCut (fun (x : Bool) => ⟨[(6, .sc (.bool (x)))], []⟩) spec_l12Needs_j13 res_ ?_ ?_
    · rintro _ v2 h
      simp only [spec_l12Needs_j13] at h
      refine sem_ifh rfl h ?_ ?_ <;> clear h <;> intro h
      · refine zS z0 (r_ret ?_)
        refine r_bR hk4 (r_cR hk2 ?_)
        cases h
        refine zAR hQ
      · refine r_skip (r_bN hk4 ?_)
        refine r_cN hk2 (zS z0 ?_)
        refine r_ret ?_
        cases h
        refine zAR hQ
    · intro k11 hk11 J10
      refine zS z0 ?_
      refine sem_ifh rfl h ?_ ?_ <;> clear h <;> intro h
      · refine r_skip (zJ J10 [6] () _ h)
      · refine zU z0 (zJ J10 [6] () _ h)
noncomputable def spec_l12Wrong_j9 (v1 : l12At) (v2 : Inst) : Int → Option Int
  | v3 => (Option.bind (spec_ListOk v2) fun v4 => (cond (!v4) (some 2) (Option.bind (spec_l12Needs v2.Code) fun v5 => (cond (decide (v1.bits < v5)) (some 3) (cond ((v2.Code == 1) && (v1.bits == 16)) (some 4) (cond ((decide (v2.Code ≥ 7)) && (decide (v1.bits > 1))) (some 5) (cond ((v1.base && (v1.bits == v3)) && (((v2.Code == 3) || (v2.Code == 6)) || (v2.Code == 5))) (some 6) (cond ((v2.Code == 7) && (v1.forks == 8)) (some 7) (cond (((v2.Code == 8) || (v2.Code == 9)) && (v1.forks == 0)) (some 7) (cond ((v2.Code == 11) && (decide (v1.forks > 0))) (some 7) (cond ((((v2.Code == 8) || (v2.Code == 9)) || (v2.Code == 11)) && (!v1.coil)) (some 8) (some 0))))))))))))
noncomputable def spec_l12Wrong (v1 : l12At) (v2 : Inst) : Option Int :=
  (cond (v2.Code == 5) (spec_l12Wrong_j9 v1 v2 2) (spec_l12Wrong_j9 v1 v2 1))
theorem con_spec_l12Wrong (v1 : l12At) (v2 : Inst) (res_ : Int) (h : spec_l12Wrong v1 v2 = some res_) : Con Tryd.prog C0 14 [.agg [.sc (.int .i64 (v1.bits)), .sc (.int .i64 (v1.forks)), .sc (.bool (v1.base)), .sc (.bool (v1.coil))], .agg [.sc (.int .i64 (v2.Code)), .sc (.int .i64 (v2.One_Op)), .fz 3 (R e_DevArg (v2.One_Args))]] []
    (fun x σ' => x = .sc (.int .i64 (res_)) ∧ σ' = []) := by
  refine zCon hP 0 [0, 1, 2, 3, 4, 5, 6, 7, 13, 14, 18, 24, 32, 39, 60, 68, 80, 88] [.tmp 4] Tryd.func14 (by unfold Tryd.f14; rfl) fun Q hQ => ?_
  unfold spec_l12Wrong at h
  refine zS z0 (zS z0 ?_)
  refine zS z0 (zS z0 ?_)
  refine zCut (fun (x : Int) => ⟨[(2, .pt 0 0), (3, .pt 1 0), (5, .sc (.int .i64 (v2.Code))), (6, .sc (.bool ((decide (v2.Code ≥ 7))))), (7, .sc (.int .i64 (x)))], [.rc [.sc (.int .i64 (v1.bits)), .sc (.int .i64 (v1.forks)), .sc (.bool (v1.base)), .sc (.bool (v1.coil))], .rc [.sc (.int .i64 (v2.Code)), .sc (.int .i64 (v2.One_Op)), .fz 3 (R e_DevArg (v2.One_Args))]]⟩) (spec_l12Wrong_j9 v1 v2) res_ ?_ ?_
  · rintro _ v3 h
    simp only [spec_l12Wrong_j9] at h
    refine sem_cut fun k6 hk6 => sem_blk fun k7 hk7 => ?_
    obtain ⟨v4, c9H, h⟩ := bind_some' h
    refine zS (zC1 (lF [] (con_spec_ListOk _ _ c9H))) ?_
    refine sem_ifh rfl h ?_ ?_ <;> clear h <;> intro h
    · refine zS z0 (r_ret ?_)
      refine r_bR hk7 (r_cR hk6 ?_)
      cases h
      refine zAR hQ
    · obtain ⟨v5, c12H, h⟩ := bind_some' h
      refine zS (zPC1 (.take 0 (.take 1 (.take 2 (.one 3 (.take 4 (.take 5 .done)))))) [0] (lF [] (con_spec_l12Needs _ _ c12H))) ?_
      refine sem_ifh rfl h ?_ ?_ <;> clear h <;> intro h
      · refine zS z0 (r_ret ?_)
        refine r_bR hk7 (r_cR hk6 ?_)
        cases h
        refine zAR hQ
      · refine zS zR ?_
        refine sem_ifh rfl h ?_ ?_ <;> clear h <;> intro h
        · refine zS z0 (r_ret ?_)
          refine r_bR hk7 (r_cR hk6 ?_)
          cases h
          refine zAR hQ
        · refine zS zR ?_
          refine sem_ifh rfl h ?_ ?_ <;> clear h <;> intro h
          · refine zS z0 (r_ret ?_)
            refine r_bR hk7 (r_cR hk6 ?_)
            cases h
            refine zAR hQ
          · refine zS zR ?_
            refine sem_ifh rfl h ?_ ?_ <;> clear h <;> intro h
            · refine zS z0 (r_ret ?_)
              refine r_bR hk7 (r_cR hk6 ?_)
              cases h
              refine zAR hQ
            · refine zS zR ?_
              refine sem_ifh rfl h ?_ ?_ <;> clear h <;> intro h
              · refine zS z0 (r_ret ?_)
                refine r_bR hk7 (r_cR hk6 ?_)
                cases h
                refine zAR hQ
              · refine zS zR ?_
                refine sem_ifh rfl h ?_ ?_ <;> clear h <;> intro h
                · refine zS z0 (r_ret ?_)
                  refine r_bR hk7 (r_cR hk6 ?_)
                  cases h
                  refine zAR hQ
                · refine zS zR ?_
                  refine sem_ifh rfl h ?_ ?_ <;> clear h <;> intro h
                  · refine zS z0 (r_ret ?_)
                    refine r_bR hk7 (r_cR hk6 ?_)
                    cases h
                    refine zAR hQ
                  · refine zS zR ?_
                    refine sem_ifh rfl h ?_ ?_ <;> clear h <;> intro h
                    · refine zS z0 (r_ret ?_)
                      refine r_bR hk7 (r_cR hk6 ?_)
                      cases h
                      refine zAR hQ
                    · refine r_skip (r_bN hk7 ?_)
                      refine r_cN hk6 (zS z0 ?_)
                      refine r_ret ?_
                      cases h
                      refine zAR hQ
  · intro k30 hk30 J29
    refine zS z0 ?_
    refine sem_ifh rfl h ?_ ?_ <;> clear h <;> intro h
    · refine zU z0 (zJ J29 [2, 3, 5, 6, 7] () _ h)
    · refine r_skip (zJ J29 [2, 3, 5, 6, 7] () _ h)
noncomputable def spec_l12Next_j3 (v1 : l12At) (v2 : Int) : (Int × Int) → Option l12At
  | (v4, v5) => (some (⟨v4, v5, ((v1.base || (v2 == 10)) || (v2 == 7)), (v2 == 10)⟩ : l12At))
noncomputable def spec_l12Next_j11 (v1 : l12At) (v2 : Int) : Bool → Option l12At
  | v6 => (cond v6 (spec_l12Next_j3 v1 v2 ((IntKind.i64.wrap (v1.bits - 1)), v1.forks)) (cond (v2 == 7) (spec_l12Next_j3 v1 v2 (v1.bits, (IntKind.i64.wrap (v1.forks + 1)))) (cond (v2 == 9) (spec_l12Next_j3 v1 v2 (v1.bits, (IntKind.i64.wrap (v1.forks - 1)))) (cond (v2 == 11) (some (⟨0, 0, false, false⟩ : l12At)) (spec_l12Next_j3 v1 v2 (v1.bits, v1.forks))))))
noncomputable def spec_l12Next (v1 : l12At) (v2 : Int) : Option l12At :=
  (cond (v2 == 1) (spec_l12Next_j3 v1 v2 ((IntKind.i64.wrap (v1.bits + 1)), v1.forks)) (cond (v2 == 4) (spec_l12Next_j11 v1 v2 (v2 == 4)) (spec_l12Next_j11 v1 v2 (v2 == 5))))
theorem con_spec_l12Next (v1 : l12At) (v2 : Int) (res_ : l12At) (h : spec_l12Next v1 v2 = some res_) : Con Tryd.prog C0 15 [.agg [.sc (.int .i64 (v1.bits)), .sc (.int .i64 (v1.forks)), .sc (.bool (v1.base)), .sc (.bool (v1.coil))], .sc (.int .i64 (v2))] []
    (fun x σ' => x = .agg [.sc (.int .i64 (res_.bits)), .sc (.int .i64 (res_.forks)), .sc (.bool (res_.base)), .sc (.bool (res_.coil))] ∧ σ' = []) := by
  refine zCon hP 0 [0, 1, 2, 4, 5, 6, 12, 19, 25, 31] [.cell 4 38] Tryd.func15 (by unfold Tryd.f15; rfl) fun Q hQ => ?_
  unfold spec_l12Next at h
  refine zS z0 (zCut (fun (x : (Int × Int)) => ⟨[(1, .sc (.int .i64 (v2))), (2, .pt 0 0), (4, .pt 1 0)], [.rc [.sc (.int .i64 (x.1)), .sc (.int .i64 (x.2)), .sc (.bool (v1.base)), .sc (.bool (v1.coil))], .rc [.sc (.int .i64 (0)), .sc (.int .i64 (0)), .sc (.bool (false)), .sc (.bool (false))]]⟩) (spec_l12Next_j3 v1 v2) res_ ?_ ?_)
  · rintro _ ⟨v4, v5⟩ h
    simp only [spec_l12Next_j3] at h
    refine zS z0 (zS zR ?_)
    refine zS z0 (r_ret ?_)
    cases h
    refine zAR hQ
  · intro k17 hk17 J16
    refine zS z0 (sem_blk fun k19 hk19 => ?_)
    refine zS z0 ?_
    refine sem_ifh rfl h ?_ ?_ <;> clear h <;> intro h
    · refine zU z0 (r_bN hk19 ?_)
      refine zJ J16 [1, 2, 4] () _ h
    · refine zCut (fun (x : Bool) => ⟨[(1, .sc (.int .i64 (v2))), (2, .pt 0 0), (4, .pt 1 0), (5, .sc (.int .i64 (v2))), (12, .sc (.bool (x)))], [.rc [.sc (.int .i64 (v1.bits)), .sc (.int .i64 (v1.forks)), .sc (.bool (v1.base)), .sc (.bool (v1.coil))], .rc [.sc (.int .i64 (0)), .sc (.int .i64 (0)), .sc (.bool (false)), .sc (.bool (false))]]⟩) (spec_l12Next_j11 v1 v2) res_ ?_ ?_
      · rintro _ v6 h
        simp only [spec_l12Next_j11] at h
        refine sem_ifh rfl h ?_ ?_ <;> clear h <;> intro h
        · refine zU z0 (r_bN hk19 ?_)
          refine zJ J16 [1, 2, 4] () _ h
        · refine zS z0 ?_
          refine sem_ifh rfl h ?_ ?_ <;> clear h <;> intro h
          · refine zU z0 (r_bN hk19 ?_)
            refine zJ J16 [1, 2, 4] () _ h
          · refine zS z0 ?_
            refine sem_ifh rfl h ?_ ?_ <;> clear h <;> intro h
            · refine zU z0 (r_bN hk19 ?_)
              refine zJ J16 [1, 2, 4] () _ h
            · refine zS z0 ?_
              refine sem_ifh rfl h ?_ ?_ <;> clear h <;> intro h
              · refine zS z0 (r_ret ?_)
                refine r_bR hk19 (r_jR hk17 ?_)
                cases h
                refine zAR hQ
              · refine r_skip (r_bN hk19 ?_)
                refine zJ J16 [1, 2, 4] () _ h
      · intro k27 hk27 J26
        refine zS z0 ?_
        refine sem_ifh rfl h ?_ ?_ <;> clear h <;> intro h
        · refine r_skip (zJ J26 [1, 2, 4, 5, 12] () _ h)
        · refine zU z0 (zJ J26 [1, 2, 4, 5, 12] () _ h)
noncomputable def spec_SureCheck_j13 (v1 : (List Inst)) : (Int × Int × Bool × Bool) → Option SureFault
  | (v21, v22, v23, v24) => (cond (decide (v21 > 0)) (some (⟨9, ((v1).length : Int)⟩ : SureFault)) (some (⟨0, 0⟩ : SureFault)))
noncomputable def spec_SureCheck_s17 (v1 : (List Inst)) : (Int × Int × Bool × Bool × Int) → Option ((Int × Int × Bool × Bool × Int) ⊕ ((Int × Int) ⊕ (Int × Int × Bool × Bool)))
  | (v29, v30, v31, v32, v33) => (cond (decide (v33 < ((v1).length : Int))) (Option.bind (idx v1 (v33)) fun v40 => (Option.bind (spec_l12Wrong (⟨v29, v30, v31, v32⟩ : l12At) v40) fun v41 => (cond (decide (v41 > 0)) (some (.inr (.inl (v41, v33)))) (Option.bind (idx v1 (v33)) fun v42 => (Option.bind (spec_l12Next (⟨v29, v30, v31, v32⟩ : l12At) v42.Code) fun v43 => (some (.inl (v43.bits, v43.forks, v43.base, v43.coil, (IntKind.i64.wrap (v33 + 1)))))))))) (some (.inr (.inr (v29, v30, v31, v32)))))
noncomputable def spec_SureCheck (v1 : (List Inst)) : Option SureFault :=
  (cond (decide (((v1).length : Int) > 1000)) (some (⟨1, 0⟩ : SureFault)) ((loop (spec_SureCheck_s17 v1) (0, 0, false, false, 0)).bind (Sum.elim (fun v38 => (some (⟨v38.1, v38.2⟩ : SureFault))) (fun v39 => (spec_SureCheck_j13 v1 (v39.1, v39.2.1, v39.2.2.1, v39.2.2.2))))))
theorem con_spec_SureCheck (v1 : (List Inst)) (res_ : SureFault) (h : spec_SureCheck v1 = some res_) : Con Tryd.prog C0 6 [.fz 3 (R e_Inst (v1))] []
    (fun x σ' => x = .agg [.sc (.int .i64 (res_.Code)), .sc (.int .i64 (res_.At))] ∧ σ' = []) := by
  refine zCon hP 0 [0, 2, 3, 4, 5, 8, 14, 24, 37] [.cell 2 27] Tryd.func6 (by unfold Tryd.f6; rfl) fun Q hQ => ?_
  unfold spec_SureCheck at h
  refine zS z0 (sem_cut fun k2 hk2 => ?_)
  refine zS z0 ?_
  refine sem_ifh rfl h ?_ ?_ <;> clear h <;> intro h
  · refine zS z0 (r_ret ?_)
    refine r_cR hk2 ?_
    cases h
    refine zAR hQ
  · refine r_skip (r_cN hk2 ?_)
    refine zS z0 (zCut (fun (x : (Int × Int × Bool × Bool)) => ⟨[(0, .fz 3 (R e_Inst (v1))), (2, .pt 0 0), (3, .pt 1 0)], [.rc [.sc (.int .i64 (0)), .sc (.int .i64 (0))], .rc [.sc (.int .i64 (x.1)), .sc (.int .i64 (x.2.1)), .sc (.bool (x.2.2.1)), .sc (.bool (x.2.2.2))]]⟩) (spec_SureCheck_j13 v1) res_ ?_ ?_)
    · rintro _ ⟨v21, v22, v23, v24⟩ h
      simp only [spec_SureCheck_j13] at h
      refine sem_cut fun k45 hk45 => zS z0 ?_
      refine sem_ifh rfl h ?_ ?_ <;> clear h <;> intro h
      · refine zS z0 (r_ret ?_)
        refine r_cR hk45 ?_
        cases h
        refine zAR hQ
      · refine r_skip (r_cN hk45 ?_)
        refine zS z0 (r_ret ?_)
        cases h
        refine zAR hQ
    · intro k50 hk50 J49
      refine zS z0 (sem_blk fun k52 hk52 => ?_)
      obtain ⟨oq77, hLq77, hKq77⟩ := bind_some' h
      clear h
      refine sem_loopP [0, 2, 3, 4] (fun (_ : Unit) (x : (Int × Int × Bool × Bool × Int)) => (⟨[(0, .fz 3 (R e_Inst (v1))), (2, .pt 0 0), (3, .pt 1 0), (4, .sc (.int .i64 (x.2.2.2.2)))], [.rc [.sc (.int .i64 (0)), .sc (.int .i64 (0))], .rc [.sc (.int .i64 (x.1)), .sc (.int .i64 (x.2.1)), .sc (.bool (x.2.2.1)), .sc (.bool (x.2.2.2.1))]]⟩ : St)) (fun (_ : Unit) (x : (Int × Int × Bool × Bool × Int)) => True) (spec_SureCheck_s17 v1) () (0, 0, false, false, 0) hLq77 (by rfl) (by rfl) ⟨?_, trivial⟩ ?_
      · first | exact wkSt_same rfl | (simp (decide := true) only [go_sem, reduceIte, Nat.reduceAdd, Int.reduceToNat, Nat.reduceSub, Nat.reduceMul]; exact wkSt_same rfl)
      · rintro nq77 _ ⟨v29, v30, v31, v32, v33⟩ xq77 kq77 hkq77 - h hIq77 hEq77
        simp only [spec_SureCheck_s17] at h
        refine sem_cut fun k78 hk78 => zS z0 ?_
        refine sem_ifh rfl h ?_ ?_ <;> clear h <;> intro h
        · refine r_skip (r_cN hk78 ?_)
          refine sem_cut fun k80 hk80 => sem_blk fun k81 hk81 => ?_
          obtain ⟨v40, h, c83⟩ := bI h
          obtain ⟨v41, c84H, h⟩ := bind_some' h
          refine zS (zPC1F (.take 0 (.take 1 (.take 2 (.take 3 (.take 4 (.last 5 (.take 6 .done))))))) [1] (lF [] (con_spec_l12Wrong _ _ _ c84H)) c83) (sem_cut fun k85 hk85 => ?_)
          refine zS z0 ?_
          refine sem_ifh rfl h ?_ ?_ <;> clear h <;> intro h
          · refine zS z0 (r_ret ?_)
            refine r_cR hk85 (r_bR hk81 ?_)
            refine r_cR hk80 ?_
            replace h := zX h hEq77 hKq77
            simp only [Sum.elim_inl, Sum.elim_inr] at h
            refine r_kR hkq77 (r_bR hk52 ?_)
            refine r_jR hk50 ?_
            cases h
            refine zAR hQ
          · refine r_skip (r_cN hk85 ?_)
            obtain ⟨v42, h, c88⟩ := bI h
            obtain ⟨v43, c89H, h⟩ := bind_some' h
            refine zU (zPC1F (.take 0 (.take 1 (.take 2 (.take 3 (.take 4 (.take 5 (.last 6 (.last 7 .done)))))))) [1] (lF [] (con_spec_l12Next _ _ _ c89H)) c88) (r_bN hk81 ?_)
            refine r_cN hk80 (zU z0 ?_)
            refine zB hkq77 h hIq77 () trivial
        · refine r_exit (r_cE hk78 ?_)
          replace h := zX h hEq77 hKq77
          simp only [Sum.elim_inl, Sum.elim_inr] at h
          refine r_kE hkq77 (r_bE hk52 ?_)
          refine zJ J49 [0, 2, 3] () _ h
noncomputable def spec_l16Bait_j15 (v2 : ((List Inst) × l26Rd)) : ((List Int) × Int × (List Inst)) → Option ((List Inst) × l26Rd)
  | (v41, v42, v43) => (Option.bind (spec_SureCheck v43) fun v44 => (cond (decide (v44.Code > 0)) (some (v2.1, (⟨v41, v42⟩ : l26Rd))) (some (v43, (⟨v41, v42⟩ : l26Rd)))))
noncomputable def spec_l16Bait_j26 (v59 : Int) : ((List Int) × Int × (List Inst)) → Option (((List Int) × Int × (List Inst) × Int) ⊕ ((List Int) × Int × (List Inst)))
  | (v76, v77, v78) => (some (.inl (v76, v77, v78, (IntKind.i64.wrap (v59 + 1)))))
noncomputable def spec_l16Bait_s19 (v2 : ((List Inst) × l26Rd)) : ((List Int) × Int × (List Inst) × Int) → Option (((List Int) × Int × (List Inst) × Int) ⊕ ((List Int) × Int × (List Inst)))
  | (v56, v57, v58, v59) => (cond (decide (v59 < ((v2.1).length : Int))) (Option.bind (spec_l26Rd_pick (⟨v56, v57⟩ : l26Rd) 3) fun v79 => (cond (v79.1 == 0) (Option.bind (idx v2.1 (v59)) fun v80 => (Option.bind (spec_l16More v79.2 v80) fun v81 => (gd (apOk ((v58 ++ v81.1)).length 40) (spec_l16Bait_j26 v59 (v81.2.b, v81.2.p, (v58 ++ v81.1)))))) (Option.bind (idx v2.1 (v59)) fun v82 => (gd (apOk ((v58 ++ [v82])).length 40) (spec_l16Bait_j26 v59 (v79.2.b, v79.2.p, (v58 ++ [v82]))))))) (some (.inr (v56, v57, v58))))
noncomputable def spec_l16Bait (v1 : l26Rd) : Option ((List Inst) × l26Rd) :=
  (Option.bind (spec_l11Sure v1) fun v2 => (cond (decide (((v2.1).length : Int) > 120)) (some (v2.1, v2.2)) ((loop (spec_l16Bait_s19 v2) (v2.2.b, v2.2.p, [], 0)).bind (fun v71 => (spec_l16Bait_j15 v2 (v71.1, v71.2.1, v71.2.2))))))
theorem con_spec_l16Bait (v1 : l26Rd) (res_ : ((List Inst) × l26Rd)) (h : spec_l16Bait v1 = some res_) : Con Tryd.prog C0 21 [.pt 0 0] [.rc [.fz 1 (R e_u8 (v1.b)), .sc (.int .i64 (v1.p))]]
    (fun x σ' => x = .fz 3 (R e_Inst (res_.1)) ∧ σ' = [.rc [.fz 1 (R e_u8 (res_.2.b)), .sc (.int .i64 (res_.2.p))]]) := by
  refine zCon hP 1 [0, 2, 3, 4, 5, 10, 16, 21, 40] [.tmp 2] Tryd.func21 (by unfold Tryd.f21; rfl) fun Q hQ => ?_
  unfold spec_l16Bait at h
  refine zS z0 ?_
  obtain ⟨v2, c3H, h⟩ := bind_some' h
  refine zS (zC1 (lC [[0]] (con_spec_l11Sure _ _ c3H))) (sem_cut fun k4 hk4 => ?_)
  refine zS z0 ?_
  refine sem_ifh rfl h ?_ ?_ <;> clear h <;> intro h
  · refine zS z0 (r_ret ?_)
    refine r_cR hk4 ?_
    cases h
    refine zAR hQ
  · refine r_skip (r_cN hk4 ?_)
    refine zS z0 (zCut (fun (x : ((List Int) × Int × (List Inst))) => ⟨[(3, .fz 3 (R e_Inst (v2.1))), (4, .sl 1 0 ((x.2.2).length))], [.rc [.fz 1 (R e_u8 (x.1)), .sc (.int .i64 (x.2.1))], .arr true 3 (R e_Inst (x.2.2))]⟩) (spec_l16Bait_j15 v2) res_ ?_ ?_)
    · rintro _ ⟨v41, v42, v43⟩ h
      simp only [spec_l16Bait_j15] at h
      refine sem_cut fun k71 hk71 => ?_
      obtain ⟨v44, c73H, h⟩ := bind_some' h
      refine zS (zC1 (lF [] (con_spec_SureCheck _ _ c73H))) ?_
      refine sem_ifh rfl h ?_ ?_ <;> clear h <;> intro h
      · refine zS z0 (r_ret ?_)
        refine r_cR hk71 ?_
        cases h
        refine zAR hQ
      · refine r_skip (r_cN hk71 ?_)
        refine zS z0 (r_ret ?_)
        cases h
        refine zAR hQ
    · intro k77 hk77 J76
      refine zS z0 (sem_blk fun k79 hk79 => ?_)
      obtain ⟨oq120, hLq120, hKq120⟩ := bind_some' h
      clear h
      refine sem_loopP [0, 3, 4, 5] (fun (_ : Unit) (x : ((List Int) × Int × (List Inst) × Int)) => (⟨[(0, .pt 0 0), (3, .fz 3 (R e_Inst (v2.1))), (4, .sl 1 0 ((x.2.2.1).length)), (5, .sc (.int .i64 (x.2.2.2)))], [.rc [.fz 1 (R e_u8 (x.1)), .sc (.int .i64 (x.2.1))], .arr true 3 (R e_Inst (x.2.2.1))]⟩ : St)) (fun (_ : Unit) (x : ((List Int) × Int × (List Inst) × Int)) => True) (spec_l16Bait_s19 v2) () (v2.2.b, v2.2.p, [], 0) hLq120 (by rfl) (by rfl) ⟨?_, trivial⟩ ?_
      · first | exact wkSt_same rfl | (simp (decide := true) only [go_sem, reduceIte, Nat.reduceAdd, Int.reduceToNat, Nat.reduceSub, Nat.reduceMul]; exact wkSt_same rfl)
      · rintro nq120 _ ⟨v56, v57, v58, v59⟩ xq120 kq120 hkq120 - h hIq120 hEq120
        simp only [spec_l16Bait_s19] at h
        refine sem_cut fun k121 hk121 => zS z0 ?_
        refine sem_ifh rfl h ?_ ?_ <;> clear h <;> intro h
        · refine r_skip (r_cN hk121 ?_)
          refine zCut (fun (x : ((List Int) × Int × (List Inst))) => ⟨[(0, .pt 0 0), (3, .fz 3 (R e_Inst (v2.1))), (4, .sl 1 0 ((x.2.2).length)), (5, .sc (.int .i64 (v59)))], [.rc [.fz 1 (R e_u8 (x.1)), .sc (.int .i64 (x.2.1))], .arr true 3 (R e_Inst (x.2.2))]⟩) (spec_l16Bait_j26 v59) xq120 ?_ ?_
          · rintro _ ⟨v76, v77, v78⟩ h
            simp only [spec_l16Bait_j26] at h
            refine zU z0 (zB hkq120 h hIq120 () trivial)
          · intro k132 hk132 J131
            refine sem_blk fun k133 hk133 => ?_
            obtain ⟨v79, c135H, h⟩ := bind_some' h
            refine zS (zC1 (lC [[0]] (con_spec_l26Rd_pick _ _ _ c135H))) ?_
            refine sem_ifh rfl h ?_ ?_ <;> clear h <;> intro h
            · obtain ⟨v80, h, c136⟩ := bI h
              obtain ⟨v81, c137H, h⟩ := bind_some' h
              obtain ⟨g138, h⟩ := gAp h
              refine zU (zC1F (lC [[0]] (con_spec_l16More _ _ _ c137H)) (a2 c136 g138)) (r_bN hk133 ?_)
              refine zJ J131 [0, 3, 4, 5] () _ h
            · obtain ⟨v82, h, c139⟩ := bI h
              obtain ⟨g140, h⟩ := gAp h
              refine zU (zRF (a2 c139 g140)) (r_bN hk133 ?_)
              refine zJ J131 [0, 3, 4, 5] () _ h
        · refine r_exit (r_cE hk121 ?_)
          replace h := zX h hEq120 hKq120
          refine r_kE hkq120 (r_bE hk79 ?_)
          refine zJ J76 [3, 4] () _ h
noncomputable def spec_l11Inst (v1 : l26Rd) : Option (Inst × l26Rd) :=
  (Option.bind (spec_l26Rd_num v1 [1, 1, 1, 2, 2, 2, 3, 3, 4, 5, 6, 7, 8, 9, 10, 10, 10, 11]) fun v2 => (cond (decide (v2.1 ≤ 3)) (Option.bind (spec_l4Contact v2.2) fun v3 => (some ((⟨v2.1, v3.1.Op, v3.1.Args⟩ : Inst), v3.2))) (cond (v2.1 == 10) (Option.bind (spec_l4Coil v2.2) fun v4 => (some ((⟨v2.1, v4.1.Op, v4.1.Args⟩ : Inst), v4.2))) (some ((⟨v2.1, 0, []⟩ : Inst), v2.2)))))
theorem con_spec_l11Inst (v1 : l26Rd) (res_ : (Inst × l26Rd)) (h : spec_l11Inst v1 = some res_) : Con Tryd.prog C0 30 [.pt 0 0] [.rc [.fz 1 (R e_u8 (v1.b)), .sc (.int .i64 (v1.p))]]
    (fun x σ' => x = .agg [.sc (.int .i64 (res_.1.Code)), .sc (.int .i64 (res_.1.One_Op)), .fz 3 (R e_DevArg (res_.1.One_Args))] ∧ σ' = [.rc [.fz 1 (R e_u8 (res_.2.b)), .sc (.int .i64 (res_.2.p))]]) := by
  refine zCon hP 1 [0, 2, 3, 7, 14] [.cell 2 44] Tryd.func30 (by unfold Tryd.f30; rfl) fun Q hQ => ?_
  unfold spec_l11Inst at h
  refine zS z0 ?_
  obtain ⟨v2, c3H, h⟩ := bind_some' h
  refine zS (zC1 (lC [[0]] (con_spec_l26Rd_num _ _ _ c3H))) (sem_cut fun k4 hk4 => ?_)
  refine sem_blk fun k5 hk5 => zS z0 ?_
  refine sem_ifh rfl h ?_ ?_ <;> clear h <;> intro h
  · obtain ⟨v3, c8H, h⟩ := bind_some' h
    refine zS (zC1 (lC [[0]] (con_spec_l4Contact _ _ c8H))) (r_ret ?_)
    refine r_bR hk5 (r_cR hk4 ?_)
    cases h
    refine zAR hQ
  · refine zS z0 ?_
    refine sem_ifh rfl h ?_ ?_ <;> clear h <;> intro h
    · obtain ⟨v4, c11H, h⟩ := bind_some' h
      refine zS (zC1 (lC [[0]] (con_spec_l4Coil _ _ c11H))) (r_ret ?_)
      refine r_bR hk5 (r_cR hk4 ?_)
      cases h
      refine zAR hQ
    · refine r_skip (r_bN hk5 ?_)
      refine r_cN hk4 (zS z0 ?_)
      refine r_ret ?_
      cases h
      refine zARw hQ
noncomputable def spec_l2Spoilt_j3 : ((List Int) × Int × Int × Int × Int) → Option (DevArg × l26Rd)
  | (v9, v10, v11, v12, v13) => (some ((⟨v11, v12, v13⟩ : DevArg), (⟨v9, v10⟩ : l26Rd)))
noncomputable def spec_l2Spoilt (v1 : l26Rd) (v2 : DevArg) : Option (DevArg × l26Rd) :=
  (Option.bind (spec_l26Rd_pick v1 6) fun v14 => (cond (v14.1 == 0) (Option.bind (spec_l26Rd_pick v14.2 16) fun v15 => (spec_l2Spoilt_j3 (v15.2.b, v15.2.p, (IntKind.i64.wrap (v15.1 - 1)), v2.N, v2.P))) (cond (v14.1 == 1) (Option.bind (spec_l26Rd_num v14.2 [(-1), 4, 5, 15, 16, 31, 32, 63, 64, 255, 32768, (-32769), 1000000000, (-1000000000), 20, 10]) fun v16 => (spec_l2Spoilt_j3 (v16.2.b, v16.2.p, v2.Kind, v16.1, v2.P))) (cond (v14.1 == 2) (Option.bind (spec_l26Rd_num v14.2 [(-1), 0, 1, 6, 7]) fun v17 => (spec_l2Spoilt_j3 (v17.2.b, v17.2.p, v2.Kind, v2.N, v17.1))) (cond (v14.1 == 3) (Option.bind (spec_DevSize v2.Kind) fun v18 => (spec_l2Spoilt_j3 (v14.2.b, v14.2.p, v2.Kind, v18, v2.P))) (cond (v14.1 == 4) (Option.bind (spec_DevSize v2.Kind) fun v19 => (spec_l2Spoilt_j3 (v14.2.b, v14.2.p, v2.Kind, (IntKind.i64.wrap (v19 - 1)), v2.P))) (spec_l2Spoilt_j3 (v14.2.b, v14.2.p, v2.Kind, (IntKind.i64.wrap (0 - v2.N)), v2.P))))))))
theorem con_spec_l2Spoilt (v1 : l26Rd) (v2 : DevArg) (res_ : (DevArg × l26Rd)) (h : spec_l2Spoilt v1 v2 = some res_) : Con Tryd.prog C0 51 [.pt 0 0, .agg [.sc (.int .i64 (v2.Kind)), .sc (.int .i64 (v2.N)), .sc (.int .i64 (v2.P))]] [.rc [.fz 1 (R e_u8 (v1.b)), .sc (.int .i64 (v1.p))]]
    (fun x σ' => x = .agg [.sc (.int .i64 (res_.1.Kind)), .sc (.int .i64 (res_.1.N)), .sc (.int .i64 (res_.1.P))] ∧ σ' = [.rc [.fz 1 (R e_u8 (res_.2.b)), .sc (.int .i64 (res_.2.p))]]) := by
  refine zCon hP 1 [0, 1, 3, 4, 6, 11, 17, 23, 29, 35] [.cell 4 60] Tryd.func51 (by unfold Tryd.f51; rfl) fun Q hQ => ?_
  unfold spec_l2Spoilt at h
  refine zS z0 (zCut (fun (x : ((List Int) × Int × Int × Int × Int)) => ⟨[(3, .pt 1 0), (4, .pt 2 0)], [.rc [.fz 1 (R e_u8 (x.1)), .sc (.int .i64 (x.2.1))], .rc [.sc (.int .i64 (x.2.2.1)), .sc (.int .i64 (x.2.2.2.1)), .sc (.int .i64 (x.2.2.2.2))], .rc [.sc (.int .i64 (0)), .sc (.int .i64 (0)), .sc (.int .i64 (0))]]⟩) spec_l2Spoilt_j3 res_ ?_ ?_)
  · rintro _ ⟨v9, v10, v11, v12, v13⟩ h
    simp only [spec_l2Spoilt_j3] at h
    refine zS z0 (r_ret ?_)
    cases h
    refine zAR hQ
  · intro k17 hk17 J16
    obtain ⟨v14, c19H, h⟩ := bind_some' h
    refine zS (zC1 (lC [[0]] (con_spec_l26Rd_pick _ _ _ c19H))) (sem_blk fun k20 hk20 => ?_)
    refine zS z0 ?_
    refine sem_ifh rfl h ?_ ?_ <;> clear h <;> intro h
    · obtain ⟨v15, c22H, h⟩ := bind_some' h
      refine zU (zC1 (lC [[0]] (con_spec_l26Rd_pick _ _ _ c22H))) (r_bN hk20 ?_)
      refine zJ J16 [3, 4] () _ h
    · refine zS z0 ?_
      refine sem_ifh rfl h ?_ ?_ <;> clear h <;> intro h
      · obtain ⟨v16, c24H, h⟩ := bind_some' h
        refine zU (zC1 (lC [[0]] (con_spec_l26Rd_num _ _ _ c24H))) (r_bN hk20 ?_)
        refine zJ J16 [3, 4] () _ h
      · refine zS z0 ?_
        refine sem_ifh rfl h ?_ ?_ <;> clear h <;> intro h
        · obtain ⟨v17, c26H, h⟩ := bind_some' h
          refine zU (zC1 (lC [[0]] (con_spec_l26Rd_num _ _ _ c26H))) (r_bN hk20 ?_)
          refine zJ J16 [3, 4] () _ h
        · refine zS z0 ?_
          refine sem_ifh rfl h ?_ ?_ <;> clear h <;> intro h
          · obtain ⟨v18, c28H, h⟩ := bind_some' h
            refine zU (zC1 (lF [] (con_spec_DevSize _ _ c28H))) (r_bN hk20 ?_)
            refine zJ J16 [3, 4] () _ h
          · refine zS z0 ?_
            refine sem_ifh rfl h ?_ ?_ <;> clear h <;> intro h
            · obtain ⟨v19, c30H, h⟩ := bind_some' h
              refine zU (zC1 (lF [] (con_spec_DevSize _ _ c30H))) (r_bN hk20 ?_)
              refine zJ J16 [3, 4] () _ h
            · refine zU z0 (r_bN hk20 ?_)
              refine zJ J16 [3, 4] () _ h
noncomputable def spec_l2Any (v1 : l26Rd) : Option (DevArg × l26Rd) :=
  (Option.bind (spec_l26Rd_pick v1 13) fun v2 => (Option.bind (spec_l2Arg v2.2 (IntKind.i64.wrap (1 + v2.1))) fun v3 => (Option.bind (spec_l26Rd_pick v3.2 20) fun v4 => (cond (v4.1 == 0) (Option.bind (spec_l2Spoilt v4.2 v3.1) fun v5 => (some (v5.1, v5.2))) (some (v3.1, v4.2))))))
theorem con_spec_l2Any (v1 : l26Rd) (res_ : (DevArg × l26Rd)) (h : spec_l2Any v1 = some res_) : Con Tryd.prog C0 50 [.pt 0 0] [.rc [.fz 1 (R e_u8 (v1.b)), .sc (.int .i64 (v1.p))]]
    (fun x σ' => x = .agg [.sc (.int .i64 (res_.1.Kind)), .sc (.int .i64 (res_.1.N)), .sc (.int .i64 (res_.1.P))] ∧ σ' = [.rc [.fz 1 (R e_u8 (res_.2.b)), .sc (.int .i64 (res_.2.p))]]) := by
  refine zCon hP 1 [0, 2, 3, 11] [.cell 2 60] Tryd.func50 (by unfold Tryd.f50; rfl) fun Q hQ => ?_
  unfold spec_l2Any at h
  refine zS z0 ?_
  obtain ⟨v2, c3H, h⟩ := bind_some' h
  obtain ⟨v3, c4H, h⟩ := bind_some' h
  refine zS (zC2 (lC [[0]] (con_spec_l26Rd_pick _ _ _ c3H)) (lC [[0]] (con_spec_l2Arg _ _ _ c4H))) (sem_cut fun k5 hk5 => ?_)
  obtain ⟨v4, c7H, h⟩ := bind_some' h
  refine zS (zC1 (lC [[0]] (con_spec_l26Rd_pick _ _ _ c7H))) ?_
  refine sem_ifh rfl h ?_ ?_ <;> clear h <;> intro h
  · obtain ⟨v5, c9H, h⟩ := bind_some' h
    refine zS (zC1 (lC [[0]] (con_spec_l2Spoilt _ _ _ c9H))) (r_ret ?_)
    refine r_cR hk5 ?_
    cases h
    refine zAR hQ
  · refine r_skip (r_cN hk5 ?_)
    refine zS z0 (r_ret ?_)
    cases h
    refine zAR hQ
noncomputable def spec_l4Spoil_j28 (v2 : Elem) : ((List Int) × Int × (List DevArg)) → Option (Elem × l26Rd)
  | (v12, v13, v14) => (some ((⟨v2.Op, v14⟩ : Elem), (⟨v12, v13⟩ : l26Rd)))
noncomputable def spec_l4Spoil (v1 : l26Rd) (v2 : Elem) : Option (Elem × l26Rd) :=
  (gd (apOk (v2.Args).length 24) (Option.bind (spec_l26Rd_pick v1 6) fun v3 => (cond (v3.1 == 0) (Option.bind (spec_l26Rd_num v3.2 [(-1), 0, 1, 5, 11, 20, 21, 26, 37, 38]) fun v4 => (some ((⟨v4.1, v2.Args⟩ : Elem), v4.2))) (cond (v3.1 == 1) (Option.bind (spec_l2Any v3.2) fun v5 => (gd (apOk ((v2.Args ++ [v5.1])).length 24) (some ((⟨v2.Op, (v2.Args ++ [v5.1])⟩ : Elem), v5.2)))) (cond (v3.1 == 2) (some ((⟨v2.Op, []⟩ : Elem), v3.2)) (cond (decide ((((v2.Args).length : Nat) : Int) > 0)) (Option.bind (spec_l26Rd_pick v3.2 (((v2.Args).length : Nat) : Int)) fun v15 => (Option.bind (idx v2.Args (v15.1)) fun v16 => (Option.bind (spec_l2Spoilt v15.2 v16) fun v17 => (Option.bind (spec_l26Rd_pick v17.2 2) fun v18 => (cond (v18.1 == 0) (Option.bind (spec_l2Any v18.2) fun v19 => (Option.bind (idx ((v2.Args).set (v15.1).toNat v17.1) (v15.1)) fun v20 => (spec_l4Spoil_j28 v2 (v19.2.b, v19.2.p, ((((v2.Args).set (v15.1).toNat v17.1)).set (v15.1).toNat v19.1))))) (spec_l4Spoil_j28 v2 (v18.2.b, v18.2.p, ((v2.Args).set (v15.1).toNat v17.1)))))))) (spec_l4Spoil_j28 v2 (v3.2.b, v3.2.p, v2.Args))))))))
theorem con_spec_l4Spoil (v1 : l26Rd) (v2 : Elem) (res_ : (Elem × l26Rd)) (h : spec_l4Spoil v1 v2 = some res_) : Con Tryd.prog C0 31 [.pt 0 0, .agg [.sc (.int .i64 (v2.Op)), .fz 3 (R e_DevArg (v2.Args))]] [.rc [.fz 1 (R e_u8 (v1.b)), .sc (.int .i64 (v1.p))]]
    (fun x σ' => x = .agg [.sc (.int .i64 (res_.1.Op)), .fz 3 (R e_DevArg (res_.1.Args))] ∧ σ' = [.rc [.fz 1 (R e_u8 (res_.2.b)), .sc (.int .i64 (res_.2.p))]]) := by
  refine zCon hP 1 [0, 1, 3, 4, 5, 6, 12, 13, 20, 30, 37, 53] [.cell 4 42] Tryd.func31 (by unfold Tryd.f31; rfl) fun Q hQ => ?_
  unfold spec_l4Spoil at h
  refine zS z0 ?_
  obtain ⟨g3, h⟩ := gAp h
  refine zS (zRF g3) (sem_cut fun k4 hk4 => ?_)
  obtain ⟨v3, c6H, h⟩ := bind_some' h
  refine zS (zC1 (lC [[0]] (con_spec_l26Rd_pick _ _ _ c6H))) (sem_blk fun k7 hk7 => ?_)
  refine zS z0 ?_
  refine sem_ifh rfl h ?_ ?_ <;> clear h <;> intro h
  · obtain ⟨v4, c10H, h⟩ := bind_some' h
    refine zS (zC1 (lC [[0]] (con_spec_l26Rd_num _ _ _ c10H))) (r_ret ?_)
    refine r_bR hk7 (r_cR hk4 ?_)
    cases h
    refine zAR hQ
  · refine zS z0 ?_
    refine sem_ifh rfl h ?_ ?_ <;> clear h <;> intro h
    · obtain ⟨v5, c13H, h⟩ := bind_some' h
      obtain ⟨g14, h⟩ := gAp h
      refine zS (zPC1F (.take 0 (.take 1 (.take 2 (.take 3 (.one 4 (.one 5 (.one 6 (.take 7 (.last 8 .done))))))))) [1] (lC [[0]] (con_spec_l2Any _ _ c13H)) g14) (r_ret ?_)
      refine r_bR hk7 (r_cR hk4 ?_)
      cases h
      refine zAR hQ
    · refine zS z0 ?_
      refine sem_ifh rfl h ?_ ?_ <;> clear h <;> intro h
      · refine zS z0 (r_ret ?_)
        refine r_bR hk7 (r_cR hk4 ?_)
        cases h
        refine zARw hQ
      · refine r_skip (r_bN hk7 ?_)
        refine r_cN hk4 (zCut (fun (x : ((List Int) × Int × (List DevArg))) => ⟨[(3, .pt 1 0), (4, .pt 2 0), (5, .sl 3 0 ((x.2.2).length))], [.rc [.fz 1 (R e_u8 (x.1)), .sc (.int .i64 (x.2.1))], .rc [.sc (.int .i64 (v2.Op)), .fz 3 (R e_DevArg (v2.Args))], .rc [.sc (.int .i64 (0)), .sc (.slice none 0 0)], .arr true 3 (R e_DevArg (x.2.2))]⟩) (spec_l4Spoil_j28 v2) res_ ?_ ?_)
        · rintro _ ⟨v12, v13, v14⟩ h
          simp only [spec_l4Spoil_j28] at h
          refine zS z0 (r_ret ?_)
          cases h
          refine zAR hQ
        · intro k29 hk29 J28
          refine zS z0 ?_
          refine sem_ifh rfl h ?_ ?_ <;> clear h <;> intro h
          · obtain ⟨v15, c32H, h⟩ := bind_some' h
            refine zS (zC1 (lC [[0]] (con_spec_l26Rd_pick _ _ _ c32H))) ?_
            obtain ⟨v16, h, c34⟩ := bI h
            obtain ⟨v17, c35H, h⟩ := bind_some' h
            refine zS (zC1F (lC [[0]] (con_spec_l2Spoilt _ _ _ c35H)) c34) ?_
            obtain ⟨v18, c37H, h⟩ := bind_some' h
            refine zS (zC1 (lC [[0]] (con_spec_l26Rd_pick _ _ _ c37H))) ?_
            refine sem_ifh rfl h ?_ ?_ <;> clear h <;> intro h
            · obtain ⟨v19, c38H, h⟩ := bind_some' h
              obtain ⟨v20, h, c39⟩ := bI h
              refine zU (zC1F (lC [[0]] (con_spec_l2Any _ _ c38H)) c39) (zJ J28 [3, 4, 5] () _ h)
            · refine r_skip (zJ J28 [3, 4, 5] () _ h)
          · refine r_skip (zJ J28 [3, 4, 5] () _ h)
noncomputable def spec_l4Any_j5 : ((List Int) × Int × Int × (List DevArg)) → Option (Elem × l26Rd)
  | (v5, v6, v7, v8) => (Option.bind (spec_l26Rd_pick (⟨v5, v6⟩ : l26Rd) 16) fun v9 => (cond (v9.1 == 0) (Option.bind (spec_l4Spoil v9.2 (⟨v7, v8⟩ : Elem)) fun v10 => (some (v10.1, v10.2))) (some ((⟨v7, v8⟩ : Elem), v9.2))))
noncomputable def spec_l4Any (v1 : l26Rd) : Option (Elem × l26Rd) :=
  (Option.bind (spec_l4Coil v1) fun v2 => (Option.bind (spec_l26Rd_pick v2.2 2) fun v13 => (cond (v13.1 == 0) (Option.bind (spec_l4Contact v13.2) fun v14 => (spec_l4Any_j5 (v14.2.b, v14.2.p, v14.1.Op, v14.1.Args))) (spec_l4Any_j5 (v13.2.b, v13.2.p, v2.1.Op, v2.1.Args)))))
theorem con_spec_l4Any (v1 : l26Rd) (res_ : (Elem × l26Rd)) (h : spec_l4Any v1 = some res_) : Con Tryd.prog C0 32 [.pt 0 0] [.rc [.fz 1 (R e_u8 (v1.b)), .sc (.int .i64 (v1.p))]]
    (fun x σ' => x = .agg [.sc (.int .i64 (res_.1.Op)), .fz 3 (R e_DevArg (res_.1.Args))] ∧ σ' = [.rc [.fz 1 (R e_u8 (res_.2.b)), .sc (.int .i64 (res_.2.p))]]) := by
  refine zCon hP 1 [0, 2, 3, 8, 13] [.cell 2 42] Tryd.func32 (by unfold Tryd.f32; rfl) fun Q hQ => ?_
  unfold spec_l4Any at h
  refine zS z0 ?_
  obtain ⟨v2, c3H, h⟩ := bind_some' h
  refine zS (zC1 (lC [[0]] (con_spec_l4Coil _ _ c3H))) (sem_cutJ (fun (i : P2) (x : ((List Int) × Int × Int × (List DevArg))) => match i with | .a => (⟨[(0, .pt 0 0), (2, .pt 1 0), (3, .pt 2 0)], [.rc [.fz 1 (R e_u8 (x.1)), .sc (.int .i64 (x.2.1))], .rc [.sc (.int .i64 (0)), .sc (.slice none 0 0)], .rc [.sc (.int .i64 (x.2.2.1)), .sl 3 0 ((x.2.2.2).length)], .arr true 3 (R e_DevArg (x.2.2.2))]⟩ : St) | .b => (⟨[(0, .pt 0 0), (2, .pt 1 0), (3, .pt 2 0)], [.rc [.fz 1 (R e_u8 (x.1)), .sc (.int .i64 (x.2.1))], .rc [.sc (.int .i64 (0)), .sc (.slice none 0 0)], .rc [.sc (.int .i64 (x.2.2.1)), .fz 3 (R e_DevArg (x.2.2.2))]]⟩ : St)) (fun (i : P2) (x : ((List Int) × Int × Int × (List DevArg))) => (match i with | .a => True | .b => True) ∧ spec_l4Any_j5 x = some res_) ?_ ?_)
  · rintro (_ | _) ⟨v5, v6, v7, v8⟩ ⟨hp, h⟩
    · simp only [spec_l4Any_j5] at h
      refine sem_cut fun k7 hk7 => ?_
      obtain ⟨v9, c9H, h⟩ := bind_some' h
      refine zS (zC1 (lC [[0]] (con_spec_l26Rd_pick _ _ _ c9H))) ?_
      refine sem_ifh rfl h ?_ ?_ <;> clear h <;> intro h
      · obtain ⟨v10, c11H, h⟩ := bind_some' h
        refine zS (zC1 (lC [[0]] (con_spec_l4Spoil _ _ _ c11H))) (r_ret ?_)
        refine r_cR hk7 ?_
        cases h
        refine zAR hQ
      · refine r_skip (r_cN hk7 ?_)
        refine zS z0 (r_ret ?_)
        cases h
        refine zAR hQ
    · simp only [spec_l4Any_j5] at h
      refine sem_cut fun k13 hk13 => ?_
      obtain ⟨v11, c15H, h⟩ := bind_some' h
      refine zS (zC1 (lC [[0]] (con_spec_l26Rd_pick _ _ _ c15H))) ?_
      refine sem_ifh rfl h ?_ ?_ <;> clear h <;> intro h
      · obtain ⟨v12, c17H, h⟩ := bind_some' h
        refine zS (zC1 (lC [[0]] (con_spec_l4Spoil _ _ _ c17H))) (r_ret ?_)
        refine r_cR hk13 ?_
        cases h
        refine zAR hQ
      · refine r_skip (r_cN hk13 ?_)
        refine zS z0 (r_ret ?_)
        cases h
        refine zAR hQ
  · intro k20 hk20 J19
    obtain ⟨v13, c22H, h⟩ := bind_some' h
    refine zS (zC1 (lC [[0]] (con_spec_l26Rd_pick _ _ _ c22H))) ?_
    refine sem_ifh rfl h ?_ ?_ <;> clear h <;> intro h
    · obtain ⟨v14, c23H, h⟩ := bind_some' h
      refine zU (zC1 (lC [[0]] (con_spec_l4Contact _ _ c23H))) (zJ J19 [0, 2, 3] (.a) (v14.2.b, v14.2.p, v14.1.Op, v14.1.Args) ⟨trivial, h⟩)
    · refine r_skip (zJ J19 [0, 2, 3] (.b) (v13.2.b, v13.2.p, v2.1.Op, v2.1.Args) ⟨trivial, h⟩)

end Go.AM
