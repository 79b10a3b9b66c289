/- Pure functions and their contracts. Conditions: none. -/
import Derived.Test.YtbmoclfnkefomaaDoorAmQa5
set_option linter.unusedSimpArgs false
set_option linter.unusedVariables false
set_option maxRecDepth 10000
set_option maxHeartbeats 4000000
namespace Go.AM
open Go Go.Proofs
noncomputable def impl_ElemIsContact_j25 (v1 : Elem) : Bool → Option Bool
  | v7 => (cond v7 (Option.bind (idx v1.Args (0)) fun v8 => (Option.bind (impl_DevIsBit v8) fun v9 => (cond v9 (Option.bind (idx v1.Args (1)) fun v10 => (Option.bind (impl_DevArg_kindIs v10 [5]) fun v11 => (some v11))) (some false)))) (Option.bind (impl_numbers v1.Args) fun v12 => (some v12)))
noncomputable def impl_ElemIsContact_j15 (v1 : Elem) : Bool → Option Bool
  | v4 => (cond v4 (Option.bind (idx v1.Args (0)) fun v5 => (Option.bind (impl_DevIsBit v5) fun v6 => (some v6))) (cond (v1.Op == 3) (impl_ElemIsContact_j25 v1 (v1.Op == 3)) (impl_ElemIsContact_j25 v1 (v1.Op == 4))))
noncomputable def impl_ElemIsContact (v1 : Elem) : Option Bool :=
  (Option.bind (impl_in v1.Op 1 10) fun v2 => (cond v2 (Option.bind (impl_ElemArity v1.Op) fun v3 => (cond (((v1.Args).length : Int) != v3) (some false) (cond (v1.Op == 1) (impl_ElemIsContact_j15 v1 (v1.Op == 1)) (impl_ElemIsContact_j15 v1 (v1.Op == 2))))) (some false)))
theorem con_impl_ElemIsContact (v1 : Elem) (res_ : Bool) (h : impl_ElemIsContact v1 = some res_) : Con Tryd.prog C0 60 [.agg [.sc (.int .i64 (v1.Op)), .fz 3 (R e_DevArg (v1.Args))]] []
    (fun x σ' => x = .sc (.bool (res_)) ∧ σ' = []) := by
  refine zCon hP 0 [0, 1, 2, 15, 17, 18, 26] [.tmp 2] Tryd.func60 (by unfold Tryd.f60; rfl) fun Q hQ => ?_
  unfold impl_ElemIsContact at h
  refine zS z0 (sem_cut fun k2 hk2 => ?_)
  refine sem_cut fun k3 hk3 => ?_
  obtain ⟨v2, c4H, h⟩ := bind_some' h
  rcases Bool.eq_false_or_eq_true v2 with g5 | g5
  · replace h := cond_t h g5
    obtain ⟨v3, c6H, h⟩ := bind_some' h
    refine zU (zPC2F (.take 0 (.take 1 (.one 2 (.take 3 (.take 4 (.take 5 (.take 6 (.take 7 (.take 8 (.take 9 (.one 10 (.take 11 (.take 12 .done))))))))))))) [0] (lF [] (con_impl_in _ _ _ _ c4H)) (lF [] (con_impl_ElemArity _ _ c6H)) g5) (r_cN hk3 ?_)
    refine sem_ifh rfl h ?_ ?_ <;> clear h <;> intro h
    · refine zS z0 (r_ret ?_)
      refine r_cR hk2 ?_
      cases h
      refine zAR hQ
    · refine r_skip (r_cN hk2 ?_)
      refine sem_cut fun k8 hk8 => zS z0 (sem_blk fun k10 hk10 => ?_)
      refine zCut (fun (x : Bool) => ⟨[(1, .pt 0 0), (17, .sc (.int .i64 (v1.Op))), (18, .sc (.bool (x)))], [.rc [.sc (.int .i64 (v1.Op)), .fz 3 (R e_DevArg (v1.Args))]]⟩) (impl_ElemIsContact_j15 v1) res_ ?_ ?_
      · rintro _ v4 h
        simp only [impl_ElemIsContact_j15] at h
        refine sem_ifh rfl h ?_ ?_ <;> clear h <;> intro h
        · obtain ⟨v5, h, c13⟩ := bN 0 h
          obtain ⟨v6, c14H, h⟩ := bind_some' h
          refine zS (zC1F (lF [] (con_impl_DevIsBit _ _ c14H)) c13) (r_ret ?_)
          refine r_bR hk10 (r_cR hk8 ?_)
          cases h
          refine zAR hQ
        · refine zCut (fun (x : Bool) => ⟨[(1, .pt 0 0), (26, .sc (.bool (x)))], [.rc [.sc (.int .i64 (v1.Op)), .fz 3 (R e_DevArg (v1.Args))]]⟩) (impl_ElemIsContact_j25 v1) res_ ?_ ?_
          · rintro _ v7 h
            simp only [impl_ElemIsContact_j25] at h
            refine sem_ifh rfl h ?_ ?_ <;> clear h <;> intro h
            · refine sem_cut fun k16 hk16 => ?_
              obtain ⟨v8, h, c17⟩ := bN 0 h
              obtain ⟨v9, c18H, h⟩ := bind_some' h
              rcases Bool.eq_false_or_eq_true v9 with g19 | g19
              · replace h := cond_t h g19
                obtain ⟨v10, h, c20⟩ := bN 1 h
                obtain ⟨v11, c21H, h⟩ := bind_some' h
                refine zU (zC2F (lF [] (con_impl_DevIsBit _ _ c18H)) (lF [] (con_impl_DevArg_kindIs _ _ _ c21H)) (a3 c17 g19 c20)) (r_cN hk16 ?_)
                refine r_ret (r_bR hk10 ?_)
                refine r_cR hk8 ?_
                cases h
                refine zAR hQ
              · replace h := cond_f h g19
                refine zU (zC1F (lF [] (con_impl_DevIsBit _ _ c18H)) (a2 c17 g19)) (r_cN hk16 ?_)
                refine r_ret (r_bR hk10 ?_)
                refine r_cR hk8 ?_
                cases h
                refine zAR hQ
            · refine r_skip (r_bN hk10 ?_)
              refine r_cN hk8 ?_
              obtain ⟨v12, c23H, h⟩ := bind_some' h
              refine zS (zC1 (lF [] (con_impl_numbers _ _ c23H))) (r_ret ?_)
              cases h
              refine zAR hQ
          · intro k25 hk25 J24
            refine zS z0 ?_
            refine sem_ifh rfl h ?_ ?_ <;> clear h <;> intro h
            · refine r_skip (zJ J24 [1, 26] () _ h)
            · refine zU z0 (zJ J24 [1, 26] () _ h)
      · intro k28 hk28 J27
        refine zS z0 ?_
        refine sem_ifh rfl h ?_ ?_ <;> clear h <;> intro h
        · refine r_skip (zJ J27 [1, 17, 18] () _ h)
        · refine zU z0 (zJ J27 [1, 17, 18] () _ h)
  · replace h := cond_f h g5
    refine zU (zPC1F (.take 0 (.take 1 (.one 2 (.take 3 (.take 4 (.take 5 (.take 6 (.take 7 (.take 8 (.take 9 (.one 10 (.take 11 (.take 12 .done))))))))))))) [0] (lF [] (con_impl_in _ _ _ _ c4H)) g5) (r_cN hk3 ?_)
    refine sem_ifT rfl ?_
    try replace h := cond_t h rfl
    refine zS z0 (r_ret ?_)
    refine r_cR hk2 ?_
    cases h
    refine zAR hQ
noncomputable def impl_ElemIsCoil_1 (v1 : (List DevArg)) : Option (Bool × (List DevArg)) :=
  (Option.bind (idx v1 (0)) fun v2 => (Option.bind (impl_DevArg_kindIs v2 [11]) fun v3 => (cond v3 (some ((decide (v2.N ≥ 0)), v1)) (some (false, v1)))))
theorem con_impl_ElemIsCoil_1 (v1 : (List DevArg)) (res_ : (Bool × (List DevArg))) (h : impl_ElemIsCoil_1 v1 = some res_) : Con Tryd.prog C0 87 [.pt 0 0] [.rc [.fz 3 (R e_DevArg (v1))]]
    (fun x σ' => x = .sc (.bool (res_.1)) ∧ σ' = [.rc [.fz 3 (R e_DevArg (res_.2))]]) := by
  refine zCon hP 1 [0, 1] [.tmp 1] Tryd.func87 (by unfold Tryd.f87; rfl) fun Q hQ => ?_
  unfold impl_ElemIsCoil_1 at h
  refine zS z0 (sem_cut fun k2 hk2 => ?_)
  obtain ⟨v2, h, c3⟩ := bN 0 h
  obtain ⟨v3, c4H, h⟩ := bind_some' h
  rcases Bool.eq_false_or_eq_true v3 with g5 | g5
  · replace h := cond_t h g5
    refine zU (zC1F (lF [] (con_impl_DevArg_kindIs _ _ _ c4H)) (a2 c3 g5)) (r_cN hk2 ?_)
    refine r_ret ?_
    cases h
    refine zAR hQ
  · replace h := cond_f h g5
    refine zU (zC1F (lF [] (con_impl_DevArg_kindIs _ _ _ c4H)) (a2 c3 g5)) (r_cN hk2 ?_)
    refine r_ret ?_
    cases h
    refine zAR hQ
noncomputable def impl_ElemIsCoil_j49 (v1 : Elem) (v4 : DevArg) (v5 : (List DevArg)) : Bool → Option Bool
  | v13 => (cond v13 (Option.bind (impl_DevArg_kindIs v4 [7]) fun v14 => (cond v14 (Option.bind (impl_ElemIsCoil_1 v5) fun v15 => (some v15.1)) (some false))) (cond (v1.Op == 29) (Option.bind (impl_DevArg_kindIs v4 [8]) fun v16 => (cond v16 (Option.bind (impl_ElemIsCoil_1 v5) fun v17 => (some v17.1)) (some false))) (cond (v1.Op == 35) (Option.bind (impl_DevArg_kindIs v4 [9]) fun v18 => (cond v18 (Option.bind (impl_all_fimpl_DevIsWhole v5) fun v19 => (some v19)) (some false))) (cond (v1.Op == 36) (Option.bind (impl_DevArg_kindIs v4 [10]) fun v20 => (cond v20 (Option.bind (idx v5 (0)) fun v21 => (Option.bind (impl_DevIsWhole v21) fun v22 => (some v22))) (some false))) (cond (v1.Op == 37) (Option.bind (impl_DevArg_kindIs v4 [9]) fun v23 => (cond v23 (Option.bind (idx v5 (0)) fun v24 => (Option.bind (impl_DevIsReal v24) fun v25 => (some v25))) (some false))) (Option.bind (impl_DevArg_kindIs v4 [9]) fun v26 => (cond v26 (Option.bind (impl_all_fimpl_DevIsWhole v5) fun v27 => (cond v27 (some true) (Option.bind (impl_DevArg_kindIs v4 [10]) fun v28 => (cond v28 (Option.bind (impl_all_fimpl_DevIsReal v5) fun v29 => (some v29)) (some false))))) (Option.bind (impl_DevArg_kindIs v4 [10]) fun v30 => (cond v30 (Option.bind (impl_all_fimpl_DevIsReal v5) fun v31 => (some v31)) (some false))))))))))
noncomputable def impl_ElemIsCoil (v1 : Elem) : Option Bool :=
  (Option.bind (impl_in v1.Op 21 37) fun v2 => (cond v2 (Option.bind (impl_ElemArity v1.Op) fun v3 => (cond (((v1.Args).length : Int) != v3) (some false) (Option.bind (idx v1.Args (0)) fun v4 => (Option.bind (prtL v1.Args (1)) fun v5 => (cond (v1.Op == 21) (Option.bind (impl_DevArg_kindIs v4 [2, 3]) fun v6 => (some v6)) (cond (v1.Op == 22) (Option.bind (impl_DevArg_kindIs v4 [2, 3, 4]) fun v7 => (some v7)) (cond (v1.Op == 23) (Option.bind (impl_DevArg_kindIs v4 [2, 3, 4, 7, 8]) fun v8 => (some v8)) (cond (v1.Op == 24) (Option.bind (impl_DevArg_kindIs v4 [2, 3]) fun v9 => (cond v9 (Option.bind (idx v5 (0)) fun v10 => (Option.bind (impl_DevArg_kindIs v10 [5]) fun v11 => (some v11))) (some false))) (cond (v1.Op == 25) (Option.bind (impl_DevArg_kindIs v4 [4]) fun v12 => (some v12)) (cond (v1.Op == 26) (impl_ElemIsCoil_j49 v1 v4 v5 (v1.Op == 26)) (cond (v1.Op == 27) (impl_ElemIsCoil_j49 v1 v4 v5 (v1.Op == 27)) (impl_ElemIsCoil_j49 v1 v4 v5 (v1.Op == 28))))))))))))) (some false)))
theorem con_impl_ElemIsCoil (v1 : Elem) (res_ : Bool) (h : impl_ElemIsCoil v1 = some res_) : Con Tryd.prog C0 77 [.agg [.sc (.int .i64 (v1.Op)), .fz 3 (R e_DevArg (v1.Args))]] []
    (fun x σ' => x = .sc (.bool (res_)) ∧ σ' = []) := by
  refine zCon hP 0 [0, 1, 2, 3, 4, 5, 18, 28, 29, 34, 39, 44, 56, 61, 72, 81, 90, 101] [.tmp 2] Tryd.func77 (by unfold Tryd.f77; rfl) fun Q hQ => ?_
  unfold impl_ElemIsCoil at h
  refine zS z0 (sem_cut fun k2 hk2 => ?_)
  refine sem_cut fun k3 hk3 => ?_
  obtain ⟨v2, c4H, h⟩ := bind_some' h
  rcases Bool.eq_false_or_eq_true v2 with g5 | g5
  · replace h := cond_t h g5
    obtain ⟨v3, c6H, h⟩ := bind_some' h
    refine zU (zPC2F (.take 0 (.take 1 (.one 2 (.take 3 (.take 4 (.take 5 (.take 6 (.take 7 (.take 8 (.take 9 (.one 10 (.take 11 (.take 12 .done))))))))))))) [0] (lF [] (con_impl_in _ _ _ _ c4H)) (lF [] (con_impl_ElemArity _ _ c6H)) g5) (r_cN hk3 ?_)
    refine sem_ifh rfl h ?_ ?_ <;> clear h <;> intro h
    · refine zS z0 (r_ret ?_)
      refine r_cR hk2 ?_
      cases h
      refine zAR hQ
    · refine r_skip (r_cN hk2 ?_)
      refine sem_cut fun k8 hk8 => ?_
      obtain ⟨v4, h, c9⟩ := bN 0 h
      obtain ⟨v5, c10H, h⟩ := bind_some' h
      obtain ⟨c10A, c10B, c10C⟩ := prtL_some c10H
      try simp only [Int.reduceToNat, Int.toNat_zero, Int.toNat_one, Int.toNat_natCast, List.take_length] at c10C
      with_reducible refine sem_plan (id := 3) (.take 0 (.take 1 (.take 2 (.take 3 (.take 4 (.take 5 (.take 6 (.two 7 8 (.one 8 (.one 9 (.last 10 .done))) (.one 7 (.one 9 (.last 10 .done))))))))))) [0] ?_ ?_
      focus kernel_rfl
      repeat' (first | with_reducible refine And.intro ?_ ?_ | exact True.intro | with_reducible assumption | exact fun hf => False.elim hf | (intro hg; first | (simp +contextual [hg]; done) | grind) | omega | simp (decide := true) only [go_sem, reduceIte, Nat.reduceAdd, Int.reduceToNat, Nat.reduceSub, Nat.reduceMul, c9, c10A, c10B, c10C])
      all_goals
        refine r_cN hk8 (zS z0 ?_)
        refine sem_cut fun k12 hk12 => zS z0 (sem_blk fun k14 hk14 => ?_)
        refine zS z0 ?_
        refine sem_ifh rfl h ?_ ?_ <;> clear h <;> intro h
        · obtain ⟨v6, c17H, h⟩ := bind_some' h
          refine zS (zC1 (lF [] (con_impl_DevArg_kindIs _ _ _ c17H))) (r_ret ?_)
          refine r_bR hk14 (r_cR hk12 ?_)
          cases h
          refine zAR hQ
        · refine zS z0 ?_
          refine sem_ifh rfl h ?_ ?_ <;> clear h <;> intro h
          · obtain ⟨v7, c20H, h⟩ := bind_some' h
            refine zS (zC1 (lF [] (con_impl_DevArg_kindIs _ _ _ c20H))) (r_ret ?_)
            refine r_bR hk14 (r_cR hk12 ?_)
            cases h
            refine zAR hQ
          · refine zS z0 ?_
            refine sem_ifh rfl h ?_ ?_ <;> clear h <;> intro h
            · obtain ⟨v8, c23H, h⟩ := bind_some' h
              refine zS (zC1 (lF [] (con_impl_DevArg_kindIs _ _ _ c23H))) (r_ret ?_)
              refine r_bR hk14 (r_cR hk12 ?_)
              cases h
              refine zAR hQ
            · refine zS z0 ?_
              refine sem_ifh rfl h ?_ ?_ <;> clear h <;> intro h
              · refine sem_cut fun k25 hk25 => ?_
                obtain ⟨v9, c26H, h⟩ := bind_some' h
                rcases Bool.eq_false_or_eq_true v9 with g27 | g27
                · replace h := cond_t h g27
                  obtain ⟨v10, h, c28⟩ := bN 0 h
                  obtain ⟨v11, c29H, h⟩ := bind_some' h
                  refine zU (zC2F (lF [] (con_impl_DevArg_kindIs _ _ _ c26H)) (lF [] (con_impl_DevArg_kindIs _ _ _ c29H)) (a2 g27 c28)) (r_cN hk25 ?_)
                  refine r_ret (r_bR hk14 ?_)
                  refine r_cR hk12 ?_
                  cases h
                  refine zAR hQ
                · replace h := cond_f h g27
                  refine zU (zC1F (lF [] (con_impl_DevArg_kindIs _ _ _ c26H)) g27) (r_cN hk25 ?_)
                  refine r_ret (r_bR hk14 ?_)
                  refine r_cR hk12 ?_
                  cases h
                  refine zAR hQ
              · refine zS z0 ?_
                refine sem_ifh rfl h ?_ ?_ <;> clear h <;> intro h
                · obtain ⟨v12, c32H, h⟩ := bind_some' h
                  refine zS (zC1 (lF [] (con_impl_DevArg_kindIs _ _ _ c32H))) (r_ret ?_)
                  refine r_bR hk14 (r_cR hk12 ?_)
                  cases h
                  refine zAR hQ
                · refine zCut (fun (x : Bool) => ⟨[(3, .pt 0 0), (4, .pt 1 0), (5, .clo 87 [(1, 0)]), (28, .sc (.int .i64 (v1.Op))), (61, .sc (.bool (x)))], [.rc [.sc (.int .i64 (v4.Kind)), .sc (.int .i64 (v4.N)), .sc (.int .i64 (v4.P))], .rc [.fz 3 (R e_DevArg (v5))]]⟩) (impl_ElemIsCoil_j49 v1 v4 v5) res_ ?_ ?_
                  · rintro _ v13 h
                    simp only [impl_ElemIsCoil_j49] at h
                    refine sem_ifh rfl h ?_ ?_ <;> clear h <;> intro h
                    · refine sem_cut fun k35 hk35 => ?_
                      obtain ⟨v14, c36H, h⟩ := bind_some' h
                      rcases Bool.eq_false_or_eq_true v14 with g37 | g37
                      · replace h := cond_t h g37
                        obtain ⟨v15, c38H, h⟩ := bind_some' h
                        refine zU (zC2F (lF [] (con_impl_DevArg_kindIs _ _ _ c36H)) (lC [[0]] (con_impl_ElemIsCoil_1 _ _ c38H)) g37) (r_cN hk35 ?_)
                        refine r_ret (r_bR hk14 ?_)
                        refine r_cR hk12 ?_
                        cases h
                        refine zAR hQ
                      · replace h := cond_f h g37
                        refine zU (zC1F (lF [] (con_impl_DevArg_kindIs _ _ _ c36H)) g37) (r_cN hk35 ?_)
                        refine r_ret (r_bR hk14 ?_)
                        refine r_cR hk12 ?_
                        cases h
                        refine zAR hQ
                    · refine zS z0 ?_
                      refine sem_ifh rfl h ?_ ?_ <;> clear h <;> intro h
                      · refine sem_cut fun k40 hk40 => ?_
                        obtain ⟨v16, c41H, h⟩ := bind_some' h
                        rcases Bool.eq_false_or_eq_true v16 with g42 | g42
                        · replace h := cond_t h g42
                          obtain ⟨v17, c43H, h⟩ := bind_some' h
                          refine zU (zC2F (lF [] (con_impl_DevArg_kindIs _ _ _ c41H)) (lC [[0]] (con_impl_ElemIsCoil_1 _ _ c43H)) g42) (r_cN hk40 ?_)
                          refine r_ret (r_bR hk14 ?_)
                          refine r_cR hk12 ?_
                          cases h
                          refine zAR hQ
                        · replace h := cond_f h g42
                          refine zU (zC1F (lF [] (con_impl_DevArg_kindIs _ _ _ c41H)) g42) (r_cN hk40 ?_)
                          refine r_ret (r_bR hk14 ?_)
                          refine r_cR hk12 ?_
                          cases h
                          refine zAR hQ
                      · refine zS z0 ?_
                        refine sem_ifh rfl h ?_ ?_ <;> clear h <;> intro h
                        · refine sem_cut fun k45 hk45 => ?_
                          obtain ⟨v18, c46H, h⟩ := bind_some' h
                          rcases Bool.eq_false_or_eq_true v18 with g47 | g47
                          · replace h := cond_t h g47
                            obtain ⟨v19, c48H, h⟩ := bind_some' h
                            refine zU (zC2F (lF [] (con_impl_DevArg_kindIs _ _ _ c46H)) (lF [] (con_impl_all_fimpl_DevIsWhole _ _ c48H)) g47) (r_cN hk45 ?_)
                            refine r_ret (r_bR hk14 ?_)
                            refine r_cR hk12 ?_
                            cases h
                            refine zAR hQ
                          · replace h := cond_f h g47
                            refine zU (zC1F (lF [] (con_impl_DevArg_kindIs _ _ _ c46H)) g47) (r_cN hk45 ?_)
                            refine r_ret (r_bR hk14 ?_)
                            refine r_cR hk12 ?_
                            cases h
                            refine zAR hQ
                        · refine zS z0 ?_
                          refine sem_ifh rfl h ?_ ?_ <;> clear h <;> intro h
                          · refine sem_cut fun k50 hk50 => ?_
                            obtain ⟨v20, c51H, h⟩ := bind_some' h
                            rcases Bool.eq_false_or_eq_true v20 with g52 | g52
                            · replace h := cond_t h g52
                              obtain ⟨v21, h, c53⟩ := bN 0 h
                              obtain ⟨v22, c54H, h⟩ := bind_some' h
                              refine zU (zC2F (lF [] (con_impl_DevArg_kindIs _ _ _ c51H)) (lF [] (con_impl_DevIsWhole _ _ c54H)) (a2 g52 c53)) (r_cN hk50 ?_)
                              refine r_ret (r_bR hk14 ?_)
                              refine r_cR hk12 ?_
                              cases h
                              refine zAR hQ
                            · replace h := cond_f h g52
                              refine zU (zC1F (lF [] (con_impl_DevArg_kindIs _ _ _ c51H)) g52) (r_cN hk50 ?_)
                              refine r_ret (r_bR hk14 ?_)
                              refine r_cR hk12 ?_
                              cases h
                              refine zAR hQ
                          · refine zS z0 ?_
                            refine sem_ifh rfl h ?_ ?_ <;> clear h <;> intro h
                            · refine sem_cut fun k56 hk56 => ?_
                              obtain ⟨v23, c57H, h⟩ := bind_some' h
                              rcases Bool.eq_false_or_eq_true v23 with g58 | g58
                              · replace h := cond_t h g58
                                obtain ⟨v24, h, c59⟩ := bN 0 h
                                obtain ⟨v25, c60H, h⟩ := bind_some' h
                                refine zU (zC2F (lF [] (con_impl_DevArg_kindIs _ _ _ c57H)) (lF [] (con_impl_DevIsReal _ _ c60H)) (a2 g58 c59)) (r_cN hk56 ?_)
                                refine r_ret (r_bR hk14 ?_)
                                refine r_cR hk12 ?_
                                cases h
                                refine zAR hQ
                              · replace h := cond_f h g58
                                refine zU (zC1F (lF [] (con_impl_DevArg_kindIs _ _ _ c57H)) g58) (r_cN hk56 ?_)
                                refine r_ret (r_bR hk14 ?_)
                                refine r_cR hk12 ?_
                                cases h
                                refine zAR hQ
                            · refine r_skip (r_bN hk14 ?_)
                              refine r_cN hk12 (sem_cut fun k61 hk61 => ?_)
                              obtain ⟨v26, c62H, h⟩ := bind_some' h
                              rcases Bool.eq_false_or_eq_true v26 with g63 | g63
                              · replace h := cond_t h g63
                                obtain ⟨v27, c64H, h⟩ := bind_some' h
                                rcases Bool.eq_false_or_eq_true v27 with g65 | g65
                                · replace h := cond_t h g65
                                  refine zU (zC2F (lF [] (con_impl_DevArg_kindIs _ _ _ c62H)) (lF [] (con_impl_all_fimpl_DevIsWhole _ _ c64H)) (a2 g63 g65)) (r_cN hk61 ?_)
                                  refine r_ret ?_
                                  cases h
                                  refine zAR hQ
                                · replace h := cond_f h g65
                                  obtain ⟨v28, c66H, h⟩ := bind_some' h
                                  rcases Bool.eq_false_or_eq_true v28 with g67 | g67
                                  · replace h := cond_t h g67
                                    obtain ⟨v29, c68H, h⟩ := bind_some' h
                                    refine zU (zC4F (lF [] (con_impl_DevArg_kindIs _ _ _ c62H)) (lF [] (con_impl_all_fimpl_DevIsWhole _ _ c64H)) (lF [] (con_impl_DevArg_kindIs _ _ _ c66H)) (lF [] (con_impl_all_fimpl_DevIsReal _ _ c68H)) (a3 g63 g65 g67)) (r_cN hk61 ?_)
                                    refine r_ret ?_
                                    cases h
                                    refine zAR hQ
                                  · replace h := cond_f h g67
                                    refine zU (zC3F (lF [] (con_impl_DevArg_kindIs _ _ _ c62H)) (lF [] (con_impl_all_fimpl_DevIsWhole _ _ c64H)) (lF [] (con_impl_DevArg_kindIs _ _ _ c66H)) (a3 g63 g65 g67)) (r_cN hk61 ?_)
                                    refine r_ret ?_
                                    cases h
                                    refine zAR hQ
                              · replace h := cond_f h g63
                                obtain ⟨v30, c69H, h⟩ := bind_some' h
                                rcases Bool.eq_false_or_eq_true v30 with g70 | g70
                                · replace h := cond_t h g70
                                  obtain ⟨v31, c71H, h⟩ := bind_some' h
                                  refine zU (zC3F (lF [] (con_impl_DevArg_kindIs _ _ _ c62H)) (lF [] (con_impl_DevArg_kindIs _ _ _ c69H)) (lF [] (con_impl_all_fimpl_DevIsReal _ _ c71H)) (a2 g63 g70)) (r_cN hk61 ?_)
                                  refine r_ret ?_
                                  cases h
                                  refine zAR hQ
                                · replace h := cond_f h g70
                                  refine zU (zC2F (lF [] (con_impl_DevArg_kindIs _ _ _ c62H)) (lF [] (con_impl_DevArg_kindIs _ _ _ c69H)) (a2 g63 g70)) (r_cN hk61 ?_)
                                  refine r_ret ?_
                                  cases h
                                  refine zAR hQ
                  · intro k73 hk73 J72
                    refine zS z0 ?_
                    refine sem_ifh rfl h ?_ ?_ <;> clear h <;> intro h
                    · refine r_skip (zJ J72 [3, 4, 5, 28, 61] () _ h)
                    · refine zS z0 ?_
                      refine sem_ifh rfl h ?_ ?_ <;> clear h <;> intro h
                      · refine r_skip (zJ J72 [3, 4, 5, 28, 61] () _ h)
                      · refine zU z0 (zJ J72 [3, 4, 5, 28, 61] () _ h)
  · replace h := cond_f h g5
    refine zU (zPC1F (.take 0 (.take 1 (.one 2 (.take 3 (.take 4 (.take 5 (.take 6 (.take 7 (.take 8 (.take 9 (.one 10 (.take 11 (.take 12 .done))))))))))))) [0] (lF [] (con_impl_in _ _ _ _ c4H)) g5) (r_cN hk3 ?_)
    refine sem_ifT rfl ?_
    try replace h := cond_t h rfl
    refine zS z0 (r_ret ?_)
    refine r_cR hk2 ?_
    cases h
    refine zAR hQ
noncomputable def impl_Elem_bare (v1 : Elem) : Option Bool :=
  (some ((v1.Op == 0) && (((v1.Args).length : Int) == 0)))
theorem con_impl_Elem_bare (v1 : Elem) (res_ : Bool) (h : impl_Elem_bare v1 = some res_) : Con Tryd.prog C0 78 [.agg [.sc (.int .i64 (v1.Op)), .fz 3 (R e_DevArg (v1.Args))]] []
    (fun x σ' => x = .sc (.bool (res_)) ∧ σ' = []) := by
  refine zCon hP 0 [0, 1, 2] [.tmp 2] Tryd.func78 (by unfold Tryd.f78; rfl) fun Q hQ => ?_
  unfold impl_Elem_bare at h
  refine zS z0 (zS zR ?_)
  refine r_ret ?_
  cases h
  refine zAR hQ
noncomputable def impl_ListOk (v1 : Inst) : Option Bool :=
  (Option.bind (impl_in v1.Code 1 3) fun v2 => (cond v2 (Option.bind (impl_ElemIsContact (⟨v1.One_Op, v1.One_Args⟩ : Elem)) fun v3 => (some v3)) (cond (v1.Code == 10) (Option.bind (impl_ElemIsCoil (⟨v1.One_Op, v1.One_Args⟩ : Elem)) fun v4 => (some v4)) (Option.bind (impl_in v1.Code 4 11) fun v5 => (cond v5 (Option.bind (impl_Elem_bare (⟨v1.One_Op, v1.One_Args⟩ : Elem)) fun v6 => (some v6)) (some false))))))
theorem con_impl_ListOk (v1 : Inst) (res_ : Bool) (h : impl_ListOk v1 = some res_) : Con Tryd.prog C0 58 [.agg [.sc (.int .i64 (v1.Code)), .sc (.int .i64 (v1.One_Op)), .fz 3 (R e_DevArg (v1.One_Args))]] []
    (fun x σ' => x = .sc (.bool (res_)) ∧ σ' = []) := by
  refine zCon hP 0 [0, 1, 2, 3, 10] [.tmp 2] Tryd.func58 (by unfold Tryd.f58; rfl) fun Q hQ => ?_
  unfold impl_ListOk at h
  refine zS z0 (sem_cut fun k2 hk2 => ?_)
  refine sem_blk fun k3 hk3 => ?_
  obtain ⟨v2, c5H, h⟩ := bind_some' h
  refine zS (zC1 (lF [] (con_impl_in _ _ _ _ c5H))) ?_
  refine sem_ifh rfl h ?_ ?_ <;> clear h <;> intro h
  · obtain ⟨v3, c7H, h⟩ := bind_some' h
    refine zS (zC1 (lF [] (con_impl_ElemIsContact _ _ c7H))) (r_ret ?_)
    refine r_bR hk3 (r_cR hk2 ?_)
    cases h
    refine zAR hQ
  · refine zS z0 ?_
    refine sem_ifh rfl h ?_ ?_ <;> clear h <;> intro h
    · obtain ⟨v4, c10H, h⟩ := bind_some' h
      refine zS (zC1 (lF [] (con_impl_ElemIsCoil _ _ c10H))) (r_ret ?_)
      refine r_bR hk3 (r_cR hk2 ?_)
      cases h
      refine zAR hQ
    · refine r_skip (r_bN hk3 ?_)
      refine r_cN hk2 (sem_cut fun k11 hk11 => ?_)
      obtain ⟨v5, c12H, h⟩ := bind_some' h
      rcases Bool.eq_false_or_eq_true v5 with g13 | g13
      · replace h := cond_t h g13
        obtain ⟨v6, c14H, h⟩ := bind_some' h
        refine zU (zC2F (lF [] (con_impl_in _ _ _ _ c12H)) (lF [] (con_impl_Elem_bare _ _ c14H)) g13) (r_cN hk11 ?_)
        refine r_ret ?_
        cases h
        refine zAR hQ
      · replace h := cond_f h g13
        refine zU (zC1F (lF [] (con_impl_in _ _ _ _ c12H)) g13) (r_cN hk11 ?_)
        refine r_ret ?_
        cases h
        refine zAR hQ
noncomputable def impl_needs_j13 : Bool → Option Int
  | v2 => (cond v2 (some 2) (some 1))
noncomputable def impl_needs (v1 : Int) : Option Int :=
  (cond (v1 == 1) (some 0) (cond (v1 == 4) (impl_needs_j13 (v1 == 4)) (impl_needs_j13 (v1 == 5))))
theorem con_impl_needs (v1 : Int) (res_ : Int) (h : impl_needs v1 = some res_) : Con Tryd.prog C0 59 [.sc (.int .i64 (v1))] []
    (fun x σ' => x = .sc (.int .i64 (res_)) ∧ σ' = []) := by
  refine zCon hP 0 [0, 2, 3, 4, 6] [.tmp 2] Tryd.func59 (by unfold Tryd.f59; rfl) fun Q hQ => ?_
  unfold impl_needs at h
  refine zS z0 (sem_cut fun k2 hk2 => ?_)
  refine zS z0 (sem_blk fun k4 hk4 => ?_)
  refine zS z0 ?_
  refine sem_ifh rfl h ?_ ?_ <;> clear h <;> intro h
  · refine zS z0 (r_ret ?_)
    refine r_bR hk4 (r_cR hk2 ?_)
    cases h
    refine zAR hQ
  · refine zCut (fun (x : Bool) => ⟨[(6, .sc (.bool (x)))], []⟩) impl_needs_j13 res_ ?_ ?_
    · rintro _ v2 h
      simp only [impl_needs_j13] at h
      refine sem_ifh rfl h ?_ ?_ <;> clear h <;> intro h
      · refine zS z0 (r_ret ?_)
        refine r_bR hk4 (r_cR hk2 ?_)
        cases h
        refine zAR hQ
      · refine r_skip (r_bN hk4 ?_)
        refine r_cN hk2 (zS z0 ?_)
        refine r_ret ?_
        cases h
        refine zAR hQ
    · intro k11 hk11 J10
      refine zS z0 ?_
      refine sem_ifh rfl h ?_ ?_ <;> clear h <;> intro h
      · refine r_skip (zJ J10 [6] () _ h)
      · refine zU z0 (zJ J10 [6] () _ h)
noncomputable def impl_SureState_wrong_j37 (v2 : Inst) (v4 : Bool) : Bool → Option Int
  | v7 => (cond v7 (some 7) (cond ((((v2.Code == 8) || (v2.Code == 9)) || (v2.Code == 11)) && (!v4)) (some 8) (some 0)))
noncomputable def impl_SureState_wrong (v1 : SureState) (v2 : Inst) (v3 : Bool) (v4 : Bool) : Option Int :=
  (Option.bind (impl_ListOk v2) fun v5 => (cond (!v5) (some 2) (Option.bind (impl_needs v2.Code) fun v6 => (cond (decide (v1.Bits < v6)) (some 3) (cond ((v2.Code == 1) && (decide (v1.Bits ≥ 16))) (some 4) (cond ((decide (v2.Code ≥ 7)) && (decide (v1.Bits > 1))) (some 5) (cond (v3 && ((((v2.Code == 3) || (v2.Code == 6)) && (v1.Bits == 1)) || ((v2.Code == 5) && (v1.Bits == 2)))) (some 6) (cond ((v2.Code == 7) && (decide (v1.Forks ≥ 8))) (impl_SureState_wrong_j37 v2 v4 ((v2.Code == 7) && (decide (v1.Forks ≥ 8)))) (cond (((v2.Code == 8) || (v2.Code == 9)) && (v1.Forks == 0)) (impl_SureState_wrong_j37 v2 v4 (((v2.Code == 8) || (v2.Code == 9)) && (v1.Forks == 0))) (impl_SureState_wrong_j37 v2 v4 ((v2.Code == 11) && (v1.Forks != 0))))))))))))
theorem con_impl_SureState_wrong (v1 : SureState) (v2 : Inst) (v3 : Bool) (v4 : Bool) (res_ : Int) (h : impl_SureState_wrong v1 v2 v3 v4 = some res_) : Con Tryd.prog C0 38 [.agg [.sc (.int .i64 (v1.Bits)), .sc (.int .i64 (v1.Forks))], .agg [.sc (.int .i64 (v2.Code)), .sc (.int .i64 (v2.One_Op)), .fz 3 (R e_DevArg (v2.One_Args))], .sc (.bool (v3)), .sc (.bool (v4))] []
    (fun x σ' => x = .sc (.int .i64 (res_)) ∧ σ' = []) := by
  refine zCon hP 0 [0, 1, 2, 3, 4, 5, 8, 9, 12, 16, 22, 30, 38, 62, 88] [.tmp 8] Tryd.func38 (by unfold Tryd.f38; rfl) fun Q hQ => ?_
  unfold impl_SureState_wrong at h
  refine zS z0 (zS z0 ?_)
  refine sem_cut fun k3 hk3 => sem_blk fun k4 hk4 => ?_
  obtain ⟨v5, c6H, h⟩ := bind_some' h
  refine zS (zC1 (lF [] (con_impl_ListOk _ _ c6H))) ?_
  refine sem_ifh rfl h ?_ ?_ <;> clear h <;> intro h
  · refine zS z0 (r_ret ?_)
    refine r_bR hk4 (r_cR hk3 ?_)
    cases h
    refine zAR hQ
  · obtain ⟨v6, c9H, h⟩ := bind_some' h
    refine zS (zPC1 (.take 0 (.take 1 (.take 2 (.one 3 (.take 4 (.take 5 .done)))))) [0] (lF [] (con_impl_needs _ _ c9H))) ?_
    refine sem_ifh rfl h ?_ ?_ <;> clear h <;> intro h
    · refine zS z0 (r_ret ?_)
      refine r_bR hk4 (r_cR hk3 ?_)
      cases h
      refine zAR hQ
    · refine zS zR ?_
      refine sem_ifh rfl h ?_ ?_ <;> clear h <;> intro h
      · refine zS z0 (r_ret ?_)
        refine r_bR hk4 (r_cR hk3 ?_)
        cases h
        refine zAR hQ
      · refine zS zR ?_
        refine sem_ifh rfl h ?_ ?_ <;> clear h <;> intro h
        · refine zS z0 (r_ret ?_)
          refine r_bR hk4 (r_cR hk3 ?_)
          cases h
          refine zAR hQ
        · refine zS zR ?_
          refine sem_ifh rfl h ?_ ?_ <;> clear h <;> intro h
          · refine zS z0 (r_ret ?_)
            refine r_bR hk4 (r_cR hk3 ?_)
            cases h
            refine zAR hQ
          · refine zCut (fun (x : Bool) => ⟨[(3, .sc (.bool (v4))), (9, .sc (.int .i64 (v2.Code))), (62, .sc (.bool (x)))], []⟩) (impl_SureState_wrong_j37 v2 v4) res_ ?_ ?_
            · rintro _ v7 h
              simp only [impl_SureState_wrong_j37] at h
              refine sem_ifh rfl h ?_ ?_ <;> clear h <;> intro h
              · refine zS z0 (r_ret ?_)
                refine r_bR hk4 (r_cR hk3 ?_)
                cases h
                refine zAR hQ
              · refine zS zR ?_
                refine sem_ifh rfl h ?_ ?_ <;> clear h <;> intro h
                · refine zS z0 (r_ret ?_)
                  refine r_bR hk4 (r_cR hk3 ?_)
                  cases h
                  refine zAR hQ
                · refine r_skip (r_bN hk4 ?_)
                  refine r_cN hk3 (zS z0 ?_)
                  refine r_ret ?_
                  cases h
                  refine zAR hQ
            · intro k24 hk24 J23
              refine zS zR ?_
              refine sem_ifh rfl h ?_ ?_ <;> clear h <;> intro h
              · refine r_skip (zJ J23 [3, 9, 62] () _ h)
              · refine zS zR ?_
                refine sem_ifh rfl h ?_ ?_ <;> clear h <;> intro h
                · refine r_skip (zJ J23 [3, 9, 62] () _ h)
                · refine zU zR (zJ J23 [3, 9, 62] () _ h)
noncomputable def impl_SureState_behind_j3 : (Int × Int) → Option SureState
  | (v4, v5) => (some (⟨v4, v5⟩ : SureState))
noncomputable def impl_SureState_behind_j11 (v1 : SureState) (v2 : Int) : Bool → Option SureState
  | v6 => (cond v6 (impl_SureState_behind_j3 ((IntKind.i64.wrap (v1.Bits - 1)), v1.Forks)) (cond (v2 == 7) (impl_SureState_behind_j3 (v1.Bits, (IntKind.i64.wrap (v1.Forks + 1)))) (cond (v2 == 9) (impl_SureState_behind_j3 (v1.Bits, (IntKind.i64.wrap (v1.Forks - 1)))) (impl_SureState_behind_j3 (v1.Bits, v1.Forks)))))
noncomputable def impl_SureState_behind (v1 : SureState) (v2 : Int) : Option SureState :=
  (cond (v2 == 1) (impl_SureState_behind_j3 ((IntKind.i64.wrap (v1.Bits + 1)), v1.Forks)) (cond (v2 == 4) (impl_SureState_behind_j11 v1 v2 (v2 == 4)) (cond (v2 == 5) (impl_SureState_behind_j11 v1 v2 (v2 == 5)) (impl_SureState_behind_j11 v1 v2 (v2 == 11)))))
theorem con_impl_SureState_behind (v1 : SureState) (v2 : Int) (res_ : SureState) (h : impl_SureState_behind v1 v2 = some res_) : Con Tryd.prog C0 39 [.agg [.sc (.int .i64 (v1.Bits)), .sc (.int .i64 (v1.Forks))], .sc (.int .i64 (v2))] []
    (fun x σ' => x = .agg [.sc (.int .i64 (res_.Bits)), .sc (.int .i64 (res_.Forks))] ∧ σ' = []) := by
  refine zCon hP 0 [0, 1, 2, 4, 5, 6, 12, 20, 26] [.cell 4 68] Tryd.func39 (by unfold Tryd.f39; rfl) fun Q hQ => ?_
  unfold impl_SureState_behind at h
  refine zS z0 (zCut (fun (x : (Int × Int)) => ⟨[(2, .pt 0 0), (4, .pt 1 0)], [.rc [.sc (.int .i64 (x.1)), .sc (.int .i64 (x.2))], .rc [.sc (.int .i64 (0)), .sc (.int .i64 (0))]]⟩) impl_SureState_behind_j3 res_ ?_ ?_)
  · rintro _ ⟨v4, v5⟩ h
    simp only [impl_SureState_behind_j3] at h
    refine zS z0 (r_ret ?_)
    cases h
    refine zAR hQ
  · intro k15 hk15 J14
    refine zS z0 (sem_blk fun k17 hk17 => ?_)
    refine zS z0 ?_
    refine sem_ifh rfl h ?_ ?_ <;> clear h <;> intro h
    · refine zU z0 (r_bN hk17 ?_)
      refine zJ J14 [2, 4] () _ h
    · refine zCut (fun (x : Bool) => ⟨[(2, .pt 0 0), (4, .pt 1 0), (5, .sc (.int .i64 (v2))), (12, .sc (.bool (x)))], [.rc [.sc (.int .i64 (v1.Bits)), .sc (.int .i64 (v1.Forks))], .rc [.sc (.int .i64 (0)), .sc (.int .i64 (0))]]⟩) (impl_SureState_behind_j11 v1 v2) res_ ?_ ?_
      · rintro _ v6 h
        simp only [impl_SureState_behind_j11] at h
        refine sem_ifh rfl h ?_ ?_ <;> clear h <;> intro h
        · refine zU z0 (r_bN hk17 ?_)
          refine zJ J14 [2, 4] () _ h
        · refine zS z0 ?_
          refine sem_ifh rfl h ?_ ?_ <;> clear h <;> intro h
          · refine zU z0 (r_bN hk17 ?_)
            refine zJ J14 [2, 4] () _ h
          · refine zS z0 ?_
            refine sem_ifh rfl h ?_ ?_ <;> clear h <;> intro h
            · refine zU z0 (r_bN hk17 ?_)
              refine zJ J14 [2, 4] () _ h
            · refine r_skip (r_bN hk17 ?_)
              refine zJ J14 [2, 4] () _ h
      · intro k24 hk24 J23
        refine zS z0 ?_
        refine sem_ifh rfl h ?_ ?_ <;> clear h <;> intro h
        · refine r_skip (zJ J23 [2, 4, 5, 12] () _ h)
        · refine zS z0 ?_
          refine sem_ifh rfl h ?_ ?_ <;> clear h <;> intro h
          · refine r_skip (zJ J23 [2, 4, 5, 12] () _ h)
          · refine zU z0 (zJ J23 [2, 4, 5, 12] () _ h)
noncomputable def impl_SureCheck_j15 (v1 : (List Inst)) : (Int × Int) → Option SureFault
  | (v18, v19) => (cond (v18 != 0) (some (⟨9, ((v1).length : Int)⟩ : SureFault)) (some (⟨0, 0⟩ : SureFault)))
noncomputable def impl_SureCheck_s19 (v1 : (List Inst)) : (Int × Int × Bool × Bool × Int) → Option ((Int × Int × Bool × Bool × Int) ⊕ ((Int × Int) ⊕ (Int × Int)))
  | (v23, v24, v25, v26, v27) => (cond (decide (v27 < ((v1).length : Int))) (Option.bind (idx v1 (v27)) fun v33 => (Option.bind (impl_SureState_wrong (⟨v23, v24⟩ : SureState) v33 v25 v26) fun v34 => (cond (v34 != 0) (some (.inr (.inl (v34, v27)))) (Option.bind (impl_SureState_behind (⟨v23, v24⟩ : SureState) v33.Code) fun v35 => (some (.inl (v35.Bits, v35.Forks, ((v33.Code != 11) && ((v25 || (v33.Code == 10)) || (v33.Code == 7))), (v33.Code == 10), (IntKind.i64.wrap (v27 + 1))))))))) (some (.inr (.inr (v23, v24)))))
noncomputable def impl_SureCheck (v1 : (List Inst)) : Option SureFault :=
  (cond (decide (((v1).length : Int) > 1000)) (some (⟨1, 0⟩ : SureFault)) ((loop (impl_SureCheck_s19 v1) (0, 0, false, false, 0)).bind (Sum.elim (fun v31 => (some (⟨v31.1, v31.2⟩ : SureFault))) (fun v32 => (impl_SureCheck_j15 v1 (v32.1, v32.2))))))
theorem con_impl_SureCheck (v1 : (List Inst)) (res_ : SureFault) (h : impl_SureCheck v1 = some res_) : Con Tryd.prog C0 23 [.fz 3 (R e_Inst (v1))] []
    (fun x σ' => x = .agg [.sc (.int .i64 (res_.Code)), .sc (.int .i64 (res_.At))] ∧ σ' = []) := by
  refine zCon hP 0 [0, 2, 3, 4, 5, 6, 7, 8, 11, 14, 15, 16, 17, 27, 55] [.cell 2 27] Tryd.func23 (by unfold Tryd.f23; rfl) fun Q hQ => ?_
  unfold impl_SureCheck at h
  refine zS z0 (sem_cut fun k2 hk2 => ?_)
  refine zS z0 ?_
  refine sem_ifh rfl h ?_ ?_ <;> clear h <;> intro h
  · refine zS z0 (r_ret ?_)
    refine r_cR hk2 ?_
    cases h
    refine zAR hQ
  · refine r_skip (r_cN hk2 ?_)
    refine zS z0 (zS z0 ?_)
    refine zCut (fun (x : (Int × Int)) => ⟨[(0, .fz 3 (R e_Inst (v1))), (2, .pt 0 0), (3, .pt 1 0)], [.rc [.sc (.int .i64 (0)), .sc (.int .i64 (0))], .rc [.sc (.int .i64 (x.1)), .sc (.int .i64 (x.2))]]⟩) (impl_SureCheck_j15 v1) res_ ?_ ?_
    · rintro _ ⟨v18, v19⟩ h
      simp only [impl_SureCheck_j15] at h
      refine sem_cut fun k52 hk52 => zS z0 ?_
      refine sem_ifh rfl h ?_ ?_ <;> clear h <;> intro h
      · refine zS z0 (r_ret ?_)
        refine r_cR hk52 ?_
        cases h
        refine zAR hQ
      · refine r_skip (r_cN hk52 ?_)
        refine zS z0 (r_ret ?_)
        cases h
        refine zAR hQ
    · intro k57 hk57 J56
      refine zS z0 (sem_blk fun k59 hk59 => ?_)
      obtain ⟨oq88, hLq88, hKq88⟩ := bind_some' h
      clear h
      refine sem_loopP [0, 2, 3, 4, 5, 14, 15, 16] (fun (_ : Unit) (x : (Int × Int × Bool × Bool × Int)) => (⟨[(0, .fz 3 (R e_Inst (v1))), (2, .pt 0 0), (3, .pt 1 0), (4, .sc (.bool (x.2.2.1))), (5, .sc (.bool (x.2.2.2.1))), (14, .fz 3 (R e_Inst (v1))), (15, .sc (.int .i64 (((v1).length : Int)))), (16, .sc (.int .i64 (x.2.2.2.2)))], [.rc [.sc (.int .i64 (0)), .sc (.int .i64 (0))], .rc [.sc (.int .i64 (x.1)), .sc (.int .i64 (x.2.1))]]⟩ : St)) (fun (_ : Unit) (x : (Int × Int × Bool × Bool × Int)) => True) (impl_SureCheck_s19 v1) () (0, 0, false, false, 0) hLq88 (by rfl) (by rfl) ⟨?_, trivial⟩ ?_
      · first | exact wkSt_same rfl | (simp (decide := true) only [go_sem, reduceIte, Nat.reduceAdd, Int.reduceToNat, Nat.reduceSub, Nat.reduceMul]; exact wkSt_same rfl)
      · rintro nq88 _ ⟨v23, v24, v25, v26, v27⟩ xq88 kq88 hkq88 - h hIq88 hEq88
        simp only [impl_SureCheck_s19] at h
        refine zS z0 (sem_cut fun k90 hk90 => ?_)
        refine sem_ifh rfl h ?_ ?_ <;> clear h <;> intro h
        · refine r_skip (r_cN hk90 ?_)
          refine sem_cut fun k91 hk91 => sem_blk fun k92 hk92 => ?_
          obtain ⟨v33, h, c94⟩ := bI h
          refine zS (zRF c94) (sem_cut fun k95 hk95 => ?_)
          obtain ⟨v34, c97H, h⟩ := bind_some' h
          refine zS (zC1 (lF [] (con_impl_SureState_wrong _ _ _ _ _ c97H))) (zS z0 ?_)
          refine sem_ifh rfl h ?_ ?_ <;> clear h <;> intro h
          · refine zS z0 (r_ret ?_)
            refine r_cR hk95 (r_bR hk92 ?_)
            refine r_cR hk91 ?_
            replace h := zX h hEq88 hKq88
            simp only [Sum.elim_inl, Sum.elim_inr] at h
            refine r_kR hkq88 (r_bR hk59 ?_)
            refine r_jR hk57 ?_
            cases h
            refine zAR hQ
          · refine r_skip (r_cN hk95 ?_)
            obtain ⟨v35, c101H, h⟩ := bind_some' h
            refine zS (zC1 (lF [] (con_impl_SureState_behind _ _ _ c101H))) (zS z0 ?_)
            refine zU zR (r_bN hk92 ?_)
            refine r_cN hk91 (zU z0 ?_)
            refine zB hkq88 h hIq88 () trivial
        · refine r_exit (r_cE hk90 ?_)
          replace h := zX h hEq88 hKq88
          simp only [Sum.elim_inl, Sum.elim_inr] at h
          refine r_kE hkq88 (r_bE hk59 ?_)
          refine zJ J56 [0, 2, 3] () _ h
noncomputable def impl_verified (v1 : (List Inst)) : Option Bool :=
  (Option.bind (impl_SureCheck v1) fun v2 => (some ((v2.Code == 0) && (v2.At == 0))))
theorem con_impl_verified (v1 : (List Inst)) (res_ : Bool) (h : impl_verified v1 = some res_) : Con Tryd.prog C0 11 [.fz 3 (R e_Inst (v1))] []
    (fun x σ' => x = .sc (.bool (res_)) ∧ σ' = []) := by
  refine zCon hP 0 [0, 2] [.tmp 2] Tryd.func11 (by unfold Tryd.f11; rfl) fun Q hQ => ?_
  unfold impl_verified at h
  refine zS z0 ?_
  obtain ⟨v2, c3H, h⟩ := bind_some' h
  refine zS (zC1 (lF [] (con_impl_SureCheck _ _ c3H))) (r_ret ?_)
  cases h
  refine zAR hQ
noncomputable def impl_Elem_wholes (v1 : Elem) : Option Bool :=
  (Option.bind (impl_ElemIsContact v1) fun v2 => (cond v2 (Option.bind (impl_in v1.Op 5 10) fun v3 => (cond v3 (Option.bind (impl_all_fimpl_DevIsWhole v1.Args) fun v4 => (some v4)) (some false))) (some false)))
theorem con_impl_Elem_wholes (v1 : Elem) (res_ : Bool) (h : impl_Elem_wholes v1 = some res_) : Con Tryd.prog C0 61 [.agg [.sc (.int .i64 (v1.Op)), .fz 3 (R e_DevArg (v1.Args))]] []
    (fun x σ' => x = .sc (.bool (res_)) ∧ σ' = []) := by
  refine zCon hP 0 [0, 1, 2] [.tmp 2] Tryd.func61 (by unfold Tryd.f61; rfl) fun Q hQ => ?_
  unfold impl_Elem_wholes at h
  refine zS z0 (sem_cut fun k2 hk2 => ?_)
  obtain ⟨v2, c3H, h⟩ := bind_some' h
  rcases Bool.eq_false_or_eq_true v2 with g4 | g4
  · replace h := cond_t h g4
    obtain ⟨v3, c5H, h⟩ := bind_some' h
    rcases Bool.eq_false_or_eq_true v3 with g6 | g6
    · replace h := cond_t h g6
      obtain ⟨v4, c7H, h⟩ := bind_some' h
      refine zU (zC3F (lF [] (con_impl_ElemIsContact _ _ c3H)) (lF [] (con_impl_in _ _ _ _ c5H)) (lF [] (con_impl_all_fimpl_DevIsWhole _ _ c7H)) (a2 g4 g6)) (r_cN hk2 ?_)
      refine r_ret ?_
      cases h
      refine zAR hQ
    · replace h := cond_f h g6
      refine zU (zC2F (lF [] (con_impl_ElemIsContact _ _ c3H)) (lF [] (con_impl_in _ _ _ _ c5H)) (a2 g4 g6)) (r_cN hk2 ?_)
      refine r_ret ?_
      cases h
      refine zAR hQ
  · replace h := cond_f h g4
    refine zU (zC1F (lF [] (con_impl_ElemIsContact _ _ c3H)) g4) (r_cN hk2 ?_)
    refine r_ret ?_
    cases h
    refine zAR hQ
noncomputable def impl_test_int16 (v1 : Int) (v2 : Int) (v3 : Int) : Option Bool :=
  (cond (v1 == 1) (some (decide (v2 < v3))) (cond (v1 == 2) (some (decide (v2 ≤ v3))) (cond (v1 == 3) (some (v2 == v3)) (cond (v1 == 4) (some (v2 != v3)) (cond (v1 == 5) (some (decide (v2 ≥ v3))) (cond (v1 == 6) (some (decide (v2 > v3))) (some false)))))))
theorem con_impl_test_int16 (v1 : Int) (v2 : Int) (v3 : Int) (res_ : Bool) (h : impl_test_int16 v1 v2 v3 = some res_) : Con Tryd.prog C0 85 [.sc (.int .i64 (v1)), .sc (.int .i16 (v2)), .sc (.int .i16 (v3))] []
    (fun x σ' => x = .sc (.bool (res_)) ∧ σ' = []) := by
  refine zCon hP 0 [0, 1, 2, 6, 7, 8, 13, 18, 23, 28, 33] [.tmp 6] Tryd.func85 (by unfold Tryd.f85; rfl) fun Q hQ => ?_
  unfold impl_test_int16 at h
  refine zS z0 (sem_cut fun k2 hk2 => ?_)
  refine zS z0 (sem_blk fun k4 hk4 => ?_)
  refine zS z0 ?_
  refine sem_ifh rfl h ?_ ?_ <;> clear h <;> intro h
  · refine zS z0 (r_ret ?_)
    refine r_bR hk4 (r_cR hk2 ?_)
    cases h
    refine zAR hQ
  · refine zS z0 ?_
    refine sem_ifh rfl h ?_ ?_ <;> clear h <;> intro h
    · refine zS z0 (r_ret ?_)
      refine r_bR hk4 (r_cR hk2 ?_)
      cases h
      refine zAR hQ
    · refine zS z0 ?_
      refine sem_ifh rfl h ?_ ?_ <;> clear h <;> intro h
      · refine zS z0 (r_ret ?_)
        refine r_bR hk4 (r_cR hk2 ?_)
        cases h
        refine zAR hQ
      · refine zS z0 ?_
        refine sem_ifh rfl h ?_ ?_ <;> clear h <;> intro h
        · refine zS z0 (r_ret ?_)
          refine r_bR hk4 (r_cR hk2 ?_)
          cases h
          refine zAR hQ
        · refine zS z0 ?_
          refine sem_ifh rfl h ?_ ?_ <;> clear h <;> intro h
          · refine zS z0 (r_ret ?_)
            refine r_bR hk4 (r_cR hk2 ?_)
            cases h
            refine zAR hQ
          · refine zS z0 ?_
            refine sem_ifh rfl h ?_ ?_ <;> clear h <;> intro h
            · refine zS z0 (r_ret ?_)
              refine r_bR hk4 (r_cR hk2 ?_)
              cases h
              refine zAR hQ
            · refine r_skip (r_bN hk4 ?_)
              refine r_cN hk2 (zS z0 ?_)
              refine r_ret ?_
              cases h
              refine zAR hQ
noncomputable def impl_WholeCmp (v1 : Int) (v2 : Int) (v3 : Int) : Option Bool :=
  (Option.bind (impl_test_int16 v1 v2 v3) fun v4 => (some v4))
theorem con_impl_WholeCmp (v1 : Int) (v2 : Int) (v3 : Int) (res_ : Bool) (h : impl_WholeCmp v1 v2 v3 = some res_) : Con Tryd.prog C0 62 [.sc (.int .i64 (v1)), .sc (.int .i16 (v2)), .sc (.int .i16 (v3))] []
    (fun x σ' => x = .sc (.bool (res_)) ∧ σ' = []) := by
  refine zCon hP 0 [0, 1, 2, 6] [.tmp 6] Tryd.func62 (by unfold Tryd.f62; rfl) fun Q hQ => ?_
  unfold impl_WholeCmp at h
  refine zS z0 ?_
  obtain ⟨v4, c3H, h⟩ := bind_some' h
  refine zS (zC1 (lF [] (con_impl_test_int16 _ _ _ _ c3H))) (r_ret ?_)
  cases h
  refine zAR hQ
noncomputable def impl_PeepSure_j5 : Bool → Option Int
  | v27 => (cond v27 (some 1) (some (-1)))
noncomputable def impl_PeepSure_j21 (v1 : Elem) : Bool → Option Int
  | v41 => (cond v41 (Option.bind (idx v1.Args (0)) fun v42 => (Option.bind (idx v1.Args (1)) fun v43 => (Option.bind (impl_WholeCmp (IntKind.i64.wrap ((IntKind.i64.wrap (v1.Op - 5)) + 1)) (IntKind.i16.wrap (v42.N)) (IntKind.i16.wrap (v43.N))) fun v44 => (impl_PeepSure_j5 v44)))) (some 0))
noncomputable def impl_PeepSure_j17 (v1 : Elem) : Bool → Option Int
  | v36 => (cond v36 (Option.bind (impl_WholeCmp (IntKind.i64.wrap ((IntKind.i64.wrap (v1.Op - 5)) + 1)) 0 0) fun v37 => (impl_PeepSure_j5 v37)) (Option.bind (impl_Elem_wholes v1) fun v45 => (cond v45 (Option.bind (idx v1.Args (0)) fun v46 => (cond (v46.Kind == 11) (Option.bind (idx v1.Args (1)) fun v47 => (impl_PeepSure_j21 v1 (v47.Kind == 11))) (impl_PeepSure_j21 v1 false))) (impl_PeepSure_j21 v1 false))))
noncomputable def impl_PeepSure_j13 (v1 : Elem) : Bool → Option Int
  | v31 => (cond v31 (Option.bind (idx v1.Args (0)) fun v32 => (impl_PeepSure_j5 ((v32.N == 0) == (v1.Op == 1)))) (Option.bind (impl_Elem_wholes v1) fun v48 => (cond v48 (Option.bind (idx v1.Args (0)) fun v49 => (Option.bind (idx v1.Args (1)) fun v50 => (impl_PeepSure_j17 v1 ((v49.Kind == v50.Kind) && ((v49.N == v50.N) && (v49.P == v50.P)))))) (impl_PeepSure_j17 v1 false))))
noncomputable def impl_PeepSure (v1 : Elem) : Option Int :=
  (Option.bind (impl_ElemIsContact v1) fun v28 => (cond (!v28) (some 0) (cond (v1.Op == 1) (Option.bind (idx v1.Args (0)) fun v51 => (cond (v51.Kind == 6) (impl_PeepSure_j13 v1 (decide (v51.N < 2))) (impl_PeepSure_j13 v1 false))) (cond (v1.Op == 2) (Option.bind (idx v1.Args (0)) fun v52 => (cond (v52.Kind == 6) (impl_PeepSure_j13 v1 (decide (v52.N < 2))) (impl_PeepSure_j13 v1 false))) (impl_PeepSure_j13 v1 false)))))
theorem con_impl_PeepSure (v1 : Elem) (res_ : Int) (h : impl_PeepSure v1 = some res_) : Con Tryd.prog C0 41 [.agg [.sc (.int .i64 (v1.Op)), .fz 3 (R e_DevArg (v1.Args))]] []
    (fun x σ' => x = .sc (.int .i64 (res_)) ∧ σ' = []) := by
  refine zCon hP 0 [0, 1, 2, 3, 4, 8, 43, 62, 98] [.tmp 2] Tryd.func41 (by unfold Tryd.f41; rfl) fun Q hQ => ?_
  unfold impl_PeepSure at h
  refine zS z0 (zS z0 ?_)
  refine zCut (fun (x : Bool) => ⟨[(3, .sc (.bool (x)))], []⟩) impl_PeepSure_j5 res_ ?_ ?_
  · rintro _ v27 h
    simp only [impl_PeepSure_j5] at h
    refine sem_cut fun k49 hk49 => zS z0 ?_
    refine sem_ifh rfl h ?_ ?_ <;> clear h <;> intro h
    · refine zS z0 (r_ret ?_)
      refine r_cR hk49 ?_
      cases h
      refine zAR hQ
    · refine r_skip (r_cN hk49 ?_)
      refine zS z0 (r_ret ?_)
      cases h
      refine zAR hQ
  · intro k54 hk54 J53
    refine sem_blk fun k55 hk55 => ?_
    obtain ⟨v28, c57H, h⟩ := bind_some' h
    refine zS (zC1 (lF [] (con_impl_ElemIsContact _ _ c57H))) ?_
    refine sem_ifh rfl h ?_ ?_ <;> clear h <;> intro h
    · refine zS z0 (r_ret ?_)
      refine r_bR hk55 (r_jR hk54 ?_)
      cases h
      refine zAR hQ
    · refine zCut (fun (x : Bool) => ⟨[(1, .pt 0 0), (8, .sc (.bool (x)))], [.rc [.sc (.int .i64 (v1.Op)), .fz 3 (R e_DevArg (v1.Args))]]⟩) (impl_PeepSure_j13 v1) res_ ?_ ?_
      · rintro _ v31 h
        simp only [impl_PeepSure_j13] at h
        refine sem_ifh rfl h ?_ ?_ <;> clear h <;> intro h
        · obtain ⟨v32, h, c65⟩ := bN 0 h
          refine zU (zRF c65) (r_bN hk55 ?_)
          refine zJ J53 [3] () _ h
        · refine zCut (fun (x : Bool) => ⟨[(1, .pt 0 0), (43, .sc (.bool (x)))], [.rc [.sc (.int .i64 (v1.Op)), .fz 3 (R e_DevArg (v1.Args))]]⟩) (impl_PeepSure_j17 v1) res_ ?_ ?_
          · rintro _ v36 h
            simp only [impl_PeepSure_j17] at h
            refine sem_ifh rfl h ?_ ?_ <;> clear h <;> intro h
            · obtain ⟨v37, c70H, h⟩ := bind_some' h
              refine zU (zC1 (lF [] (con_impl_WholeCmp _ _ _ _ c70H))) (r_bN hk55 ?_)
              refine zJ J53 [3] () _ h
            · refine zCut (fun (x : Bool) => ⟨[(1, .pt 0 0), (62, .sc (.bool (x)))], [.rc [.sc (.int .i64 (v1.Op)), .fz 3 (R e_DevArg (v1.Args))]]⟩) (impl_PeepSure_j21 v1) res_ ?_ ?_
              · rintro _ v41 h
                simp only [impl_PeepSure_j21] at h
                refine sem_ifh rfl h ?_ ?_ <;> clear h <;> intro h
                · obtain ⟨v42, h, c76⟩ := bN 0 h
                  obtain ⟨v43, h, c77⟩ := bN 1 h
                  obtain ⟨v44, c78H, h⟩ := bind_some' h
                  refine zU (zPC1F (.take 0 (.take 1 (.take 2 (.take 3 (.take 4 (.take 5 (.take 6 (.take 7 (.take 8 (.take 9 (.take 10 (.take 11 (.take 12 (.take 13 (.take 14 (.take 15 (.one 16 (.take 17 .done)))))))))))))))))) [0] (lF [] (con_impl_WholeCmp _ _ _ _ c78H)) (a2 c76 c77)) (r_bN hk55 ?_)
                  refine zJ J53 [3] () _ h
                · refine zS z0 (r_ret ?_)
                  refine r_bR hk55 (r_jR hk54 ?_)
                  cases h
                  refine zAR hQ
              · intro k81 hk81 J80
                obtain ⟨v45, c82H, h⟩ := bind_some' h
                rcases Bool.eq_false_or_eq_true v45 with g83 | g83
                · replace h := cond_t h g83
                  obtain ⟨v46, h, c84⟩ := bN 0 h
                  rcases Bool.eq_false_or_eq_true (v46.Kind == 11) with g85 | g85
                  · replace h := cond_t h g85
                    obtain ⟨v47, h, c86⟩ := bN 1 h
                    refine zU (zC1F (lF [] (con_impl_Elem_wholes _ _ c82H)) (a4 g83 c84 g85 c86)) (zJ J80 [1, 62] () _ h)
                  · replace h := cond_f h g85
                    refine zU (zC1F (lF [] (con_impl_Elem_wholes _ _ c82H)) (a3 g83 c84 g85)) (zJ J80 [1, 62] () _ h)
                · replace h := cond_f h g83
                  refine zU (zC1F (lF [] (con_impl_Elem_wholes _ _ c82H)) g83) (zJ J80 [1, 62] () _ h)
          · intro k88 hk88 J87
            obtain ⟨v48, c89H, h⟩ := bind_some' h
            rcases Bool.eq_false_or_eq_true v48 with g90 | g90
            · replace h := cond_t h g90
              obtain ⟨v49, h, c91⟩ := bN 0 h
              obtain ⟨v50, h, c92⟩ := bN 1 h
              refine zU (zPC1F (.take 0 (.one 1 (.take 2 (.take 3 (.take 4 (.take 5 (.take 6 (.take 7 (.take 8 (.take 9 (.take 10 (.take 11 (.take 12 (.take 13 .done)))))))))))))) [0] (lF [] (con_impl_Elem_wholes _ _ c89H)) (a3 g90 c91 c92)) (zJ J87 [1, 43] () _ h)
            · replace h := cond_f h g90
              refine zU (zPC1F (.take 0 (.one 1 (.take 2 (.take 3 (.take 4 (.take 5 (.take 6 (.take 7 (.take 8 (.take 9 (.take 10 (.take 11 (.take 12 (.take 13 .done)))))))))))))) [0] (lF [] (con_impl_Elem_wholes _ _ c89H)) g90) (zJ J87 [1, 43] () _ h)
      · intro k94 hk94 J93
        rcases Bool.eq_false_or_eq_true (v1.Op == 1) with g95 | g95
        · replace h := cond_t h g95
          obtain ⟨v51, h, c96⟩ := bN 0 h
          rcases Bool.eq_false_or_eq_true (v51.Kind == 6) with g97 | g97
          · replace h := cond_t h g97
            refine zU (zRF (a3 g95 c96 g97)) (zJ J93 [1, 8] () _ h)
          · replace h := cond_f h g97
            refine zU (zRF (a3 g95 c96 g97)) (zJ J93 [1, 8] () _ h)
        · replace h := cond_f h g95
          rcases Bool.eq_false_or_eq_true (v1.Op == 2) with g98 | g98
          · replace h := cond_t h g98
            obtain ⟨v52, h, c99⟩ := bN 0 h
            rcases Bool.eq_false_or_eq_true (v52.Kind == 6) with g100 | g100
            · replace h := cond_t h g100
              refine zU (zRF (a4 g95 g98 c99 g100)) (zJ J93 [1, 8] () _ h)
            · replace h := cond_f h g100
              refine zU (zRF (a4 g95 g98 c99 g100)) (zJ J93 [1, 8] () _ h)
          · replace h := cond_f h g98
            refine zU (zRF (a2 g95 g98)) (zJ J93 [1, 8] () _ h)
noncomputable def impl_shorter_1 (v1 : Int) (v2 : (List Inst)) : Option (Int × (List Inst)) :=
  (cond (decide (v1 ≥ ((v2).length : Int))) (some (0, v2)) (Option.bind (idx v2 (v1)) fun v3 => (some (v3.Code, v2))))
theorem con_impl_shorter_1 (v1 : Int) (v2 : (List Inst)) (res_ : (Int × (List Inst))) (h : impl_shorter_1 v1 v2 = some res_) : Con Tryd.prog C0 40 [.sc (.int .i64 (v1)), .pt 0 0] [.rc [.fz 3 (R e_Inst (v2))]]
    (fun x σ' => x = .sc (.int .i64 (res_.1)) ∧ σ' = [.rc [.fz 3 (R e_Inst (res_.2))]]) := by
  refine zCon hP 1 [0, 1, 3, 7] [.tmp 3] Tryd.func40 (by unfold Tryd.f40; rfl) fun Q hQ => ?_
  unfold impl_shorter_1 at h
  refine zS z0 (sem_cut fun k2 hk2 => ?_)
  refine zS z0 ?_
  refine sem_ifh rfl h ?_ ?_ <;> clear h <;> intro h
  · refine zS z0 (r_ret ?_)
    refine r_cR hk2 ?_
    cases h
    refine zAR hQ
  · refine r_skip (r_cN hk2 ?_)
    obtain ⟨v3, h, c6⟩ := bI h
    refine zS (zRF c6) (r_ret ?_)
    cases h
    refine zAR hQ
noncomputable def slices_Clone_impl_Inst_impl_Inst (v1 : (List Inst)) : Option (List Inst) :=
  (nilq v1 fun v2 => (cond v2 (some []) (gd (apOk (v1).length 40) (some v1))))
theorem con_slices_Clone_impl_Inst_impl_Inst (v1 : (List Inst)) (res_ : (List Inst)) (h : slices_Clone_impl_Inst_impl_Inst v1 = some res_) : Con Tryd.prog C0 42 [.fz 3 (R e_Inst (v1))] []
    (fun x σ' => (x = .sl 0 0 ((res_).length) ∧ σ' = [.arr true 3 (R e_Inst (res_))]) ∨ (x = .sc (.slice none 0 0) ∧ σ' = [] ∧ res_ = [])) := by
  refine zCon hP 0 [0, 2, 4] [.tmp 2] Tryd.func42 (by unfold Tryd.f42; rfl) fun Q hQ => ?_
  unfold slices_Clone_impl_Inst_impl_Inst at h
  refine zS z0 (sem_cut fun k2 hk2 => ?_)
  refine sem_cut fun k3 hk3 => ?_
  have c4H := nilq_some h
  clear h
  repeat' (first | with_reducible refine And.intro ?_ ?_ | exact True.intro | with_reducible assumption | exact fun hf => False.elim hf | (intro hg; first | (simp +contextual [hg]; done) | grind) | omega | ((with_reducible refine r_nileq ?_); refine ⟨?_, ?_⟩) | (intro v2 c4B) | simp (decide := true) only [go_sem, reduceIte, Nat.reduceAdd, Int.reduceToNat, Nat.reduceSub, Nat.reduceMul])
  replace h := c4H v2 (fun e => by have e2 := c4B e; simpa only [go_sem, reduceIte, Nat.reduceEqDiff] using e2)
  refine r_cN hk3 ?_
  refine sem_ifh rfl h ?_ ?_ <;> clear h <;> intro h
  · refine zS z0 (r_ret ?_)
    refine r_cR hk2 ?_
    obtain rfl := Option.some.inj h
    refine r_eOR hQ rfl rfl ?_
    simp (decide := true) only [go_sem, reduceIte, Nat.reduceAdd, Int.reduceToNat, Nat.reduceSub, Nat.reduceMul]
    all_goals first | exact wkEnd_same (.inr ⟨rfl, rfl, rfl⟩) | exact wkEnd_same (.inr ⟨rfl, rfl⟩) | exact True.intro
  · refine r_skip (r_cN hk2 ?_)
    obtain ⟨g7, h⟩ := gAp h
    refine zS (zRF g7) (r_ret ?_)
    obtain rfl := Option.some.inj h
    refine r_eOR hQ rfl rfl ?_
    simp (decide := true) only [go_sem, reduceIte, Nat.reduceAdd, Int.reduceToNat, Nat.reduceSub, Nat.reduceMul]
    all_goals first | exact wkEnd_same (.inl ⟨rfl, rfl⟩) | exact True.intro
noncomputable def slices_Clone_impl_DevArg_impl_DevArg (v1 : (List DevArg)) : Option (List DevArg) :=
  (nilq v1 fun v2 => (cond v2 (some []) (gd (apOk (v1).length 24) (some v1))))
theorem con_slices_Clone_impl_DevArg_impl_DevArg (v1 : (List DevArg)) (res_ : (List DevArg)) (h : slices_Clone_impl_DevArg_impl_DevArg v1 = some res_) : Con Tryd.prog C0 66 [.fz 3 (R e_DevArg (v1))] []
    (fun x σ' => x = .fz 3 (R e_DevArg (res_)) ∧ σ' = []) := by
  refine zCon hP 0 [0, 2, 4] [.tmp 2] Tryd.func66 (by unfold Tryd.f66; rfl) fun Q hQ => ?_
  unfold slices_Clone_impl_DevArg_impl_DevArg at h
  refine zS z0 (sem_cut fun k2 hk2 => ?_)
  refine sem_cut fun k3 hk3 => ?_
  have c4H := nilq_some h
  clear h
  repeat' (first | with_reducible refine And.intro ?_ ?_ | exact True.intro | with_reducible assumption | exact fun hf => False.elim hf | (intro hg; first | (simp +contextual [hg]; done) | grind) | omega | ((with_reducible refine r_nileq ?_); refine ⟨?_, ?_⟩) | (intro v2 c4B) | simp (decide := true) only [go_sem, reduceIte, Nat.reduceAdd, Int.reduceToNat, Nat.reduceSub, Nat.reduceMul])
  replace h := c4H v2 (fun e => by have e2 := c4B e; simpa only [go_sem, reduceIte, Nat.reduceEqDiff] using e2)
  refine r_cN hk3 ?_
  refine sem_ifh rfl h ?_ ?_ <;> clear h <;> intro h
  · refine zS z0 (r_ret ?_)
    refine r_cR hk2 ?_
    cases h
    refine zARw hQ
  · refine r_skip (r_cN hk2 ?_)
    obtain ⟨g7, h⟩ := gAp h
    refine zS (zRF g7) (r_ret ?_)
    cases h
    refine zAR hQ
noncomputable def slices_Clip_impl_DevArg_impl_DevArg (v1 : (List DevArg)) : Option (List DevArg) :=
  (Option.bind (prtH v1 (((v1).length : Int))) fun v2 => (some v2))
theorem con_slices_Clip_impl_DevArg_impl_DevArg (v1 : (List DevArg)) (res_ : (List DevArg)) (h : slices_Clip_impl_DevArg_impl_DevArg v1 = some res_) : Con Tryd.prog C0 65 [.fz 3 (R e_DevArg (v1))] []
    (fun x σ' => x = .fz 3 (R e_DevArg (res_)) ∧ σ' = []) := by
  refine zCon hP 0 [0, 2] [.tmp 2] Tryd.func65 (by unfold Tryd.f65; rfl) fun Q hQ => ?_
  unfold slices_Clip_impl_DevArg_impl_DevArg at h
  refine zS z0 ?_
  obtain ⟨v2, c3H, h⟩ := bind_some' h
  obtain ⟨c3A, c3B, c3C⟩ := prtH_some c3H
  try simp only [Int.reduceToNat, Int.toNat_zero, Int.toNat_one, Int.toNat_natCast, List.take_length] at c3C
  refine zS (zRF (a3 c3A c3B c3C)) (r_ret ?_)
  cases h
  refine zAR hQ
noncomputable def impl_clone_impl_DevArg (v1 : (List DevArg)) : Option (List DevArg) :=
  (Option.bind (slices_Clone_impl_DevArg_impl_DevArg v1) fun v2 => (Option.bind (slices_Clip_impl_DevArg_impl_DevArg v2) fun v3 => (some v3)))
theorem con_impl_clone_impl_DevArg (v1 : (List DevArg)) (res_ : (List DevArg)) (h : impl_clone_impl_DevArg v1 = some res_) : Con Tryd.prog C0 47 [.fz 3 (R e_DevArg (v1))] []
    (fun x σ' => x = .fz 3 (R e_DevArg (res_)) ∧ σ' = []) := by
  refine zCon hP 0 [0, 2] [.tmp 2] Tryd.func47 (by unfold Tryd.f47; rfl) fun Q hQ => ?_
  unfold impl_clone_impl_DevArg at h
  refine zS z0 ?_
  obtain ⟨v2, c3H, h⟩ := bind_some' h
  obtain ⟨v3, c4H, h⟩ := bind_some' h
  refine zS (zC2 (lC [] (con_slices_Clone_impl_DevArg_impl_DevArg _ _ c3H)) (lC [] (con_slices_Clip_impl_DevArg_impl_DevArg _ _ c4H))) (r_ret ?_)
  cases h
  refine zAR hQ
noncomputable def impl_Elem_copyOf (v1 : Elem) : Option Elem :=
  (Option.bind (impl_clone_impl_DevArg v1.Args) fun v2 => (some (⟨v1.Op, v2⟩ : Elem)))
theorem con_impl_Elem_copyOf (v1 : Elem) (res_ : Elem) (h : impl_Elem_copyOf v1 = some res_) : Con Tryd.prog C0 26 [.agg [.sc (.int .i64 (v1.Op)), .fz 3 (R e_DevArg (v1.Args))]] []
    (fun x σ' => x = .agg [.sc (.int .i64 (res_.Op)), .fz 3 (R e_DevArg (res_.Args))] ∧ σ' = []) := by
  refine zCon hP 0 [0, 1, 2] [.cell 2 42] Tryd.func26 (by unfold Tryd.f26; rfl) fun Q hQ => ?_
  unfold impl_Elem_copyOf at h
  refine zS z0 ?_
  obtain ⟨v2, c3H, h⟩ := bind_some' h
  refine zS (zPC1 (.take 0 (.take 1 (.take 2 (.take 3 (.one 4 (.take 5 (.last 6 .done))))))) [0] (lC [] (con_impl_clone_impl_DevArg _ _ c3H))) (r_ret ?_)
  cases h
  refine zAR hQ
noncomputable def impl_isCmp (v1 : Int) : Option Bool :=
  (Option.bind (impl_in v1 1 6) fun v2 => (some v2))
theorem con_impl_isCmp (v1 : Int) (res_ : Bool) (h : impl_isCmp v1 = some res_) : Con Tryd.prog C0 86 [.sc (.int .i64 (v1))] []
    (fun x σ' => x = .sc (.bool (res_)) ∧ σ' = []) := by
  refine zCon hP 0 [0, 2] [.tmp 2] Tryd.func86 (by unfold Tryd.f86; rfl) fun Q hQ => ?_
  unfold impl_isCmp at h
  refine zS z0 ?_
  obtain ⟨v2, c3H, h⟩ := bind_some' h
  refine zS (zC1 (lF [] (con_impl_in _ _ _ _ c3H))) (r_ret ?_)
  cases h
  refine zAR hQ

end Go.AM
