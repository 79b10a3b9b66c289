/- Pure functions and their contracts. Conditions: none. -/
import Derived.Test.YtkafcijfljjlaabDoorAmQa5
set_option linter.unusedSimpArgs false
set_option linter.unusedVariables false
namespace Go.AM
open Go Go.Proofs
noncomputable def spec_l12Wrong_j9 (v1 : l12At) (v2 : Inst) : Int → Option Int
  | v3 => (Option.bind (spec_ListOk v2) fun v4 => (cond (!v4) (some 2) (Option.bind (spec_l12Needs v2.Code) fun v5 => (cond (decide (v1.bits < v5)) (some 3) (cond ((v2.Code == 1) && (v1.bits == 16)) (some 4) (cond ((decide (v2.Code ≥ 7)) && (decide (v1.bits > 1))) (some 5) (cond ((v1.base && (v1.bits == v3)) && (((v2.Code == 3) || (v2.Code == 6)) || (v2.Code == 5))) (some 6) (cond ((v2.Code == 7) && (v1.forks == 8)) (some 7) (cond (((v2.Code == 8) || (v2.Code == 9)) && (v1.forks == 0)) (some 7) (cond ((v2.Code == 11) && (decide (v1.forks > 0))) (some 7) (cond ((((v2.Code == 8) || (v2.Code == 9)) || (v2.Code == 11)) && (!v1.coil)) (some 8) (some 0))))))))))))
noncomputable def spec_l12Wrong (v1 : l12At) (v2 : Inst) : Option Int :=
  (cond (v2.Code == 5) (spec_l12Wrong_j9 v1 v2 2) (spec_l12Wrong_j9 v1 v2 1))
set_option maxRecDepth 10000 in
set_option maxHeartbeats 4000000 in
theorem con_spec_l12Wrong (v1 : l12At) (v2 : Inst) (res_ : Int) (h : spec_l12Wrong v1 v2 = some res_) : Con Tryd.prog C0 21 [.agg [.sc (.int .i64 (v1.bits)), .sc (.int .i64 (v1.forks)), .sc (.bool (v1.base)), .sc (.bool (v1.coil))], .agg [.sc (.int .i64 (v2.Code)), .sc (.int .i64 (v2.One_Op)), .fz 3 (R e_DevArg (v2.One_Args))]] []
    (fun x σ' => x = .sc (.int .i64 (res_)) ∧ σ' = []) := by
  refine con_of_sem hP [0, 1, 2, 3, 4, 5, 6, 7, 13, 14, 18, 24, 32, 39, 60, 68, 80, 88] [.tmp 4] Tryd.func21 (by unfold Tryd.f21; rfl) rfl rfl (Nat.le_of_ble_eq_true rfl) rfl ?_
  simp only [enter_cons, enter_nil, List.length_cons, List.length_nil, Nat.reduceAdd]
  generalize hQ : endQ _ _ _ _ = Q
  unfold spec_l12Wrong at h
  refine sem_cut fun k1 hk1 => ?_
  simp (decide := true) only [go_sem, reduceIte, Nat.reduceAdd, Int.reduceToNat, Nat.reduceSub, Nat.reduceMul]
  refine r_cN hk1 (sem_cut fun k2 hk2 => ?_)
  simp (decide := true) only [go_sem, reduceIte, Nat.reduceAdd, Int.reduceToNat, Nat.reduceSub, Nat.reduceMul]
  refine r_cN hk2 (sem_cut fun k3 hk3 => ?_)
  simp (decide := true) only [go_sem, reduceIte, Nat.reduceAdd, Int.reduceToNat, Nat.reduceSub, Nat.reduceMul]
  refine r_cN hk3 (sem_cut fun k4 hk4 => ?_)
  simp (decide := true) only [go_sem, reduceIte, Nat.reduceAdd, Int.reduceToNat, Nat.reduceSub, Nat.reduceMul]
  refine r_cN hk4 (sem_cutJ (fun (_ : Unit) (x : Int) => (⟨[(2, .pt 0 0), (3, .pt 1 0), (5, .sc (.int .i64 (v2.Code))), (6, .sc (.bool ((decide (v2.Code ≥ 7))))), (7, .sc (.int .i64 (x)))], [.rc [.sc (.int .i64 (v1.bits)), .sc (.int .i64 (v1.forks)), .sc (.bool (v1.base)), .sc (.bool (v1.coil))], .rc [.sc (.int .i64 (v2.Code)), .sc (.int .i64 (v2.One_Op)), .fz 3 (R e_DevArg (v2.One_Args))]]⟩ : St)) (fun (_ : Unit) (x : Int) => spec_l12Wrong_j9 v1 v2 x = some res_) ?_ ?_)
  · rintro _ v3 h
    simp only [spec_l12Wrong_j9] at h
    refine sem_cut fun k6 hk6 => sem_blk fun k7 hk7 => sem_cut fun k8 hk8 => ?_
    obtain ⟨v4, c9H, h⟩ := bind_some' h
    repeat' (first | with_reducible refine And.intro ?_ ?_ | ((with_reducible refine i_call (n := 44) ?_); refine call_openF [] ?_) | ((with_reducible refine i_callW (n := 44) ?_); refine callW_use (con_spec_ListOk v2 v4 c9H) ?_; rintro x σ' ⟨rfl, rfl⟩ <;> ((refine ⟨?_, ?_⟩; (focus simp (decide := true) only [go_sem, reduceIte, Nat.reduceAdd, Int.reduceToNat, Nat.reduceSub, Nat.reduceMul])); (with_reducible refine behind_go ?_))) | exact True.intro | with_reducible assumption | exact fun hf => False.elim hf | (intro hg; first | (simp +contextual [hg]; done) | grind) | omega | simp (decide := true) only [go_sem, reduceIte, Nat.reduceAdd, Int.reduceToNat, Nat.reduceSub, Nat.reduceMul])
    refine r_cN hk8 ?_
    refine sem_ifh rfl h ?_ ?_ <;> clear h <;> intro h
    · refine sem_cut fun k10 hk10 => ?_
      simp (decide := true) only [go_sem, reduceIte, Nat.reduceAdd, Int.reduceToNat, Nat.reduceSub, Nat.reduceMul]
      refine r_cN hk10 (r_ret ?_)
      refine r_bR hk7 (r_cR hk6 ?_)
      obtain rfl := Option.some.inj h
      refine r_eAR hQ rfl rfl ?_
      simp (decide := true) only [go_sem, reduceIte, Nat.reduceAdd, Int.reduceToNat, Nat.reduceSub, Nat.reduceMul]
      all_goals first | exact wkEnd_same ⟨rfl, rfl⟩ | exact True.intro
    · refine sem_cut fun k11 hk11 => ?_
      obtain ⟨v5, c12H, h⟩ := bind_some' h
      with_reducible refine sem_plan (id := 8) (.take 0 (.take 1 (.take 2 (.one 3 (.take 4 (.take 5 .done)))))) [0] ?_ ?_
      focus kernel_rfl
      repeat' (first | with_reducible refine And.intro ?_ ?_ | ((with_reducible refine i_call (n := 45) ?_); refine call_openF [] ?_) | ((with_reducible refine i_callW (n := 45) ?_); refine callW_use (con_spec_l12Needs v2.Code v5 c12H) ?_; rintro x σ' ⟨rfl, rfl⟩ <;> ((refine ⟨?_, ?_⟩; (focus simp (decide := true) only [go_sem, reduceIte, Nat.reduceAdd, Int.reduceToNat, Nat.reduceSub, Nat.reduceMul])); (with_reducible refine behind_go ?_))) | exact True.intro | with_reducible assumption | exact fun hf => False.elim hf | (intro hg; first | (simp +contextual [hg]; done) | grind) | omega | simp (decide := true) only [go_sem, reduceIte, Nat.reduceAdd, Int.reduceToNat, Nat.reduceSub, Nat.reduceMul])
      refine r_cN hk11 ?_
      refine sem_ifh rfl h ?_ ?_ <;> clear h <;> intro h
      · refine sem_cut fun k13 hk13 => ?_
        simp (decide := true) only [go_sem, reduceIte, Nat.reduceAdd, Int.reduceToNat, Nat.reduceSub, Nat.reduceMul]
        refine r_cN hk13 (r_ret ?_)
        refine r_bR hk7 (r_cR hk6 ?_)
        obtain rfl := Option.some.inj h
        refine r_eAR hQ rfl rfl ?_
        simp (decide := true) only [go_sem, reduceIte, Nat.reduceAdd, Int.reduceToNat, Nat.reduceSub, Nat.reduceMul]
        all_goals first | exact wkEnd_same ⟨rfl, rfl⟩ | exact True.intro
      · refine sem_cut fun k14 hk14 => ?_
        repeat' (first | with_reducible refine And.intro ?_ ?_ | exact True.intro | with_reducible assumption | exact fun hf => False.elim hf | (intro hg; first | (simp +contextual [hg]; done) | grind) | omega | simp (decide := true) only [go_sem, reduceIte, Nat.reduceAdd, Int.reduceToNat, Nat.reduceSub, Nat.reduceMul])
        refine r_cN hk14 ?_
        refine sem_ifh rfl h ?_ ?_ <;> clear h <;> intro h
        · refine sem_cut fun k15 hk15 => ?_
          simp (decide := true) only [go_sem, reduceIte, Nat.reduceAdd, Int.reduceToNat, Nat.reduceSub, Nat.reduceMul]
          refine r_cN hk15 (r_ret ?_)
          refine r_bR hk7 (r_cR hk6 ?_)
          obtain rfl := Option.some.inj h
          refine r_eAR hQ rfl rfl ?_
          simp (decide := true) only [go_sem, reduceIte, Nat.reduceAdd, Int.reduceToNat, Nat.reduceSub, Nat.reduceMul]
          all_goals first | exact wkEnd_same ⟨rfl, rfl⟩ | exact True.intro
        · refine sem_cut fun k16 hk16 => ?_
          repeat' (first | with_reducible refine And.intro ?_ ?_ | exact True.intro | with_reducible assumption | exact fun hf => False.elim hf | (intro hg; first | (simp +contextual [hg]; done) | grind) | omega | simp (decide := true) only [go_sem, reduceIte, Nat.reduceAdd, Int.reduceToNat, Nat.reduceSub, Nat.reduceMul])
          refine r_cN hk16 ?_
          refine sem_ifh rfl h ?_ ?_ <;> clear h <;> intro h
          · refine sem_cut fun k17 hk17 => ?_
            simp (decide := true) only [go_sem, reduceIte, Nat.reduceAdd, Int.reduceToNat, Nat.reduceSub, Nat.reduceMul]
            refine r_cN hk17 (r_ret ?_)
            refine r_bR hk7 (r_cR hk6 ?_)
            obtain rfl := Option.some.inj h
            refine r_eAR hQ rfl rfl ?_
            simp (decide := true) only [go_sem, reduceIte, Nat.reduceAdd, Int.reduceToNat, Nat.reduceSub, Nat.reduceMul]
            all_goals first | exact wkEnd_same ⟨rfl, rfl⟩ | exact True.intro
          · refine sem_cut fun k18 hk18 => ?_
            repeat' (first | with_reducible refine And.intro ?_ ?_ | exact True.intro | with_reducible assumption | exact fun hf => False.elim hf | (intro hg; first | (simp +contextual [hg]; done) | grind) | omega | simp (decide := true) only [go_sem, reduceIte, Nat.reduceAdd, Int.reduceToNat, Nat.reduceSub, Nat.reduceMul])
            refine r_cN hk18 ?_
            refine sem_ifh rfl h ?_ ?_ <;> clear h <;> intro h
            · refine sem_cut fun k19 hk19 => ?_
              simp (decide := true) only [go_sem, reduceIte, Nat.reduceAdd, Int.reduceToNat, Nat.reduceSub, Nat.reduceMul]
              refine r_cN hk19 (r_ret ?_)
              refine r_bR hk7 (r_cR hk6 ?_)
              obtain rfl := Option.some.inj h
              refine r_eAR hQ rfl rfl ?_
              simp (decide := true) only [go_sem, reduceIte, Nat.reduceAdd, Int.reduceToNat, Nat.reduceSub, Nat.reduceMul]
              all_goals first | exact wkEnd_same ⟨rfl, rfl⟩ | exact True.intro
            · refine sem_cut fun k20 hk20 => ?_
              repeat' (first | with_reducible refine And.intro ?_ ?_ | exact True.intro | with_reducible assumption | exact fun hf => False.elim hf | (intro hg; first | (simp +contextual [hg]; done) | grind) | omega | simp (decide := true) only [go_sem, reduceIte, Nat.reduceAdd, Int.reduceToNat, Nat.reduceSub, Nat.reduceMul])
              refine r_cN hk20 ?_
              refine sem_ifh rfl h ?_ ?_ <;> clear h <;> intro h
              · refine sem_cut fun k21 hk21 => ?_
                simp (decide := true) only [go_sem, reduceIte, Nat.reduceAdd, Int.reduceToNat, Nat.reduceSub, Nat.reduceMul]
                refine r_cN hk21 (r_ret ?_)
                refine r_bR hk7 (r_cR hk6 ?_)
                obtain rfl := Option.some.inj h
                refine r_eAR hQ rfl rfl ?_
                simp (decide := true) only [go_sem, reduceIte, Nat.reduceAdd, Int.reduceToNat, Nat.reduceSub, Nat.reduceMul]
                all_goals first | exact wkEnd_same ⟨rfl, rfl⟩ | exact True.intro
              · refine sem_cut fun k22 hk22 => ?_
                repeat' (first | with_reducible refine And.intro ?_ ?_ | exact True.intro | with_reducible assumption | exact fun hf => False.elim hf | (intro hg; first | (simp +contextual [hg]; done) | grind) | omega | simp (decide := true) only [go_sem, reduceIte, Nat.reduceAdd, Int.reduceToNat, Nat.reduceSub, Nat.reduceMul])
                refine r_cN hk22 ?_
                refine sem_ifh rfl h ?_ ?_ <;> clear h <;> intro h
                · refine sem_cut fun k23 hk23 => ?_
                  simp (decide := true) only [go_sem, reduceIte, Nat.reduceAdd, Int.reduceToNat, Nat.reduceSub, Nat.reduceMul]
                  refine r_cN hk23 (r_ret ?_)
                  refine r_bR hk7 (r_cR hk6 ?_)
                  obtain rfl := Option.some.inj h
                  refine r_eAR hQ rfl rfl ?_
                  simp (decide := true) only [go_sem, reduceIte, Nat.reduceAdd, Int.reduceToNat, Nat.reduceSub, Nat.reduceMul]
                  all_goals first | exact wkEnd_same ⟨rfl, rfl⟩ | exact True.intro
                · refine sem_cut fun k24 hk24 => ?_
                  repeat' (first | with_reducible refine And.intro ?_ ?_ | exact True.intro | with_reducible assumption | exact fun hf => False.elim hf | (intro hg; first | (simp +contextual [hg]; done) | grind) | omega | simp (decide := true) only [go_sem, reduceIte, Nat.reduceAdd, Int.reduceToNat, Nat.reduceSub, Nat.reduceMul])
                  refine r_cN hk24 ?_
                  refine sem_ifh rfl h ?_ ?_ <;> clear h <;> intro h
                  · refine sem_cut fun k25 hk25 => ?_
                    simp (decide := true) only [go_sem, reduceIte, Nat.reduceAdd, Int.reduceToNat, Nat.reduceSub, Nat.reduceMul]
                    refine r_cN hk25 (r_ret ?_)
                    refine r_bR hk7 (r_cR hk6 ?_)
                    obtain rfl := Option.some.inj h
                    refine r_eAR hQ rfl rfl ?_
                    simp (decide := true) only [go_sem, reduceIte, Nat.reduceAdd, Int.reduceToNat, Nat.reduceSub, Nat.reduceMul]
                    all_goals first | exact wkEnd_same ⟨rfl, rfl⟩ | exact True.intro
                  · refine sem_cut fun k26 hk26 => ?_
                    repeat' (first | with_reducible refine And.intro ?_ ?_ | exact True.intro | with_reducible assumption | exact fun hf => False.elim hf | (intro hg; first | (simp +contextual [hg]; done) | grind) | omega | simp (decide := true) only [go_sem, reduceIte, Nat.reduceAdd, Int.reduceToNat, Nat.reduceSub, Nat.reduceMul])
                    refine r_cN hk26 ?_
                    refine sem_ifh rfl h ?_ ?_ <;> clear h <;> intro h
                    · refine sem_cut fun k27 hk27 => ?_
                      simp (decide := true) only [go_sem, reduceIte, Nat.reduceAdd, Int.reduceToNat, Nat.reduceSub, Nat.reduceMul]
                      refine r_cN hk27 (r_ret ?_)
                      refine r_bR hk7 (r_cR hk6 ?_)
                      obtain rfl := Option.some.inj h
                      refine r_eAR hQ rfl rfl ?_
                      simp (decide := true) only [go_sem, reduceIte, Nat.reduceAdd, Int.reduceToNat, Nat.reduceSub, Nat.reduceMul]
                      all_goals first | exact wkEnd_same ⟨rfl, rfl⟩ | exact True.intro
                    · refine r_skip (r_bN hk7 ?_)
                      refine r_cN hk6 (sem_cut fun k28 hk28 => ?_)
                      simp (decide := true) only [go_sem, reduceIte, Nat.reduceAdd, Int.reduceToNat, Nat.reduceSub, Nat.reduceMul]
                      refine r_cN hk28 (r_ret ?_)
                      obtain rfl := Option.some.inj h
                      refine r_eAR hQ rfl rfl ?_
                      simp (decide := true) only [go_sem, reduceIte, Nat.reduceAdd, Int.reduceToNat, Nat.reduceSub, Nat.reduceMul]
                      all_goals first | exact wkEnd_same ⟨rfl, rfl⟩ | exact True.intro
  · intro k30 hk30 J29
    refine sem_cut fun k31 hk31 => ?_
    simp (decide := true) only [go_sem, reduceIte, Nat.reduceAdd, Int.reduceToNat, Nat.reduceSub, Nat.reduceMul]
    refine r_cN hk31 ?_
    refine sem_ifh rfl h ?_ ?_ <;> clear h <;> intro h
    · simp (decide := true) only [go_sem, reduceIte, Nat.reduceAdd, Int.reduceToNat, Nat.reduceSub, Nat.reduceMul]
      refine r_joinU J29 [2, 3, 5, 6, 7] () _ rfl rfl ⟨?_, h⟩
      first | exact wkSt_same rfl | (simp (decide := true) only [go_sem, reduceIte, Nat.reduceAdd, Int.reduceToNat, Nat.reduceSub, Nat.reduceMul]; exact wkSt_same rfl)
    · refine r_skip (r_joinU J29 [2, 3, 5, 6, 7] () _ rfl rfl ⟨?_, h⟩)
      first | exact wkSt_same rfl | (simp (decide := true) only [go_sem, reduceIte, Nat.reduceAdd, Int.reduceToNat, Nat.reduceSub, Nat.reduceMul]; exact wkSt_same rfl)
noncomputable def spec_l12Next_j3 (v1 : l12At) (v2 : Int) : (Int × Int) → Option l12At
  | (v4, v5) => (some (⟨v4, v5, ((v1.base || (v2 == 10)) || (v2 == 7)), (v2 == 10)⟩ : l12At))
noncomputable def spec_l12Next_j11 (v1 : l12At) (v2 : Int) : Bool → Option l12At
  | v6 => (cond v6 (spec_l12Next_j3 v1 v2 ((IntKind.i64.wrap (v1.bits - 1)), v1.forks)) (cond (v2 == 7) (spec_l12Next_j3 v1 v2 (v1.bits, (IntKind.i64.wrap (v1.forks + 1)))) (cond (v2 == 9) (spec_l12Next_j3 v1 v2 (v1.bits, (IntKind.i64.wrap (v1.forks - 1)))) (cond (v2 == 11) (some (⟨0, 0, false, false⟩ : l12At)) (spec_l12Next_j3 v1 v2 (v1.bits, v1.forks))))))
noncomputable def spec_l12Next (v1 : l12At) (v2 : Int) : Option l12At :=
  (cond (v2 == 1) (spec_l12Next_j3 v1 v2 ((IntKind.i64.wrap (v1.bits + 1)), v1.forks)) (cond (v2 == 4) (spec_l12Next_j11 v1 v2 (v2 == 4)) (spec_l12Next_j11 v1 v2 (v2 == 5))))
set_option maxRecDepth 10000 in
set_option maxHeartbeats 4000000 in
theorem con_spec_l12Next (v1 : l12At) (v2 : Int) (res_ : l12At) (h : spec_l12Next v1 v2 = some res_) : Con Tryd.prog C0 22 [.agg [.sc (.int .i64 (v1.bits)), .sc (.int .i64 (v1.forks)), .sc (.bool (v1.base)), .sc (.bool (v1.coil))], .sc (.int .i64 (v2))] []
    (fun x σ' => x = .agg [.sc (.int .i64 (res_.bits)), .sc (.int .i64 (res_.forks)), .sc (.bool (res_.base)), .sc (.bool (res_.coil))] ∧ σ' = []) := by
  refine con_of_sem hP [0, 1, 2, 4, 5, 6, 12, 19, 25, 31] [.cell 4 40] Tryd.func22 (by unfold Tryd.f22; rfl) rfl rfl (Nat.le_of_ble_eq_true rfl) rfl ?_
  simp only [enter_cons, enter_nil, List.length_cons, List.length_nil, Nat.reduceAdd]
  generalize hQ : endQ _ _ _ _ = Q
  unfold spec_l12Next at h
  refine sem_cut fun k1 hk1 => ?_
  simp (decide := true) only [go_sem, reduceIte, Nat.reduceAdd, Int.reduceToNat, Nat.reduceSub, Nat.reduceMul]
  refine r_cN hk1 (sem_cutJ (fun (_ : Unit) (x : (Int × Int)) => (⟨[(1, .sc (.int .i64 (v2))), (2, .pt 0 0), (4, .pt 1 0)], [.rc [.sc (.int .i64 (x.1)), .sc (.int .i64 (x.2)), .sc (.bool (v1.base)), .sc (.bool (v1.coil))], .rc [.sc (.int .i64 (0)), .sc (.int .i64 (0)), .sc (.bool (false)), .sc (.bool (false))]]⟩ : St)) (fun (_ : Unit) (x : (Int × Int)) => spec_l12Next_j3 v1 v2 x = some res_) ?_ ?_)
  · rintro _ ⟨v4, v5⟩ h
    simp only [spec_l12Next_j3] at h
    refine sem_cut fun k13 hk13 => ?_
    simp (decide := true) only [go_sem, reduceIte, Nat.reduceAdd, Int.reduceToNat, Nat.reduceSub, Nat.reduceMul]
    refine r_cN hk13 (sem_cut fun k14 hk14 => ?_)
    repeat' (first | with_reducible refine And.intro ?_ ?_ | exact True.intro | with_reducible assumption | exact fun hf => False.elim hf | (intro hg; first | (simp +contextual [hg]; done) | grind) | omega | simp (decide := true) only [go_sem, reduceIte, Nat.reduceAdd, Int.reduceToNat, Nat.reduceSub, Nat.reduceMul])
    refine r_cN hk14 (sem_cut fun k15 hk15 => ?_)
    simp (decide := true) only [go_sem, reduceIte, Nat.reduceAdd, Int.reduceToNat, Nat.reduceSub, Nat.reduceMul]
    refine r_cN hk15 (r_ret ?_)
    obtain rfl := Option.some.inj h
    refine r_eAR hQ rfl rfl ?_
    simp (decide := true) only [go_sem, reduceIte, Nat.reduceAdd, Int.reduceToNat, Nat.reduceSub, Nat.reduceMul]
    repeat' (with_reducible refine And.intro ?_ ?_)
    all_goals first | exact wkEnd_same ⟨rfl, rfl⟩ | exact True.intro
  · intro k17 hk17 J16
    refine sem_cut fun k18 hk18 => ?_
    simp (decide := true) only [go_sem, reduceIte, Nat.reduceAdd, Int.reduceToNat, Nat.reduceSub, Nat.reduceMul]
    refine r_cN hk18 (sem_blk fun k19 hk19 => ?_)
    refine sem_cut fun k20 hk20 => ?_
    simp (decide := true) only [go_sem, reduceIte, Nat.reduceAdd, Int.reduceToNat, Nat.reduceSub, Nat.reduceMul]
    refine r_cN hk20 ?_
    refine sem_ifh rfl h ?_ ?_ <;> clear h <;> intro h
    · simp (decide := true) only [go_sem, reduceIte, Nat.reduceAdd, Int.reduceToNat, Nat.reduceSub, Nat.reduceMul]
      refine r_bN hk19 (r_joinU J16 [1, 2, 4] () _ rfl rfl ⟨?_, h⟩)
      first | exact wkSt_same rfl | (simp (decide := true) only [go_sem, reduceIte, Nat.reduceAdd, Int.reduceToNat, Nat.reduceSub, Nat.reduceMul]; exact wkSt_same rfl)
    · refine sem_cutJ (fun (_ : Unit) (x : Bool) => (⟨[(1, .sc (.int .i64 (v2))), (2, .pt 0 0), (4, .pt 1 0), (5, .sc (.int .i64 (v2))), (12, .sc (.bool (x)))], [.rc [.sc (.int .i64 (v1.bits)), .sc (.int .i64 (v1.forks)), .sc (.bool (v1.base)), .sc (.bool (v1.coil))], .rc [.sc (.int .i64 (0)), .sc (.int .i64 (0)), .sc (.bool (false)), .sc (.bool (false))]]⟩ : St)) (fun (_ : Unit) (x : Bool) => spec_l12Next_j11 v1 v2 x = some res_) ?_ ?_
      · rintro _ v6 h
        simp only [spec_l12Next_j11] at h
        refine sem_ifh rfl h ?_ ?_ <;> clear h <;> intro h
        · simp (decide := true) only [go_sem, reduceIte, Nat.reduceAdd, Int.reduceToNat, Nat.reduceSub, Nat.reduceMul]
          refine r_bN hk19 (r_joinU J16 [1, 2, 4] () _ rfl rfl ⟨?_, h⟩)
          first | exact wkSt_same rfl | (simp (decide := true) only [go_sem, reduceIte, Nat.reduceAdd, Int.reduceToNat, Nat.reduceSub, Nat.reduceMul]; exact wkSt_same rfl)
        · refine sem_cut fun k22 hk22 => ?_
          simp (decide := true) only [go_sem, reduceIte, Nat.reduceAdd, Int.reduceToNat, Nat.reduceSub, Nat.reduceMul]
          refine r_cN hk22 ?_
          refine sem_ifh rfl h ?_ ?_ <;> clear h <;> intro h
          · simp (decide := true) only [go_sem, reduceIte, Nat.reduceAdd, Int.reduceToNat, Nat.reduceSub, Nat.reduceMul]
            refine r_bN hk19 (r_joinU J16 [1, 2, 4] () _ rfl rfl ⟨?_, h⟩)
            first | exact wkSt_same rfl | (simp (decide := true) only [go_sem, reduceIte, Nat.reduceAdd, Int.reduceToNat, Nat.reduceSub, Nat.reduceMul]; exact wkSt_same rfl)
          · refine sem_cut fun k23 hk23 => ?_
            simp (decide := true) only [go_sem, reduceIte, Nat.reduceAdd, Int.reduceToNat, Nat.reduceSub, Nat.reduceMul]
            refine r_cN hk23 ?_
            refine sem_ifh rfl h ?_ ?_ <;> clear h <;> intro h
            · simp (decide := true) only [go_sem, reduceIte, Nat.reduceAdd, Int.reduceToNat, Nat.reduceSub, Nat.reduceMul]
              refine r_bN hk19 (r_joinU J16 [1, 2, 4] () _ rfl rfl ⟨?_, h⟩)
              first | exact wkSt_same rfl | (simp (decide := true) only [go_sem, reduceIte, Nat.reduceAdd, Int.reduceToNat, Nat.reduceSub, Nat.reduceMul]; exact wkSt_same rfl)
            · refine sem_cut fun k24 hk24 => ?_
              simp (decide := true) only [go_sem, reduceIte, Nat.reduceAdd, Int.reduceToNat, Nat.reduceSub, Nat.reduceMul]
              refine r_cN hk24 ?_
              refine sem_ifh rfl h ?_ ?_ <;> clear h <;> intro h
              · refine sem_cut fun k25 hk25 => ?_
                simp (decide := true) only [go_sem, reduceIte, Nat.reduceAdd, Int.reduceToNat, Nat.reduceSub, Nat.reduceMul]
                refine r_cN hk25 (r_ret ?_)
                refine r_bR hk19 (r_jR hk17 ?_)
                obtain rfl := Option.some.inj h
                refine r_eAR hQ rfl rfl ?_
                simp (decide := true) only [go_sem, reduceIte, Nat.reduceAdd, Int.reduceToNat, Nat.reduceSub, Nat.reduceMul]
                repeat' (with_reducible refine And.intro ?_ ?_)
                all_goals first | exact wkEnd_same ⟨rfl, rfl⟩ | exact True.intro
              · refine r_skip (r_bN hk19 ?_)
                refine r_joinU J16 [1, 2, 4] () _ rfl rfl ⟨?_, h⟩
                first | exact wkSt_same rfl | (simp (decide := true) only [go_sem, reduceIte, Nat.reduceAdd, Int.reduceToNat, Nat.reduceSub, Nat.reduceMul]; exact wkSt_same rfl)
      · intro k27 hk27 J26
        refine sem_cut fun k28 hk28 => ?_
        simp (decide := true) only [go_sem, reduceIte, Nat.reduceAdd, Int.reduceToNat, Nat.reduceSub, Nat.reduceMul]
        refine r_cN hk28 ?_
        refine sem_ifh rfl h ?_ ?_ <;> clear h <;> intro h
        · refine r_skip (r_joinU J26 [1, 2, 4, 5, 12] () _ rfl rfl ⟨?_, h⟩)
          first | exact wkSt_same rfl | (simp (decide := true) only [go_sem, reduceIte, Nat.reduceAdd, Int.reduceToNat, Nat.reduceSub, Nat.reduceMul]; exact wkSt_same rfl)
        · simp (decide := true) only [go_sem, reduceIte, Nat.reduceAdd, Int.reduceToNat, Nat.reduceSub, Nat.reduceMul]
          refine r_joinU J26 [1, 2, 4, 5, 12] () _ rfl rfl ⟨?_, h⟩
          first | exact wkSt_same rfl | (simp (decide := true) only [go_sem, reduceIte, Nat.reduceAdd, Int.reduceToNat, Nat.reduceSub, Nat.reduceMul]; exact wkSt_same rfl)
noncomputable def spec_SureCheck_j13 (v1 : (List Inst)) : (Int × Int × Bool × Bool) → Option SureFault
  | (v21, v22, v23, v24) => (cond (decide (v21 > 0)) (some (⟨9, ((v1).length : Int)⟩ : SureFault)) (some (⟨0, 0⟩ : SureFault)))
noncomputable def spec_SureCheck_s17 (v1 : (List Inst)) : (Int × Int × Bool × Bool × Int) → Option ((Int × Int × Bool × Bool × Int) ⊕ ((Int × Int) ⊕ (Int × Int × Bool × Bool)))
  | (v29, v30, v31, v32, v33) => (cond (decide (v33 < ((v1).length : Int))) (Option.bind (idx v1 (v33)) fun v40 => (Option.bind (spec_l12Wrong (⟨v29, v30, v31, v32⟩ : l12At) v40) fun v41 => (cond (decide (v41 > 0)) (some (.inr (.inl (v41, v33)))) (Option.bind (idx v1 (v33)) fun v42 => (Option.bind (spec_l12Next (⟨v29, v30, v31, v32⟩ : l12At) v42.Code) fun v43 => (some (.inl (v43.bits, v43.forks, v43.base, v43.coil, (IntKind.i64.wrap (v33 + 1)))))))))) (some (.inr (.inr (v29, v30, v31, v32)))))
noncomputable def spec_SureCheck (v1 : (List Inst)) : Option SureFault :=
  (cond (decide (((v1).length : Int) > 1000)) (some (⟨1, 0⟩ : SureFault)) ((loop (spec_SureCheck_s17 v1) (0, 0, false, false, 0)).bind (Sum.elim (fun v38 => (some (⟨v38.1, v38.2⟩ : SureFault))) (fun v39 => (spec_SureCheck_j13 v1 (v39.1, v39.2.1, v39.2.2.1, v39.2.2.2))))))
set_option maxRecDepth 10000 in
set_option maxHeartbeats 4000000 in
theorem con_spec_SureCheck (v1 : (List Inst)) (res_ : SureFault) (h : spec_SureCheck v1 = some res_) : Con Tryd.prog C0 7 [.fz 3 (R e_Inst (v1))] []
    (fun x σ' => x = .agg [.sc (.int .i64 (res_.Code)), .sc (.int .i64 (res_.At))] ∧ σ' = []) := by
  refine con_of_sem hP [0, 2, 3, 4, 5, 8, 14, 24, 37] [.cell 2 28] Tryd.func7 (by unfold Tryd.f7; rfl) rfl rfl (Nat.le_of_ble_eq_true rfl) rfl ?_
  simp only [enter_cons, enter_nil, List.length_cons, List.length_nil, Nat.reduceAdd]
  generalize hQ : endQ _ _ _ _ = Q
  unfold spec_SureCheck at h
  refine sem_cut fun k1 hk1 => ?_
  simp (decide := true) only [go_sem, reduceIte, Nat.reduceAdd, Int.reduceToNat, Nat.reduceSub, Nat.reduceMul]
  refine r_cN hk1 (sem_cut fun k2 hk2 => ?_)
  refine sem_cut fun k3 hk3 => ?_
  simp (decide := true) only [go_sem, reduceIte, Nat.reduceAdd, Int.reduceToNat, Nat.reduceSub, Nat.reduceMul]
  refine r_cN hk3 ?_
  refine sem_ifh rfl h ?_ ?_ <;> clear h <;> intro h
  · refine sem_cut fun k4 hk4 => ?_
    simp (decide := true) only [go_sem, reduceIte, Nat.reduceAdd, Int.reduceToNat, Nat.reduceSub, Nat.reduceMul]
    refine r_cN hk4 (r_ret ?_)
    refine r_cR hk2 ?_
    obtain rfl := Option.some.inj h
    refine r_eAR hQ rfl rfl ?_
    simp (decide := true) only [go_sem, reduceIte, Nat.reduceAdd, Int.reduceToNat, Nat.reduceSub, Nat.reduceMul]
    repeat' (with_reducible refine And.intro ?_ ?_)
    all_goals first | exact wkEnd_same ⟨rfl, rfl⟩ | exact True.intro
  · refine r_skip (r_cN hk2 ?_)
    refine sem_cut fun k5 hk5 => ?_
    simp (decide := true) only [go_sem, reduceIte, Nat.reduceAdd, Int.reduceToNat, Nat.reduceSub, Nat.reduceMul]
    refine r_cN hk5 (sem_cutJ (fun (_ : Unit) (x : (Int × Int × Bool × Bool)) => (⟨[(0, .fz 3 (R e_Inst (v1))), (2, .pt 0 0), (3, .pt 1 0)], [.rc [.sc (.int .i64 (0)), .sc (.int .i64 (0))], .rc [.sc (.int .i64 (x.1)), .sc (.int .i64 (x.2.1)), .sc (.bool (x.2.2.1)), .sc (.bool (x.2.2.2))]]⟩ : St)) (fun (_ : Unit) (x : (Int × Int × Bool × Bool)) => spec_SureCheck_j13 v1 x = some res_) ?_ ?_)
    · rintro _ ⟨v21, v22, v23, v24⟩ h
      simp only [spec_SureCheck_j13] at h
      refine sem_cut fun k45 hk45 => sem_cut fun k46 hk46 => ?_
      simp (decide := true) only [go_sem, reduceIte, Nat.reduceAdd, Int.reduceToNat, Nat.reduceSub, Nat.reduceMul]
      refine r_cN hk46 ?_
      refine sem_ifh rfl h ?_ ?_ <;> clear h <;> intro h
      · refine sem_cut fun k47 hk47 => ?_
        simp (decide := true) only [go_sem, reduceIte, Nat.reduceAdd, Int.reduceToNat, Nat.reduceSub, Nat.reduceMul]
        refine r_cN hk47 (r_ret ?_)
        refine r_cR hk45 ?_
        obtain rfl := Option.some.inj h
        refine r_eAR hQ rfl rfl ?_
        simp (decide := true) only [go_sem, reduceIte, Nat.reduceAdd, Int.reduceToNat, Nat.reduceSub, Nat.reduceMul]
        repeat' (with_reducible refine And.intro ?_ ?_)
        all_goals first | exact wkEnd_same ⟨rfl, rfl⟩ | exact True.intro
      · refine r_skip (r_cN hk45 ?_)
        refine sem_cut fun k48 hk48 => ?_
        simp (decide := true) only [go_sem, reduceIte, Nat.reduceAdd, Int.reduceToNat, Nat.reduceSub, Nat.reduceMul]
        refine r_cN hk48 (r_ret ?_)
        obtain rfl := Option.some.inj h
        refine r_eAR hQ rfl rfl ?_
        simp (decide := true) only [go_sem, reduceIte, Nat.reduceAdd, Int.reduceToNat, Nat.reduceSub, Nat.reduceMul]
        repeat' (with_reducible refine And.intro ?_ ?_)
        all_goals first | exact wkEnd_same ⟨rfl, rfl⟩ | exact True.intro
    · intro k50 hk50 J49
      refine sem_cut fun k51 hk51 => ?_
      simp (decide := true) only [go_sem, reduceIte, Nat.reduceAdd, Int.reduceToNat, Nat.reduceSub, Nat.reduceMul]
      refine r_cN hk51 (sem_blk fun k52 hk52 => ?_)
      obtain ⟨oq77, hLq77, hKq77⟩ := bind_some' h
      clear h
      refine sem_loopP [0, 2, 3, 4] (fun (_ : Unit) (x : (Int × Int × Bool × Bool × Int)) => (⟨[(0, .fz 3 (R e_Inst (v1))), (2, .pt 0 0), (3, .pt 1 0), (4, .sc (.int .i64 (x.2.2.2.2)))], [.rc [.sc (.int .i64 (0)), .sc (.int .i64 (0))], .rc [.sc (.int .i64 (x.1)), .sc (.int .i64 (x.2.1)), .sc (.bool (x.2.2.1)), .sc (.bool (x.2.2.2.1))]]⟩ : St)) (fun (_ : Unit) (x : (Int × Int × Bool × Bool × Int)) => True) (spec_SureCheck_s17 v1) () (0, 0, false, false, 0) hLq77 (by rfl) (by rfl) ⟨?_, trivial⟩ ?_
      · first | exact wkSt_same rfl | (simp (decide := true) only [go_sem, reduceIte, Nat.reduceAdd, Int.reduceToNat, Nat.reduceSub, Nat.reduceMul]; exact wkSt_same rfl)
      · rintro nq77 _ ⟨v29, v30, v31, v32, v33⟩ xq77 kq77 hkq77 - h hIq77 hEq77
        simp only [spec_SureCheck_s17] at h
        refine sem_cut fun k78 hk78 => sem_cut fun k79 hk79 => ?_
        simp (decide := true) only [go_sem, reduceIte, Nat.reduceAdd, Int.reduceToNat, Nat.reduceSub, Nat.reduceMul]
        refine r_cN hk79 ?_
        refine sem_ifh rfl h ?_ ?_ <;> clear h <;> intro h
        · refine r_skip (r_cN hk78 ?_)
          refine sem_cut fun k80 hk80 => sem_blk fun k81 hk81 => sem_cut fun k82 hk82 => ?_
          obtain ⟨v40, c83H, h⟩ := bind_some' h
          obtain ⟨c83A, c83B, c83C, -⟩ := idx_some c83H
          obtain ⟨v41, c84H, h⟩ := bind_some' h
          with_reducible refine sem_plan (id := 7) (.take 0 (.take 1 (.take 2 (.take 3 (.take 4 (.last 5 (.take 6 .done))))))) [1] ?_ ?_
          focus kernel_rfl
          repeat' (first | with_reducible refine And.intro ?_ ?_ | ((with_reducible refine i_call (n := 21) ?_); refine call_openF [] ?_) | ((with_reducible refine i_callW (n := 21) ?_); refine callW_use (con_spec_l12Wrong (⟨v29, v30, v31, v32⟩ : l12At) v40 v41 c84H) ?_; rintro x σ' ⟨rfl, rfl⟩ <;> ((refine ⟨?_, ?_⟩; (focus simp (decide := true) only [go_sem, reduceIte, Nat.reduceAdd, Int.reduceToNat, Nat.reduceSub, Nat.reduceMul, c83A, c83B, c83C])); (with_reducible refine behind_go ?_))) | exact True.intro | with_reducible assumption | exact fun hf => False.elim hf | (intro hg; first | (simp +contextual [hg]; done) | grind) | omega | simp (decide := true) only [go_sem, reduceIte, Nat.reduceAdd, Int.reduceToNat, Nat.reduceSub, Nat.reduceMul, c83A, c83B, c83C])
          refine r_cN hk82 (sem_cut fun k85 hk85 => ?_)
          refine sem_cut fun k86 hk86 => ?_
          simp (decide := true) only [go_sem, reduceIte, Nat.reduceAdd, Int.reduceToNat, Nat.reduceSub, Nat.reduceMul]
          refine r_cN hk86 ?_
          refine sem_ifh rfl h ?_ ?_ <;> clear h <;> intro h
          · refine sem_cut fun k87 hk87 => ?_
            simp (decide := true) only [go_sem, reduceIte, Nat.reduceAdd, Int.reduceToNat, Nat.reduceSub, Nat.reduceMul]
            refine r_cN hk87 (r_ret ?_)
            refine r_cR hk85 (r_bR hk81 ?_)
            refine r_cR hk80 ?_
            obtain rfl := Option.some.inj h
            obtain rfl := hEq77 _ rfl
            have h := hKq77
            try simp only [Sum.elim_inl, Sum.elim_inr] at h
            refine r_kR hkq77 (r_bR hk52 ?_)
            refine r_jR hk50 ?_
            obtain rfl := Option.some.inj h
            refine r_eAR hQ rfl rfl ?_
            simp (decide := true) only [go_sem, reduceIte, Nat.reduceAdd, Int.reduceToNat, Nat.reduceSub, Nat.reduceMul]
            repeat' (with_reducible refine And.intro ?_ ?_)
            all_goals first | exact wkEnd_same ⟨rfl, rfl⟩ | exact True.intro
          · refine r_skip (r_cN hk85 ?_)
            obtain ⟨v42, c88H, h⟩ := bind_some' h
            obtain ⟨c88A, c88B, c88C, -⟩ := idx_some c88H
            obtain ⟨v43, c89H, h⟩ := bind_some' h
            with_reducible refine sem_plan (id := 10) (.take 0 (.take 1 (.take 2 (.take 3 (.take 4 (.take 5 (.last 6 (.last 7 .done)))))))) [1] ?_ ?_
            focus kernel_rfl
            repeat' (first | with_reducible refine And.intro ?_ ?_ | ((with_reducible refine i_call (n := 22) ?_); refine call_openF [] ?_) | ((with_reducible refine i_callW (n := 22) ?_); refine callW_use (con_spec_l12Next (⟨v29, v30, v31, v32⟩ : l12At) v42.Code v43 c89H) ?_; rintro x σ' ⟨rfl, rfl⟩ <;> ((refine ⟨?_, ?_⟩; (focus simp (decide := true) only [go_sem, reduceIte, Nat.reduceAdd, Int.reduceToNat, Nat.reduceSub, Nat.reduceMul, c88A, c88B, c88C])); (with_reducible refine behind_go ?_))) | exact True.intro | with_reducible assumption | exact fun hf => False.elim hf | (intro hg; first | (simp +contextual [hg]; done) | grind) | omega | simp (decide := true) only [go_sem, reduceIte, Nat.reduceAdd, Int.reduceToNat, Nat.reduceSub, Nat.reduceMul, c88A, c88B, c88C])
            refine r_bN hk81 (r_cN hk80 ?_)
            simp (decide := true) only [go_sem, reduceIte, Nat.reduceAdd, Int.reduceToNat, Nat.reduceSub, Nat.reduceMul]
            obtain rfl := Option.some.inj h
            subst hkq77
            refine r_backP () _ rfl rfl ⟨?_, trivial⟩ (hIq77 _ rfl)
            first | exact wkSt_same rfl | (simp (decide := true) only [go_sem, reduceIte, Nat.reduceAdd, Int.reduceToNat, Nat.reduceSub, Nat.reduceMul]; exact wkSt_same rfl)
        · refine r_exit (r_cE hk78 ?_)
          obtain rfl := Option.some.inj h
          obtain rfl := hEq77 _ rfl
          have h := hKq77
          try simp only [Sum.elim_inl, Sum.elim_inr] at h
          refine r_kE hkq77 (r_bE hk52 ?_)
          refine r_joinU J49 [0, 2, 3] () _ rfl rfl ⟨?_, h⟩
          first | exact wkSt_same rfl | (simp (decide := true) only [go_sem, reduceIte, Nat.reduceAdd, Int.reduceToNat, Nat.reduceSub, Nat.reduceMul]; exact wkSt_same rfl)
noncomputable def slices_Equal_impl_DevArg_impl_DevArg_j11 : Unit → Option Bool
  | () => (some true)
noncomputable def slices_Equal_impl_DevArg_impl_DevArg_s15 (v1 : (List DevArg)) (v2 : (List DevArg)) : Int → Option (Int ⊕ (Unit ⊕ Unit))
  | v14 => (cond (decide (v14 < ((v1).length : Int))) (Option.bind (idx v1 (v14)) fun v19 => (Option.bind (idx v2 (v14)) fun v20 => (cond (!((v19.Kind == v20.Kind) && ((v19.N == v20.N) && (v19.P == v20.P)))) (some (.inr (.inl ()))) (some (.inl (IntKind.i64.wrap (v14 + 1))))))) (some (.inr (.inr ()))))
noncomputable def slices_Equal_impl_DevArg_impl_DevArg (v1 : (List DevArg)) (v2 : (List DevArg)) : Option Bool :=
  (cond (((v1).length : Int) != ((v2).length : Int)) (some false) ((loop (slices_Equal_impl_DevArg_impl_DevArg_s15 v1 v2) 0).bind (Sum.elim (fun v17 => (some false)) (fun v18 => (slices_Equal_impl_DevArg_impl_DevArg_j11 ())))))
set_option maxRecDepth 10000 in
set_option maxHeartbeats 4000000 in
theorem con_slices_Equal_impl_DevArg_impl_DevArg (v1 : (List DevArg)) (v2 : (List DevArg)) (res_ : Bool) (h : slices_Equal_impl_DevArg_impl_DevArg v1 v2 = some res_) : Con Tryd.prog C0 48 [.fz 3 (R e_DevArg (v1)), .fz 3 (R e_DevArg (v2))] []
    (fun x σ' => x = .sc (.bool (res_)) ∧ σ' = []) := by
  refine con_of_sem hP [0, 1, 4, 5, 10, 12, 13, 14, 24] [.tmp 4] Tryd.func48 (by unfold Tryd.f48; rfl) rfl rfl (Nat.le_of_ble_eq_true rfl) rfl ?_
  simp only [enter_cons, enter_nil, List.length_cons, List.length_nil, Nat.reduceAdd]
  generalize hQ : endQ _ _ _ _ = Q
  unfold slices_Equal_impl_DevArg_impl_DevArg at h
  refine sem_cut fun k1 hk1 => ?_
  simp (decide := true) only [go_sem, reduceIte, Nat.reduceAdd, Int.reduceToNat, Nat.reduceSub, Nat.reduceMul]
  refine r_cN hk1 (sem_cut fun k2 hk2 => ?_)
  refine sem_cut fun k3 hk3 => ?_
  simp (decide := true) only [go_sem, reduceIte, Nat.reduceAdd, Int.reduceToNat, Nat.reduceSub, Nat.reduceMul]
  refine r_cN hk3 ?_
  refine sem_ifh rfl h ?_ ?_ <;> clear h <;> intro h
  · refine sem_cut fun k4 hk4 => ?_
    simp (decide := true) only [go_sem, reduceIte, Nat.reduceAdd, Int.reduceToNat, Nat.reduceSub, Nat.reduceMul]
    refine r_cN hk4 (r_ret ?_)
    refine r_cR hk2 ?_
    obtain rfl := Option.some.inj h
    refine r_eAR hQ rfl rfl ?_
    simp (decide := true) only [go_sem, reduceIte, Nat.reduceAdd, Int.reduceToNat, Nat.reduceSub, Nat.reduceMul]
    all_goals first | exact wkEnd_same ⟨rfl, rfl⟩ | exact True.intro
  · refine r_skip (r_cN hk2 ?_)
    refine sem_cutJ (fun (_ : Unit) (x : Unit) => (⟨[], []⟩ : St)) (fun (_ : Unit) (x : Unit) => slices_Equal_impl_DevArg_impl_DevArg_j11 x = some res_) ?_ ?_
    · rintro _ _ h
      simp only [slices_Equal_impl_DevArg_impl_DevArg_j11] at h
      refine sem_cut fun k35 hk35 => ?_
      simp (decide := true) only [go_sem, reduceIte, Nat.reduceAdd, Int.reduceToNat, Nat.reduceSub, Nat.reduceMul]
      refine r_cN hk35 (r_ret ?_)
      obtain rfl := Option.some.inj h
      refine r_eAR hQ rfl rfl ?_
      simp (decide := true) only [go_sem, reduceIte, Nat.reduceAdd, Int.reduceToNat, Nat.reduceSub, Nat.reduceMul]
      all_goals first | exact wkEnd_same ⟨rfl, rfl⟩ | exact True.intro
    · intro k37 hk37 J36
      refine sem_cut fun k38 hk38 => ?_
      simp (decide := true) only [go_sem, reduceIte, Nat.reduceAdd, Int.reduceToNat, Nat.reduceSub, Nat.reduceMul]
      refine r_cN hk38 (sem_blk fun k39 hk39 => ?_)
      obtain ⟨oq58, hLq58, hKq58⟩ := bind_some' h
      clear h
      refine sem_loopP [0, 1, 12, 13] (fun (_ : Unit) (x : Int) => (⟨[(0, .fz 3 (R e_DevArg (v1))), (1, .fz 3 (R e_DevArg (v2))), (12, .sc (.int .i64 (((v1).length : Int)))), (13, .sc (.int .i64 (x)))], []⟩ : St)) (fun (_ : Unit) (x : Int) => True) (slices_Equal_impl_DevArg_impl_DevArg_s15 v1 v2) () 0 hLq58 (by rfl) (by rfl) ⟨?_, trivial⟩ ?_
      · first | exact wkSt_same rfl | (simp (decide := true) only [go_sem, reduceIte, Nat.reduceAdd, Int.reduceToNat, Nat.reduceSub, Nat.reduceMul]; exact wkSt_same rfl)
      · rintro nq58 _ v14 xq58 kq58 hkq58 - h hIq58 hEq58
        simp only [slices_Equal_impl_DevArg_impl_DevArg_s15] at h
        refine sem_cut fun k59 hk59 => ?_
        simp (decide := true) only [go_sem, reduceIte, Nat.reduceAdd, Int.reduceToNat, Nat.reduceSub, Nat.reduceMul]
        refine r_cN hk59 (sem_cut fun k60 hk60 => ?_)
        refine sem_ifh rfl h ?_ ?_ <;> clear h <;> intro h
        · refine r_skip (r_cN hk60 ?_)
          refine sem_cut fun k61 hk61 => sem_blk fun k62 hk62 => sem_cut fun k63 hk63 => ?_
          simp (decide := true) only [go_sem, reduceIte, Nat.reduceAdd, Int.reduceToNat, Nat.reduceSub, Nat.reduceMul]
          refine r_cN hk63 (sem_cut fun k64 hk64 => ?_)
          obtain ⟨v19, c65H, h⟩ := bind_some' h
          obtain ⟨c65A, c65B, c65C, -⟩ := idx_some c65H
          obtain ⟨v20, c66H, h⟩ := bind_some' h
          obtain ⟨c66A, c66B, c66C, -⟩ := idx_some c66H
          with_reducible refine sem_quiet (id := 6) [0, 1, 2, 3, 4, 5, 6, 7, 8, 9] ?_ ?_
          focus kernel_rfl
          repeat' (first | with_reducible refine And.intro ?_ ?_ | exact True.intro | with_reducible assumption | exact fun hf => False.elim hf | (intro hg; first | (simp +contextual [hg]; done) | grind) | omega | simp (decide := true) only [go_sem, reduceIte, Nat.reduceAdd, Int.reduceToNat, Nat.reduceSub, Nat.reduceMul, c65A, c65B, c65C, c66A, c66B, c66C])
          refine r_cN hk64 ?_
          refine sem_ifh rfl h ?_ ?_ <;> clear h <;> intro h
          · refine sem_cut fun k67 hk67 => ?_
            simp (decide := true) only [go_sem, reduceIte, Nat.reduceAdd, Int.reduceToNat, Nat.reduceSub, Nat.reduceMul]
            refine r_cN hk67 (r_ret ?_)
            refine r_bR hk62 (r_cR hk61 ?_)
            obtain rfl := Option.some.inj h
            obtain rfl := hEq58 _ rfl
            have h := hKq58
            try simp only [Sum.elim_inl, Sum.elim_inr] at h
            refine r_kR hkq58 (r_bR hk39 ?_)
            refine r_jR hk37 ?_
            obtain rfl := Option.some.inj h
            refine r_eAR hQ rfl rfl ?_
            simp (decide := true) only [go_sem, reduceIte, Nat.reduceAdd, Int.reduceToNat, Nat.reduceSub, Nat.reduceMul]
            all_goals first | exact wkEnd_same ⟨rfl, rfl⟩ | exact True.intro
          · refine r_skip (r_bN hk62 ?_)
            refine r_cN hk61 ?_
            simp (decide := true) only [go_sem, reduceIte, Nat.reduceAdd, Int.reduceToNat, Nat.reduceSub, Nat.reduceMul]
            obtain rfl := Option.some.inj h
            subst hkq58
            refine r_backP () _ rfl rfl ⟨?_, trivial⟩ (hIq58 _ rfl)
            first | exact wkSt_same rfl | (simp (decide := true) only [go_sem, reduceIte, Nat.reduceAdd, Int.reduceToNat, Nat.reduceSub, Nat.reduceMul]; exact wkSt_same rfl)
        · refine r_exit (r_cE hk60 ?_)
          obtain rfl := Option.some.inj h
          obtain rfl := hEq58 _ rfl
          have h := hKq58
          try simp only [Sum.elim_inl, Sum.elim_inr] at h
          refine r_kE hkq58 (r_bE hk39 ?_)
          refine r_joinU J36 [] () _ rfl rfl ⟨?_, h⟩
          first | exact wkSt_same rfl | (simp (decide := true) only [go_sem, reduceIte, Nat.reduceAdd, Int.reduceToNat, Nat.reduceSub, Nat.reduceMul]; exact wkSt_same rfl)
noncomputable def impl_elemSame (v1 : Elem) (v2 : Elem) : Option Bool :=
  (cond (v1.Op == v2.Op) (Option.bind (slices_Equal_impl_DevArg_impl_DevArg v1.Args v2.Args) fun v3 => (some v3)) (some false))
set_option maxRecDepth 10000 in
set_option maxHeartbeats 4000000 in
theorem con_impl_elemSame (v1 : Elem) (v2 : Elem) (res_ : Bool) (h : impl_elemSame v1 v2 = some res_) : Con Tryd.prog C0 27 [.agg [.sc (.int .i64 (v1.Op)), .fz 3 (R e_DevArg (v1.Args))], .agg [.sc (.int .i64 (v2.Op)), .fz 3 (R e_DevArg (v2.Args))]] []
    (fun x σ' => x = .sc (.bool (res_)) ∧ σ' = []) := by
  refine con_of_sem hP [0, 1, 2, 3, 4] [.tmp 4] Tryd.func27 (by unfold Tryd.f27; rfl) rfl rfl (Nat.le_of_ble_eq_true rfl) rfl ?_
  simp only [enter_cons, enter_nil, List.length_cons, List.length_nil, Nat.reduceAdd]
  generalize hQ : endQ _ _ _ _ = Q
  unfold impl_elemSame at h
  refine sem_cut fun k1 hk1 => ?_
  simp (decide := true) only [go_sem, reduceIte, Nat.reduceAdd, Int.reduceToNat, Nat.reduceSub, Nat.reduceMul]
  refine r_cN hk1 (sem_cut fun k2 hk2 => ?_)
  rcases Bool.eq_false_or_eq_true (v1.Op == v2.Op) with g3 | g3
  · replace h := cond_t h g3
    obtain ⟨v3, c4H, h⟩ := bind_some' h
    repeat' (first | with_reducible refine And.intro ?_ ?_ | ((with_reducible refine i_call (n := 48) ?_); refine call_openF [] ?_) | ((with_reducible refine i_callW (n := 48) ?_); refine callW_use (con_slices_Equal_impl_DevArg_impl_DevArg v1.Args v2.Args v3 c4H) ?_; rintro x σ' ⟨rfl, rfl⟩ <;> ((refine ⟨?_, ?_⟩; (focus simp (decide := true) only [go_sem, reduceIte, Nat.reduceAdd, Int.reduceToNat, Nat.reduceSub, Nat.reduceMul, g3])); (with_reducible refine behind_go ?_))) | exact True.intro | with_reducible assumption | exact fun hf => False.elim hf | (intro hg; first | (simp +contextual [hg]; done) | grind) | omega | simp (decide := true) only [go_sem, reduceIte, Nat.reduceAdd, Int.reduceToNat, Nat.reduceSub, Nat.reduceMul, g3])
    refine r_cN hk2 (r_ret ?_)
    obtain rfl := Option.some.inj h
    refine r_eAR hQ rfl rfl ?_
    simp (decide := true) only [go_sem, reduceIte, Nat.reduceAdd, Int.reduceToNat, Nat.reduceSub, Nat.reduceMul]
    all_goals first | exact wkEnd_same ⟨rfl, rfl⟩ | exact True.intro
  · replace h := cond_f h g3
    repeat' (first | with_reducible refine And.intro ?_ ?_ | exact True.intro | with_reducible assumption | exact fun hf => False.elim hf | (intro hg; first | (simp +contextual [hg]; done) | grind) | omega | simp (decide := true) only [go_sem, reduceIte, Nat.reduceAdd, Int.reduceToNat, Nat.reduceSub, Nat.reduceMul, g3])
    refine r_cN hk2 (r_ret ?_)
    obtain rfl := Option.some.inj h
    refine r_eAR hQ rfl rfl ?_
    simp (decide := true) only [go_sem, reduceIte, Nat.reduceAdd, Int.reduceToNat, Nat.reduceSub, Nat.reduceMul]
    all_goals first | exact wkEnd_same ⟨rfl, rfl⟩ | exact True.intro
noncomputable def impl_ListSame_1 (v1 : Inst) (v2 : Inst) : Option Bool :=
  (cond (v1.Code == v2.Code) (Option.bind (impl_elemSame (⟨v1.One_Op, v1.One_Args⟩ : Elem) (⟨v2.One_Op, v2.One_Args⟩ : Elem)) fun v3 => (some v3)) (some false))
set_option maxRecDepth 10000 in
set_option maxHeartbeats 4000000 in
theorem con_impl_ListSame_1 (v1 : Inst) (v2 : Inst) (res_ : Bool) (h : impl_ListSame_1 v1 v2 = some res_) : Con Tryd.prog C0 26 [.agg [.sc (.int .i64 (v1.Code)), .sc (.int .i64 (v1.One_Op)), .fz 3 (R e_DevArg (v1.One_Args))], .agg [.sc (.int .i64 (v2.Code)), .sc (.int .i64 (v2.One_Op)), .fz 3 (R e_DevArg (v2.One_Args))]] []
    (fun x σ' => x = .sc (.bool (res_)) ∧ σ' = []) := by
  refine con_of_sem hP [0, 1, 2, 3, 4] [.tmp 4] Tryd.func26 (by unfold Tryd.f26; rfl) rfl rfl (Nat.le_of_ble_eq_true rfl) rfl ?_
  simp only [enter_cons, enter_nil, List.length_cons, List.length_nil, Nat.reduceAdd]
  generalize hQ : endQ _ _ _ _ = Q
  unfold impl_ListSame_1 at h
  refine sem_cut fun k1 hk1 => ?_
  simp (decide := true) only [go_sem, reduceIte, Nat.reduceAdd, Int.reduceToNat, Nat.reduceSub, Nat.reduceMul]
  refine r_cN hk1 (sem_cut fun k2 hk2 => ?_)
  rcases Bool.eq_false_or_eq_true (v1.Code == v2.Code) with g3 | g3
  · replace h := cond_t h g3
    obtain ⟨v3, c4H, h⟩ := bind_some' h
    repeat' (first | with_reducible refine And.intro ?_ ?_ | ((with_reducible refine i_call (n := 27) ?_); refine call_openF [] ?_) | ((with_reducible refine i_callW (n := 27) ?_); refine callW_use (con_impl_elemSame (⟨v1.One_Op, v1.One_Args⟩ : Elem) (⟨v2.One_Op, v2.One_Args⟩ : Elem) v3 c4H) ?_; rintro x σ' ⟨rfl, rfl⟩ <;> ((refine ⟨?_, ?_⟩; (focus simp (decide := true) only [go_sem, reduceIte, Nat.reduceAdd, Int.reduceToNat, Nat.reduceSub, Nat.reduceMul, g3])); (with_reducible refine behind_go ?_))) | exact True.intro | with_reducible assumption | exact fun hf => False.elim hf | (intro hg; first | (simp +contextual [hg]; done) | grind) | omega | simp (decide := true) only [go_sem, reduceIte, Nat.reduceAdd, Int.reduceToNat, Nat.reduceSub, Nat.reduceMul, g3])
    refine r_cN hk2 (r_ret ?_)
    obtain rfl := Option.some.inj h
    refine r_eAR hQ rfl rfl ?_
    simp (decide := true) only [go_sem, reduceIte, Nat.reduceAdd, Int.reduceToNat, Nat.reduceSub, Nat.reduceMul]
    all_goals first | exact wkEnd_same ⟨rfl, rfl⟩ | exact True.intro
  · replace h := cond_f h g3
    repeat' (first | with_reducible refine And.intro ?_ ?_ | exact True.intro | with_reducible assumption | exact fun hf => False.elim hf | (intro hg; first | (simp +contextual [hg]; done) | grind) | omega | simp (decide := true) only [go_sem, reduceIte, Nat.reduceAdd, Int.reduceToNat, Nat.reduceSub, Nat.reduceMul, g3])
    refine r_cN hk2 (r_ret ?_)
    obtain rfl := Option.some.inj h
    refine r_eAR hQ rfl rfl ?_
    simp (decide := true) only [go_sem, reduceIte, Nat.reduceAdd, Int.reduceToNat, Nat.reduceSub, Nat.reduceMul]
    all_goals first | exact wkEnd_same ⟨rfl, rfl⟩ | exact True.intro
noncomputable def slices_EqualFunc_impl_Inst_impl_Inst_impl_Inst_impl_Inst_fimpl_ListSame_1_j11 : Unit → Option Bool
  | () => (some true)
noncomputable def slices_EqualFunc_impl_Inst_impl_Inst_impl_Inst_impl_Inst_fimpl_ListSame_1_s15 (v1 : (List Inst)) (v2 : (List Inst)) : Int → Option (Int ⊕ (Unit ⊕ Unit))
  | v18 => (cond (decide (v18 < ((v1).length : Int))) (Option.bind (idx v1 (v18)) fun v24 => (Option.bind (idx v2 (v18)) fun v25 => (Option.bind (impl_ListSame_1 v24 v25) fun v26 => (cond (!v26) (some (.inr (.inl ()))) (some (.inl (IntKind.i64.wrap (v18 + 1)))))))) (some (.inr (.inr ()))))
noncomputable def slices_EqualFunc_impl_Inst_impl_Inst_impl_Inst_impl_Inst_fimpl_ListSame_1 (v1 : (List Inst)) (v2 : (List Inst)) : Option Bool :=
  (cond (((v1).length : Int) != ((v2).length : Int)) (some false) ((loop (slices_EqualFunc_impl_Inst_impl_Inst_impl_Inst_impl_Inst_fimpl_ListSame_1_s15 v1 v2) 0).bind (Sum.elim (fun v22 => (some false)) (fun v23 => (slices_EqualFunc_impl_Inst_impl_Inst_impl_Inst_impl_Inst_fimpl_ListSame_1_j11 ())))))
set_option maxRecDepth 10000 in
set_option maxHeartbeats 4000000 in
theorem con_slices_EqualFunc_impl_Inst_impl_Inst_impl_Inst_impl_Inst_fimpl_ListSame_1 (v1 : (List Inst)) (v2 : (List Inst)) (res_ : Bool) (h : slices_EqualFunc_impl_Inst_impl_Inst_impl_Inst_impl_Inst_fimpl_ListSame_1 v1 v2 = some res_) : Con Tryd.prog C0 25 [.fz 3 (R e_Inst (v1)), .fz 3 (R e_Inst (v2)), .sc (.func (.func 26) #[] #[])] []
    (fun x σ' => x = .sc (.bool (res_)) ∧ σ' = []) := by
  refine con_of_sem hP [0, 1, 2, 6, 7, 8, 9, 14, 15, 16, 17, 18, 30] [.tmp 6] Tryd.func25 (by unfold Tryd.f25; rfl) rfl rfl (Nat.le_of_ble_eq_true rfl) rfl ?_
  simp only [enter_cons, enter_nil, List.length_cons, List.length_nil, Nat.reduceAdd]
  generalize hQ : endQ _ _ _ _ = Q
  unfold slices_EqualFunc_impl_Inst_impl_Inst_impl_Inst_impl_Inst_fimpl_ListSame_1 at h
  refine sem_cut fun k1 hk1 => ?_
  simp (decide := true) only [go_sem, reduceIte, Nat.reduceAdd, Int.reduceToNat, Nat.reduceSub, Nat.reduceMul]
  refine r_cN hk1 (sem_cut fun k2 hk2 => ?_)
  refine sem_cut fun k3 hk3 => ?_
  simp (decide := true) only [go_sem, reduceIte, Nat.reduceAdd, Int.reduceToNat, Nat.reduceSub, Nat.reduceMul]
  refine r_cN hk3 ?_
  refine sem_ifh rfl h ?_ ?_ <;> clear h <;> intro h
  · refine sem_cut fun k4 hk4 => ?_
    simp (decide := true) only [go_sem, reduceIte, Nat.reduceAdd, Int.reduceToNat, Nat.reduceSub, Nat.reduceMul]
    refine r_cN hk4 (r_ret ?_)
    refine r_cR hk2 ?_
    obtain rfl := Option.some.inj h
    refine r_eAR hQ rfl rfl ?_
    simp (decide := true) only [go_sem, reduceIte, Nat.reduceAdd, Int.reduceToNat, Nat.reduceSub, Nat.reduceMul]
    all_goals first | exact wkEnd_same ⟨rfl, rfl⟩ | exact True.intro
  · refine r_skip (r_cN hk2 ?_)
    refine sem_cutJ (fun (_ : Unit) (x : Unit) => (⟨[], []⟩ : St)) (fun (_ : Unit) (x : Unit) => slices_EqualFunc_impl_Inst_impl_Inst_impl_Inst_impl_Inst_fimpl_ListSame_1_j11 x = some res_) ?_ ?_
    · rintro _ _ h
      simp only [slices_EqualFunc_impl_Inst_impl_Inst_impl_Inst_impl_Inst_fimpl_ListSame_1_j11] at h
      refine sem_cut fun k41 hk41 => ?_
      simp (decide := true) only [go_sem, reduceIte, Nat.reduceAdd, Int.reduceToNat, Nat.reduceSub, Nat.reduceMul]
      refine r_cN hk41 (r_ret ?_)
      obtain rfl := Option.some.inj h
      refine r_eAR hQ rfl rfl ?_
      simp (decide := true) only [go_sem, reduceIte, Nat.reduceAdd, Int.reduceToNat, Nat.reduceSub, Nat.reduceMul]
      all_goals first | exact wkEnd_same ⟨rfl, rfl⟩ | exact True.intro
    · intro k43 hk43 J42
      refine sem_cut fun k44 hk44 => ?_
      simp (decide := true) only [go_sem, reduceIte, Nat.reduceAdd, Int.reduceToNat, Nat.reduceSub, Nat.reduceMul]
      refine r_cN hk44 (sem_blk fun k45 hk45 => ?_)
      obtain ⟨oq68, hLq68, hKq68⟩ := bind_some' h
      clear h
      refine sem_loopP [1, 2, 15, 16, 17] (fun (_ : Unit) (x : Int) => (⟨[(1, .fz 3 (R e_Inst (v2))), (2, .sc (.func (.func 26) #[] #[])), (15, .fz 3 (R e_Inst (v1))), (16, .sc (.int .i64 (((v1).length : Int)))), (17, .sc (.int .i64 (x)))], []⟩ : St)) (fun (_ : Unit) (x : Int) => True) (slices_EqualFunc_impl_Inst_impl_Inst_impl_Inst_impl_Inst_fimpl_ListSame_1_s15 v1 v2) () 0 hLq68 (by rfl) (by rfl) ⟨?_, trivial⟩ ?_
      · first | exact wkSt_same rfl | (simp (decide := true) only [go_sem, reduceIte, Nat.reduceAdd, Int.reduceToNat, Nat.reduceSub, Nat.reduceMul]; exact wkSt_same rfl)
      · rintro nq68 _ v18 xq68 kq68 hkq68 - h hIq68 hEq68
        simp only [slices_EqualFunc_impl_Inst_impl_Inst_impl_Inst_impl_Inst_fimpl_ListSame_1_s15] at h
        refine sem_cut fun k69 hk69 => ?_
        simp (decide := true) only [go_sem, reduceIte, Nat.reduceAdd, Int.reduceToNat, Nat.reduceSub, Nat.reduceMul]
        refine r_cN hk69 (sem_cut fun k70 hk70 => ?_)
        refine sem_ifh rfl h ?_ ?_ <;> clear h <;> intro h
        · refine r_skip (r_cN hk70 ?_)
          refine sem_cut fun k71 hk71 => sem_blk fun k72 hk72 => sem_cut fun k73 hk73 => ?_
          obtain ⟨v24, c74H, h⟩ := bind_some' h
          obtain ⟨c74A, c74B, c74C, -⟩ := idx_some c74H
          repeat' (first | with_reducible refine And.intro ?_ ?_ | exact True.intro | with_reducible assumption | exact fun hf => False.elim hf | (intro hg; first | (simp +contextual [hg]; done) | grind) | omega | simp (decide := true) only [go_sem, reduceIte, Nat.reduceAdd, Int.reduceToNat, Nat.reduceSub, Nat.reduceMul, c74A, c74B, c74C])
          refine r_cN hk73 (sem_cut fun k75 hk75 => ?_)
          obtain ⟨v25, c76H, h⟩ := bind_some' h
          obtain ⟨c76A, c76B, c76C, -⟩ := idx_some c76H
          repeat' (first | with_reducible refine And.intro ?_ ?_ | exact True.intro | with_reducible assumption | exact fun hf => False.elim hf | (intro hg; first | (simp +contextual [hg]; done) | grind) | omega | simp (decide := true) only [go_sem, reduceIte, Nat.reduceAdd, Int.reduceToNat, Nat.reduceSub, Nat.reduceMul, c76A, c76B, c76C])
          refine r_cN hk75 (sem_cut fun k77 hk77 => ?_)
          obtain ⟨v26, c78H, h⟩ := bind_some' h
          repeat' (first | with_reducible refine And.intro ?_ ?_ | ((with_reducible refine i_call (n := 26) ?_); refine call_openF [] ?_) | ((with_reducible refine i_callW (n := 26) ?_); refine callW_use (con_impl_ListSame_1 v24 v25 v26 c78H) ?_; rintro x σ' ⟨rfl, rfl⟩ <;> ((refine ⟨?_, ?_⟩; (focus simp (decide := true) only [go_sem, reduceIte, Nat.reduceAdd, Int.reduceToNat, Nat.reduceSub, Nat.reduceMul])); (with_reducible refine behind_go ?_))) | exact True.intro | with_reducible assumption | exact fun hf => False.elim hf | (intro hg; first | (simp +contextual [hg]; done) | grind) | omega | simp (decide := true) only [go_sem, reduceIte, Nat.reduceAdd, Int.reduceToNat, Nat.reduceSub, Nat.reduceMul])
          refine r_cN hk77 ?_
          refine sem_ifh rfl h ?_ ?_ <;> clear h <;> intro h
          · refine sem_cut fun k79 hk79 => ?_
            simp (decide := true) only [go_sem, reduceIte, Nat.reduceAdd, Int.reduceToNat, Nat.reduceSub, Nat.reduceMul]
            refine r_cN hk79 (r_ret ?_)
            refine r_bR hk72 (r_cR hk71 ?_)
            obtain rfl := Option.some.inj h
            obtain rfl := hEq68 _ rfl
            have h := hKq68
            try simp only [Sum.elim_inl, Sum.elim_inr] at h
            refine r_kR hkq68 (r_bR hk45 ?_)
            refine r_jR hk43 ?_
            obtain rfl := Option.some.inj h
            refine r_eAR hQ rfl rfl ?_
            simp (decide := true) only [go_sem, reduceIte, Nat.reduceAdd, Int.reduceToNat, Nat.reduceSub, Nat.reduceMul]
            all_goals first | exact wkEnd_same ⟨rfl, rfl⟩ | exact True.intro
          · refine r_skip (r_bN hk72 ?_)
            refine r_cN hk71 ?_
            simp (decide := true) only [go_sem, reduceIte, Nat.reduceAdd, Int.reduceToNat, Nat.reduceSub, Nat.reduceMul]
            obtain rfl := Option.some.inj h
            subst hkq68
            refine r_backP () _ rfl rfl ⟨?_, trivial⟩ (hIq68 _ rfl)
            first | exact wkSt_same rfl | (simp (decide := true) only [go_sem, reduceIte, Nat.reduceAdd, Int.reduceToNat, Nat.reduceSub, Nat.reduceMul]; exact wkSt_same rfl)
        · refine r_exit (r_cE hk70 ?_)
          obtain rfl := Option.some.inj h
          obtain rfl := hEq68 _ rfl
          have h := hKq68
          try simp only [Sum.elim_inl, Sum.elim_inr] at h
          refine r_kE hkq68 (r_bE hk45 ?_)
          refine r_joinU J42 [] () _ rfl rfl ⟨?_, h⟩
          first | exact wkSt_same rfl | (simp (decide := true) only [go_sem, reduceIte, Nat.reduceAdd, Int.reduceToNat, Nat.reduceSub, Nat.reduceMul]; exact wkSt_same rfl)
noncomputable def impl_ListSame (v1 : (List Inst)) (v2 : (List Inst)) : Option Bool :=
  (Option.bind (slices_EqualFunc_impl_Inst_impl_Inst_impl_Inst_impl_Inst_fimpl_ListSame_1 v1 v2) fun v3 => (some v3))
set_option maxRecDepth 10000 in
set_option maxHeartbeats 4000000 in
theorem con_impl_ListSame (v1 : (List Inst)) (v2 : (List Inst)) (res_ : Bool) (h : impl_ListSame v1 v2 = some res_) : Con Tryd.prog C0 9 [.fz 3 (R e_Inst (v1)), .fz 3 (R e_Inst (v2))] []
    (fun x σ' => x = .sc (.bool (res_)) ∧ σ' = []) := by
  refine con_of_sem hP [0, 1, 4] [.tmp 4] Tryd.func9 (by unfold Tryd.f9; rfl) rfl rfl (Nat.le_of_ble_eq_true rfl) rfl ?_
  simp only [enter_cons, enter_nil, List.length_cons, List.length_nil, Nat.reduceAdd]
  generalize hQ : endQ _ _ _ _ = Q
  unfold impl_ListSame at h
  refine sem_cut fun k1 hk1 => ?_
  simp (decide := true) only [go_sem, reduceIte, Nat.reduceAdd, Int.reduceToNat, Nat.reduceSub, Nat.reduceMul]
  refine r_cN hk1 (sem_cut fun k2 hk2 => ?_)
  obtain ⟨v3, c3H, h⟩ := bind_some' h
  repeat' (first | with_reducible refine And.intro ?_ ?_ | ((with_reducible refine i_call (n := 25) ?_); refine call_openF [] ?_) | ((with_reducible refine i_callW (n := 25) ?_); refine callW_use (con_slices_EqualFunc_impl_Inst_impl_Inst_impl_Inst_impl_Inst_fimpl_ListSame_1 v1 v2 v3 c3H) ?_; rintro x σ' ⟨rfl, rfl⟩ <;> ((refine ⟨?_, ?_⟩; (focus simp (decide := true) only [go_sem, reduceIte, Nat.reduceAdd, Int.reduceToNat, Nat.reduceSub, Nat.reduceMul])); (with_reducible refine behind_go ?_))) | exact True.intro | with_reducible assumption | exact fun hf => False.elim hf | (intro hg; first | (simp +contextual [hg]; done) | grind) | omega | simp (decide := true) only [go_sem, reduceIte, Nat.reduceAdd, Int.reduceToNat, Nat.reduceSub, Nat.reduceMul])
  refine r_cN hk2 (r_ret ?_)
  obtain rfl := Option.some.inj h
  refine r_eAR hQ rfl rfl ?_
  simp (decide := true) only [go_sem, reduceIte, Nat.reduceAdd, Int.reduceToNat, Nat.reduceSub, Nat.reduceMul]
  all_goals first | exact wkEnd_same ⟨rfl, rfl⟩ | exact True.intro
noncomputable def laws_FnSureJoin_j21 (v3 : (List Inst)) (v4 : (List Inst)) (v5 : (List (List Inst))) (v6 : SureFault) : (List Inst) → Option Bool
  | v23 => (cond (!(v6.Code == 0)) (cond (((v5).length : Int) == 0) (Option.bind (impl_SureCheck v3) fun v24 => (some (decide (v24.Code > 0)))) (some false)) (Option.bind (impl_ListSame v23 v3) fun v25 => (cond (!v25) (some false) (Option.bind (spec_SureCheck v4) fun v26 => (cond ((decide (v26.Code > 0)) || (decide ((IntKind.i64.wrap (((v3).length : Int) + ((v4).length : Int))) > 1000))) (some true) (gd (apOk (v3).length 40) (gd (apOk ((v3 ++ v4)).length 40) (Option.bind (impl_SureCheck (v3 ++ v4)) fun v27 => (cond (v27.Code == 0) (Option.bind (impl_SureRungs (v3 ++ v4)) fun v28 => (Option.bind (impl_SureRungs v4) fun v29 => (some (((v28).length : Int) == (IntKind.i64.wrap (((v5).length : Int) + ((v29).length : Int))))))) (some false))))))))))
noncomputable def laws_FnSureJoin_s25 (v5 : (List (List Inst))) : ((List Inst) × Int) → Option (((List Inst) × Int) ⊕ (Unit ⊕ (List Inst)))
  | (v34, v35) => (cond (decide (v35 < ((v5).length : Int))) (Option.bind (idx v5 (v35)) fun v42 => (Option.bind (impl_SureCheck v42) fun v43 => (cond (decide (v43.Code > 0)) (some (.inr (.inl ()))) (Option.bind (impl_SureRungs v42) fun v44 => (cond (((v44).length : Int) != 1) (some (.inr (.inl ()))) (Option.bind (idx v5 (v35)) fun v45 => (gd (apOk ((v34 ++ v45)).length 40) (some (.inl ((v34 ++ v45), (IntKind.i64.wrap (v35 + 1)))))))))))) (some (.inr (.inr v34))))
noncomputable def laws_FnSureJoin (v1 : (List Int)) (v2 : (List Int)) : Option Bool :=
  (cond ((decide (((v1).length : Int) > 1048576)) || (decide (((v2).length : Int) > 1048576))) (some true) (Option.bind (spec_DrawSureRungs v1) fun v3 => (Option.bind (spec_DrawSureRungs v2) fun v4 => (Option.bind (impl_SureRungs v3) fun v5 => (Option.bind (spec_SureCheck v3) fun v6 => ((loop (laws_FnSureJoin_s25 v5) ([], 0)).bind (Sum.elim (fun v40 => (some false)) (fun v41 => (laws_FnSureJoin_j21 v3 v4 v5 v6 v41)))))))))
set_option maxRecDepth 10000 in
set_option maxHeartbeats 4000000 in
theorem con_laws_FnSureJoin (v1 : (List Int)) (v2 : (List Int)) (res_ : Bool) (h : laws_FnSureJoin v1 v2 = some res_) : Con Tryd.prog C0 3 [.fz 1 (R e_u8 (v1)), .fz 1 (R e_u8 (v2))] []
    (fun x σ' => x = .sc (.bool (res_)) ∧ σ' = []) := by
  refine con_of_sem hP [0, 1, 4, 5, 6, 7, 8, 9, 10, 11, 19, 34, 52, 60, 73, 85] [.tmp 4] Tryd.func3 (by unfold Tryd.f3; rfl) rfl rfl (Nat.le_of_ble_eq_true rfl) rfl ?_
  simp only [enter_cons, enter_nil, List.length_cons, List.length_nil, Nat.reduceAdd]
  generalize hQ : endQ _ _ _ _ = Q
  unfold laws_FnSureJoin at h
  refine sem_cut fun k1 hk1 => ?_
  simp (decide := true) only [go_sem, reduceIte, Nat.reduceAdd, Int.reduceToNat, Nat.reduceSub, Nat.reduceMul]
  refine r_cN hk1 (sem_cut fun k2 hk2 => ?_)
  refine sem_cut fun k3 hk3 => ?_
  repeat' (first | with_reducible refine And.intro ?_ ?_ | exact True.intro | with_reducible assumption | exact fun hf => False.elim hf | (intro hg; first | (simp +contextual [hg]; done) | grind) | omega | simp (decide := true) only [go_sem, reduceIte, Nat.reduceAdd, Int.reduceToNat, Nat.reduceSub, Nat.reduceMul])
  refine r_cN hk3 ?_
  refine sem_ifh rfl h ?_ ?_ <;> clear h <;> intro h
  · refine sem_cut fun k4 hk4 => ?_
    simp (decide := true) only [go_sem, reduceIte, Nat.reduceAdd, Int.reduceToNat, Nat.reduceSub, Nat.reduceMul]
    refine r_cN hk4 (r_ret ?_)
    refine r_cR hk2 ?_
    obtain rfl := Option.some.inj h
    refine r_eAR hQ rfl rfl ?_
    simp (decide := true) only [go_sem, reduceIte, Nat.reduceAdd, Int.reduceToNat, Nat.reduceSub, Nat.reduceMul]
    all_goals first | exact wkEnd_same ⟨rfl, rfl⟩ | exact True.intro
  · refine r_skip (r_cN hk2 ?_)
    refine sem_cut fun k5 hk5 => ?_
    obtain ⟨v3, c6H, h⟩ := bind_some' h
    repeat' (first | with_reducible refine And.intro ?_ ?_ | ((with_reducible refine i_call (n := 5) ?_); refine call_open [] ?_) | ((with_reducible refine i_callW (n := 5) ?_); refine callW_use (con_spec_DrawSureRungs v1 v3 c6H) ?_; rintro x σ' ⟨rfl, rfl⟩ <;> ((with_reducible refine behind_go ?_))) | exact True.intro | with_reducible assumption | exact fun hf => False.elim hf | (intro hg; first | (simp +contextual [hg]; done) | grind) | omega | simp (decide := true) only [go_sem, reduceIte, Nat.reduceAdd, Int.reduceToNat, Nat.reduceSub, Nat.reduceMul])
    refine r_cN hk5 (sem_cut fun k7 hk7 => ?_)
    obtain ⟨v4, c8H, h⟩ := bind_some' h
    repeat' (first | with_reducible refine And.intro ?_ ?_ | ((with_reducible refine i_call (n := 5) ?_); refine call_open [] ?_) | ((with_reducible refine i_callW (n := 5) ?_); refine callW_use (con_spec_DrawSureRungs v2 v4 c8H) ?_; rintro x σ' ⟨rfl, rfl⟩ <;> ((with_reducible refine behind_go ?_))) | exact True.intro | with_reducible assumption | exact fun hf => False.elim hf | (intro hg; first | (simp +contextual [hg]; done) | grind) | omega | simp (decide := true) only [go_sem, reduceIte, Nat.reduceAdd, Int.reduceToNat, Nat.reduceSub, Nat.reduceMul])
    refine r_cN hk7 (sem_cut fun k9 hk9 => ?_)
    obtain ⟨v5, c10H, h⟩ := bind_some' h
    repeat' (first | with_reducible refine And.intro ?_ ?_ | ((with_reducible refine i_call (n := 6) ?_); refine call_open [] ?_) | ((with_reducible refine i_callW (n := 6) ?_); refine callW_use (con_impl_SureRungs v3 v5 c10H) ?_; rintro x σ' ⟨rfl, rfl⟩ <;> ((with_reducible refine behind_go ?_))) | exact True.intro | with_reducible assumption | exact fun hf => False.elim hf | (intro hg; first | (simp +contextual [hg]; done) | grind) | omega | simp (decide := true) only [go_sem, reduceIte, Nat.reduceAdd, Int.reduceToNat, Nat.reduceSub, Nat.reduceMul])
    refine r_cN hk9 (sem_cut fun k11 hk11 => ?_)
    obtain ⟨v6, c12H, h⟩ := bind_some' h
    repeat' (first | with_reducible refine And.intro ?_ ?_ | ((with_reducible refine i_call (n := 7) ?_); refine call_openF [] ?_) | ((with_reducible refine i_callW (n := 7) ?_); refine callW_use (con_spec_SureCheck v3 v6 c12H) ?_; rintro x σ' ⟨rfl, rfl⟩ <;> ((refine ⟨?_, ?_⟩; (focus simp (decide := true) only [go_sem, reduceIte, Nat.reduceAdd, Int.reduceToNat, Nat.reduceSub, Nat.reduceMul])); (with_reducible refine behind_go ?_))) | exact True.intro | with_reducible assumption | exact fun hf => False.elim hf | (intro hg; first | (simp +contextual [hg]; done) | grind) | omega | simp (decide := true) only [go_sem, reduceIte, Nat.reduceAdd, Int.reduceToNat, Nat.reduceSub, Nat.reduceMul])
    refine r_cN hk11 (sem_cut fun k13 hk13 => ?_)
    simp (decide := true) only [go_sem, reduceIte, Nat.reduceAdd, Int.reduceToNat, Nat.reduceSub, Nat.reduceMul]
    refine r_cN hk13 (sem_cutJ (fun (_ : Unit) (x : (List Inst)) => (⟨[(5, .fz 3 (R e_Inst (v3))), (6, .fz 3 (R e_Inst (v4))), (7, .fz 1 (R e_L_Inst (v5))), (8, .sc (.bool ((v6.Code == 0)))), (9, .sl 0 0 ((x).length))], [.arr true 3 (R e_Inst (x))]⟩ : St)) (fun (_ : Unit) (x : (List Inst)) => laws_FnSureJoin_j21 v3 v4 v5 v6 x = some res_) ?_ ?_)
    · rintro _ v23 h
      simp only [laws_FnSureJoin_j21] at h
      refine sem_cut fun k59 hk59 => sem_cut fun k60 hk60 => ?_
      simp (decide := true) only [go_sem, reduceIte, Nat.reduceAdd, Int.reduceToNat, Nat.reduceSub, Nat.reduceMul]
      refine r_cN hk60 ?_
      refine sem_ifh rfl h ?_ ?_ <;> clear h <;> intro h
      · refine sem_cut fun k61 hk61 => ?_
        rcases Bool.eq_false_or_eq_true (((v5).length : Int) == 0) with g62 | g62
        · replace h := cond_t h g62
          obtain ⟨v24, c63H, h⟩ := bind_some' h
          repeat' (first | with_reducible refine And.intro ?_ ?_ | ((with_reducible refine i_call (n := 8) ?_); refine call_openF [] ?_) | ((with_reducible refine i_callW (n := 8) ?_); refine callW_use (con_impl_SureCheck v3 v24 c63H) ?_; rintro x σ' ⟨rfl, rfl⟩ <;> ((refine ⟨?_, ?_⟩; (focus simp (decide := true) only [go_sem, reduceIte, Nat.reduceAdd, Int.reduceToNat, Nat.reduceSub, Nat.reduceMul, g62])); (with_reducible refine behind_go ?_))) | exact True.intro | with_reducible assumption | exact fun hf => False.elim hf | (intro hg; first | (simp +contextual [hg]; done) | grind) | omega | simp (decide := true) only [go_sem, reduceIte, Nat.reduceAdd, Int.reduceToNat, Nat.reduceSub, Nat.reduceMul, g62])
          refine r_cN hk61 (r_ret ?_)
          refine r_cR hk59 ?_
          obtain rfl := Option.some.inj h
          refine r_eAR hQ rfl rfl ?_
          simp (decide := true) only [go_sem, reduceIte, Nat.reduceAdd, Int.reduceToNat, Nat.reduceSub, Nat.reduceMul]
          all_goals first | exact wkEnd_same ⟨rfl, rfl⟩ | exact True.intro
        · replace h := cond_f h g62
          repeat' (first | with_reducible refine And.intro ?_ ?_ | exact True.intro | with_reducible assumption | exact fun hf => False.elim hf | (intro hg; first | (simp +contextual [hg]; done) | grind) | omega | simp (decide := true) only [go_sem, reduceIte, Nat.reduceAdd, Int.reduceToNat, Nat.reduceSub, Nat.reduceMul, g62])
          refine r_cN hk61 (r_ret ?_)
          refine r_cR hk59 ?_
          obtain rfl := Option.some.inj h
          refine r_eAR hQ rfl rfl ?_
          simp (decide := true) only [go_sem, reduceIte, Nat.reduceAdd, Int.reduceToNat, Nat.reduceSub, Nat.reduceMul]
          all_goals first | exact wkEnd_same ⟨rfl, rfl⟩ | exact True.intro
      · refine r_skip (r_cN hk59 ?_)
        refine sem_cut fun k64 hk64 => sem_cut fun k65 hk65 => ?_
        obtain ⟨v25, c66H, h⟩ := bind_some' h
        repeat' (first | with_reducible refine And.intro ?_ ?_ | ((with_reducible refine i_call (n := 9) ?_); refine call_openF [] ?_) | ((with_reducible refine i_callW (n := 9) ?_); refine callW_use (con_impl_ListSame v23 v3 v25 c66H) ?_; rintro x σ' ⟨rfl, rfl⟩ <;> ((refine ⟨?_, ?_⟩; (focus simp (decide := true) only [go_sem, reduceIte, Nat.reduceAdd, Int.reduceToNat, Nat.reduceSub, Nat.reduceMul])); (with_reducible refine behind_go ?_))) | exact True.intro | with_reducible assumption | exact fun hf => False.elim hf | (intro hg; first | (simp +contextual [hg]; done) | grind) | omega | simp (decide := true) only [go_sem, reduceIte, Nat.reduceAdd, Int.reduceToNat, Nat.reduceSub, Nat.reduceMul])
        refine r_cN hk65 ?_
        refine sem_ifh rfl h ?_ ?_ <;> clear h <;> intro h
        · refine sem_cut fun k67 hk67 => ?_
          simp (decide := true) only [go_sem, reduceIte, Nat.reduceAdd, Int.reduceToNat, Nat.reduceSub, Nat.reduceMul]
          refine r_cN hk67 (r_ret ?_)
          refine r_cR hk64 ?_
          obtain rfl := Option.some.inj h
          refine r_eAR hQ rfl rfl ?_
          simp (decide := true) only [go_sem, reduceIte, Nat.reduceAdd, Int.reduceToNat, Nat.reduceSub, Nat.reduceMul]
          all_goals first | exact wkEnd_same ⟨rfl, rfl⟩ | exact True.intro
        · refine r_skip (r_cN hk64 ?_)
          refine sem_cut fun k68 hk68 => sem_cut fun k69 hk69 => ?_
          obtain ⟨v26, c70H, h⟩ := bind_some' h
          repeat' (first | with_reducible refine And.intro ?_ ?_ | ((with_reducible refine i_call (n := 7) ?_); refine call_openF [] ?_) | ((with_reducible refine i_callW (n := 7) ?_); refine callW_use (con_spec_SureCheck v4 v26 c70H) ?_; rintro x σ' ⟨rfl, rfl⟩ <;> ((refine ⟨?_, ?_⟩; (focus simp (decide := true) only [go_sem, reduceIte, Nat.reduceAdd, Int.reduceToNat, Nat.reduceSub, Nat.reduceMul])); (with_reducible refine behind_go ?_))) | exact True.intro | with_reducible assumption | exact fun hf => False.elim hf | (intro hg; first | (simp +contextual [hg]; done) | grind) | omega | simp (decide := true) only [go_sem, reduceIte, Nat.reduceAdd, Int.reduceToNat, Nat.reduceSub, Nat.reduceMul])
          refine r_cN hk69 ?_
          refine sem_ifh rfl h ?_ ?_ <;> clear h <;> intro h
          · refine sem_cut fun k71 hk71 => ?_
            simp (decide := true) only [go_sem, reduceIte, Nat.reduceAdd, Int.reduceToNat, Nat.reduceSub, Nat.reduceMul]
            refine r_cN hk71 (r_ret ?_)
            refine r_cR hk68 ?_
            obtain rfl := Option.some.inj h
            refine r_eAR hQ rfl rfl ?_
            simp (decide := true) only [go_sem, reduceIte, Nat.reduceAdd, Int.reduceToNat, Nat.reduceSub, Nat.reduceMul]
            all_goals first | exact wkEnd_same ⟨rfl, rfl⟩ | exact True.intro
          · refine r_skip (r_cN hk68 ?_)
            refine sem_cut fun k72 hk72 => ?_
            obtain ⟨g73, h⟩ := gd_some h
            have g73A := apOk_1 g73; have g73B := apOk_2 g73
            obtain ⟨g74, h⟩ := gd_some h
            have g74A := apOk_1 g74; have g74B := apOk_2 g74
            repeat' (first | with_reducible refine And.intro ?_ ?_ | exact True.intro | with_reducible assumption | exact fun hf => False.elim hf | (intro hg; first | (simp +contextual [hg]; done) | grind) | omega | simp (decide := true) only [go_sem, reduceIte, Nat.reduceAdd, Int.reduceToNat, Nat.reduceSub, Nat.reduceMul, g73A, g73B, g74A, g74B])
            refine r_cN hk72 (sem_cut fun k75 hk75 => ?_)
            obtain ⟨v27, c76H, h⟩ := bind_some' h
            rcases Bool.eq_false_or_eq_true (v27.Code == 0) with g77 | g77
            · replace h := cond_t h g77
              obtain ⟨v28, c78H, h⟩ := bind_some' h
              obtain ⟨v29, c79H, h⟩ := bind_some' h
              repeat' (first | with_reducible refine And.intro ?_ ?_ | ((with_reducible refine i_call (n := 8) ?_); refine call_openF [] ?_) | ((with_reducible refine i_callW (n := 8) ?_); refine callW_use (con_impl_SureCheck (v3 ++ v4) v27 c76H) ?_; rintro x σ' ⟨rfl, rfl⟩ <;> ((refine ⟨?_, ?_⟩; (focus simp (decide := true) only [go_sem, reduceIte, Nat.reduceAdd, Int.reduceToNat, Nat.reduceSub, Nat.reduceMul, g77])); (with_reducible refine behind_go ?_))) | ((with_reducible refine i_call (n := 6) ?_); refine call_open [] ?_) | ((with_reducible refine i_callW (n := 6) ?_); refine callW_use (con_impl_SureRungs (v3 ++ v4) v28 c78H) ?_; rintro x σ' ⟨rfl, rfl⟩ <;> ((with_reducible refine behind_go ?_))) | ((with_reducible refine i_callW (n := 6) ?_); refine callW_use (con_impl_SureRungs v4 v29 c79H) ?_; rintro x σ' ⟨rfl, rfl⟩ <;> ((with_reducible refine behind_go ?_))) | exact True.intro | with_reducible assumption | exact fun hf => False.elim hf | (intro hg; first | (simp +contextual [hg]; done) | grind) | omega | simp (decide := true) only [go_sem, reduceIte, Nat.reduceAdd, Int.reduceToNat, Nat.reduceSub, Nat.reduceMul, g77])
              refine r_cN hk75 (r_ret ?_)
              obtain rfl := Option.some.inj h
              refine r_eAR hQ rfl rfl ?_
              simp (decide := true) only [go_sem, reduceIte, Nat.reduceAdd, Int.reduceToNat, Nat.reduceSub, Nat.reduceMul]
              all_goals first | exact wkEnd_same ⟨rfl, rfl⟩ | exact True.intro
            · replace h := cond_f h g77
              repeat' (first | with_reducible refine And.intro ?_ ?_ | ((with_reducible refine i_call (n := 8) ?_); refine call_openF [] ?_) | ((with_reducible refine i_callW (n := 8) ?_); refine callW_use (con_impl_SureCheck (v3 ++ v4) v27 c76H) ?_; rintro x σ' ⟨rfl, rfl⟩ <;> ((refine ⟨?_, ?_⟩; (focus simp (decide := true) only [go_sem, reduceIte, Nat.reduceAdd, Int.reduceToNat, Nat.reduceSub, Nat.reduceMul, g77])); (with_reducible refine behind_go ?_))) | exact True.intro | with_reducible assumption | exact fun hf => False.elim hf | (intro hg; first | (simp +contextual [hg]; done) | grind) | omega | simp (decide := true) only [go_sem, reduceIte, Nat.reduceAdd, Int.reduceToNat, Nat.reduceSub, Nat.reduceMul, g77])
              refine r_cN hk75 (r_ret ?_)
              obtain rfl := Option.some.inj h
              refine r_eAR hQ rfl rfl ?_
              simp (decide := true) only [go_sem, reduceIte, Nat.reduceAdd, Int.reduceToNat, Nat.reduceSub, Nat.reduceMul]
              all_goals first | exact wkEnd_same ⟨rfl, rfl⟩ | exact True.intro
    · intro k81 hk81 J80
      refine sem_cut fun k82 hk82 => ?_
      simp (decide := true) only [go_sem, reduceIte, Nat.reduceAdd, Int.reduceToNat, Nat.reduceSub, Nat.reduceMul]
      refine r_cN hk82 (sem_blk fun k83 hk83 => ?_)
      obtain ⟨oq112, hLq112, hKq112⟩ := bind_some' h
      clear h
      refine sem_loopP [5, 6, 7, 8, 9, 10] (fun (_ : Unit) (x : ((List Inst) × Int)) => (⟨[(5, .fz 3 (R e_Inst (v3))), (6, .fz 3 (R e_Inst (v4))), (7, .fz 1 (R e_L_Inst (v5))), (8, .sc (.bool ((v6.Code == 0)))), (9, .sl 0 0 ((x.1).length)), (10, .sc (.int .i64 (x.2)))], [.arr true 3 (R e_Inst (x.1))]⟩ : St)) (fun (_ : Unit) (x : ((List Inst) × Int)) => True) (laws_FnSureJoin_s25 v5) () ([], 0) hLq112 (by rfl) (by rfl) ⟨?_, trivial⟩ ?_
      · first | exact wkSt_same rfl | (simp (decide := true) only [go_sem, reduceIte, Nat.reduceAdd, Int.reduceToNat, Nat.reduceSub, Nat.reduceMul]; exact wkSt_same rfl)
      · rintro nq112 _ ⟨v34, v35⟩ xq112 kq112 hkq112 - h hIq112 hEq112
        simp only [laws_FnSureJoin_s25] at h
        refine sem_cut fun k113 hk113 => sem_cut fun k114 hk114 => ?_
        simp (decide := true) only [go_sem, reduceIte, Nat.reduceAdd, Int.reduceToNat, Nat.reduceSub, Nat.reduceMul]
        refine r_cN hk114 ?_
        refine sem_ifh rfl h ?_ ?_ <;> clear h <;> intro h
        · refine r_skip (r_cN hk113 ?_)
          refine sem_cut fun k115 hk115 => sem_blk fun k116 hk116 => sem_cut fun k117 hk117 => sem_cut fun k118 hk118 => ?_
          obtain ⟨v42, c119H, h⟩ := bind_some' h
          obtain ⟨c119A, c119B, c119C, -⟩ := idx_some c119H
          obtain ⟨v43, c120H, h⟩ := bind_some' h
          rcases Bool.eq_false_or_eq_true (decide (v43.Code > 0)) with g121 | g121
          · replace h := cond_t h g121
            repeat' (first | with_reducible refine And.intro ?_ ?_ | ((with_reducible refine i_call (n := 8) ?_); refine call_openF [] ?_) | ((with_reducible refine i_callW (n := 8) ?_); refine callW_use (con_impl_SureCheck v42 v43 c120H) ?_; rintro x σ' ⟨rfl, rfl⟩ <;> ((refine ⟨?_, ?_⟩; (focus simp (decide := true) only [go_sem, reduceIte, Nat.reduceAdd, Int.reduceToNat, Nat.reduceSub, Nat.reduceMul, c119A, c119B, c119C, g121])); (with_reducible refine behind_go ?_))) | exact True.intro | with_reducible assumption | exact fun hf => False.elim hf | (intro hg; first | (simp +contextual [hg]; done) | grind) | omega | simp (decide := true) only [go_sem, reduceIte, Nat.reduceAdd, Int.reduceToNat, Nat.reduceSub, Nat.reduceMul, c119A, c119B, c119C, g121])
            refine r_cN hk118 (sem_ifT rfl ?_)
            try replace h := cond_t h rfl
            refine sem_cut fun k122 hk122 => ?_
            simp (decide := true) only [go_sem, reduceIte, Nat.reduceAdd, Int.reduceToNat, Nat.reduceSub, Nat.reduceMul]
            refine r_cN hk122 (r_ret ?_)
            refine r_cR hk117 (r_bR hk116 ?_)
            refine r_cR hk115 ?_
            obtain rfl := Option.some.inj h
            obtain rfl := hEq112 _ rfl
            have h := hKq112
            try simp only [Sum.elim_inl, Sum.elim_inr] at h
            refine r_kR hkq112 (r_bR hk83 ?_)
            refine r_jR hk81 ?_
            obtain rfl := Option.some.inj h
            refine r_eAR hQ rfl rfl ?_
            simp (decide := true) only [go_sem, reduceIte, Nat.reduceAdd, Int.reduceToNat, Nat.reduceSub, Nat.reduceMul]
            all_goals first | exact wkEnd_same ⟨rfl, rfl⟩ | exact True.intro
          · replace h := cond_f h g121
            obtain ⟨v44, c123H, h⟩ := bind_some' h
            repeat' (first | with_reducible refine And.intro ?_ ?_ | ((with_reducible refine i_call (n := 8) ?_); refine call_openF [] ?_) | ((with_reducible refine i_callW (n := 8) ?_); refine callW_use (con_impl_SureCheck v42 v43 c120H) ?_; rintro x σ' ⟨rfl, rfl⟩ <;> ((refine ⟨?_, ?_⟩; (focus simp (decide := true) only [go_sem, reduceIte, Nat.reduceAdd, Int.reduceToNat, Nat.reduceSub, Nat.reduceMul, c119A, c119B, c119C, g121])); (with_reducible refine behind_go ?_))) | ((with_reducible refine i_call (n := 6) ?_); refine call_open [] ?_) | ((with_reducible refine i_callW (n := 6) ?_); refine callW_use (con_impl_SureRungs v42 v44 c123H) ?_; rintro x σ' ⟨rfl, rfl⟩ <;> ((with_reducible refine behind_go ?_))) | exact True.intro | with_reducible assumption | exact fun hf => False.elim hf | (intro hg; first | (simp +contextual [hg]; done) | grind) | omega | simp (decide := true) only [go_sem, reduceIte, Nat.reduceAdd, Int.reduceToNat, Nat.reduceSub, Nat.reduceMul, c119A, c119B, c119C, g121])
            refine r_cN hk118 ?_
            refine sem_ifh rfl h ?_ ?_ <;> clear h <;> intro h
            · refine sem_cut fun k124 hk124 => ?_
              simp (decide := true) only [go_sem, reduceIte, Nat.reduceAdd, Int.reduceToNat, Nat.reduceSub, Nat.reduceMul]
              refine r_cN hk124 (r_ret ?_)
              refine r_cR hk117 (r_bR hk116 ?_)
              refine r_cR hk115 ?_
              obtain rfl := Option.some.inj h
              obtain rfl := hEq112 _ rfl
              have h := hKq112
              try simp only [Sum.elim_inl, Sum.elim_inr] at h
              refine r_kR hkq112 (r_bR hk83 ?_)
              refine r_jR hk81 ?_
              obtain rfl := Option.some.inj h
              refine r_eAR hQ rfl rfl ?_
              simp (decide := true) only [go_sem, reduceIte, Nat.reduceAdd, Int.reduceToNat, Nat.reduceSub, Nat.reduceMul]
              all_goals first | exact wkEnd_same ⟨rfl, rfl⟩ | exact True.intro
            · refine r_skip (r_cN hk117 ?_)
              obtain ⟨v45, c125H, h⟩ := bind_some' h
              obtain ⟨c125A, c125B, c125C, -⟩ := idx_some c125H
              obtain ⟨g126, h⟩ := gd_some h
              have g126A := apOk_1 g126; have g126B := apOk_2 g126
              repeat' (first | with_reducible refine And.intro ?_ ?_ | exact True.intro | with_reducible assumption | exact fun hf => False.elim hf | (intro hg; first | (simp +contextual [hg]; done) | grind) | omega | simp (decide := true) only [go_sem, reduceIte, Nat.reduceAdd, Int.reduceToNat, Nat.reduceSub, Nat.reduceMul, c125A, c125B, c125C, g126A, g126B])
              refine r_bN hk116 (r_cN hk115 ?_)
              simp (decide := true) only [go_sem, reduceIte, Nat.reduceAdd, Int.reduceToNat, Nat.reduceSub, Nat.reduceMul]
              obtain rfl := Option.some.inj h
              subst hkq112
              refine r_backP () _ rfl rfl ⟨?_, trivial⟩ (hIq112 _ rfl)
              first | exact wkSt_same rfl | (simp (decide := true) only [go_sem, reduceIte, Nat.reduceAdd, Int.reduceToNat, Nat.reduceSub, Nat.reduceMul]; exact wkSt_same rfl)
        · refine r_exit (r_cE hk113 ?_)
          obtain rfl := Option.some.inj h
          obtain rfl := hEq112 _ rfl
          have h := hKq112
          try simp only [Sum.elim_inl, Sum.elim_inr] at h
          refine r_kE hkq112 (r_bE hk83 ?_)
          refine r_joinU J80 [5, 6, 7, 8, 9] () _ rfl rfl ⟨?_, h⟩
          first | exact wkSt_same rfl | (simp (decide := true) only [go_sem, reduceIte, Nat.reduceAdd, Int.reduceToNat, Nat.reduceSub, Nat.reduceMul]; exact wkSt_same rfl)

end Go.AM
