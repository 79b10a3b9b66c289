/- Pure functions and their contracts. Conditions: none. -/
import Derived.Test.YtkafcijfljjlaaaAmQa3
set_option linter.unusedSimpArgs false
set_option linter.unusedVariables false
namespace Go.AM
open Go Go.Proofs
noncomputable def spec_l17Wrong_j35 : Unit → Option Int
  | () => (some 0)
noncomputable def spec_l17Wrong_s39 (v1 : Inst) : Int → Option (Int ⊕ (Unit ⊕ Unit))
  | v16 => (cond (decide (v16 < ((v1.One_Args).length : Int))) (Option.bind (idx v1.One_Args (v16)) fun v21 => (Option.bind (spec_l17Field v21) fun v22 => (cond (!v22) (some (.inr (.inl ()))) (some (.inl (IntKind.i64.wrap (v16 + 1))))))) (some (.inr (.inr ()))))
noncomputable def spec_l17Wrong (v1 : Inst) : Option Int :=
  (cond ((decide (v1.Code < 1)) || (decide (v1.Code > 11))) (some 2) (Option.bind (spec_l17Has v1.Code) fun v2 => (cond (!v2) (cond ((v1.One_Op != 0) || (decide (((v1.One_Args).length : Int) > 0))) (some 2) (some 0)) (Option.bind (spec_l17Known v1.Code v1.One_Op) fun v3 => (cond v3 (Option.bind (spec_ElemArity v1.One_Op) fun v4 => (cond (((v1.One_Args).length : Int) != v4) (some 2) ((loop (spec_l17Wrong_s39 v1) 0).bind (Sum.elim (fun v19 => (some 3)) (fun v20 => (spec_l17Wrong_j35 ())))))) (some 2))))))
set_option maxRecDepth 10000 in
set_option maxHeartbeats 4000000 in
theorem con_spec_l17Wrong (v1 : Inst) (res_ : Int) (h : spec_l17Wrong v1 = some res_) : Con Try.prog C0 82 [.agg [.sc (.int .i64 (v1.Code)), .sc (.int .i64 (v1.One_Op)), .fz 3 (R e_DevArg (v1.One_Args))]] []
    (fun x σ' => x = .sc (.int .i64 (res_)) ∧ σ' = []) := by
  refine con_of_sem hP [0, 1, 2, 3, 11, 15, 26, 44, 50, 60] [.tmp 2] Try.func82 (by unfold Try.f82; rfl) rfl rfl (Nat.le_of_ble_eq_true rfl) rfl ?_
  simp only [enter_cons, enter_nil, List.length_cons, List.length_nil, Nat.reduceAdd]
  generalize hQ : endQ _ _ _ _ = Q
  unfold spec_l17Wrong at h
  refine sem_cut fun k1 hk1 => ?_
  simp (decide := true) only [go_sem, reduceIte, Nat.reduceAdd, Int.reduceToNat, Nat.reduceSub, Nat.reduceMul]
  refine r_cN hk1 (sem_cut fun k2 hk2 => ?_)
  refine sem_cut fun k3 hk3 => ?_
  repeat' (first | with_reducible refine And.intro ?_ ?_ | exact True.intro | with_reducible assumption | exact fun hf => False.elim hf | (intro hg; first | (simp +contextual [hg]; done) | grind) | omega | simp (decide := true) only [go_sem, reduceIte, Nat.reduceAdd, Int.reduceToNat, Nat.reduceSub, Nat.reduceMul])
  refine r_cN hk3 ?_
  refine sem_ifh rfl h ?_ ?_ <;> clear h <;> intro h
  · refine sem_cut fun k4 hk4 => ?_
    simp (decide := true) only [go_sem, reduceIte, Nat.reduceAdd, Int.reduceToNat, Nat.reduceSub, Nat.reduceMul]
    refine r_cN hk4 (r_ret ?_)
    refine r_cR hk2 ?_
    obtain rfl := Option.some.inj h
    refine r_eAR hQ rfl rfl ?_
    simp (decide := true) only [go_sem, reduceIte, Nat.reduceAdd, Int.reduceToNat, Nat.reduceSub, Nat.reduceMul]
    all_goals first | exact wkEnd_same ⟨rfl, rfl⟩ | exact True.intro
  · refine r_skip (r_cN hk2 ?_)
    refine sem_cut fun k5 hk5 => sem_cut fun k6 hk6 => ?_
    obtain ⟨v2, c7H, h⟩ := bind_some' h
    repeat' (first | with_reducible refine And.intro ?_ ?_ | ((with_reducible refine i_call (n := 54) ?_); refine call_openF [] ?_) | ((with_reducible refine i_callW (n := 54) ?_); refine callW_use (con_spec_l17Has v1.Code v2 c7H) ?_; rintro x σ' ⟨rfl, rfl⟩ <;> ((refine ⟨?_, ?_⟩; (focus simp (decide := true) only [go_sem, reduceIte, Nat.reduceAdd, Int.reduceToNat, Nat.reduceSub, Nat.reduceMul])); (with_reducible refine behind_go ?_))) | exact True.intro | with_reducible assumption | exact fun hf => False.elim hf | (intro hg; first | (simp +contextual [hg]; done) | grind) | omega | simp (decide := true) only [go_sem, reduceIte, Nat.reduceAdd, Int.reduceToNat, Nat.reduceSub, Nat.reduceMul])
    refine r_cN hk6 ?_
    refine sem_ifh rfl h ?_ ?_ <;> clear h <;> intro h
    · refine sem_cut fun k8 hk8 => sem_cut fun k9 hk9 => ?_
      repeat' (first | with_reducible refine And.intro ?_ ?_ | exact True.intro | with_reducible assumption | exact fun hf => False.elim hf | (intro hg; first | (simp +contextual [hg]; done) | grind) | omega | simp (decide := true) only [go_sem, reduceIte, Nat.reduceAdd, Int.reduceToNat, Nat.reduceSub, Nat.reduceMul])
      refine r_cN hk9 ?_
      refine sem_ifh rfl h ?_ ?_ <;> clear h <;> intro h
      · refine sem_cut fun k10 hk10 => ?_
        simp (decide := true) only [go_sem, reduceIte, Nat.reduceAdd, Int.reduceToNat, Nat.reduceSub, Nat.reduceMul]
        refine r_cN hk10 (r_ret ?_)
        refine r_cR hk8 (r_cR hk5 ?_)
        obtain rfl := Option.some.inj h
        refine r_eAR hQ rfl rfl ?_
        simp (decide := true) only [go_sem, reduceIte, Nat.reduceAdd, Int.reduceToNat, Nat.reduceSub, Nat.reduceMul]
        all_goals first | exact wkEnd_same ⟨rfl, rfl⟩ | exact True.intro
      · refine r_skip (r_cN hk8 ?_)
        refine sem_cut fun k11 hk11 => ?_
        simp (decide := true) only [go_sem, reduceIte, Nat.reduceAdd, Int.reduceToNat, Nat.reduceSub, Nat.reduceMul]
        refine r_cN hk11 (r_ret ?_)
        refine r_cR hk5 ?_
        obtain rfl := Option.some.inj h
        refine r_eAR hQ rfl rfl ?_
        simp (decide := true) only [go_sem, reduceIte, Nat.reduceAdd, Int.reduceToNat, Nat.reduceSub, Nat.reduceMul]
        all_goals first | exact wkEnd_same ⟨rfl, rfl⟩ | exact True.intro
    · refine r_skip (r_cN hk5 ?_)
      refine sem_cut fun k12 hk12 => sem_cut fun k13 hk13 => ?_
      obtain ⟨v3, c14H, h⟩ := bind_some' h
      rcases Bool.eq_false_or_eq_true v3 with g15 | g15
      · replace h := cond_t h g15
        obtain ⟨v4, c16H, h⟩ := bind_some' h
        with_reducible refine sem_plan (id := 7) (.take 0 (.take 1 (.take 2 (.take 3 (.take 4 (.one 5 (.take 6 (.take 7 (.take 8 (.take 9 (.take 10 (.take 11 (.take 12 (.take 13 (.take 14 (.one 15 (.take 16 (.take 17 .done)))))))))))))))))) [0] ?_ ?_
        focus kernel_rfl
        repeat' (first | with_reducible refine And.intro ?_ ?_ | ((with_reducible refine i_call (n := 55) ?_); refine call_openF [] ?_) | ((with_reducible refine i_callW (n := 55) ?_); refine callW_use (con_spec_l17Known v1.Code v1.One_Op v3 c14H) ?_; rintro x σ' ⟨rfl, rfl⟩ <;> ((refine ⟨?_, ?_⟩; (focus simp (decide := true) only [go_sem, reduceIte, Nat.reduceAdd, Int.reduceToNat, Nat.reduceSub, Nat.reduceMul, g15])); (with_reducible refine behind_go ?_))) | ((with_reducible refine i_call (n := 56) ?_); refine call_openF [] ?_) | ((with_reducible refine i_callW (n := 56) ?_); refine callW_use (con_spec_ElemArity v1.One_Op v4 c16H) ?_; rintro x σ' ⟨rfl, rfl⟩ <;> ((refine ⟨?_, ?_⟩; (focus simp (decide := true) only [go_sem, reduceIte, Nat.reduceAdd, Int.reduceToNat, Nat.reduceSub, Nat.reduceMul, g15])); (with_reducible refine behind_go ?_))) | exact True.intro | with_reducible assumption | exact fun hf => False.elim hf | (intro hg; first | (simp +contextual [hg]; done) | grind) | omega | simp (decide := true) only [go_sem, reduceIte, Nat.reduceAdd, Int.reduceToNat, Nat.reduceSub, Nat.reduceMul, g15])
        refine r_cN hk13 ?_
        refine sem_ifh rfl h ?_ ?_ <;> clear h <;> intro h
        · refine sem_cut fun k17 hk17 => ?_
          simp (decide := true) only [go_sem, reduceIte, Nat.reduceAdd, Int.reduceToNat, Nat.reduceSub, Nat.reduceMul]
          refine r_cN hk17 (r_ret ?_)
          refine r_cR hk12 ?_
          obtain rfl := Option.some.inj h
          refine r_eAR hQ rfl rfl ?_
          simp (decide := true) only [go_sem, reduceIte, Nat.reduceAdd, Int.reduceToNat, Nat.reduceSub, Nat.reduceMul]
          all_goals first | exact wkEnd_same ⟨rfl, rfl⟩ | exact True.intro
        · refine r_skip (r_cN hk12 ?_)
          refine sem_cutJ (fun (_ : Unit) (x : Unit) => (⟨[], []⟩ : St)) (fun (_ : Unit) (x : Unit) => spec_l17Wrong_j35 x = some res_) ?_ ?_
          · rintro _ _ h
            simp only [spec_l17Wrong_j35] at h
            refine sem_cut fun k45 hk45 => ?_
            simp (decide := true) only [go_sem, reduceIte, Nat.reduceAdd, Int.reduceToNat, Nat.reduceSub, Nat.reduceMul]
            refine r_cN hk45 (r_ret ?_)
            obtain rfl := Option.some.inj h
            refine r_eAR hQ rfl rfl ?_
            simp (decide := true) only [go_sem, reduceIte, Nat.reduceAdd, Int.reduceToNat, Nat.reduceSub, Nat.reduceMul]
            all_goals first | exact wkEnd_same ⟨rfl, rfl⟩ | exact True.intro
          · intro k47 hk47 J46
            refine sem_cut fun k48 hk48 => ?_
            simp (decide := true) only [go_sem, reduceIte, Nat.reduceAdd, Int.reduceToNat, Nat.reduceSub, Nat.reduceMul]
            refine r_cN hk48 (sem_blk fun k49 hk49 => ?_)
            obtain ⟨oq66, hLq66, hKq66⟩ := bind_some' h
            clear h
            refine sem_loopP [1, 3] (fun (_ : Unit) (x : Int) => (⟨[(1, .pt 0 0), (3, .sc (.int .i64 (x)))], [.rc [.sc (.int .i64 (v1.Code)), .sc (.int .i64 (v1.One_Op)), .fz 3 (R e_DevArg (v1.One_Args))]]⟩ : St)) (fun (_ : Unit) (x : Int) => True) (spec_l17Wrong_s39 v1) () 0 hLq66 (by rfl) (by rfl) ⟨?_, trivial⟩ ?_
            · first | exact wkSt_same rfl | (simp (decide := true) only [go_sem, reduceIte, Nat.reduceAdd, Int.reduceToNat, Nat.reduceSub, Nat.reduceMul]; exact wkSt_same rfl)
            · rintro nq66 _ v16 xq66 kq66 hkq66 - h hIq66 hEq66
              simp only [spec_l17Wrong_s39] at h
              refine sem_cut fun k67 hk67 => sem_cut fun k68 hk68 => ?_
              simp (decide := true) only [go_sem, reduceIte, Nat.reduceAdd, Int.reduceToNat, Nat.reduceSub, Nat.reduceMul]
              refine r_cN hk68 ?_
              refine sem_ifh rfl h ?_ ?_ <;> clear h <;> intro h
              · refine r_skip (r_cN hk67 ?_)
                refine sem_cut fun k69 hk69 => sem_blk fun k70 hk70 => sem_cut fun k71 hk71 => ?_
                obtain ⟨v21, c72H, h⟩ := bind_some' h
                obtain ⟨c72A, c72B, c72C, -⟩ := idx_some c72H
                obtain ⟨v22, c73H, h⟩ := bind_some' h
                repeat' (first | with_reducible refine And.intro ?_ ?_ | ((with_reducible refine i_call (n := 99) ?_); refine call_openF [] ?_) | ((with_reducible refine i_callW (n := 99) ?_); refine callW_use (con_spec_l17Field v21 v22 c73H) ?_; rintro x σ' ⟨rfl, rfl⟩ <;> ((refine ⟨?_, ?_⟩; (focus simp (decide := true) only [go_sem, reduceIte, Nat.reduceAdd, Int.reduceToNat, Nat.reduceSub, Nat.reduceMul, c72A, c72B, c72C])); (with_reducible refine behind_go ?_))) | exact True.intro | with_reducible assumption | exact fun hf => False.elim hf | (intro hg; first | (simp +contextual [hg]; done) | grind) | omega | simp (decide := true) only [go_sem, reduceIte, Nat.reduceAdd, Int.reduceToNat, Nat.reduceSub, Nat.reduceMul, c72A, c72B, c72C])
                refine r_cN hk71 ?_
                refine sem_ifh rfl h ?_ ?_ <;> clear h <;> intro h
                · refine sem_cut fun k74 hk74 => ?_
                  simp (decide := true) only [go_sem, reduceIte, Nat.reduceAdd, Int.reduceToNat, Nat.reduceSub, Nat.reduceMul]
                  refine r_cN hk74 (r_ret ?_)
                  refine r_bR hk70 (r_cR hk69 ?_)
                  obtain rfl := Option.some.inj h
                  obtain rfl := hEq66 _ rfl
                  have h := hKq66
                  try simp only [Sum.elim_inl, Sum.elim_inr] at h
                  refine r_kR hkq66 (r_bR hk49 ?_)
                  refine r_jR hk47 ?_
                  obtain rfl := Option.some.inj h
                  refine r_eAR hQ rfl rfl ?_
                  simp (decide := true) only [go_sem, reduceIte, Nat.reduceAdd, Int.reduceToNat, Nat.reduceSub, Nat.reduceMul]
                  all_goals first | exact wkEnd_same ⟨rfl, rfl⟩ | exact True.intro
                · refine r_skip (r_bN hk70 ?_)
                  refine r_cN hk69 ?_
                  simp (decide := true) only [go_sem, reduceIte, Nat.reduceAdd, Int.reduceToNat, Nat.reduceSub, Nat.reduceMul]
                  obtain rfl := Option.some.inj h
                  subst hkq66
                  refine r_backP () _ rfl rfl ⟨?_, trivial⟩ (hIq66 _ rfl)
                  first | exact wkSt_same rfl | (simp (decide := true) only [go_sem, reduceIte, Nat.reduceAdd, Int.reduceToNat, Nat.reduceSub, Nat.reduceMul]; exact wkSt_same rfl)
              · refine r_exit (r_cE hk67 ?_)
                obtain rfl := Option.some.inj h
                obtain rfl := hEq66 _ rfl
                have h := hKq66
                try simp only [Sum.elim_inl, Sum.elim_inr] at h
                refine r_kE hkq66 (r_bE hk49 ?_)
                refine r_joinU J46 [] () _ rfl rfl ⟨?_, h⟩
                first | exact wkSt_same rfl | (simp (decide := true) only [go_sem, reduceIte, Nat.reduceAdd, Int.reduceToNat, Nat.reduceSub, Nat.reduceMul]; exact wkSt_same rfl)
      · replace h := cond_f h g15
        with_reducible refine sem_plan (id := 7) (.take 0 (.take 1 (.take 2 (.take 3 (.take 4 (.one 5 (.take 6 (.take 7 (.take 8 (.take 9 (.take 10 (.take 11 (.take 12 (.take 13 (.take 14 (.one 15 (.take 16 (.take 17 .done)))))))))))))))))) [0] ?_ ?_
        focus kernel_rfl
        repeat' (first | with_reducible refine And.intro ?_ ?_ | ((with_reducible refine i_call (n := 55) ?_); refine call_openF [] ?_) | ((with_reducible refine i_callW (n := 55) ?_); refine callW_use (con_spec_l17Known v1.Code v1.One_Op v3 c14H) ?_; rintro x σ' ⟨rfl, rfl⟩ <;> ((refine ⟨?_, ?_⟩; (focus simp (decide := true) only [go_sem, reduceIte, Nat.reduceAdd, Int.reduceToNat, Nat.reduceSub, Nat.reduceMul, g15])); (with_reducible refine behind_go ?_))) | exact True.intro | with_reducible assumption | exact fun hf => False.elim hf | (intro hg; first | (simp +contextual [hg]; done) | grind) | omega | simp (decide := true) only [go_sem, reduceIte, Nat.reduceAdd, Int.reduceToNat, Nat.reduceSub, Nat.reduceMul, g15])
        refine r_cN hk13 (sem_ifT rfl ?_)
        try replace h := cond_t h rfl
        refine sem_cut fun k75 hk75 => ?_
        simp (decide := true) only [go_sem, reduceIte, Nat.reduceAdd, Int.reduceToNat, Nat.reduceSub, Nat.reduceMul]
        refine r_cN hk75 (r_ret ?_)
        refine r_cR hk12 ?_
        obtain rfl := Option.some.inj h
        refine r_eAR hQ rfl rfl ?_
        simp (decide := true) only [go_sem, reduceIte, Nat.reduceAdd, Int.reduceToNat, Nat.reduceSub, Nat.reduceMul]
        all_goals first | exact wkEnd_same ⟨rfl, rfl⟩ | exact True.intro
noncomputable def spec_l17Wide (v1 : Int) : Option Int :=
  (cond (v1 == 11) (some 2) (cond (v1 == 12) (some 4) (some 1)))
set_option maxRecDepth 10000 in
set_option maxHeartbeats 4000000 in
theorem con_spec_l17Wide (v1 : Int) (res_ : Int) (h : spec_l17Wide v1 = some res_) : Con Try.prog C0 77 [.sc (.int .i64 (v1))] []
    (fun x σ' => x = .sc (.int .i64 (res_)) ∧ σ' = []) := by
  refine con_of_sem hP [0, 2, 3, 4, 6] [.tmp 2] Try.func77 (by unfold Try.f77; rfl) rfl rfl (Nat.le_of_ble_eq_true rfl) rfl ?_
  simp only [enter_cons, enter_nil, List.length_cons, List.length_nil, Nat.reduceAdd]
  generalize hQ : endQ _ _ _ _ = Q
  unfold spec_l17Wide at h
  refine sem_cut fun k1 hk1 => ?_
  simp (decide := true) only [go_sem, reduceIte, Nat.reduceAdd, Int.reduceToNat, Nat.reduceSub, Nat.reduceMul]
  refine r_cN hk1 (sem_cut fun k2 hk2 => ?_)
  refine sem_cut fun k3 hk3 => ?_
  simp (decide := true) only [go_sem, reduceIte, Nat.reduceAdd, Int.reduceToNat, Nat.reduceSub, Nat.reduceMul]
  refine r_cN hk3 (sem_blk fun k4 hk4 => ?_)
  refine sem_cut fun k5 hk5 => ?_
  simp (decide := true) only [go_sem, reduceIte, Nat.reduceAdd, Int.reduceToNat, Nat.reduceSub, Nat.reduceMul]
  refine r_cN hk5 ?_
  refine sem_ifh rfl h ?_ ?_ <;> clear h <;> intro h
  · refine sem_cut fun k6 hk6 => ?_
    simp (decide := true) only [go_sem, reduceIte, Nat.reduceAdd, Int.reduceToNat, Nat.reduceSub, Nat.reduceMul]
    refine r_cN hk6 (r_ret ?_)
    refine r_bR hk4 (r_cR hk2 ?_)
    obtain rfl := Option.some.inj h
    refine r_eAR hQ rfl rfl ?_
    simp (decide := true) only [go_sem, reduceIte, Nat.reduceAdd, Int.reduceToNat, Nat.reduceSub, Nat.reduceMul]
    all_goals first | exact wkEnd_same ⟨rfl, rfl⟩ | exact True.intro
  · refine sem_cut fun k7 hk7 => ?_
    simp (decide := true) only [go_sem, reduceIte, Nat.reduceAdd, Int.reduceToNat, Nat.reduceSub, Nat.reduceMul]
    refine r_cN hk7 ?_
    refine sem_ifh rfl h ?_ ?_ <;> clear h <;> intro h
    · refine sem_cut fun k8 hk8 => ?_
      simp (decide := true) only [go_sem, reduceIte, Nat.reduceAdd, Int.reduceToNat, Nat.reduceSub, Nat.reduceMul]
      refine r_cN hk8 (r_ret ?_)
      refine r_bR hk4 (r_cR hk2 ?_)
      obtain rfl := Option.some.inj h
      refine r_eAR hQ rfl rfl ?_
      simp (decide := true) only [go_sem, reduceIte, Nat.reduceAdd, Int.reduceToNat, Nat.reduceSub, Nat.reduceMul]
      all_goals first | exact wkEnd_same ⟨rfl, rfl⟩ | exact True.intro
    · refine r_skip (r_bN hk4 ?_)
      refine r_cN hk2 (sem_cut fun k9 hk9 => ?_)
      simp (decide := true) only [go_sem, reduceIte, Nat.reduceAdd, Int.reduceToNat, Nat.reduceSub, Nat.reduceMul]
      refine r_cN hk9 (r_ret ?_)
      obtain rfl := Option.some.inj h
      refine r_eAR hQ rfl rfl ?_
      simp (decide := true) only [go_sem, reduceIte, Nat.reduceAdd, Int.reduceToNat, Nat.reduceSub, Nat.reduceMul]
      all_goals first | exact wkEnd_same ⟨rfl, rfl⟩ | exact True.intro
noncomputable def spec_l17Num_j5 : (List Int) → Option (List Int)
  | v13 => (some v13)
noncomputable def spec_l17Num_j20 (v16 : Int) (v17 : (List Int)) (v18 : Int) : Int → Option ((Int × (List Int) × Int) ⊕ (List Int))
  | v22 => (Option.bind (idx v17 (v18)) fun v23 => (some (.inl ((IntKind.i64.wrap (((IntKind.i64.wrap (v16 - v22))).tdiv 256)), ((v17).set (v18).toNat (IntKind.u8.wrap (v22))), (IntKind.i64.wrap (v18 - 1))))))
noncomputable def spec_l17Num_s9 : (Int × (List Int) × Int) → Option ((Int × (List Int) × Int) ⊕ (List Int))
  | (v16, v17, v18) => (cond (decide (v18 ≥ 0)) (cond (decide (((v16).tmod 256) < 0)) (spec_l17Num_j20 v16 v17 v18 (IntKind.i64.wrap (((v16).tmod 256) + 256))) (spec_l17Num_j20 v16 v17 v18 ((v16).tmod 256))) (some (.inr v17)))
noncomputable def spec_l17Num (v1 : Int) (v2 : Int) : Option (List Int) :=
  (gd (mkOk (v2) (v2) 1) ((loop spec_l17Num_s9 (v1, (List.replicate (v2).toNat 0), (IntKind.i64.wrap (v2 - 1)))).bind (fun v21 => (spec_l17Num_j5 v21))))
set_option maxRecDepth 10000 in
set_option maxHeartbeats 4000000 in
theorem con_spec_l17Num (v1 : Int) (v2 : Int) (res_ : (List Int)) (h : spec_l17Num v1 v2 = some res_) : Con Try.prog C0 84 [.sc (.int .i64 (v1)), .sc (.int .i64 (v2))] []
    (fun x σ' => x = .sl 0 0 ((res_).length) ∧ σ' = [.arr true 1 (R e_u8 (res_))]) := by
  refine con_of_sem hP [0, 1, 4, 5, 6, 7, 13, 19] [.tmp 4] Try.func84 (by unfold Try.f84; rfl) rfl rfl (Nat.le_of_ble_eq_true rfl) rfl ?_
  simp only [enter_cons, enter_nil, List.length_cons, List.length_nil, Nat.reduceAdd]
  generalize hQ : endQ _ _ _ _ = Q
  unfold spec_l17Num at h
  refine sem_cut fun k1 hk1 => ?_
  simp (decide := true) only [go_sem, reduceIte, Nat.reduceAdd, Int.reduceToNat, Nat.reduceSub, Nat.reduceMul]
  refine r_cN hk1 (sem_cut fun k2 hk2 => ?_)
  obtain ⟨g3, h⟩ := gd_some h
  obtain ⟨g3A, g3B, g3C, g3D⟩ := mkOk_some g3
  repeat' (first | with_reducible refine And.intro ?_ ?_ | exact True.intro | with_reducible assumption | exact fun hf => False.elim hf | (intro hg; first | (simp +contextual [hg]; done) | grind) | omega | simp (decide := true) only [go_sem, reduceIte, Nat.reduceAdd, Int.reduceToNat, Nat.reduceSub, Nat.reduceMul, g3A, g3B, g3C, g3D])
  refine r_cN hk2 (sem_cutJ (fun (_ : Unit) (x : (List Int)) => (⟨[(5, .sl 0 0 ((x).length))], [.arr true 1 (R e_u8 (x))]⟩ : St)) (fun (_ : Unit) (x : (List Int)) => spec_l17Num_j5 x = some res_) ?_ ?_)
  · rintro _ v13 h
    simp only [spec_l17Num_j5] at h
    refine sem_cut fun k40 hk40 => ?_
    simp (decide := true) only [go_sem, reduceIte, Nat.reduceAdd, Int.reduceToNat, Nat.reduceSub, Nat.reduceMul]
    refine r_cN hk40 (r_ret ?_)
    obtain rfl := Option.some.inj h
    refine r_eOR hQ rfl rfl ?_
    simp (decide := true) only [go_sem, reduceIte, Nat.reduceAdd, Int.reduceToNat, Nat.reduceSub, Nat.reduceMul]
    all_goals first | exact wkEnd_same ⟨rfl, rfl⟩ | exact True.intro
  · intro k42 hk42 J41
    refine sem_cut fun k43 hk43 => ?_
    simp (decide := true) only [go_sem, reduceIte, Nat.reduceAdd, Int.reduceToNat, Nat.reduceSub, Nat.reduceMul]
    refine r_cN hk43 (sem_blk fun k44 hk44 => ?_)
    obtain ⟨oq67, hLq67, hKq67⟩ := bind_some' h
    clear h
    refine sem_loopP [0, 5, 6] (fun (_ : Unit) (x : (Int × (List Int) × Int)) => (⟨[(0, .sc (.int .i64 (x.1))), (5, .sl 0 0 ((x.2.1).length)), (6, .sc (.int .i64 (x.2.2)))], [.arr true 1 (R e_u8 (x.2.1))]⟩ : St)) (fun (_ : Unit) (x : (Int × (List Int) × Int)) => True) spec_l17Num_s9 () (v1, (List.replicate (v2).toNat 0), (IntKind.i64.wrap (v2 - 1))) hLq67 (by rfl) (by rfl) ⟨?_, trivial⟩ ?_
    · first | exact wkSt_same rfl | (simp (decide := true) only [go_sem, reduceIte, Nat.reduceAdd, Int.reduceToNat, Nat.reduceSub, Nat.reduceMul]; exact wkSt_same rfl)
    · rintro nq67 _ ⟨v16, v17, v18⟩ xq67 kq67 hkq67 - h hIq67 hEq67
      simp only [spec_l17Num_s9] at h
      refine sem_cut fun k68 hk68 => sem_cut fun k69 hk69 => ?_
      simp (decide := true) only [go_sem, reduceIte, Nat.reduceAdd, Int.reduceToNat, Nat.reduceSub, Nat.reduceMul]
      refine r_cN hk69 ?_
      refine sem_ifh rfl h ?_ ?_ <;> clear h <;> intro h
      · refine r_skip (r_cN hk68 ?_)
        refine sem_cut fun k70 hk70 => sem_blk fun k71 hk71 => sem_cut fun k72 hk72 => ?_
        repeat' (first | with_reducible refine And.intro ?_ ?_ | exact True.intro | with_reducible assumption | exact fun hf => False.elim hf | (intro hg; first | (simp +contextual [hg]; done) | grind) | omega | simp (decide := true) only [go_sem, reduceIte, Nat.reduceAdd, Int.reduceToNat, Nat.reduceSub, Nat.reduceMul])
        refine r_cN hk72 (sem_cutJ (fun (_ : Unit) (x : Int) => (⟨[(0, .sc (.int .i64 (v16))), (5, .sl 0 0 ((v17).length)), (6, .sc (.int .i64 (v18))), (7, .sc (.int .i64 (x)))], [.arr true 1 (R e_u8 (v17))]⟩ : St)) (fun (_ : Unit) (x : Int) => spec_l17Num_j20 v16 v17 v18 x = some xq67) ?_ ?_)
        · rintro _ v22 h
          simp only [spec_l17Num_j20] at h
          refine sem_cut fun k74 hk74 => ?_
          obtain ⟨v23, c75H, h⟩ := bind_some' h
          obtain ⟨c75A, c75B, c75C, -⟩ := idx_some c75H
          repeat' (first | with_reducible refine And.intro ?_ ?_ | exact True.intro | with_reducible assumption | exact fun hf => False.elim hf | (intro hg; first | (simp +contextual [hg]; done) | grind) | omega | simp (decide := true) only [go_sem, reduceIte, Nat.reduceAdd, Int.reduceToNat, Nat.reduceSub, Nat.reduceMul, c75A, c75B, c75C])
          refine r_cN hk74 ?_
          repeat' (first | with_reducible refine And.intro ?_ ?_ | exact True.intro | with_reducible assumption | exact fun hf => False.elim hf | (intro hg; first | (simp +contextual [hg]; done) | grind) | omega | simp (decide := true) only [go_sem, reduceIte, Nat.reduceAdd, Int.reduceToNat, Nat.reduceSub, Nat.reduceMul])
          refine r_bN hk71 (r_cN hk70 ?_)
          simp (decide := true) only [go_sem, reduceIte, Nat.reduceAdd, Int.reduceToNat, Nat.reduceSub, Nat.reduceMul]
          obtain rfl := Option.some.inj h
          subst hkq67
          refine r_backP () _ rfl rfl ⟨?_, trivial⟩ (hIq67 _ rfl)
          first | exact wkSt_same rfl | (simp (decide := true) only [go_sem, reduceIte, Nat.reduceAdd, Int.reduceToNat, Nat.reduceSub, Nat.reduceMul]; exact wkSt_same rfl)
        · intro k77 hk77 J76
          refine sem_cut fun k78 hk78 => ?_
          simp (decide := true) only [go_sem, reduceIte, Nat.reduceAdd, Int.reduceToNat, Nat.reduceSub, Nat.reduceMul]
          refine r_cN hk78 ?_
          refine sem_ifh rfl h ?_ ?_ <;> clear h <;> intro h
          · simp (decide := true) only [go_sem, reduceIte, Nat.reduceAdd, Int.reduceToNat, Nat.reduceSub, Nat.reduceMul]
            refine r_joinU J76 [0, 5, 6, 7] () _ rfl rfl ⟨?_, h⟩
            first | exact wkSt_same rfl | (simp (decide := true) only [go_sem, reduceIte, Nat.reduceAdd, Int.reduceToNat, Nat.reduceSub, Nat.reduceMul]; exact wkSt_same rfl)
          · refine r_skip (r_joinU J76 [0, 5, 6, 7] () _ rfl rfl ⟨?_, h⟩)
            first | exact wkSt_same rfl | (simp (decide := true) only [go_sem, reduceIte, Nat.reduceAdd, Int.reduceToNat, Nat.reduceSub, Nat.reduceMul]; exact wkSt_same rfl)
      · refine r_exit (r_cE hk68 ?_)
        obtain rfl := Option.some.inj h
        obtain rfl := hEq67 _ rfl
        have h := hKq67
        try simp only [Sum.elim_inl, Sum.elim_inr] at h
        refine r_kE hkq67 (r_bE hk44 ?_)
        refine r_joinU J41 [5] () _ rfl rfl ⟨?_, h⟩
        first | exact wkSt_same rfl | (simp (decide := true) only [go_sem, reduceIte, Nat.reduceAdd, Int.reduceToNat, Nat.reduceSub, Nat.reduceMul]; exact wkSt_same rfl)
noncomputable def spec_l17Inst_j15 : (List Int) → Option (List Int)
  | v27 => (some v27)
noncomputable def spec_l17Inst_j26 (v36 : Int) : (List Int) → Option (((List Int) × Int) ⊕ (List Int))
  | v48 => (some (.inl (v48, (IntKind.i64.wrap (v36 + 1)))))
noncomputable def spec_l17Inst_s19 (v1 : Inst) : ((List Int) × Int) → Option (((List Int) × Int) ⊕ (List Int))
  | (v35, v36) => (cond (decide (v36 < ((v1.One_Args).length : Int))) (Option.bind (idx v1.One_Args (v36)) fun v49 => (gd (apOk ((v35 ++ [(IntKind.u8.wrap (v49.Kind))])).length 1) (Option.bind (spec_l17Wide v49.Kind) fun v50 => (Option.bind (spec_l17Num v49.N v50) fun v51 => (gd (apOk (((v35 ++ [(IntKind.u8.wrap (v49.Kind))]) ++ v51)).length 1) (cond (v49.Kind == 12) (gd (apOk ((((v35 ++ [(IntKind.u8.wrap (v49.Kind))]) ++ v51) ++ [(IntKind.u8.wrap (v49.P))])).length 1) (spec_l17Inst_j26 v36 (((v35 ++ [(IntKind.u8.wrap (v49.Kind))]) ++ v51) ++ [(IntKind.u8.wrap (v49.P))]))) (spec_l17Inst_j26 v36 ((v35 ++ [(IntKind.u8.wrap (v49.Kind))]) ++ v51)))))))) (some (.inr v35)))
noncomputable def spec_l17Inst (v1 : Inst) : Option (List Int) :=
  (Option.bind (spec_l17Has v1.Code) fun v2 => (cond (!v2) (some [(IntKind.u8.wrap (v1.Code))]) (gd (apOk (([(IntKind.u8.wrap (v1.Code))] ++ [(IntKind.u8.wrap (v1.One_Op))])).length 1) ((loop (spec_l17Inst_s19 v1) (([(IntKind.u8.wrap (v1.Code))] ++ [(IntKind.u8.wrap (v1.One_Op))]), 0)).bind (fun v44 => (spec_l17Inst_j15 v44))))))
set_option maxRecDepth 10000 in
set_option maxHeartbeats 4000000 in
theorem con_spec_l17Inst (v1 : Inst) (res_ : (List Int)) (h : spec_l17Inst v1 = some res_) : Con Try.prog C0 83 [.agg [.sc (.int .i64 (v1.Code)), .sc (.int .i64 (v1.One_Op)), .fz 3 (R e_DevArg (v1.One_Args))]] []
    (fun x σ' => x = .sl 0 0 ((res_).length) ∧ σ' = [.arr true 1 (R e_u8 (res_))]) := by
  refine con_of_sem hP [0, 1, 2, 3, 4, 5, 13, 27, 52] [.tmp 2] Try.func83 (by unfold Try.f83; rfl) rfl rfl (Nat.le_of_ble_eq_true rfl) rfl ?_
  simp only [enter_cons, enter_nil, List.length_cons, List.length_nil, Nat.reduceAdd]
  generalize hQ : endQ _ _ _ _ = Q
  unfold spec_l17Inst at h
  refine sem_cut fun k1 hk1 => ?_
  simp (decide := true) only [go_sem, reduceIte, Nat.reduceAdd, Int.reduceToNat, Nat.reduceSub, Nat.reduceMul]
  refine r_cN hk1 (sem_cut fun k2 hk2 => ?_)
  simp (decide := true) only [go_sem, reduceIte, Nat.reduceAdd, Int.reduceToNat, Nat.reduceSub, Nat.reduceMul]
  refine r_cN hk2 (sem_cut fun k3 hk3 => ?_)
  refine sem_cut fun k4 hk4 => ?_
  obtain ⟨v2, c5H, h⟩ := bind_some' h
  repeat' (first | with_reducible refine And.intro ?_ ?_ | ((with_reducible refine i_call (n := 54) ?_); refine call_openF [] ?_) | ((with_reducible refine i_callW (n := 54) ?_); refine callW_use (con_spec_l17Has v1.Code v2 c5H) ?_; rintro x σ' ⟨rfl, rfl⟩ <;> ((refine ⟨?_, ?_⟩; (focus simp (decide := true) only [go_sem, reduceIte, Nat.reduceAdd, Int.reduceToNat, Nat.reduceSub, Nat.reduceMul])); (with_reducible refine behind_go ?_))) | exact True.intro | with_reducible assumption | exact fun hf => False.elim hf | (intro hg; first | (simp +contextual [hg]; done) | grind) | omega | simp (decide := true) only [go_sem, reduceIte, Nat.reduceAdd, Int.reduceToNat, Nat.reduceSub, Nat.reduceMul])
  refine r_cN hk4 ?_
  refine sem_ifh rfl h ?_ ?_ <;> clear h <;> intro h
  · refine sem_cut fun k6 hk6 => ?_
    simp (decide := true) only [go_sem, reduceIte, Nat.reduceAdd, Int.reduceToNat, Nat.reduceSub, Nat.reduceMul]
    refine r_cN hk6 (r_ret ?_)
    refine r_cR hk3 ?_
    obtain rfl := Option.some.inj h
    refine r_eOR hQ rfl rfl ?_
    simp (decide := true) only [go_sem, reduceIte, Nat.reduceAdd, Int.reduceToNat, Nat.reduceSub, Nat.reduceMul]
    all_goals first | exact wkEnd_same ⟨rfl, rfl⟩ | exact True.intro
  · refine r_skip (r_cN hk3 ?_)
    refine sem_cut fun k7 hk7 => ?_
    obtain ⟨g8, h⟩ := gd_some h
    have g8A := apOk_1 g8; have g8B := apOk_2 g8
    repeat' (first | with_reducible refine And.intro ?_ ?_ | (simp only [List.length_append, List.length_cons, List.length_nil, R_len] at *; omega) | exact True.intro | with_reducible assumption | exact fun hf => False.elim hf | (intro hg; first | (simp +contextual [hg]; done) | grind) | omega | simp (decide := true) only [go_sem, reduceIte, Nat.reduceAdd, Int.reduceToNat, Nat.reduceSub, Nat.reduceMul, g8A, g8B])
    refine r_cN hk7 (sem_cutJ (fun (_ : Unit) (x : (List Int)) => (⟨[(3, .sl 0 0 ((x).length))], [.arr true 1 (R e_u8 (x))]⟩ : St)) (fun (_ : Unit) (x : (List Int)) => spec_l17Inst_j15 x = some res_) ?_ ?_)
    · rintro _ v27 h
      simp only [spec_l17Inst_j15] at h
      refine sem_cut fun k90 hk90 => ?_
      simp (decide := true) only [go_sem, reduceIte, Nat.reduceAdd, Int.reduceToNat, Nat.reduceSub, Nat.reduceMul]
      refine r_cN hk90 (r_ret ?_)
      obtain rfl := Option.some.inj h
      refine r_eOR hQ rfl rfl ?_
      simp (decide := true) only [go_sem, reduceIte, Nat.reduceAdd, Int.reduceToNat, Nat.reduceSub, Nat.reduceMul]
      all_goals first | exact wkEnd_same ⟨rfl, rfl⟩ | exact True.intro
    · intro k92 hk92 J91
      refine sem_cut fun k93 hk93 => ?_
      simp (decide := true) only [go_sem, reduceIte, Nat.reduceAdd, Int.reduceToNat, Nat.reduceSub, Nat.reduceMul]
      refine r_cN hk93 (sem_blk fun k94 hk94 => ?_)
      obtain ⟨oq147, hLq147, hKq147⟩ := bind_some' h
      clear h
      refine sem_loopP [1, 3, 4] (fun (_ : Unit) (x : ((List Int) × Int)) => (⟨[(1, .pt 0 0), (3, .sl 1 0 ((x.1).length)), (4, .sc (.int .i64 (x.2)))], [.rc [.sc (.int .i64 (v1.Code)), .sc (.int .i64 (v1.One_Op)), .fz 3 (R e_DevArg (v1.One_Args))], .arr true 1 (R e_u8 (x.1))]⟩ : St)) (fun (_ : Unit) (x : ((List Int) × Int)) => True) (spec_l17Inst_s19 v1) () (([(IntKind.u8.wrap (v1.Code))] ++ [(IntKind.u8.wrap (v1.One_Op))]), 0) hLq147 (by rfl) (by rfl) ⟨?_, trivial⟩ ?_
      · first | exact wkSt_same rfl | (simp (decide := true) only [go_sem, reduceIte, Nat.reduceAdd, Int.reduceToNat, Nat.reduceSub, Nat.reduceMul]; exact wkSt_same rfl)
      · rintro nq147 _ ⟨v35, v36⟩ xq147 kq147 hkq147 - h hIq147 hEq147
        simp only [spec_l17Inst_s19] at h
        refine sem_cut fun k148 hk148 => sem_cut fun k149 hk149 => ?_
        simp (decide := true) only [go_sem, reduceIte, Nat.reduceAdd, Int.reduceToNat, Nat.reduceSub, Nat.reduceMul]
        refine r_cN hk149 ?_
        refine sem_ifh rfl h ?_ ?_ <;> clear h <;> intro h
        · refine r_skip (r_cN hk148 ?_)
          refine sem_cutJ (fun (_ : Unit) (x : (List Int)) => (⟨[(1, .pt 0 0), (3, .sl 1 0 ((x).length)), (4, .sc (.int .i64 (v36)))], [.rc [.sc (.int .i64 (v1.Code)), .sc (.int .i64 (v1.One_Op)), .fz 3 (R e_DevArg (v1.One_Args))], .arr true 1 (R e_u8 (x))]⟩ : St)) (fun (_ : Unit) (x : (List Int)) => spec_l17Inst_j26 v36 x = some xq147) ?_ ?_
          · rintro _ v48 h
            simp only [spec_l17Inst_j26] at h
            simp (decide := true) only [go_sem, reduceIte, Nat.reduceAdd, Int.reduceToNat, Nat.reduceSub, Nat.reduceMul]
            obtain rfl := Option.some.inj h
            subst hkq147
            refine r_backP () _ rfl rfl ⟨?_, trivial⟩ (hIq147 _ rfl)
            first | exact wkSt_same rfl | (simp (decide := true) only [go_sem, reduceIte, Nat.reduceAdd, Int.reduceToNat, Nat.reduceSub, Nat.reduceMul]; exact wkSt_same rfl)
          · intro k162 hk162 J161
            refine sem_blk fun k163 hk163 => sem_cut fun k164 hk164 => ?_
            obtain ⟨v49, c165H, h⟩ := bind_some' h
            obtain ⟨c165A, c165B, c165C, -⟩ := idx_some c165H
            repeat' (first | with_reducible refine And.intro ?_ ?_ | exact True.intro | with_reducible assumption | exact fun hf => False.elim hf | (intro hg; first | (simp +contextual [hg]; done) | grind) | omega | simp (decide := true) only [go_sem, reduceIte, Nat.reduceAdd, Int.reduceToNat, Nat.reduceSub, Nat.reduceMul, c165A, c165B, c165C])
            refine r_cN hk164 (sem_cut fun k166 hk166 => ?_)
            obtain ⟨g167, h⟩ := gd_some h
            have g167A := apOk_1 g167; have g167B := apOk_2 g167
            repeat' (first | with_reducible refine And.intro ?_ ?_ | exact True.intro | with_reducible assumption | exact fun hf => False.elim hf | (intro hg; first | (simp +contextual [hg]; done) | grind) | omega | simp (decide := true) only [go_sem, reduceIte, Nat.reduceAdd, Int.reduceToNat, Nat.reduceSub, Nat.reduceMul, g167A, g167B])
            refine r_cN hk166 (sem_cut fun k168 hk168 => ?_)
            obtain ⟨v50, c169H, h⟩ := bind_some' h
            obtain ⟨v51, c170H, h⟩ := bind_some' h
            obtain ⟨g171, h⟩ := gd_some h
            have g171A := apOk_1 g171; have g171B := apOk_2 g171
            with_reducible refine sem_plan (id := 10) (.take 0 (.take 1 (.take 2 (.take 3 (.take 4 (.one 5 (.one 6 (.one 7 (.take 8 .done))))))))) [2] ?_ ?_
            focus kernel_rfl
            repeat' (first | with_reducible refine And.intro ?_ ?_ | ((with_reducible refine i_call (n := 77) ?_); refine call_openF [] ?_) | ((with_reducible refine i_callW (n := 77) ?_); refine callW_use (con_spec_l17Wide v49.Kind v50 c169H) ?_; rintro x σ' ⟨rfl, rfl⟩ <;> ((refine ⟨?_, ?_⟩; (focus simp (decide := true) only [go_sem, reduceIte, Nat.reduceAdd, Int.reduceToNat, Nat.reduceSub, Nat.reduceMul, g171A, g171B])); (with_reducible refine behind_go ?_))) | ((with_reducible refine i_call (n := 84) ?_); refine call_openF [] ?_) | ((with_reducible refine i_callW (n := 84) ?_); refine callW_use (con_spec_l17Num v49.N v50 v51 c170H) ?_; rintro x σ' ⟨rfl, rfl⟩ <;> ((refine ⟨?_, ?_⟩; (focus simp (decide := true) only [go_sem, reduceIte, Nat.reduceAdd, Int.reduceToNat, Nat.reduceSub, Nat.reduceMul, g171A, g171B])); (with_reducible refine behind_go ?_))) | exact True.intro | with_reducible assumption | exact fun hf => False.elim hf | (intro hg; first | (simp +contextual [hg]; done) | grind) | omega | simp (decide := true) only [go_sem, reduceIte, Nat.reduceAdd, Int.reduceToNat, Nat.reduceSub, Nat.reduceMul, g171A, g171B])
            refine r_cN hk168 (sem_cut fun k172 hk172 => ?_)
            simp (decide := true) only [go_sem, reduceIte, Nat.reduceAdd, Int.reduceToNat, Nat.reduceSub, Nat.reduceMul]
            refine r_cN hk172 ?_
            refine sem_ifh rfl h ?_ ?_ <;> clear h <;> intro h
            · obtain ⟨g173, h⟩ := gd_some h
              have g173A := apOk_1 g173; have g173B := apOk_2 g173
              repeat' (first | with_reducible refine And.intro ?_ ?_ | exact True.intro | with_reducible assumption | exact fun hf => False.elim hf | (intro hg; first | (simp +contextual [hg]; done) | grind) | omega | simp (decide := true) only [go_sem, reduceIte, Nat.reduceAdd, Int.reduceToNat, Nat.reduceSub, Nat.reduceMul, g173A, g173B])
              refine r_bN hk163 (r_joinU J161 [1, 3, 4] () _ rfl rfl ⟨?_, h⟩)
              first | exact wkSt_same rfl | (simp (decide := true) only [go_sem, reduceIte, Nat.reduceAdd, Int.reduceToNat, Nat.reduceSub, Nat.reduceMul]; exact wkSt_same rfl)
            · refine r_skip (r_bN hk163 ?_)
              refine r_joinU J161 [1, 3, 4] () _ rfl rfl ⟨?_, h⟩
              first | exact wkSt_same rfl | (simp (decide := true) only [go_sem, reduceIte, Nat.reduceAdd, Int.reduceToNat, Nat.reduceSub, Nat.reduceMul]; exact wkSt_same rfl)
        · refine r_exit (r_cE hk148 ?_)
          obtain rfl := Option.some.inj h
          obtain rfl := hEq147 _ rfl
          have h := hKq147
          try simp only [Sum.elim_inl, Sum.elim_inr] at h
          refine r_kE hkq147 (r_bE hk94 ?_)
          refine r_joinU J91 [3] () _ rfl rfl ⟨?_, h⟩
          first | exact wkSt_same rfl | (simp (decide := true) only [go_sem, reduceIte, Nat.reduceAdd, Int.reduceToNat, Nat.reduceSub, Nat.reduceMul]; exact wkSt_same rfl)
noncomputable def spec_l17Xor_j7 : Int → Option Int
  | v11 => (some v11)
noncomputable def spec_l17Xor_j17 (v13 : Int) (v14 : Int) (v16 : Int) : Int → Option ((Int × Int × Int × Int) ⊕ Int)
  | v19 => (some (.inl ((IntKind.i64.wrap ((v13).tdiv 2)), (IntKind.i64.wrap ((v14).tdiv 2)), v19, (IntKind.i64.wrap (v16 * 2)))))
noncomputable def spec_l17Xor_s9 : (Int × Int × Int × Int) → Option ((Int × Int × Int × Int) ⊕ Int)
  | (v13, v14, v15, v16) => (cond (decide (v16 < 65536)) (cond (((v13).tmod 2) != ((v14).tmod 2)) (spec_l17Xor_j17 v13 v14 v16 (IntKind.i64.wrap (v15 + v16))) (spec_l17Xor_j17 v13 v14 v16 v15)) (some (.inr v15)))
noncomputable def spec_l17Xor (v1 : Int) (v2 : Int) : Option Int :=
  ((loop spec_l17Xor_s9 (v1, v2, 0, 1)).bind (fun v18 => (spec_l17Xor_j7 v18)))
set_option maxRecDepth 10000 in
set_option maxHeartbeats 4000000 in
theorem con_spec_l17Xor (v1 : Int) (v2 : Int) (res_ : Int) (h : spec_l17Xor v1 v2 = some res_) : Con Try.prog C0 41 [.sc (.int .i64 (v1)), .sc (.int .i64 (v2))] []
    (fun x σ' => x = .sc (.int .i64 (res_)) ∧ σ' = []) := by
  refine con_of_sem hP [0, 1, 4, 5, 6, 8, 13] [.tmp 4] Try.func41 (by unfold Try.f41; rfl) rfl rfl (Nat.le_of_ble_eq_true rfl) rfl ?_
  simp only [enter_cons, enter_nil, List.length_cons, List.length_nil, Nat.reduceAdd]
  generalize hQ : endQ _ _ _ _ = Q
  unfold spec_l17Xor at h
  refine sem_cut fun k1 hk1 => ?_
  simp (decide := true) only [go_sem, reduceIte, Nat.reduceAdd, Int.reduceToNat, Nat.reduceSub, Nat.reduceMul]
  refine r_cN hk1 (sem_cut fun k2 hk2 => ?_)
  simp (decide := true) only [go_sem, reduceIte, Nat.reduceAdd, Int.reduceToNat, Nat.reduceSub, Nat.reduceMul]
  refine r_cN hk2 (sem_cut fun k3 hk3 => ?_)
  simp (decide := true) only [go_sem, reduceIte, Nat.reduceAdd, Int.reduceToNat, Nat.reduceSub, Nat.reduceMul]
  refine r_cN hk3 (sem_cutJ (fun (_ : Unit) (x : Int) => (⟨[(5, .sc (.int .i64 (x)))], []⟩ : St)) (fun (_ : Unit) (x : Int) => spec_l17Xor_j7 x = some res_) ?_ ?_)
  · rintro _ v11 h
    simp only [spec_l17Xor_j7] at h
    refine sem_cut fun k33 hk33 => ?_
    simp (decide := true) only [go_sem, reduceIte, Nat.reduceAdd, Int.reduceToNat, Nat.reduceSub, Nat.reduceMul]
    refine r_cN hk33 (r_ret ?_)
    obtain rfl := Option.some.inj h
    refine r_eAR hQ rfl rfl ?_
    simp (decide := true) only [go_sem, reduceIte, Nat.reduceAdd, Int.reduceToNat, Nat.reduceSub, Nat.reduceMul]
    all_goals first | exact wkEnd_same ⟨rfl, rfl⟩ | exact True.intro
  · intro k35 hk35 J34
    refine sem_blk fun k36 hk36 => ?_
    obtain ⟨oq55, hLq55, hKq55⟩ := bind_some' h
    clear h
    refine sem_loopP [0, 1, 5, 6] (fun (_ : Unit) (x : (Int × Int × Int × Int)) => (⟨[(0, .sc (.int .i64 (x.1))), (1, .sc (.int .i64 (x.2.1))), (5, .sc (.int .i64 (x.2.2.1))), (6, .sc (.int .i64 (x.2.2.2)))], []⟩ : St)) (fun (_ : Unit) (x : (Int × Int × Int × Int)) => True) spec_l17Xor_s9 () (v1, v2, 0, 1) hLq55 (by rfl) (by rfl) ⟨?_, trivial⟩ ?_
    · first | exact wkSt_same rfl | (simp (decide := true) only [go_sem, reduceIte, Nat.reduceAdd, Int.reduceToNat, Nat.reduceSub, Nat.reduceMul]; exact wkSt_same rfl)
    · rintro nq55 _ ⟨v13, v14, v15, v16⟩ xq55 kq55 hkq55 - h hIq55 hEq55
      simp only [spec_l17Xor_s9] at h
      refine sem_cut fun k56 hk56 => sem_cut fun k57 hk57 => ?_
      simp (decide := true) only [go_sem, reduceIte, Nat.reduceAdd, Int.reduceToNat, Nat.reduceSub, Nat.reduceMul]
      refine r_cN hk57 ?_
      refine sem_ifh rfl h ?_ ?_ <;> clear h <;> intro h
      · refine r_skip (r_cN hk56 ?_)
        refine sem_blk fun k58 hk58 => sem_cutJ (fun (_ : Unit) (x : Int) => (⟨[(0, .sc (.int .i64 (v13))), (1, .sc (.int .i64 (v14))), (5, .sc (.int .i64 (x))), (6, .sc (.int .i64 (v16)))], []⟩ : St)) (fun (_ : Unit) (x : Int) => spec_l17Xor_j17 v13 v14 v16 x = some xq55) ?_ ?_
        · rintro _ v19 h
          simp only [spec_l17Xor_j17] at h
          refine sem_cut fun k60 hk60 => ?_
          repeat' (first | with_reducible refine And.intro ?_ ?_ | exact True.intro | with_reducible assumption | exact fun hf => False.elim hf | (intro hg; first | (simp +contextual [hg]; done) | grind) | omega | simp (decide := true) only [go_sem, reduceIte, Nat.reduceAdd, Int.reduceToNat, Nat.reduceSub, Nat.reduceMul])
          refine r_cN hk60 (sem_cut fun k61 hk61 => ?_)
          repeat' (first | with_reducible refine And.intro ?_ ?_ | exact True.intro | with_reducible assumption | exact fun hf => False.elim hf | (intro hg; first | (simp +contextual [hg]; done) | grind) | omega | simp (decide := true) only [go_sem, reduceIte, Nat.reduceAdd, Int.reduceToNat, Nat.reduceSub, Nat.reduceMul])
          refine r_cN hk61 ?_
          simp (decide := true) only [go_sem, reduceIte, Nat.reduceAdd, Int.reduceToNat, Nat.reduceSub, Nat.reduceMul]
          refine r_bN hk58 ?_
          obtain rfl := Option.some.inj h
          subst hkq55
          refine r_backP () _ rfl rfl ⟨?_, trivial⟩ (hIq55 _ rfl)
          first | exact wkSt_same rfl | (simp (decide := true) only [go_sem, reduceIte, Nat.reduceAdd, Int.reduceToNat, Nat.reduceSub, Nat.reduceMul]; exact wkSt_same rfl)
        · intro k63 hk63 J62
          refine sem_cut fun k64 hk64 => ?_
          repeat' (first | with_reducible refine And.intro ?_ ?_ | exact True.intro | with_reducible assumption | exact fun hf => False.elim hf | (intro hg; first | (simp +contextual [hg]; done) | grind) | omega | simp (decide := true) only [go_sem, reduceIte, Nat.reduceAdd, Int.reduceToNat, Nat.reduceSub, Nat.reduceMul])
          refine r_cN hk64 ?_
          refine sem_ifh rfl h ?_ ?_ <;> clear h <;> intro h
          · simp (decide := true) only [go_sem, reduceIte, Nat.reduceAdd, Int.reduceToNat, Nat.reduceSub, Nat.reduceMul]
            refine r_joinU J62 [0, 1, 5, 6] () _ rfl rfl ⟨?_, h⟩
            first | exact wkSt_same rfl | (simp (decide := true) only [go_sem, reduceIte, Nat.reduceAdd, Int.reduceToNat, Nat.reduceSub, Nat.reduceMul]; exact wkSt_same rfl)
          · refine r_skip (r_joinU J62 [0, 1, 5, 6] () _ rfl rfl ⟨?_, h⟩)
            first | exact wkSt_same rfl | (simp (decide := true) only [go_sem, reduceIte, Nat.reduceAdd, Int.reduceToNat, Nat.reduceSub, Nat.reduceMul]; exact wkSt_same rfl)
      · refine r_exit (r_cE hk56 ?_)
        obtain rfl := Option.some.inj h
        obtain rfl := hEq55 _ rfl
        have h := hKq55
        try simp only [Sum.elim_inl, Sum.elim_inr] at h
        refine r_kE hkq55 (r_bE hk36 ?_)
        refine r_joinU J34 [5] () _ rfl rfl ⟨?_, h⟩
        first | exact wkSt_same rfl | (simp (decide := true) only [go_sem, reduceIte, Nat.reduceAdd, Int.reduceToNat, Nat.reduceSub, Nat.reduceMul]; exact wkSt_same rfl)
noncomputable def spec_l17Round (v1 : Int) : Option Int :=
  (cond (decide ((IntKind.i64.wrap (v1 * 2)) ≥ 65536)) (Option.bind (spec_l17Xor (IntKind.i64.wrap ((IntKind.i64.wrap (v1 * 2)) - 65536)) 4129) fun v2 => (some v2)) (some (IntKind.i64.wrap (v1 * 2))))
set_option maxRecDepth 10000 in
set_option maxHeartbeats 4000000 in
theorem con_spec_l17Round (v1 : Int) (res_ : Int) (h : spec_l17Round v1 = some res_) : Con Try.prog C0 42 [.sc (.int .i64 (v1))] []
    (fun x σ' => x = .sc (.int .i64 (res_)) ∧ σ' = []) := by
  refine con_of_sem hP [0, 2, 6] [.tmp 2] Try.func42 (by unfold Try.f42; rfl) rfl rfl (Nat.le_of_ble_eq_true rfl) rfl ?_
  simp only [enter_cons, enter_nil, List.length_cons, List.length_nil, Nat.reduceAdd]
  generalize hQ : endQ _ _ _ _ = Q
  unfold spec_l17Round at h
  refine sem_cut fun k1 hk1 => ?_
  simp (decide := true) only [go_sem, reduceIte, Nat.reduceAdd, Int.reduceToNat, Nat.reduceSub, Nat.reduceMul]
  refine r_cN hk1 (sem_cut fun k2 hk2 => ?_)
  simp (decide := true) only [go_sem, reduceIte, Nat.reduceAdd, Int.reduceToNat, Nat.reduceSub, Nat.reduceMul]
  refine r_cN hk2 (sem_cut fun k3 hk3 => ?_)
  refine sem_cut fun k4 hk4 => ?_
  simp (decide := true) only [go_sem, reduceIte, Nat.reduceAdd, Int.reduceToNat, Nat.reduceSub, Nat.reduceMul]
  refine r_cN hk4 ?_
  refine sem_ifh rfl h ?_ ?_ <;> clear h <;> intro h
  · refine sem_cut fun k5 hk5 => ?_
    obtain ⟨v2, c6H, h⟩ := bind_some' h
    repeat' (first | with_reducible refine And.intro ?_ ?_ | ((with_reducible refine i_call (n := 41) ?_); refine call_openF [] ?_) | ((with_reducible refine i_callW (n := 41) ?_); refine callW_use (con_spec_l17Xor (IntKind.i64.wrap ((IntKind.i64.wrap (v1 * 2)) - 65536)) 4129 v2 c6H) ?_; rintro x σ' ⟨rfl, rfl⟩ <;> ((refine ⟨?_, ?_⟩; (focus simp (decide := true) only [go_sem, reduceIte, Nat.reduceAdd, Int.reduceToNat, Nat.reduceSub, Nat.reduceMul])); (with_reducible refine behind_go ?_))) | exact True.intro | with_reducible assumption | exact fun hf => False.elim hf | (intro hg; first | (simp +contextual [hg]; done) | grind) | omega | simp (decide := true) only [go_sem, reduceIte, Nat.reduceAdd, Int.reduceToNat, Nat.reduceSub, Nat.reduceMul])
    refine r_cN hk5 (r_ret ?_)
    refine r_cR hk3 ?_
    obtain rfl := Option.some.inj h
    refine r_eAR hQ rfl rfl ?_
    simp (decide := true) only [go_sem, reduceIte, Nat.reduceAdd, Int.reduceToNat, Nat.reduceSub, Nat.reduceMul]
    all_goals first | exact wkEnd_same ⟨rfl, rfl⟩ | exact True.intro
  · refine r_skip (r_cN hk3 ?_)
    refine sem_cut fun k7 hk7 => ?_
    simp (decide := true) only [go_sem, reduceIte, Nat.reduceAdd, Int.reduceToNat, Nat.reduceSub, Nat.reduceMul]
    refine r_cN hk7 (r_ret ?_)
    obtain rfl := Option.some.inj h
    refine r_eAR hQ rfl rfl ?_
    simp (decide := true) only [go_sem, reduceIte, Nat.reduceAdd, Int.reduceToNat, Nat.reduceSub, Nat.reduceMul]
    all_goals first | exact wkEnd_same ⟨rfl, rfl⟩ | exact True.intro
noncomputable def spec_PicSum_j5 : Int → Option Int
  | v56 => (some (IntKind.u16.wrap (v56)))
noncomputable def spec_PicSum_j16 (v75 : Int) : Int → Option ((Int × Int) ⊕ Int)
  | v102 => (some (.inl (v102, (IntKind.i64.wrap (v75 + 1)))))
noncomputable def spec_PicSum_s23 : (Int × Int) → Option ((Int × Int) ⊕ Int)
  | (v106, v107) => (cond (decide (v107 < 8)) (Option.bind (spec_l17Round v106) fun v110 => (some (.inl (v110, (IntKind.i64.wrap (v107 + 1)))))) (some (.inr v106)))
noncomputable def spec_PicSum_s9 (v1 : (List Int)) : (Int × Int) → Option ((Int × Int) ⊕ Int)
  | (v74, v75) => (cond (decide (v75 < ((v1).length : Int))) (Option.bind (idx v1 (v75)) fun v103 => (Option.bind (spec_l17Xor v74 (IntKind.i64.wrap ((IntKind.i64.wrap (v103)) * 256))) fun v104 => ((loop spec_PicSum_s23 (v104, 0)).bind (fun v109 => (spec_PicSum_j16 v75 v109))))) (some (.inr v74)))
noncomputable def spec_PicSum (v1 : (List Int)) : Option Int :=
  ((loop (spec_PicSum_s9 v1) (65535, 0)).bind (fun v93 => (spec_PicSum_j5 v93)))
set_option maxRecDepth 10000 in
set_option maxHeartbeats 4000000 in
theorem con_spec_PicSum (v1 : (List Int)) (res_ : Int) (h : spec_PicSum v1 = some res_) : Con Try.prog C0 18 [.fz 1 (R e_u8 (v1))] []
    (fun x σ' => x = .sc (.int .u16 (res_)) ∧ σ' = []) := by
  refine con_of_sem hP [0, 2, 3, 4, 5, 9, 21] [.tmp 2] Try.func18 (by unfold Try.f18; rfl) rfl rfl (Nat.le_of_ble_eq_true rfl) rfl ?_
  simp only [enter_cons, enter_nil, List.length_cons, List.length_nil, Nat.reduceAdd]
  generalize hQ : endQ _ _ _ _ = Q
  unfold spec_PicSum at h
  refine sem_cut fun k1 hk1 => ?_
  simp (decide := true) only [go_sem, reduceIte, Nat.reduceAdd, Int.reduceToNat, Nat.reduceSub, Nat.reduceMul]
  refine r_cN hk1 (sem_cut fun k2 hk2 => ?_)
  simp (decide := true) only [go_sem, reduceIte, Nat.reduceAdd, Int.reduceToNat, Nat.reduceSub, Nat.reduceMul]
  refine r_cN hk2 (sem_cutJ (fun (_ : Unit) (x : Int) => (⟨[(3, .sc (.int .i64 (x)))], []⟩ : St)) (fun (_ : Unit) (x : Int) => spec_PicSum_j5 x = some res_) ?_ ?_)
  · rintro _ v56 h
    simp only [spec_PicSum_j5] at h
    refine sem_cut fun k150 hk150 => ?_
    simp (decide := true) only [go_sem, reduceIte, Nat.reduceAdd, Int.reduceToNat, Nat.reduceSub, Nat.reduceMul]
    refine r_cN hk150 (r_ret ?_)
    obtain rfl := Option.some.inj h
    refine r_eAR hQ rfl rfl ?_
    simp (decide := true) only [go_sem, reduceIte, Nat.reduceAdd, Int.reduceToNat, Nat.reduceSub, Nat.reduceMul]
    all_goals first | exact wkEnd_same ⟨rfl, rfl⟩ | exact True.intro
  · intro k152 hk152 J151
    refine sem_cut fun k153 hk153 => ?_
    simp (decide := true) only [go_sem, reduceIte, Nat.reduceAdd, Int.reduceToNat, Nat.reduceSub, Nat.reduceMul]
    refine r_cN hk153 (sem_blk fun k154 hk154 => ?_)
    obtain ⟨oq251, hLq251, hKq251⟩ := bind_some' h
    clear h
    refine sem_loopP [0, 3, 4] (fun (_ : Unit) (x : (Int × Int)) => (⟨[(0, .fz 1 (R e_u8 (v1))), (3, .sc (.int .i64 (x.1))), (4, .sc (.int .i64 (x.2)))], []⟩ : St)) (fun (_ : Unit) (x : (Int × Int)) => True) (spec_PicSum_s9 v1) () (65535, 0) hLq251 (by rfl) (by rfl) ⟨?_, trivial⟩ ?_
    · first | exact wkSt_same rfl | (simp (decide := true) only [go_sem, reduceIte, Nat.reduceAdd, Int.reduceToNat, Nat.reduceSub, Nat.reduceMul]; exact wkSt_same rfl)
    · rintro nq251 _ ⟨v74, v75⟩ xq251 kq251 hkq251 - h hIq251 hEq251
      simp only [spec_PicSum_s9] at h
      refine sem_cut fun k252 hk252 => sem_cut fun k253 hk253 => ?_
      simp (decide := true) only [go_sem, reduceIte, Nat.reduceAdd, Int.reduceToNat, Nat.reduceSub, Nat.reduceMul]
      refine r_cN hk253 ?_
      refine sem_ifh rfl h ?_ ?_ <;> clear h <;> intro h
      · refine r_skip (r_cN hk252 ?_)
        refine sem_cutJ (fun (_ : Unit) (x : Int) => (⟨[(0, .fz 1 (R e_u8 (v1))), (3, .sc (.int .i64 (x))), (4, .sc (.int .i64 (v75)))], []⟩ : St)) (fun (_ : Unit) (x : Int) => spec_PicSum_j16 v75 x = some xq251) ?_ ?_
        · rintro _ v102 h
          simp only [spec_PicSum_j16] at h
          simp (decide := true) only [go_sem, reduceIte, Nat.reduceAdd, Int.reduceToNat, Nat.reduceSub, Nat.reduceMul]
          obtain rfl := Option.some.inj h
          subst hkq251
          refine r_backP () _ rfl rfl ⟨?_, trivial⟩ (hIq251 _ rfl)
          first | exact wkSt_same rfl | (simp (decide := true) only [go_sem, reduceIte, Nat.reduceAdd, Int.reduceToNat, Nat.reduceSub, Nat.reduceMul]; exact wkSt_same rfl)
        · intro k277 hk277 J276
          refine sem_blk fun k278 hk278 => sem_cut fun k279 hk279 => ?_
          obtain ⟨v103, c280H, h⟩ := bind_some' h
          obtain ⟨c280A, c280B, c280C, -⟩ := idx_some c280H
          obtain ⟨v104, c281H, h⟩ := bind_some' h
          repeat' (first | with_reducible refine And.intro ?_ ?_ | ((with_reducible refine i_call (n := 41) ?_); refine call_openF [] ?_) | ((with_reducible refine i_callW (n := 41) ?_); refine callW_use (con_spec_l17Xor v74 (IntKind.i64.wrap ((IntKind.i64.wrap (v103)) * 256)) v104 c281H) ?_; rintro x σ' ⟨rfl, rfl⟩ <;> ((refine ⟨?_, ?_⟩; (focus simp (decide := true) only [go_sem, reduceIte, Nat.reduceAdd, Int.reduceToNat, Nat.reduceSub, Nat.reduceMul, c280A, c280B, c280C])); (with_reducible refine behind_go ?_))) | exact True.intro | with_reducible assumption | exact fun hf => False.elim hf | (intro hg; first | (simp +contextual [hg]; done) | grind) | omega | simp (decide := true) only [go_sem, reduceIte, Nat.reduceAdd, Int.reduceToNat, Nat.reduceSub, Nat.reduceMul, c280A, c280B, c280C])
          refine r_cN hk279 (sem_cut fun k282 hk282 => ?_)
          simp (decide := true) only [go_sem, reduceIte, Nat.reduceAdd, Int.reduceToNat, Nat.reduceSub, Nat.reduceMul]
          refine r_cN hk282 (sem_blk fun k283 hk283 => ?_)
          obtain ⟨oq294, hLq294, hKq294⟩ := bind_some' h
          clear h
          refine sem_loopP [0, 3, 4, 5] (fun (_ : Unit) (x : (Int × Int)) => (⟨[(0, .fz 1 (R e_u8 (v1))), (3, .sc (.int .i64 (x.1))), (4, .sc (.int .i64 (v75))), (5, .sc (.int .i64 (x.2)))], []⟩ : St)) (fun (_ : Unit) (x : (Int × Int)) => True) spec_PicSum_s23 () (v104, 0) hLq294 (by rfl) (by rfl) ⟨?_, trivial⟩ ?_
          · first | exact wkSt_same rfl | (simp (decide := true) only [go_sem, reduceIte, Nat.reduceAdd, Int.reduceToNat, Nat.reduceSub, Nat.reduceMul]; exact wkSt_same rfl)
          · rintro nq294 _ ⟨v106, v107⟩ xq294 kq294 hkq294 - h hIq294 hEq294
            simp only [spec_PicSum_s23] at h
            refine sem_cut fun k295 hk295 => sem_cut fun k296 hk296 => ?_
            simp (decide := true) only [go_sem, reduceIte, Nat.reduceAdd, Int.reduceToNat, Nat.reduceSub, Nat.reduceMul]
            refine r_cN hk296 ?_
            refine sem_ifh rfl h ?_ ?_ <;> clear h <;> intro h
            · refine r_skip (r_cN hk295 ?_)
              refine sem_cut fun k297 hk297 => sem_blk fun k298 hk298 => ?_
              obtain ⟨v110, c299H, h⟩ := bind_some' h
              repeat' (first | with_reducible refine And.intro ?_ ?_ | ((with_reducible refine i_call (n := 42) ?_); refine call_openF [] ?_) | ((with_reducible refine i_callW (n := 42) ?_); refine callW_use (con_spec_l17Round v106 v110 c299H) ?_; rintro x σ' ⟨rfl, rfl⟩ <;> ((refine ⟨?_, ?_⟩; (focus simp (decide := true) only [go_sem, reduceIte, Nat.reduceAdd, Int.reduceToNat, Nat.reduceSub, Nat.reduceMul])); (with_reducible refine behind_go ?_))) | exact True.intro | with_reducible assumption | exact fun hf => False.elim hf | (intro hg; first | (simp +contextual [hg]; done) | grind) | omega | simp (decide := true) only [go_sem, reduceIte, Nat.reduceAdd, Int.reduceToNat, Nat.reduceSub, Nat.reduceMul])
              refine r_bN hk298 (r_cN hk297 ?_)
              simp (decide := true) only [go_sem, reduceIte, Nat.reduceAdd, Int.reduceToNat, Nat.reduceSub, Nat.reduceMul]
              obtain rfl := Option.some.inj h
              subst hkq294
              refine r_backP () _ rfl rfl ⟨?_, trivial⟩ (hIq294 _ rfl)
              first | exact wkSt_same rfl | (simp (decide := true) only [go_sem, reduceIte, Nat.reduceAdd, Int.reduceToNat, Nat.reduceSub, Nat.reduceMul]; exact wkSt_same rfl)
            · refine r_exit (r_cE hk295 ?_)
              obtain rfl := Option.some.inj h
              obtain rfl := hEq294 _ rfl
              have h := hKq294
              try simp only [Sum.elim_inl, Sum.elim_inr] at h
              refine r_kE hkq294 (r_bE hk283 ?_)
              refine r_bN hk278 (r_joinU J276 [0, 3, 4] () _ rfl rfl ⟨?_, h⟩)
              first | exact wkSt_same rfl | (simp (decide := true) only [go_sem, reduceIte, Nat.reduceAdd, Int.reduceToNat, Nat.reduceSub, Nat.reduceMul]; exact wkSt_same rfl)
      · refine r_exit (r_cE hk252 ?_)
        obtain rfl := Option.some.inj h
        obtain rfl := hEq251 _ rfl
        have h := hKq251
        try simp only [Sum.elim_inl, Sum.elim_inr] at h
        refine r_kE hkq251 (r_bE hk154 ?_)
        refine r_joinU J151 [3] () _ rfl rfl ⟨?_, h⟩
        first | exact wkSt_same rfl | (simp (decide := true) only [go_sem, reduceIte, Nat.reduceAdd, Int.reduceToNat, Nat.reduceSub, Nat.reduceMul]; exact wkSt_same rfl)
noncomputable def spec_PicMake_j13 (v1 : (List Inst)) : (List Int) → Option ((List Int) × PicFault)
  | v18 => (Option.bind (spec_l17Num (IntKind.i64.wrap ((((v18).length : Nat) : Int) + 8)) 2) fun v19 => (gd (apOk (([83, 116] ++ v19)).length 1) (Option.bind (spec_l17Num ((v1).length : Int) 2) fun v20 => (gd (apOk ((([83, 116] ++ v19) ++ v20)).length 1) (gd (apOk (((([83, 116] ++ v19) ++ v20) ++ v18)).length 1) (Option.bind (spec_PicSum ((([83, 116] ++ v19) ++ v20) ++ v18)) fun v21 => (Option.bind (spec_l17Num (IntKind.i64.wrap (v21)) 2) fun v22 => (gd (apOk ((((([83, 116] ++ v19) ++ v20) ++ v18) ++ v22)).length 1) (some ((((([83, 116] ++ v19) ++ v20) ++ v18) ++ v22), (⟨0, 0⟩ : PicFault)))))))))))
noncomputable def spec_PicMake_s17 (v1 : (List Inst)) : ((List Int) × Int) → Option (((List Int) × Int) ⊕ ((Int × Int) ⊕ (List Int)))
  | (v27, v28) => (cond (decide (v28 < ((v1).length : Int))) (Option.bind (idx v1 (v28)) fun v35 => (Option.bind (spec_l17Wrong v35) fun v36 => (cond (decide (v36 > 0)) (some (.inr (.inl (v36, v28)))) (Option.bind (idx v1 (v28)) fun v37 => (Option.bind (spec_l17Inst v37) fun v38 => (gd (apOk ((v27 ++ v38)).length 1) (some (.inl ((v27 ++ v38), (IntKind.i64.wrap (v28 + 1))))))))))) (some (.inr (.inr v27))))
noncomputable def spec_PicMake (v1 : (List Inst)) : Option ((List Int) × PicFault) :=
  (cond (decide (((v1).length : Int) > 1000)) (some ([], (⟨1, 0⟩ : PicFault))) ((loop (spec_PicMake_s17 v1) ([], 0)).bind (Sum.elim (fun v33 => (some ([], (⟨v33.1, v33.2⟩ : PicFault)))) (fun v34 => (spec_PicMake_j13 v1 v34)))))
set_option maxRecDepth 10000 in
set_option maxHeartbeats 4000000 in
theorem con_spec_PicMake (v1 : (List Inst)) (res_ : ((List Int) × PicFault)) (h : spec_PicMake v1 = some res_) : Con Try.prog C0 65 [.fz 3 (R e_Inst (v1))] []
    (fun x σ' => x = .tup [.fz 1 (R e_u8 (res_.1)), .agg [.sc (.int .i64 (res_.2.Code)), .sc (.int .i64 (res_.2.At))]] ∧ σ' = []) := by
  refine con_of_sem hP [0, 2, 3, 4, 5, 6, 7, 10, 16, 25] [.tmp 2, .cell 3 25] Try.func65 (by unfold Try.f65; rfl) rfl rfl (Nat.le_of_ble_eq_true rfl) rfl ?_
  simp only [enter_cons, enter_nil, List.length_cons, List.length_nil, Nat.reduceAdd]
  generalize hQ : endQ _ _ _ _ = Q
  unfold spec_PicMake at h
  refine sem_cut fun k1 hk1 => ?_
  simp (decide := true) only [go_sem, reduceIte, Nat.reduceAdd, Int.reduceToNat, Nat.reduceSub, Nat.reduceMul]
  refine r_cN hk1 (sem_cut fun k2 hk2 => ?_)
  refine sem_cut fun k3 hk3 => ?_
  simp (decide := true) only [go_sem, reduceIte, Nat.reduceAdd, Int.reduceToNat, Nat.reduceSub, Nat.reduceMul]
  refine r_cN hk3 ?_
  refine sem_ifh rfl h ?_ ?_ <;> clear h <;> intro h
  · refine sem_cut fun k4 hk4 => ?_
    simp (decide := true) only [go_sem, reduceIte, Nat.reduceAdd, Int.reduceToNat, Nat.reduceSub, Nat.reduceMul]
    refine r_cN hk4 (r_ret ?_)
    refine r_cR hk2 ?_
    obtain rfl := Option.some.inj h
    refine r_eAR hQ rfl rfl ?_
    simp (decide := true) only [go_sem, reduceIte, Nat.reduceAdd, Int.reduceToNat, Nat.reduceSub, Nat.reduceMul]
    repeat' (with_reducible refine And.intro ?_ ?_)
    all_goals first | exact True.intro | (refine wkEnd_mk ?_ ?_ (⟨rfl, rfl⟩) <;> repeat' (first | exact wkE_nil | (with_reducible apply wkE_cons) | exact wkC_nil _ | exact wkV_nil _ | exact wkA_nil _ | (with_reducible apply wkV_agg) | (with_reducible apply wkV_tup) | (with_reducible apply wkA_agg) | exact wkA_refl _ | exact wkV_refl _ | exact wkS_nil | (with_reducible apply wkS_cons) | (with_reducible apply wkO_rc) | (with_reducible apply wkO_arr) | exact wkO_refl _ | exact wkL_nil | (with_reducible apply wkL_cons) | exact wkC_refl _ | exact wkT_nil | (with_reducible apply wkT_cons) | (with_reducible apply wkR_appR) | (with_reducible apply wkR_consR) | exact wkR_nilR _ | exact wkR_refl _))
  · refine r_skip (r_cN hk2 ?_)
    refine sem_cut fun k5 hk5 => ?_
    simp (decide := true) only [go_sem, reduceIte, Nat.reduceAdd, Int.reduceToNat, Nat.reduceSub, Nat.reduceMul]
    refine r_cN hk5 (sem_cutJ (fun (_ : Unit) (x : (List Int)) => (⟨[(0, .fz 3 (R e_Inst (v1))), (3, .pt 0 0), (4, .sl 1 0 ((x).length))], [.rc [.sc (.int .i64 (0)), .sc (.int .i64 (0))], .arr true 1 (R e_u8 (x))]⟩ : St)) (fun (_ : Unit) (x : (List Int)) => spec_PicMake_j13 v1 x = some res_) ?_ ?_)
    · rintro _ v18 h
      simp only [spec_PicMake_j13] at h
      refine sem_cut fun k48 hk48 => ?_
      obtain ⟨v19, c49H, h⟩ := bind_some' h
      obtain ⟨g50, h⟩ := gd_some h
      have g50A := apOk_1 g50; have g50B := apOk_2 g50
      repeat' (first | with_reducible refine And.intro ?_ ?_ | ((with_reducible refine i_call (n := 84) ?_); refine call_openF [] ?_) | ((with_reducible refine i_callW (n := 84) ?_); refine callW_use (con_spec_l17Num (IntKind.i64.wrap ((((v18).length : Nat) : Int) + 8)) 2 v19 c49H) ?_; rintro x σ' ⟨rfl, rfl⟩ <;> ((refine ⟨?_, ?_⟩; (focus simp (decide := true) only [go_sem, reduceIte, Nat.reduceAdd, Int.reduceToNat, Nat.reduceSub, Nat.reduceMul, g50A, g50B])); (with_reducible refine behind_go ?_))) | (simp only [List.length_append, List.length_cons, List.length_nil, R_len] at *; omega) | exact True.intro | with_reducible assumption | exact fun hf => False.elim hf | (intro hg; first | (simp +contextual [hg]; done) | grind) | omega | simp (decide := true) only [go_sem, reduceIte, Nat.reduceAdd, Int.reduceToNat, Nat.reduceSub, Nat.reduceMul, g50A, g50B])
      refine r_cN hk48 (sem_cut fun k51 hk51 => ?_)
      obtain ⟨v20, c52H, h⟩ := bind_some' h
      obtain ⟨g53, h⟩ := gd_some h
      have g53A := apOk_1 g53; have g53B := apOk_2 g53
      repeat' (first | with_reducible refine And.intro ?_ ?_ | ((with_reducible refine i_call (n := 84) ?_); refine call_openF [] ?_) | ((with_reducible refine i_callW (n := 84) ?_); refine callW_use (con_spec_l17Num ((v1).length : Int) 2 v20 c52H) ?_; rintro x σ' ⟨rfl, rfl⟩ <;> ((refine ⟨?_, ?_⟩; (focus simp (decide := true) only [go_sem, reduceIte, Nat.reduceAdd, Int.reduceToNat, Nat.reduceSub, Nat.reduceMul, g53A, g53B])); (with_reducible refine behind_go ?_))) | (simp only [List.length_append, List.length_cons, List.length_nil, R_len] at *; omega) | exact True.intro | with_reducible assumption | exact fun hf => False.elim hf | (intro hg; first | (simp +contextual [hg]; done) | grind) | omega | simp (decide := true) only [go_sem, reduceIte, Nat.reduceAdd, Int.reduceToNat, Nat.reduceSub, Nat.reduceMul, g53A, g53B])
      refine r_cN hk51 (sem_cut fun k54 hk54 => ?_)
      obtain ⟨g55, h⟩ := gd_some h
      have g55A := apOk_1 g55; have g55B := apOk_2 g55
      repeat' (first | with_reducible refine And.intro ?_ ?_ | (simp only [List.length_append, List.length_cons, List.length_nil, R_len] at *; omega) | exact True.intro | with_reducible assumption | exact fun hf => False.elim hf | (intro hg; first | (simp +contextual [hg]; done) | grind) | omega | simp (decide := true) only [go_sem, reduceIte, Nat.reduceAdd, Int.reduceToNat, Nat.reduceSub, Nat.reduceMul, g55A, g55B])
      refine r_cN hk54 (sem_cut fun k56 hk56 => ?_)
      obtain ⟨v21, c57H, h⟩ := bind_some' h
      obtain ⟨v22, c58H, h⟩ := bind_some' h
      obtain ⟨g59, h⟩ := gd_some h
      have g59A := apOk_1 g59; have g59B := apOk_2 g59
      repeat' (first | with_reducible refine And.intro ?_ ?_ | ((with_reducible refine i_call (n := 18) ?_); refine call_openF [] ?_) | ((with_reducible refine i_callW (n := 18) ?_); refine callW_use (con_spec_PicSum ((([83, 116] ++ v19) ++ v20) ++ v18) v21 c57H) ?_; rintro x σ' ⟨rfl, rfl⟩ <;> ((refine ⟨?_, ?_⟩; (focus simp (decide := true) only [go_sem, reduceIte, Nat.reduceAdd, Int.reduceToNat, Nat.reduceSub, Nat.reduceMul, g59A, g59B])); (with_reducible refine behind_go ?_))) | ((with_reducible refine i_call (n := 84) ?_); refine call_openF [] ?_) | ((with_reducible refine i_callW (n := 84) ?_); refine callW_use (con_spec_l17Num (IntKind.i64.wrap (v21)) 2 v22 c58H) ?_; rintro x σ' ⟨rfl, rfl⟩ <;> ((refine ⟨?_, ?_⟩; (focus simp (decide := true) only [go_sem, reduceIte, Nat.reduceAdd, Int.reduceToNat, Nat.reduceSub, Nat.reduceMul, g59A, g59B])); (with_reducible refine behind_go ?_))) | (simp only [List.length_append, List.length_cons, List.length_nil, R_len] at *; omega) | exact True.intro | with_reducible assumption | exact fun hf => False.elim hf | (intro hg; first | (simp +contextual [hg]; done) | grind) | omega | simp (decide := true) only [go_sem, reduceIte, Nat.reduceAdd, Int.reduceToNat, Nat.reduceSub, Nat.reduceMul, g59A, g59B])
      refine r_cN hk56 (r_ret ?_)
      obtain rfl := Option.some.inj h
      refine r_eAR hQ rfl rfl ?_
      simp (decide := true) only [go_sem, reduceIte, Nat.reduceAdd, Int.reduceToNat, Nat.reduceSub, Nat.reduceMul]
      repeat' (with_reducible refine And.intro ?_ ?_)
      all_goals first | exact wkEnd_same ⟨rfl, rfl⟩ | exact True.intro
    · intro k61 hk61 J60
      refine sem_cut fun k62 hk62 => ?_
      simp (decide := true) only [go_sem, reduceIte, Nat.reduceAdd, Int.reduceToNat, Nat.reduceSub, Nat.reduceMul]
      refine r_cN hk62 (sem_blk fun k63 hk63 => ?_)
      obtain ⟨oq90, hLq90, hKq90⟩ := bind_some' h
      clear h
      refine sem_loopP [0, 3, 4, 5] (fun (_ : Unit) (x : ((List Int) × Int)) => (⟨[(0, .fz 3 (R e_Inst (v1))), (3, .pt 0 0), (4, .sl 1 0 ((x.1).length)), (5, .sc (.int .i64 (x.2)))], [.rc [.sc (.int .i64 (0)), .sc (.int .i64 (0))], .arr true 1 (R e_u8 (x.1))]⟩ : St)) (fun (_ : Unit) (x : ((List Int) × Int)) => True) (spec_PicMake_s17 v1) () ([], 0) hLq90 (by rfl) (by rfl) ⟨?_, trivial⟩ ?_
      · first | exact wkSt_same rfl | (simp (decide := true) only [go_sem, reduceIte, Nat.reduceAdd, Int.reduceToNat, Nat.reduceSub, Nat.reduceMul]; exact wkSt_same rfl)
      · rintro nq90 _ ⟨v27, v28⟩ xq90 kq90 hkq90 - h hIq90 hEq90
        simp only [spec_PicMake_s17] at h
        refine sem_cut fun k91 hk91 => sem_cut fun k92 hk92 => ?_
        simp (decide := true) only [go_sem, reduceIte, Nat.reduceAdd, Int.reduceToNat, Nat.reduceSub, Nat.reduceMul]
        refine r_cN hk92 ?_
        refine sem_ifh rfl h ?_ ?_ <;> clear h <;> intro h
        · refine r_skip (r_cN hk91 ?_)
          refine sem_cut fun k93 hk93 => sem_blk fun k94 hk94 => sem_cut fun k95 hk95 => ?_
          obtain ⟨v35, c96H, h⟩ := bind_some' h
          obtain ⟨c96A, c96B, c96C, -⟩ := idx_some c96H
          obtain ⟨v36, c97H, h⟩ := bind_some' h
          repeat' (first | with_reducible refine And.intro ?_ ?_ | ((with_reducible refine i_call (n := 82) ?_); refine call_openF [] ?_) | ((with_reducible refine i_callW (n := 82) ?_); refine callW_use (con_spec_l17Wrong v35 v36 c97H) ?_; rintro x σ' ⟨rfl, rfl⟩ <;> ((refine ⟨?_, ?_⟩; (focus simp (decide := true) only [go_sem, reduceIte, Nat.reduceAdd, Int.reduceToNat, Nat.reduceSub, Nat.reduceMul, c96A, c96B, c96C])); (with_reducible refine behind_go ?_))) | exact True.intro | with_reducible assumption | exact fun hf => False.elim hf | (intro hg; first | (simp +contextual [hg]; done) | grind) | omega | simp (decide := true) only [go_sem, reduceIte, Nat.reduceAdd, Int.reduceToNat, Nat.reduceSub, Nat.reduceMul, c96A, c96B, c96C])
          refine r_cN hk95 (sem_cut fun k98 hk98 => ?_)
          refine sem_cut fun k99 hk99 => ?_
          simp (decide := true) only [go_sem, reduceIte, Nat.reduceAdd, Int.reduceToNat, Nat.reduceSub, Nat.reduceMul]
          refine r_cN hk99 ?_
          refine sem_ifh rfl h ?_ ?_ <;> clear h <;> intro h
          · refine sem_cut fun k100 hk100 => ?_
            simp (decide := true) only [go_sem, reduceIte, Nat.reduceAdd, Int.reduceToNat, Nat.reduceSub, Nat.reduceMul]
            refine r_cN hk100 (r_ret ?_)
            refine r_cR hk98 (r_bR hk94 ?_)
            refine r_cR hk93 ?_
            obtain rfl := Option.some.inj h
            obtain rfl := hEq90 _ rfl
            have h := hKq90
            try simp only [Sum.elim_inl, Sum.elim_inr] at h
            refine r_kR hkq90 (r_bR hk63 ?_)
            refine r_jR hk61 ?_
            obtain rfl := Option.some.inj h
            refine r_eAR hQ rfl rfl ?_
            simp (decide := true) only [go_sem, reduceIte, Nat.reduceAdd, Int.reduceToNat, Nat.reduceSub, Nat.reduceMul]
            repeat' (with_reducible refine And.intro ?_ ?_)
            all_goals first | exact True.intro | (refine wkEnd_mk ?_ ?_ (⟨rfl, rfl⟩) <;> repeat' (first | exact wkE_nil | (with_reducible apply wkE_cons) | exact wkC_nil _ | exact wkV_nil _ | exact wkA_nil _ | (with_reducible apply wkV_agg) | (with_reducible apply wkV_tup) | (with_reducible apply wkA_agg) | exact wkA_refl _ | exact wkV_refl _ | exact wkS_nil | (with_reducible apply wkS_cons) | (with_reducible apply wkO_rc) | (with_reducible apply wkO_arr) | exact wkO_refl _ | exact wkL_nil | (with_reducible apply wkL_cons) | exact wkC_refl _ | exact wkT_nil | (with_reducible apply wkT_cons) | (with_reducible apply wkR_appR) | (with_reducible apply wkR_consR) | exact wkR_nilR _ | exact wkR_refl _))
          · refine r_skip (r_cN hk98 ?_)
            obtain ⟨v37, c101H, h⟩ := bind_some' h
            obtain ⟨c101A, c101B, c101C, -⟩ := idx_some c101H
            obtain ⟨v38, c102H, h⟩ := bind_some' h
            obtain ⟨g103, h⟩ := gd_some h
            have g103A := apOk_1 g103; have g103B := apOk_2 g103
            repeat' (first | with_reducible refine And.intro ?_ ?_ | ((with_reducible refine i_call (n := 83) ?_); refine call_openF [] ?_) | ((with_reducible refine i_callW (n := 83) ?_); refine callW_use (con_spec_l17Inst v37 v38 c102H) ?_; rintro x σ' ⟨rfl, rfl⟩ <;> ((refine ⟨?_, ?_⟩; (focus simp (decide := true) only [go_sem, reduceIte, Nat.reduceAdd, Int.reduceToNat, Nat.reduceSub, Nat.reduceMul, c101A, c101B, c101C, g103A, g103B])); (with_reducible refine behind_go ?_))) | exact True.intro | with_reducible assumption | exact fun hf => False.elim hf | (intro hg; first | (simp +contextual [hg]; done) | grind) | omega | simp (decide := true) only [go_sem, reduceIte, Nat.reduceAdd, Int.reduceToNat, Nat.reduceSub, Nat.reduceMul, c101A, c101B, c101C, g103A, g103B])
            refine r_bN hk94 (r_cN hk93 ?_)
            simp (decide := true) only [go_sem, reduceIte, Nat.reduceAdd, Int.reduceToNat, Nat.reduceSub, Nat.reduceMul]
            obtain rfl := Option.some.inj h
            subst hkq90
            refine r_backP () _ rfl rfl ⟨?_, trivial⟩ (hIq90 _ rfl)
            first | exact wkSt_same rfl | (simp (decide := true) only [go_sem, reduceIte, Nat.reduceAdd, Int.reduceToNat, Nat.reduceSub, Nat.reduceMul]; exact wkSt_same rfl)
        · refine r_exit (r_cE hk91 ?_)
          obtain rfl := Option.some.inj h
          obtain rfl := hEq90 _ rfl
          have h := hKq90
          try simp only [Sum.elim_inl, Sum.elim_inr] at h
          refine r_kE hkq90 (r_bE hk63 ?_)
          refine r_joinU J60 [0, 3, 4] () _ rfl rfl ⟨?_, h⟩
          first | exact wkSt_same rfl | (simp (decide := true) only [go_sem, reduceIte, Nat.reduceAdd, Int.reduceToNat, Nat.reduceSub, Nat.reduceMul]; exact wkSt_same rfl)
noncomputable def spec_l17Image_j3 : ((List Int) × Int) → Option ((List Int) × l26Rd)
  | (v13, v14) => (Option.bind (spec_PicMake []) fun v15 => (some (v15.1, (⟨v13, v14⟩ : l26Rd))))
noncomputable def spec_l17Image_s7 : ((List Int) × Int × Int) → Option (((List Int) × Int × Int) ⊕ (((List Int) × Int × (List Int)) ⊕ ((List Int) × Int)))
  | (v18, v19, v20) => (cond (decide (v20 < 4)) (Option.bind (spec_l17List (⟨v18, v19⟩ : l26Rd)) fun v25 => (Option.bind (spec_PicMake v25.1) fun v26 => (cond (v26.2.Code == 0) (some (.inr (.inl (v25.2.b, v25.2.p, v26.1)))) (some (.inl (v25.2.b, v25.2.p, (IntKind.i64.wrap (v20 + 1)))))))) (some (.inr (.inr (v18, v19)))))
noncomputable def spec_l17Image (v1 : l26Rd) : Option ((List Int) × l26Rd) :=
  ((loop spec_l17Image_s7 (v1.b, v1.p, 0)).bind (Sum.elim (fun v23 => (some (v23.2.2, (⟨v23.1, v23.2.1⟩ : l26Rd)))) (fun v24 => (spec_l17Image_j3 (v24.1, v24.2)))))
set_option maxRecDepth 10000 in
set_option maxHeartbeats 4000000 in
theorem con_spec_l17Image (v1 : l26Rd) (res_ : ((List Int) × l26Rd)) (h : spec_l17Image v1 = some res_) : Con Try.prog C0 40 [.pt 0 0] [.rc [.fz 1 (R e_u8 (v1.b)), .sc (.int .i64 (v1.p))]]
    (fun x σ' => x = .fz 1 (R e_u8 (res_.1)) ∧ σ' = [.rc [.fz 1 (R e_u8 (res_.2.b)), .sc (.int .i64 (res_.2.p))]]) := by
  refine con_of_sem hP [0, 2, 3, 4, 5, 6, 9, 20] [.tmp 2] Try.func40 (by unfold Try.f40; rfl) rfl rfl (Nat.le_of_ble_eq_true rfl) rfl ?_
  simp only [enter_cons, enter_nil, List.length_cons, List.length_nil, Nat.reduceAdd]
  generalize hQ : endQ _ _ _ _ = Q
  unfold spec_l17Image at h
  refine sem_cut fun k1 hk1 => ?_
  simp (decide := true) only [go_sem, reduceIte, Nat.reduceAdd, Int.reduceToNat, Nat.reduceSub, Nat.reduceMul]
  refine r_cN hk1 (sem_cutJ (fun (_ : Unit) (x : ((List Int) × Int)) => (⟨[], [.rc [.fz 1 (R e_u8 (x.1)), .sc (.int .i64 (x.2))]]⟩ : St)) (fun (_ : Unit) (x : ((List Int) × Int)) => spec_l17Image_j3 x = some res_) ?_ ?_)
  · rintro _ ⟨v13, v14⟩ h
    simp only [spec_l17Image_j3] at h
    refine sem_cut fun k32 hk32 => ?_
    obtain ⟨v15, c33H, h⟩ := bind_some' h
    repeat' (first | with_reducible refine And.intro ?_ ?_ | ((with_reducible refine i_call (n := 65) ?_); refine call_open [] ?_) | ((with_reducible refine i_callW (n := 65) ?_); refine callW_use (Con.wk (con_spec_PicMake [] v15 c33H) ⟨(by repeat' (first | exact wkE_nil | (with_reducible apply wkE_cons) | exact wkC_nil _ | exact wkV_nil _ | exact wkA_nil _ | (with_reducible apply wkV_agg) | (with_reducible apply wkV_tup) | (with_reducible apply wkA_agg) | exact wkA_refl _ | exact wkV_refl _ | exact wkS_nil | (with_reducible apply wkS_cons) | (with_reducible apply wkO_rc) | (with_reducible apply wkO_arr) | exact wkO_refl _ | exact wkL_nil | (with_reducible apply wkL_cons) | exact wkC_refl _ | exact wkT_nil | (with_reducible apply wkT_cons) | (with_reducible apply wkR_appR) | (with_reducible apply wkR_consR) | exact wkR_nilR _ | exact wkR_refl _)), trivial⟩) ?_; rintro x σ' ⟨rfl, rfl⟩ <;> ((with_reducible refine behind_go ?_))) | exact True.intro | with_reducible assumption | exact fun hf => False.elim hf | (intro hg; first | (simp +contextual [hg]; done) | grind) | omega | simp (decide := true) only [go_sem, reduceIte, Nat.reduceAdd, Int.reduceToNat, Nat.reduceSub, Nat.reduceMul])
    refine r_cN hk32 (sem_cut fun k34 hk34 => ?_)
    simp (decide := true) only [go_sem, reduceIte, Nat.reduceAdd, Int.reduceToNat, Nat.reduceSub, Nat.reduceMul]
    refine r_cN hk34 (r_ret ?_)
    obtain rfl := Option.some.inj h
    refine r_eAR hQ rfl rfl ?_
    simp (decide := true) only [go_sem, reduceIte, Nat.reduceAdd, Int.reduceToNat, Nat.reduceSub, Nat.reduceMul]
    all_goals first | exact wkEnd_same ⟨rfl, rfl⟩ | exact True.intro
  · intro k36 hk36 J35
    refine sem_cut fun k37 hk37 => ?_
    simp (decide := true) only [go_sem, reduceIte, Nat.reduceAdd, Int.reduceToNat, Nat.reduceSub, Nat.reduceMul]
    refine r_cN hk37 (sem_blk fun k38 hk38 => ?_)
    obtain ⟨oq57, hLq57, hKq57⟩ := bind_some' h
    clear h
    refine sem_loopP [0, 3] (fun (_ : Unit) (x : ((List Int) × Int × Int)) => (⟨[(0, .pt 0 0), (3, .sc (.int .i64 (x.2.2)))], [.rc [.fz 1 (R e_u8 (x.1)), .sc (.int .i64 (x.2.1))]]⟩ : St)) (fun (_ : Unit) (x : ((List Int) × Int × Int)) => True) spec_l17Image_s7 () (v1.b, v1.p, 0) hLq57 (by rfl) (by rfl) ⟨?_, trivial⟩ ?_
    · first | exact wkSt_same rfl | (simp (decide := true) only [go_sem, reduceIte, Nat.reduceAdd, Int.reduceToNat, Nat.reduceSub, Nat.reduceMul]; exact wkSt_same rfl)
    · rintro nq57 _ ⟨v18, v19, v20⟩ xq57 kq57 hkq57 - h hIq57 hEq57
      simp only [spec_l17Image_s7] at h
      refine sem_cut fun k58 hk58 => sem_cut fun k59 hk59 => ?_
      simp (decide := true) only [go_sem, reduceIte, Nat.reduceAdd, Int.reduceToNat, Nat.reduceSub, Nat.reduceMul]
      refine r_cN hk59 ?_
      refine sem_ifh rfl h ?_ ?_ <;> clear h <;> intro h
      · refine r_skip (r_cN hk58 ?_)
        refine sem_cut fun k60 hk60 => sem_blk fun k61 hk61 => sem_cut fun k62 hk62 => ?_
        obtain ⟨v25, c63H, h⟩ := bind_some' h
        obtain ⟨v26, c64H, h⟩ := bind_some' h
        repeat' (first | with_reducible refine And.intro ?_ ?_ | ((with_reducible refine i_call (n := 66) ?_); refine call_open [[0]] ?_) | ((with_reducible refine i_callW (n := 66) ?_); refine callW_use (con_spec_l17List (⟨v18, v19⟩ : l26Rd) v25 c63H) ?_; rintro x σ' ⟨rfl, rfl⟩ <;> ((with_reducible refine behind_go ?_))) | ((with_reducible refine i_call (n := 65) ?_); refine call_open [] ?_) | ((with_reducible refine i_callW (n := 65) ?_); refine callW_use (con_spec_PicMake v25.1 v26 c64H) ?_; rintro x σ' ⟨rfl, rfl⟩ <;> ((with_reducible refine behind_go ?_))) | exact True.intro | with_reducible assumption | exact fun hf => False.elim hf | (intro hg; first | (simp +contextual [hg]; done) | grind) | omega | simp (decide := true) only [go_sem, reduceIte, Nat.reduceAdd, Int.reduceToNat, Nat.reduceSub, Nat.reduceMul])
        refine r_cN hk62 (sem_cut fun k65 hk65 => ?_)
        simp (decide := true) only [go_sem, reduceIte, Nat.reduceAdd, Int.reduceToNat, Nat.reduceSub, Nat.reduceMul]
        refine r_cN hk65 ?_
        refine sem_ifh rfl h ?_ ?_ <;> clear h <;> intro h
        · refine sem_cut fun k66 hk66 => ?_
          simp (decide := true) only [go_sem, reduceIte, Nat.reduceAdd, Int.reduceToNat, Nat.reduceSub, Nat.reduceMul]
          refine r_cN hk66 (r_ret ?_)
          refine r_bR hk61 (r_cR hk60 ?_)
          obtain rfl := Option.some.inj h
          obtain rfl := hEq57 _ rfl
          have h := hKq57
          try simp only [Sum.elim_inl, Sum.elim_inr] at h
          refine r_kR hkq57 (r_bR hk38 ?_)
          refine r_jR hk36 ?_
          obtain rfl := Option.some.inj h
          refine r_eAR hQ rfl rfl ?_
          simp (decide := true) only [go_sem, reduceIte, Nat.reduceAdd, Int.reduceToNat, Nat.reduceSub, Nat.reduceMul]
          all_goals first | exact wkEnd_same ⟨rfl, rfl⟩ | exact True.intro
        · refine r_skip (r_bN hk61 ?_)
          refine r_cN hk60 ?_
          simp (decide := true) only [go_sem, reduceIte, Nat.reduceAdd, Int.reduceToNat, Nat.reduceSub, Nat.reduceMul]
          obtain rfl := Option.some.inj h
          subst hkq57
          refine r_backP () _ rfl rfl ⟨?_, trivial⟩ (hIq57 _ rfl)
          first | exact wkSt_same rfl | (simp (decide := true) only [go_sem, reduceIte, Nat.reduceAdd, Int.reduceToNat, Nat.reduceSub, Nat.reduceMul]; exact wkSt_same rfl)
      · refine r_exit (r_cE hk58 ?_)
        obtain rfl := Option.some.inj h
        obtain rfl := hEq57 _ rfl
        have h := hKq57
        try simp only [Sum.elim_inl, Sum.elim_inr] at h
        refine r_kE hkq57 (r_bE hk38 ?_)
        refine r_joinU J35 [] () _ rfl rfl ⟨?_, h⟩
        first | exact wkSt_same rfl | (simp (decide := true) only [go_sem, reduceIte, Nat.reduceAdd, Int.reduceToNat, Nat.reduceSub, Nat.reduceMul]; exact wkSt_same rfl)
noncomputable def spec_DrawPicHex (v1 : (List Int)) : Option (List Int) :=
  (Option.bind (spec_l26Open v1) fun v2 => (Option.bind (spec_l17Image v2) fun v3 => (Option.bind (spec_l26Rd_pick v3.2 20) fun v4 => (cond (v4.1 == 0) (Option.bind (spec_l26Rd_pick v4.2 2) fun v5 => (gd (mkOk ((IntKind.i64.wrap (20008 + v5.1))) ((IntKind.i64.wrap (20008 + v5.1))) 1) (some (List.replicate ((IntKind.i64.wrap (20008 + v5.1))).toNat 0)))) (some v3.1)))))
set_option maxRecDepth 10000 in
set_option maxHeartbeats 4000000 in
theorem con_spec_DrawPicHex (v1 : (List Int)) (res_ : (List Int)) (h : spec_DrawPicHex v1 = some res_) : Con Try.prog C0 23 [.fz 1 (R e_u8 (v1))] []
    (fun x σ' => x = .fz 1 (R e_u8 (res_)) ∧ σ' = []) := by
  refine con_of_sem hP [0, 2, 3, 4, 11] [.tmp 2] Try.func23 (by unfold Try.f23; rfl) rfl rfl (Nat.le_of_ble_eq_true rfl) rfl ?_
  simp only [enter_cons, enter_nil, List.length_cons, List.length_nil, Nat.reduceAdd]
  generalize hQ : endQ _ _ _ _ = Q
  unfold spec_DrawPicHex at h
  refine sem_cut fun k1 hk1 => ?_
  simp (decide := true) only [go_sem, reduceIte, Nat.reduceAdd, Int.reduceToNat, Nat.reduceSub, Nat.reduceMul]
  refine r_cN hk1 (sem_cut fun k2 hk2 => ?_)
  obtain ⟨v2, c3H, h⟩ := bind_some' h
  repeat' (first | with_reducible refine And.intro ?_ ?_ | ((with_reducible refine i_call (n := 38) ?_); refine call_open [] ?_) | ((with_reducible refine i_callW (n := 38) ?_); refine callW_use (con_spec_l26Open v1 v2 c3H) ?_; rintro x σ' ⟨rfl, rfl⟩ <;> ((with_reducible refine behind_go ?_))) | exact True.intro | with_reducible assumption | exact fun hf => False.elim hf | (intro hg; first | (simp +contextual [hg]; done) | grind) | omega | simp (decide := true) only [go_sem, reduceIte, Nat.reduceAdd, Int.reduceToNat, Nat.reduceSub, Nat.reduceMul])
  refine r_cN hk2 (sem_cut fun k4 hk4 => ?_)
  obtain ⟨v3, c5H, h⟩ := bind_some' h
  repeat' (first | with_reducible refine And.intro ?_ ?_ | ((with_reducible refine i_call (n := 40) ?_); refine call_open [[0]] ?_) | ((with_reducible refine i_callW (n := 40) ?_); refine callW_use (con_spec_l17Image v2 v3 c5H) ?_; rintro x σ' ⟨rfl, rfl⟩ <;> ((with_reducible refine behind_go ?_))) | exact True.intro | with_reducible assumption | exact fun hf => False.elim hf | (intro hg; first | (simp +contextual [hg]; done) | grind) | omega | simp (decide := true) only [go_sem, reduceIte, Nat.reduceAdd, Int.reduceToNat, Nat.reduceSub, Nat.reduceMul])
  refine r_cN hk4 (sem_cut fun k6 hk6 => ?_)
  refine sem_cut fun k7 hk7 => ?_
  obtain ⟨v4, c8H, h⟩ := bind_some' h
  repeat' (first | with_reducible refine And.intro ?_ ?_ | ((with_reducible refine i_call (n := 39) ?_); refine call_open [[0]] ?_) | ((with_reducible refine i_callW (n := 39) ?_); refine callW_use (con_spec_l26Rd_pick v3.2 20 v4 c8H) ?_; rintro x σ' ⟨rfl, rfl⟩ <;> ((with_reducible refine behind_go ?_))) | exact True.intro | with_reducible assumption | exact fun hf => False.elim hf | (intro hg; first | (simp +contextual [hg]; done) | grind) | omega | simp (decide := true) only [go_sem, reduceIte, Nat.reduceAdd, Int.reduceToNat, Nat.reduceSub, Nat.reduceMul])
  refine r_cN hk7 ?_
  refine sem_ifh rfl h ?_ ?_ <;> clear h <;> intro h
  · refine sem_cut fun k9 hk9 => ?_
    obtain ⟨v5, c10H, h⟩ := bind_some' h
    obtain ⟨g11, h⟩ := gd_some h
    obtain ⟨g11A, g11B, g11C, g11D⟩ := mkOk_some g11
    repeat' (first | with_reducible refine And.intro ?_ ?_ | ((with_reducible refine i_call (n := 39) ?_); refine call_open [[0]] ?_) | ((with_reducible refine i_callW (n := 39) ?_); refine callW_use (con_spec_l26Rd_pick v4.2 2 v5 c10H) ?_; rintro x σ' ⟨rfl, rfl⟩ <;> ((with_reducible refine behind_go ?_))) | exact True.intro | with_reducible assumption | exact fun hf => False.elim hf | (intro hg; first | (simp +contextual [hg]; done) | grind) | omega | simp (decide := true) only [go_sem, reduceIte, Nat.reduceAdd, Int.reduceToNat, Nat.reduceSub, Nat.reduceMul, g11A, g11B, g11C, g11D])
    refine r_cN hk9 (r_ret ?_)
    refine r_cR hk6 ?_
    obtain rfl := Option.some.inj h
    refine r_eAR hQ rfl rfl ?_
    simp (decide := true) only [go_sem, reduceIte, Nat.reduceAdd, Int.reduceToNat, Nat.reduceSub, Nat.reduceMul]
    all_goals first | exact wkEnd_same ⟨rfl, rfl⟩ | exact True.intro
  · refine r_skip (r_cN hk6 ?_)
    refine sem_cut fun k12 hk12 => ?_
    simp (decide := true) only [go_sem, reduceIte, Nat.reduceAdd, Int.reduceToNat, Nat.reduceSub, Nat.reduceMul]
    refine r_cN hk12 (r_ret ?_)
    obtain rfl := Option.some.inj h
    refine r_eAR hQ rfl rfl ?_
    simp (decide := true) only [go_sem, reduceIte, Nat.reduceAdd, Int.reduceToNat, Nat.reduceSub, Nat.reduceMul]
    all_goals first | exact wkEnd_same ⟨rfl, rfl⟩ | exact True.intro
noncomputable def impl_hexText_j5 : (List Int) → Option ByteArray
  | v8 => (some (bstr v8))
noncomputable def impl_hexText_s9 (v1 : (List Int)) : ((List Int) × Int) → Option (((List Int) × Int) ⊕ (List Int))
  | (v10, v11) => (cond (decide (v11 < ((v1).length : Int))) (Option.bind (idx v1 (v11)) fun v14 => (gd (decide (0 ≤ ((v14).fdiv 16)) && decide (((v14).fdiv 16) < 16)) (gd (decide (0 ≤ (band .u8 v14 15)) && decide ((band .u8 v14 15) < 16)) (gd (apOk ((v10 ++ [(bat (ByteArray.mk #[48, 49, 50, 51, 52, 53, 54, 55, 56, 57, 97, 98, 99, 100, 101, 102]) ((v14).fdiv 16)), (bat (ByteArray.mk #[48, 49, 50, 51, 52, 53, 54, 55, 56, 57, 97, 98, 99, 100, 101, 102]) (band .u8 v14 15))])).length 1) (some (.inl ((v10 ++ [(bat (ByteArray.mk #[48, 49, 50, 51, 52, 53, 54, 55, 56, 57, 97, 98, 99, 100, 101, 102]) ((v14).fdiv 16)), (bat (ByteArray.mk #[48, 49, 50, 51, 52, 53, 54, 55, 56, 57, 97, 98, 99, 100, 101, 102]) (band .u8 v14 15))]), (IntKind.i64.wrap (v11 + 1))))))))) (some (.inr v10)))
noncomputable def impl_hexText (v1 : (List Int)) : Option ByteArray :=
  (gd (mkOk (0) ((IntKind.i64.wrap (2 * ((v1).length : Int)))) 1) ((loop (impl_hexText_s9 v1) ((List.replicate 0 0), 0)).bind (fun v13 => (impl_hexText_j5 v13))))
set_option maxRecDepth 10000 in
set_option maxHeartbeats 4000000 in
theorem con_impl_hexText (v1 : (List Int)) (res_ : ByteArray) (h : impl_hexText v1 = some res_) : Con Try.prog C0 47 [.fz 1 (R e_u8 (v1))] []
    (fun x σ' => x = .sc (.string (res_)) ∧ σ' = []) := by
  refine con_of_sem hP [0, 2, 3, 5, 10, 11, 12, 13] [.tmp 2] Try.func47 (by unfold Try.f47; rfl) rfl rfl (Nat.le_of_ble_eq_true rfl) rfl ?_
  simp only [enter_cons, enter_nil, List.length_cons, List.length_nil, Nat.reduceAdd]
  generalize hQ : endQ _ _ _ _ = Q
  unfold impl_hexText at h
  refine sem_cut fun k1 hk1 => ?_
  simp (decide := true) only [go_sem, reduceIte, Nat.reduceAdd, Int.reduceToNat, Nat.reduceSub, Nat.reduceMul]
  refine r_cN hk1 (sem_cut fun k2 hk2 => ?_)
  obtain ⟨g3, h⟩ := gd_some h
  obtain ⟨g3A, g3B, g3C, g3D⟩ := mkOk_some g3
  repeat' (first | with_reducible refine And.intro ?_ ?_ | exact True.intro | with_reducible assumption | exact fun hf => False.elim hf | (intro hg; first | (simp +contextual [hg]; done) | grind) | omega | simp (decide := true) only [go_sem, reduceIte, Nat.reduceAdd, Int.reduceToNat, Nat.reduceSub, Nat.reduceMul, g3A, g3B, g3C, g3D])
  refine r_cN hk2 (sem_cutJ (fun (_ : Unit) (x : (List Int)) => (⟨[(3, .sl 0 0 ((x).length))], [.arr true 1 (R e_u8 (x))]⟩ : St)) (fun (_ : Unit) (x : (List Int)) => impl_hexText_j5 x = some res_) ?_ ?_)
  · rintro _ v8 h
    simp only [impl_hexText_j5] at h
    refine sem_cut fun k34 hk34 => ?_
    simp (decide := true) only [go_sem, reduceIte, Nat.reduceAdd, Int.reduceToNat, Nat.reduceSub, Nat.reduceMul]
    refine r_cN hk34 (r_ret ?_)
    obtain rfl := Option.some.inj h
    refine r_eAR hQ rfl rfl ?_
    simp (decide := true) only [go_sem, reduceIte, Nat.reduceAdd, Int.reduceToNat, Nat.reduceSub, Nat.reduceMul]
    all_goals first | exact wkEnd_same ⟨rfl, rfl⟩ | exact True.intro
  · intro k36 hk36 J35
    refine sem_cut fun k37 hk37 => ?_
    simp (decide := true) only [go_sem, reduceIte, Nat.reduceAdd, Int.reduceToNat, Nat.reduceSub, Nat.reduceMul]
    refine r_cN hk37 (sem_blk fun k38 hk38 => ?_)
    obtain ⟨oq57, hLq57, hKq57⟩ := bind_some' h
    clear h
    refine sem_loopP [3, 10, 11, 12] (fun (_ : Unit) (x : ((List Int) × Int)) => (⟨[(3, .sl 0 0 ((x.1).length)), (10, .fz 1 (R e_u8 (v1))), (11, .sc (.int .i64 (((v1).length : Int)))), (12, .sc (.int .i64 (x.2)))], [.arr true 1 (R e_u8 (x.1))]⟩ : St)) (fun (_ : Unit) (x : ((List Int) × Int)) => True) (impl_hexText_s9 v1) () ((List.replicate 0 0), 0) hLq57 (by rfl) (by rfl) ⟨?_, trivial⟩ ?_
    · first | exact wkSt_same rfl | (simp (decide := true) only [go_sem, reduceIte, Nat.reduceAdd, Int.reduceToNat, Nat.reduceSub, Nat.reduceMul]; exact wkSt_same rfl)
    · rintro nq57 _ ⟨v10, v11⟩ xq57 kq57 hkq57 - h hIq57 hEq57
      simp only [impl_hexText_s9] at h
      refine sem_cut fun k58 hk58 => ?_
      simp (decide := true) only [go_sem, reduceIte, Nat.reduceAdd, Int.reduceToNat, Nat.reduceSub, Nat.reduceMul]
      refine r_cN hk58 (sem_cut fun k59 hk59 => ?_)
      refine sem_ifh rfl h ?_ ?_ <;> clear h <;> intro h
      · refine r_skip (r_cN hk59 ?_)
        refine sem_cut fun k60 hk60 => sem_blk fun k61 hk61 => sem_cut fun k62 hk62 => ?_
        obtain ⟨v14, c63H, h⟩ := bind_some' h
        obtain ⟨c63A, c63B, c63C, -⟩ := idx_some c63H
        repeat' (first | with_reducible refine And.intro ?_ ?_ | exact True.intro | with_reducible assumption | exact fun hf => False.elim hf | (intro hg; first | (simp +contextual [hg]; done) | grind) | omega | simp (decide := true) only [go_sem, reduceIte, Nat.reduceAdd, Int.reduceToNat, Nat.reduceSub, Nat.reduceMul, c63A, c63B, c63C])
        refine r_cN hk62 ?_
        obtain ⟨g64, h⟩ := gd_some h
        obtain ⟨g64A, g64B⟩ := dec_and g64
        obtain ⟨g65, h⟩ := gd_some h
        obtain ⟨g65A, g65B⟩ := dec_and g65
        obtain ⟨g66, h⟩ := gd_some h
        have g66A := apOk_1 g66; have g66B := apOk_2 g66
        with_reducible refine sem_plan (id := 5) (.take 0 (.take 1 (.take 2 (.take 3 (.take 4 (.take 5 (.take 6 (.last 7 (.last 8 (.take 9 .done)))))))))) [] ?_ ?_
        focus kernel_rfl
        repeat' (first | with_reducible refine And.intro ?_ ?_ | exact True.intro | with_reducible assumption | exact fun hf => False.elim hf | (intro hg; first | (simp +contextual [hg]; done) | grind) | omega | simp (decide := true) only [go_sem, reduceIte, Nat.reduceAdd, Int.reduceToNat, Nat.reduceSub, Nat.reduceMul, g64A, g64B, g65A, g65B, g66A, g66B])
        refine r_bN hk61 (r_cN hk60 ?_)
        simp (decide := true) only [go_sem, reduceIte, Nat.reduceAdd, Int.reduceToNat, Nat.reduceSub, Nat.reduceMul]
        obtain rfl := Option.some.inj h
        subst hkq57
        refine r_backP () _ rfl rfl ⟨?_, trivial⟩ (hIq57 _ rfl)
        first | exact wkSt_same rfl | (simp (decide := true) only [go_sem, reduceIte, Nat.reduceAdd, Int.reduceToNat, Nat.reduceSub, Nat.reduceMul]; exact wkSt_same rfl)
      · refine r_exit (r_cE hk59 ?_)
        obtain rfl := Option.some.inj h
        obtain rfl := hEq57 _ rfl
        have h := hKq57
        try simp only [Sum.elim_inl, Sum.elim_inr] at h
        refine r_kE hkq57 (r_bE hk38 ?_)
        refine r_joinU J35 [3] () _ rfl rfl ⟨?_, h⟩
        first | exact wkSt_same rfl | (simp (decide := true) only [go_sem, reduceIte, Nat.reduceAdd, Int.reduceToNat, Nat.reduceSub, Nat.reduceMul]; exact wkSt_same rfl)
noncomputable def impl_PicHex (v1 : (List Int)) : Option ByteArray :=
  (cond (decide (((v1).length : Int) > 20008)) (some (ByteArray.mk #[])) (Option.bind (impl_hexText v1) fun v2 => (some v2)))
set_option maxRecDepth 10000 in
set_option maxHeartbeats 4000000 in
theorem con_impl_PicHex (v1 : (List Int)) (res_ : ByteArray) (h : impl_PicHex v1 = some res_) : Con Try.prog C0 24 [.fz 1 (R e_u8 (v1))] []
    (fun x σ' => x = .sc (.string (res_)) ∧ σ' = []) := by
  refine con_of_sem hP [0, 2, 5] [.tmp 2] Try.func24 (by unfold Try.f24; rfl) rfl rfl (Nat.le_of_ble_eq_true rfl) rfl ?_
  simp only [enter_cons, enter_nil, List.length_cons, List.length_nil, Nat.reduceAdd]
  generalize hQ : endQ _ _ _ _ = Q
  unfold impl_PicHex at h
  refine sem_cut fun k1 hk1 => ?_
  simp (decide := true) only [go_sem, reduceIte, Nat.reduceAdd, Int.reduceToNat, Nat.reduceSub, Nat.reduceMul]
  refine r_cN hk1 (sem_cut fun k2 hk2 => ?_)
  refine sem_cut fun k3 hk3 => ?_
  simp (decide := true) only [go_sem, reduceIte, Nat.reduceAdd, Int.reduceToNat, Nat.reduceSub, Nat.reduceMul]
  refine r_cN hk3 ?_
  refine sem_ifh rfl h ?_ ?_ <;> clear h <;> intro h
  · refine sem_cut fun k4 hk4 => ?_
    simp (decide := true) only [go_sem, reduceIte, Nat.reduceAdd, Int.reduceToNat, Nat.reduceSub, Nat.reduceMul]
    refine r_cN hk4 (r_ret ?_)
    refine r_cR hk2 ?_
    obtain rfl := Option.some.inj h
    refine r_eAR hQ rfl rfl ?_
    simp (decide := true) only [go_sem, reduceIte, Nat.reduceAdd, Int.reduceToNat, Nat.reduceSub, Nat.reduceMul]
    all_goals first | exact wkEnd_same ⟨rfl, rfl⟩ | exact True.intro
  · refine r_skip (r_cN hk2 ?_)
    refine sem_cut fun k5 hk5 => ?_
    obtain ⟨v2, c6H, h⟩ := bind_some' h
    repeat' (first | with_reducible refine And.intro ?_ ?_ | ((with_reducible refine i_call (n := 47) ?_); refine call_openF [] ?_) | ((with_reducible refine i_callW (n := 47) ?_); refine callW_use (con_impl_hexText v1 v2 c6H) ?_; rintro x σ' ⟨rfl, rfl⟩ <;> ((refine ⟨?_, ?_⟩; (focus simp (decide := true) only [go_sem, reduceIte, Nat.reduceAdd, Int.reduceToNat, Nat.reduceSub, Nat.reduceMul])); (with_reducible refine behind_go ?_))) | exact True.intro | with_reducible assumption | exact fun hf => False.elim hf | (intro hg; first | (simp +contextual [hg]; done) | grind) | omega | simp (decide := true) only [go_sem, reduceIte, Nat.reduceAdd, Int.reduceToNat, Nat.reduceSub, Nat.reduceMul])
    refine r_cN hk5 (r_ret ?_)
    obtain rfl := Option.some.inj h
    refine r_eAR hQ rfl rfl ?_
    simp (decide := true) only [go_sem, reduceIte, Nat.reduceAdd, Int.reduceToNat, Nat.reduceSub, Nat.reduceMul]
    all_goals first | exact wkEnd_same ⟨rfl, rfl⟩ | exact True.intro
noncomputable def n_IndexByteString (v1 : ByteArray) (v2 : Int) : Option Int :=
  some (firstIdx v1 v2.toNat.toUInt8)
theorem con_n_IndexByteString (v1 : ByteArray) (v2 : Int) (res_ : Int) (h : n_IndexByteString v1 v2 = some res_) : Con Try.prog C0 115 [.sc (.string (v1)), .sc (.int .u8 (v2))] []
    (fun x σ' => x = .sc (.int .i64 (res_)) ∧ σ' = []) := by
  obtain rfl := Option.some.inj h
  exact con_ext Try.func115 (by unfold Try.f115; rfl) (by unfold Try.f115; rfl) (by unfold Try.f115; rfl) (by unfold Try.f115; rfl) [.string v1, .int .u8 v2] _ [] (fun w => run_indexByte_string v1 v2 w)
noncomputable def internal_stringslite_IndexByte (v1 : ByteArray) (v2 : Int) : Option Int :=
  (Option.bind (n_IndexByteString v1 v2) fun v3 => (some v3))
set_option maxRecDepth 10000 in
set_option maxHeartbeats 4000000 in
theorem con_internal_stringslite_IndexByte (v1 : ByteArray) (v2 : Int) (res_ : Int) (h : internal_stringslite_IndexByte v1 v2 = some res_) : Con Try.prog C0 95 [.sc (.string (v1)), .sc (.int .u8 (v2))] []
    (fun x σ' => x = .sc (.int .i64 (res_)) ∧ σ' = []) := by
  refine con_of_sem hP [0, 1, 4] [.tmp 4] Try.func95 (by unfold Try.f95; rfl) rfl rfl (Nat.le_of_ble_eq_true rfl) rfl ?_
  simp only [enter_cons, enter_nil, List.length_cons, List.length_nil, Nat.reduceAdd]
  generalize hQ : endQ _ _ _ _ = Q
  unfold internal_stringslite_IndexByte at h
  refine sem_cut fun k1 hk1 => ?_
  simp (decide := true) only [go_sem, reduceIte, Nat.reduceAdd, Int.reduceToNat, Nat.reduceSub, Nat.reduceMul]
  refine r_cN hk1 (sem_cut fun k2 hk2 => ?_)
  obtain ⟨v3, c3H, h⟩ := bind_some' h
  repeat' (first | with_reducible refine And.intro ?_ ?_ | ((with_reducible refine i_call (n := 115) ?_); refine call_openF [] ?_) | ((with_reducible refine i_callW (n := 115) ?_); refine callW_use (con_n_IndexByteString v1 v2 v3 c3H) ?_; rintro x σ' ⟨rfl, rfl⟩ <;> ((refine ⟨?_, ?_⟩; (focus simp (decide := true) only [go_sem, reduceIte, Nat.reduceAdd, Int.reduceToNat, Nat.reduceSub, Nat.reduceMul])); (with_reducible refine behind_go ?_))) | exact True.intro | with_reducible assumption | exact fun hf => False.elim hf | (intro hg; first | (simp +contextual [hg]; done) | grind) | omega | simp (decide := true) only [go_sem, reduceIte, Nat.reduceAdd, Int.reduceToNat, Nat.reduceSub, Nat.reduceMul])
  refine r_cN hk2 (r_ret ?_)
  obtain rfl := Option.some.inj h
  refine r_eAR hQ rfl rfl ?_
  simp (decide := true) only [go_sem, reduceIte, Nat.reduceAdd, Int.reduceToNat, Nat.reduceSub, Nat.reduceMul]
  all_goals first | exact wkEnd_same ⟨rfl, rfl⟩ | exact True.intro
noncomputable def strings_IndexByte (v1 : ByteArray) (v2 : Int) : Option Int :=
  (Option.bind (internal_stringslite_IndexByte v1 v2) fun v3 => (some v3))
set_option maxRecDepth 10000 in
set_option maxHeartbeats 4000000 in
theorem con_strings_IndexByte (v1 : ByteArray) (v2 : Int) (res_ : Int) (h : strings_IndexByte v1 v2 = some res_) : Con Try.prog C0 74 [.sc (.string (v1)), .sc (.int .u8 (v2))] []
    (fun x σ' => x = .sc (.int .i64 (res_)) ∧ σ' = []) := by
  refine con_of_sem hP [0, 1, 4] [.tmp 4] Try.func74 (by unfold Try.f74; rfl) rfl rfl (Nat.le_of_ble_eq_true rfl) rfl ?_
  simp only [enter_cons, enter_nil, List.length_cons, List.length_nil, Nat.reduceAdd]
  generalize hQ : endQ _ _ _ _ = Q
  unfold strings_IndexByte at h
  refine sem_cut fun k1 hk1 => ?_
  simp (decide := true) only [go_sem, reduceIte, Nat.reduceAdd, Int.reduceToNat, Nat.reduceSub, Nat.reduceMul]
  refine r_cN hk1 (sem_cut fun k2 hk2 => ?_)
  obtain ⟨v3, c3H, h⟩ := bind_some' h
  repeat' (first | with_reducible refine And.intro ?_ ?_ | ((with_reducible refine i_call (n := 95) ?_); refine call_openF [] ?_) | ((with_reducible refine i_callW (n := 95) ?_); refine callW_use (con_internal_stringslite_IndexByte v1 v2 v3 c3H) ?_; rintro x σ' ⟨rfl, rfl⟩ <;> ((refine ⟨?_, ?_⟩; (focus simp (decide := true) only [go_sem, reduceIte, Nat.reduceAdd, Int.reduceToNat, Nat.reduceSub, Nat.reduceMul])); (with_reducible refine behind_go ?_))) | exact True.intro | with_reducible assumption | exact fun hf => False.elim hf | (intro hg; first | (simp +contextual [hg]; done) | grind) | omega | simp (decide := true) only [go_sem, reduceIte, Nat.reduceAdd, Int.reduceToNat, Nat.reduceSub, Nat.reduceMul])
  refine r_cN hk2 (r_ret ?_)
  obtain rfl := Option.some.inj h
  refine r_eAR hQ rfl rfl ?_
  simp (decide := true) only [go_sem, reduceIte, Nat.reduceAdd, Int.reduceToNat, Nat.reduceSub, Nat.reduceMul]
  all_goals first | exact wkEnd_same ⟨rfl, rfl⟩ | exact True.intro
noncomputable def impl_hexBytes_j13 : (List Int) → Option ((List Int) × Bool)
  | v12 => (some (v12, true))
noncomputable def impl_hexBytes_s17 (v1 : ByteArray) : ((List Int) × Int) → Option (((List Int) × Int) ⊕ (Unit ⊕ (List Int)))
  | (v15, v16) => (cond (decide (v16 < ((v1).size : Int))) (gd (decide (0 ≤ v16) && decide (v16 < ((v1).size : Int))) (gd (decide (0 ≤ (IntKind.i64.wrap (v16 + 1))) && decide ((IntKind.i64.wrap (v16 + 1)) < ((v1).size : Int))) (Option.bind (strings_IndexByte (ByteArray.mk #[48, 49, 50, 51, 52, 53, 54, 55, 56, 57, 97, 98, 99, 100, 101, 102]) (bat v1 v16)) fun v21 => (Option.bind (strings_IndexByte (ByteArray.mk #[48, 49, 50, 51, 52, 53, 54, 55, 56, 57, 97, 98, 99, 100, 101, 102]) (bat v1 (IntKind.i64.wrap (v16 + 1)))) fun v22 => (cond ((decide (v21 < 0)) || (decide (v22 < 0))) (some (.inr (.inl ()))) (gd (apOk ((v15 ++ [(IntKind.u8.wrap ((IntKind.i64.wrap ((IntKind.i64.wrap (v21 * 16)) + v22))))])).length 1) (some (.inl ((v15 ++ [(IntKind.u8.wrap ((IntKind.i64.wrap ((IntKind.i64.wrap (v21 * 16)) + v22))))]), (IntKind.i64.wrap (v16 + 2))))))))))) (some (.inr (.inr v15))))
noncomputable def impl_hexBytes (v1 : ByteArray) : Option ((List Int) × Bool) :=
  (cond (((((v1).size : Int)).tmod 2) != 0) (some ([], false)) (gd (mkOk (0) ((IntKind.i64.wrap ((((v1).size : Int)).tdiv 2))) 1) ((loop (impl_hexBytes_s17 v1) ((List.replicate 0 0), 0)).bind (Sum.elim (fun v19 => (some ([], false))) (fun v20 => (impl_hexBytes_j13 v20))))))
set_option maxRecDepth 10000 in
set_option maxHeartbeats 4000000 in
theorem con_impl_hexBytes (v1 : ByteArray) (res_ : ((List Int) × Bool)) (h : impl_hexBytes v1 = some res_) : Con Try.prog C0 48 [.sc (.string (v1))] []
    (fun x σ' => x = .tup [.fz 1 (R e_u8 (res_.1)), .sc (.bool (res_.2))] ∧ σ' = []) := by
  refine con_of_sem hP [0, 2, 3, 4, 5, 6, 7, 11, 19, 36] [.tmp 2, .tmp 3] Try.func48 (by unfold Try.f48; rfl) rfl rfl (Nat.le_of_ble_eq_true rfl) rfl ?_
  simp only [enter_cons, enter_nil, List.length_cons, List.length_nil, Nat.reduceAdd]
  generalize hQ : endQ _ _ _ _ = Q
  unfold impl_hexBytes at h
  refine sem_cut fun k1 hk1 => ?_
  simp (decide := true) only [go_sem, reduceIte, Nat.reduceAdd, Int.reduceToNat, Nat.reduceSub, Nat.reduceMul]
  refine r_cN hk1 (sem_cut fun k2 hk2 => ?_)
  refine sem_cut fun k3 hk3 => ?_
  repeat' (first | with_reducible refine And.intro ?_ ?_ | exact True.intro | with_reducible assumption | exact fun hf => False.elim hf | (intro hg; first | (simp +contextual [hg]; done) | grind) | omega | simp (decide := true) only [go_sem, reduceIte, Nat.reduceAdd, Int.reduceToNat, Nat.reduceSub, Nat.reduceMul])
  refine r_cN hk3 ?_
  refine sem_ifh rfl h ?_ ?_ <;> clear h <;> intro h
  · refine sem_cut fun k4 hk4 => ?_
    simp (decide := true) only [go_sem, reduceIte, Nat.reduceAdd, Int.reduceToNat, Nat.reduceSub, Nat.reduceMul]
    refine r_cN hk4 (r_ret ?_)
    refine r_cR hk2 ?_
    obtain rfl := Option.some.inj h
    refine r_eAR hQ rfl rfl ?_
    simp (decide := true) only [go_sem, reduceIte, Nat.reduceAdd, Int.reduceToNat, Nat.reduceSub, Nat.reduceMul]
    all_goals first | exact True.intro | (refine wkEnd_mk ?_ ?_ (⟨rfl, rfl⟩) <;> repeat' (first | exact wkE_nil | (with_reducible apply wkE_cons) | exact wkC_nil _ | exact wkV_nil _ | exact wkA_nil _ | (with_reducible apply wkV_agg) | (with_reducible apply wkV_tup) | (with_reducible apply wkA_agg) | exact wkA_refl _ | exact wkV_refl _ | exact wkS_nil | (with_reducible apply wkS_cons) | (with_reducible apply wkO_rc) | (with_reducible apply wkO_arr) | exact wkO_refl _ | exact wkL_nil | (with_reducible apply wkL_cons) | exact wkC_refl _ | exact wkT_nil | (with_reducible apply wkT_cons) | (with_reducible apply wkR_appR) | (with_reducible apply wkR_consR) | exact wkR_nilR _ | exact wkR_refl _))
  · refine r_skip (r_cN hk2 ?_)
    refine sem_cut fun k5 hk5 => ?_
    obtain ⟨g6, h⟩ := gd_some h
    obtain ⟨g6A, g6B, g6C, g6D⟩ := mkOk_some g6
    repeat' (first | with_reducible refine And.intro ?_ ?_ | exact True.intro | with_reducible assumption | exact fun hf => False.elim hf | (intro hg; first | (simp +contextual [hg]; done) | grind) | omega | simp (decide := true) only [go_sem, reduceIte, Nat.reduceAdd, Int.reduceToNat, Nat.reduceSub, Nat.reduceMul, g6A, g6B, g6C, g6D])
    refine r_cN hk5 (sem_cutJ (fun (_ : Unit) (x : (List Int)) => (⟨[(4, .sl 0 0 ((x).length))], [.arr true 1 (R e_u8 (x))]⟩ : St)) (fun (_ : Unit) (x : (List Int)) => impl_hexBytes_j13 x = some res_) ?_ ?_)
    · rintro _ v12 h
      simp only [impl_hexBytes_j13] at h
      refine sem_cut fun k49 hk49 => ?_
      simp (decide := true) only [go_sem, reduceIte, Nat.reduceAdd, Int.reduceToNat, Nat.reduceSub, Nat.reduceMul]
      refine r_cN hk49 (r_ret ?_)
      obtain rfl := Option.some.inj h
      refine r_eAR hQ rfl rfl ?_
      simp (decide := true) only [go_sem, reduceIte, Nat.reduceAdd, Int.reduceToNat, Nat.reduceSub, Nat.reduceMul]
      all_goals first | exact wkEnd_same ⟨rfl, rfl⟩ | exact True.intro
    · intro k51 hk51 J50
      refine sem_cut fun k52 hk52 => ?_
      simp (decide := true) only [go_sem, reduceIte, Nat.reduceAdd, Int.reduceToNat, Nat.reduceSub, Nat.reduceMul]
      refine r_cN hk52 (sem_blk fun k53 hk53 => ?_)
      obtain ⟨oq80, hLq80, hKq80⟩ := bind_some' h
      clear h
      refine sem_loopP [0, 4, 5] (fun (_ : Unit) (x : ((List Int) × Int)) => (⟨[(0, .sc (.string (v1))), (4, .sl 0 0 ((x.1).length)), (5, .sc (.int .i64 (x.2)))], [.arr true 1 (R e_u8 (x.1))]⟩ : St)) (fun (_ : Unit) (x : ((List Int) × Int)) => True) (impl_hexBytes_s17 v1) () ((List.replicate 0 0), 0) hLq80 (by rfl) (by rfl) ⟨?_, trivial⟩ ?_
      · first | exact wkSt_same rfl | (simp (decide := true) only [go_sem, reduceIte, Nat.reduceAdd, Int.reduceToNat, Nat.reduceSub, Nat.reduceMul]; exact wkSt_same rfl)
      · rintro nq80 _ ⟨v15, v16⟩ xq80 kq80 hkq80 - h hIq80 hEq80
        simp only [impl_hexBytes_s17] at h
        refine sem_cut fun k81 hk81 => sem_cut fun k82 hk82 => ?_
        simp (decide := true) only [go_sem, reduceIte, Nat.reduceAdd, Int.reduceToNat, Nat.reduceSub, Nat.reduceMul]
        refine r_cN hk82 ?_
        refine sem_ifh rfl h ?_ ?_ <;> clear h <;> intro h
        · refine r_skip (r_cN hk81 ?_)
          refine sem_cut fun k83 hk83 => sem_blk fun k84 hk84 => sem_cut fun k85 hk85 => ?_
          obtain ⟨g86, h⟩ := gd_some h
          obtain ⟨g86A, g86B⟩ := dec_and g86
          obtain ⟨g87, h⟩ := gd_some h
          obtain ⟨g87A, g87B⟩ := dec_and g87
          obtain ⟨v21, c88H, h⟩ := bind_some' h
          obtain ⟨v22, c89H, h⟩ := bind_some' h
          with_reducible refine sem_plan (id := 7) (.take 0 (.take 1 (.take 2 (.take 4 (.take 5 (.take 6 (.take 7 (.last 3 (.last 8 (.take 9 (.take 10 .done))))))))))) [] ?_ ?_
          focus kernel_rfl
          repeat' (first | with_reducible refine And.intro ?_ ?_ | ((with_reducible refine i_call (n := 74) ?_); refine call_openF [] ?_) | ((with_reducible refine i_callW (n := 74) ?_); refine callW_use (con_strings_IndexByte (ByteArray.mk #[48, 49, 50, 51, 52, 53, 54, 55, 56, 57, 97, 98, 99, 100, 101, 102]) (bat v1 v16) v21 c88H) ?_; rintro x σ' ⟨rfl, rfl⟩ <;> ((refine ⟨?_, ?_⟩; (focus simp (decide := true) only [go_sem, reduceIte, Nat.reduceAdd, Int.reduceToNat, Nat.reduceSub, Nat.reduceMul, g86A, g86B, g87A, g87B])); (with_reducible refine behind_go ?_))) | ((with_reducible refine i_callW (n := 74) ?_); refine callW_use (con_strings_IndexByte (ByteArray.mk #[48, 49, 50, 51, 52, 53, 54, 55, 56, 57, 97, 98, 99, 100, 101, 102]) (bat v1 (IntKind.i64.wrap (v16 + 1))) v22 c89H) ?_; rintro x σ' ⟨rfl, rfl⟩ <;> ((refine ⟨?_, ?_⟩; (focus simp (decide := true) only [go_sem, reduceIte, Nat.reduceAdd, Int.reduceToNat, Nat.reduceSub, Nat.reduceMul, g86A, g86B, g87A, g87B])); (with_reducible refine behind_go ?_))) | exact True.intro | with_reducible assumption | exact fun hf => False.elim hf | (intro hg; first | (simp +contextual [hg]; done) | grind) | omega | simp (decide := true) only [go_sem, reduceIte, Nat.reduceAdd, Int.reduceToNat, Nat.reduceSub, Nat.reduceMul, g86A, g86B, g87A, g87B])
          refine r_cN hk85 (sem_cut fun k90 hk90 => ?_)
          refine sem_cut fun k91 hk91 => ?_
          repeat' (first | with_reducible refine And.intro ?_ ?_ | exact True.intro | with_reducible assumption | exact fun hf => False.elim hf | (intro hg; first | (simp +contextual [hg]; done) | grind) | omega | simp (decide := true) only [go_sem, reduceIte, Nat.reduceAdd, Int.reduceToNat, Nat.reduceSub, Nat.reduceMul])
          refine r_cN hk91 ?_
          refine sem_ifh rfl h ?_ ?_ <;> clear h <;> intro h
          · refine sem_cut fun k92 hk92 => ?_
            simp (decide := true) only [go_sem, reduceIte, Nat.reduceAdd, Int.reduceToNat, Nat.reduceSub, Nat.reduceMul]
            refine r_cN hk92 (r_ret ?_)
            refine r_cR hk90 (r_bR hk84 ?_)
            refine r_cR hk83 ?_
            obtain rfl := Option.some.inj h
            obtain rfl := hEq80 _ rfl
            have h := hKq80
            try simp only [Sum.elim_inl, Sum.elim_inr] at h
            refine r_kR hkq80 (r_bR hk53 ?_)
            refine r_jR hk51 ?_
            obtain rfl := Option.some.inj h
            refine r_eAR hQ rfl rfl ?_
            simp (decide := true) only [go_sem, reduceIte, Nat.reduceAdd, Int.reduceToNat, Nat.reduceSub, Nat.reduceMul]
            all_goals first | exact True.intro | (refine wkEnd_mk ?_ ?_ (⟨rfl, rfl⟩) <;> repeat' (first | exact wkE_nil | (with_reducible apply wkE_cons) | exact wkC_nil _ | exact wkV_nil _ | exact wkA_nil _ | (with_reducible apply wkV_agg) | (with_reducible apply wkV_tup) | (with_reducible apply wkA_agg) | exact wkA_refl _ | exact wkV_refl _ | exact wkS_nil | (with_reducible apply wkS_cons) | (with_reducible apply wkO_rc) | (with_reducible apply wkO_arr) | exact wkO_refl _ | exact wkL_nil | (with_reducible apply wkL_cons) | exact wkC_refl _ | exact wkT_nil | (with_reducible apply wkT_cons) | (with_reducible apply wkR_appR) | (with_reducible apply wkR_consR) | exact wkR_nilR _ | exact wkR_refl _))
          · refine r_skip (r_cN hk90 ?_)
            obtain ⟨g93, h⟩ := gd_some h
            have g93A := apOk_1 g93; have g93B := apOk_2 g93
            repeat' (first | with_reducible refine And.intro ?_ ?_ | exact True.intro | with_reducible assumption | exact fun hf => False.elim hf | (intro hg; first | (simp +contextual [hg]; done) | grind) | omega | simp (decide := true) only [go_sem, reduceIte, Nat.reduceAdd, Int.reduceToNat, Nat.reduceSub, Nat.reduceMul, g93A, g93B])
            refine r_bN hk84 (r_cN hk83 ?_)
            simp (decide := true) only [go_sem, reduceIte, Nat.reduceAdd, Int.reduceToNat, Nat.reduceSub, Nat.reduceMul]
            obtain rfl := Option.some.inj h
            subst hkq80
            refine r_backP () _ rfl rfl ⟨?_, trivial⟩ (hIq80 _ rfl)
            first | exact wkSt_same rfl | (simp (decide := true) only [go_sem, reduceIte, Nat.reduceAdd, Int.reduceToNat, Nat.reduceSub, Nat.reduceMul]; exact wkSt_same rfl)
        · refine r_exit (r_cE hk81 ?_)
          obtain rfl := Option.some.inj h
          obtain rfl := hEq80 _ rfl
          have h := hKq80
          try simp only [Sum.elim_inl, Sum.elim_inr] at h
          refine r_kE hkq80 (r_bE hk53 ?_)
          refine r_joinU J50 [4] () _ rfl rfl ⟨?_, h⟩
          first | exact wkSt_same rfl | (simp (decide := true) only [go_sem, reduceIte, Nat.reduceAdd, Int.reduceToNat, Nat.reduceSub, Nat.reduceMul]; exact wkSt_same rfl)
noncomputable def slices_Clone_byte_byte (v1 : (List Int)) : Option (List Int) :=
  (nilq v1 fun v2 => (cond v2 (some []) (gd (apOk (v1).length 1) (some v1))))
set_option maxRecDepth 10000 in
set_option maxHeartbeats 4000000 in
theorem con_slices_Clone_byte_byte (v1 : (List Int)) (res_ : (List Int)) (h : slices_Clone_byte_byte v1 = some res_) : Con Try.prog C0 76 [.fz 1 (R e_u8 (v1))] []
    (fun x σ' => x = .fz 1 (R e_u8 (res_)) ∧ σ' = []) := by
  refine con_of_sem hP [0, 2, 4] [.tmp 2] Try.func76 (by unfold Try.f76; rfl) rfl rfl (Nat.le_of_ble_eq_true rfl) rfl ?_
  simp only [enter_cons, enter_nil, List.length_cons, List.length_nil, Nat.reduceAdd]
  generalize hQ : endQ _ _ _ _ = Q
  unfold slices_Clone_byte_byte at h
  refine sem_cut fun k1 hk1 => ?_
  simp (decide := true) only [go_sem, reduceIte, Nat.reduceAdd, Int.reduceToNat, Nat.reduceSub, Nat.reduceMul]
  refine r_cN hk1 (sem_cut fun k2 hk2 => ?_)
  refine sem_cut fun k3 hk3 => ?_
  have c4H := nilq_some h
  clear h
  repeat' (first | with_reducible refine And.intro ?_ ?_ | exact True.intro | with_reducible assumption | exact fun hf => False.elim hf | (intro hg; first | (simp +contextual [hg]; done) | grind) | omega | ((with_reducible refine r_nileq ?_); refine ⟨?_, ?_⟩) | (intro v2 c4B) | simp (decide := true) only [go_sem, reduceIte, Nat.reduceAdd, Int.reduceToNat, Nat.reduceSub, Nat.reduceMul])
  replace h := c4H v2 (fun e => by have e2 := c4B e; simpa only [go_sem, reduceIte, Nat.reduceEqDiff] using e2)
  refine r_cN hk3 ?_
  refine sem_ifh rfl h ?_ ?_ <;> clear h <;> intro h
  · refine sem_cut fun k5 hk5 => ?_
    simp (decide := true) only [go_sem, reduceIte, Nat.reduceAdd, Int.reduceToNat, Nat.reduceSub, Nat.reduceMul]
    refine r_cN hk5 (r_ret ?_)
    refine r_cR hk2 ?_
    obtain rfl := Option.some.inj h
    refine r_eAR hQ rfl rfl ?_
    simp (decide := true) only [go_sem, reduceIte, Nat.reduceAdd, Int.reduceToNat, Nat.reduceSub, Nat.reduceMul]
    all_goals first | exact True.intro | (refine wkEnd_mk ?_ ?_ (⟨rfl, rfl⟩) <;> repeat' (first | exact wkE_nil | (with_reducible apply wkE_cons) | exact wkC_nil _ | exact wkV_nil _ | exact wkA_nil _ | (with_reducible apply wkV_agg) | (with_reducible apply wkV_tup) | (with_reducible apply wkA_agg) | exact wkA_refl _ | exact wkV_refl _ | exact wkS_nil | (with_reducible apply wkS_cons) | (with_reducible apply wkO_rc) | (with_reducible apply wkO_arr) | exact wkO_refl _ | exact wkL_nil | (with_reducible apply wkL_cons) | exact wkC_refl _ | exact wkT_nil | (with_reducible apply wkT_cons) | (with_reducible apply wkR_appR) | (with_reducible apply wkR_consR) | exact wkR_nilR _ | exact wkR_refl _))
  · refine r_skip (r_cN hk2 ?_)
    refine sem_cut fun k6 hk6 => ?_
    obtain ⟨g7, h⟩ := gd_some h
    have g7A := apOk_1 g7; have g7B := apOk_2 g7
    repeat' (first | with_reducible refine And.intro ?_ ?_ | exact True.intro | with_reducible assumption | exact fun hf => False.elim hf | (intro hg; first | (simp +contextual [hg]; done) | grind) | omega | simp (decide := true) only [go_sem, reduceIte, Nat.reduceAdd, Int.reduceToNat, Nat.reduceSub, Nat.reduceMul, g7A, g7B])
    refine r_cN hk6 (r_ret ?_)
    obtain rfl := Option.some.inj h
    refine r_eAR hQ rfl rfl ?_
    simp (decide := true) only [go_sem, reduceIte, Nat.reduceAdd, Int.reduceToNat, Nat.reduceSub, Nat.reduceMul]
    all_goals first | exact wkEnd_same ⟨rfl, rfl⟩ | exact True.intro
noncomputable def slices_Clip_byte_byte (v1 : (List Int)) : Option (List Int) :=
  (Option.bind (prtH v1 (((v1).length : Int))) fun v2 => (some v2))
set_option maxRecDepth 10000 in
set_option maxHeartbeats 4000000 in
theorem con_slices_Clip_byte_byte (v1 : (List Int)) (res_ : (List Int)) (h : slices_Clip_byte_byte v1 = some res_) : Con Try.prog C0 75 [.fz 1 (R e_u8 (v1))] []
    (fun x σ' => x = .fz 1 (R e_u8 (res_)) ∧ σ' = []) := by
  refine con_of_sem hP [0, 2] [.tmp 2] Try.func75 (by unfold Try.f75; rfl) rfl rfl (Nat.le_of_ble_eq_true rfl) rfl ?_
  simp only [enter_cons, enter_nil, List.length_cons, List.length_nil, Nat.reduceAdd]
  generalize hQ : endQ _ _ _ _ = Q
  unfold slices_Clip_byte_byte at h
  refine sem_cut fun k1 hk1 => ?_
  simp (decide := true) only [go_sem, reduceIte, Nat.reduceAdd, Int.reduceToNat, Nat.reduceSub, Nat.reduceMul]
  refine r_cN hk1 (sem_cut fun k2 hk2 => ?_)
  obtain ⟨v2, c3H, h⟩ := bind_some' h
  obtain ⟨c3A, c3B, c3C⟩ := prtH_some c3H
  try simp only [Int.reduceToNat, Int.toNat_zero, Int.toNat_one, Int.toNat_natCast, List.take_length] at c3C
  repeat' (first | with_reducible refine And.intro ?_ ?_ | exact True.intro | with_reducible assumption | exact fun hf => False.elim hf | (intro hg; first | (simp +contextual [hg]; done) | grind) | omega | simp (decide := true) only [go_sem, reduceIte, Nat.reduceAdd, Int.reduceToNat, Nat.reduceSub, Nat.reduceMul, c3A, c3B, c3C])
  refine r_cN hk2 (r_ret ?_)
  obtain rfl := Option.some.inj h
  refine r_eAR hQ rfl rfl ?_
  simp (decide := true) only [go_sem, reduceIte, Nat.reduceAdd, Int.reduceToNat, Nat.reduceSub, Nat.reduceMul]
  all_goals first | exact wkEnd_same ⟨rfl, rfl⟩ | exact True.intro
noncomputable def impl_clone_byte (v1 : (List Int)) : Option (List Int) :=
  (Option.bind (slices_Clone_byte_byte v1) fun v2 => (Option.bind (slices_Clip_byte_byte v2) fun v3 => (some v3)))
set_option maxRecDepth 10000 in
set_option maxHeartbeats 4000000 in
theorem con_impl_clone_byte (v1 : (List Int)) (res_ : (List Int)) (h : impl_clone_byte v1 = some res_) : Con Try.prog C0 49 [.fz 1 (R e_u8 (v1))] []
    (fun x σ' => x = .fz 1 (R e_u8 (res_)) ∧ σ' = []) := by
  refine con_of_sem hP [0, 2] [.tmp 2] Try.func49 (by unfold Try.f49; rfl) rfl rfl (Nat.le_of_ble_eq_true rfl) rfl ?_
  simp only [enter_cons, enter_nil, List.length_cons, List.length_nil, Nat.reduceAdd]
  generalize hQ : endQ _ _ _ _ = Q
  unfold impl_clone_byte at h
  refine sem_cut fun k1 hk1 => ?_
  simp (decide := true) only [go_sem, reduceIte, Nat.reduceAdd, Int.reduceToNat, Nat.reduceSub, Nat.reduceMul]
  refine r_cN hk1 (sem_cut fun k2 hk2 => ?_)
  obtain ⟨v2, c3H, h⟩ := bind_some' h
  obtain ⟨v3, c4H, h⟩ := bind_some' h
  repeat' (first | with_reducible refine And.intro ?_ ?_ | ((with_reducible refine i_call (n := 76) ?_); refine call_open [] ?_) | ((with_reducible refine i_callW (n := 76) ?_); refine callW_use (con_slices_Clone_byte_byte v1 v2 c3H) ?_; rintro x σ' ⟨rfl, rfl⟩ <;> ((with_reducible refine behind_go ?_))) | ((with_reducible refine i_call (n := 75) ?_); refine call_open [] ?_) | ((with_reducible refine i_callW (n := 75) ?_); refine callW_use (con_slices_Clip_byte_byte v2 v3 c4H) ?_; rintro x σ' ⟨rfl, rfl⟩ <;> ((with_reducible refine behind_go ?_))) | exact True.intro | with_reducible assumption | exact fun hf => False.elim hf | (intro hg; first | (simp +contextual [hg]; done) | grind) | omega | simp (decide := true) only [go_sem, reduceIte, Nat.reduceAdd, Int.reduceToNat, Nat.reduceSub, Nat.reduceMul])
  refine r_cN hk2 (r_ret ?_)
  obtain rfl := Option.some.inj h
  refine r_eAR hQ rfl rfl ?_
  simp (decide := true) only [go_sem, reduceIte, Nat.reduceAdd, Int.reduceToNat, Nat.reduceSub, Nat.reduceMul]
  all_goals first | exact wkEnd_same ⟨rfl, rfl⟩ | exact True.intro
noncomputable def impl_PicBytes (v1 : ByteArray) : Option ((List Int) × Bool) :=
  (Option.bind (impl_hexBytes v1) fun v2 => (cond ((!v2.2) || (decide (((v2.1).length : Int) > 20008))) (some ([], false)) (Option.bind (impl_clone_byte v2.1) fun v3 => (some (v3, true)))))
set_option maxRecDepth 10000 in
set_option maxHeartbeats 4000000 in
theorem con_impl_PicBytes (v1 : ByteArray) (res_ : ((List Int) × Bool)) (h : impl_PicBytes v1 = some res_) : Con Try.prog C0 25 [.sc (.string (v1))] []
    (fun x σ' => x = .tup [.fz 1 (R e_u8 (res_.1)), .sc (.bool (res_.2))] ∧ σ' = []) := by
  refine con_of_sem hP [0, 2, 3, 4, 5, 17] [.tmp 2, .tmp 3] Try.func25 (by unfold Try.f25; rfl) rfl rfl (Nat.le_of_ble_eq_true rfl) rfl ?_
  simp only [enter_cons, enter_nil, List.length_cons, List.length_nil, Nat.reduceAdd]
  generalize hQ : endQ _ _ _ _ = Q
  unfold impl_PicBytes at h
  refine sem_cut fun k1 hk1 => ?_
  simp (decide := true) only [go_sem, reduceIte, Nat.reduceAdd, Int.reduceToNat, Nat.reduceSub, Nat.reduceMul]
  refine r_cN hk1 (sem_cut fun k2 hk2 => ?_)
  obtain ⟨v2, c3H, h⟩ := bind_some' h
  repeat' (first | with_reducible refine And.intro ?_ ?_ | ((with_reducible refine i_call (n := 48) ?_); refine call_open [] ?_) | ((with_reducible refine i_callW (n := 48) ?_); refine callW_use (con_impl_hexBytes v1 v2 c3H) ?_; rintro x σ' ⟨rfl, rfl⟩ <;> ((with_reducible refine behind_go ?_))) | exact True.intro | with_reducible assumption | exact fun hf => False.elim hf | (intro hg; first | (simp +contextual [hg]; done) | grind) | omega | simp (decide := true) only [go_sem, reduceIte, Nat.reduceAdd, Int.reduceToNat, Nat.reduceSub, Nat.reduceMul])
  refine r_cN hk2 (sem_cut fun k4 hk4 => ?_)
  refine sem_cut fun k5 hk5 => ?_
  repeat' (first | with_reducible refine And.intro ?_ ?_ | exact True.intro | with_reducible assumption | exact fun hf => False.elim hf | (intro hg; first | (simp +contextual [hg]; done) | grind) | omega | simp (decide := true) only [go_sem, reduceIte, Nat.reduceAdd, Int.reduceToNat, Nat.reduceSub, Nat.reduceMul])
  refine r_cN hk5 ?_
  refine sem_ifh rfl h ?_ ?_ <;> clear h <;> intro h
  · refine sem_cut fun k6 hk6 => ?_
    simp (decide := true) only [go_sem, reduceIte, Nat.reduceAdd, Int.reduceToNat, Nat.reduceSub, Nat.reduceMul]
    refine r_cN hk6 (r_ret ?_)
    refine r_cR hk4 ?_
    obtain rfl := Option.some.inj h
    refine r_eAR hQ rfl rfl ?_
    simp (decide := true) only [go_sem, reduceIte, Nat.reduceAdd, Int.reduceToNat, Nat.reduceSub, Nat.reduceMul]
    all_goals first | exact True.intro | (refine wkEnd_mk ?_ ?_ (⟨rfl, rfl⟩) <;> repeat' (first | exact wkE_nil | (with_reducible apply wkE_cons) | exact wkC_nil _ | exact wkV_nil _ | exact wkA_nil _ | (with_reducible apply wkV_agg) | (with_reducible apply wkV_tup) | (with_reducible apply wkA_agg) | exact wkA_refl _ | exact wkV_refl _ | exact wkS_nil | (with_reducible apply wkS_cons) | (with_reducible apply wkO_rc) | (with_reducible apply wkO_arr) | exact wkO_refl _ | exact wkL_nil | (with_reducible apply wkL_cons) | exact wkC_refl _ | exact wkT_nil | (with_reducible apply wkT_cons) | (with_reducible apply wkR_appR) | (with_reducible apply wkR_consR) | exact wkR_nilR _ | exact wkR_refl _))
  · refine r_skip (r_cN hk4 ?_)
    refine sem_cut fun k7 hk7 => ?_
    obtain ⟨v3, c8H, h⟩ := bind_some' h
    repeat' (first | with_reducible refine And.intro ?_ ?_ | ((with_reducible refine i_call (n := 49) ?_); refine call_open [] ?_) | ((with_reducible refine i_callW (n := 49) ?_); refine callW_use (con_impl_clone_byte v2.1 v3 c8H) ?_; rintro x σ' ⟨rfl, rfl⟩ <;> ((with_reducible refine behind_go ?_))) | exact True.intro | with_reducible assumption | exact fun hf => False.elim hf | (intro hg; first | (simp +contextual [hg]; done) | grind) | omega | simp (decide := true) only [go_sem, reduceIte, Nat.reduceAdd, Int.reduceToNat, Nat.reduceSub, Nat.reduceMul])
    refine r_cN hk7 (r_ret ?_)
    obtain rfl := Option.some.inj h
    refine r_eAR hQ rfl rfl ?_
    simp (decide := true) only [go_sem, reduceIte, Nat.reduceAdd, Int.reduceToNat, Nat.reduceSub, Nat.reduceMul]
    all_goals first | exact wkEnd_same ⟨rfl, rfl⟩ | exact True.intro
noncomputable def spec_PicHex_j13 : (List Int) → Option ByteArray
  | v8 => (some (bstr v8))
noncomputable def spec_PicHex_s17 (v1 : (List Int)) : ((List Int) × Int) → Option (((List Int) × Int) ⊕ (List Int))
  | (v10, v11) => (cond (decide (v11 < ((v1).length : Int))) (Option.bind (idx v1 (v11)) fun v14 => (gd (decide (0 ≤ (IntKind.u8.wrap ((v14).tdiv 16))) && decide ((IntKind.u8.wrap ((v14).tdiv 16)) < 16)) (gd (decide (0 ≤ ((v14).tmod 16)) && decide (((v14).tmod 16) < 16)) (gd (apOk ((v10 ++ [(bat (ByteArray.mk #[48, 49, 50, 51, 52, 53, 54, 55, 56, 57, 97, 98, 99, 100, 101, 102]) (IntKind.u8.wrap ((v14).tdiv 16))), (bat (ByteArray.mk #[48, 49, 50, 51, 52, 53, 54, 55, 56, 57, 97, 98, 99, 100, 101, 102]) ((v14).tmod 16))])).length 1) (some (.inl ((v10 ++ [(bat (ByteArray.mk #[48, 49, 50, 51, 52, 53, 54, 55, 56, 57, 97, 98, 99, 100, 101, 102]) (IntKind.u8.wrap ((v14).tdiv 16))), (bat (ByteArray.mk #[48, 49, 50, 51, 52, 53, 54, 55, 56, 57, 97, 98, 99, 100, 101, 102]) ((v14).tmod 16))]), (IntKind.i64.wrap (v11 + 1))))))))) (some (.inr v10)))
noncomputable def spec_PicHex (v1 : (List Int)) : Option ByteArray :=
  (cond (decide (((v1).length : Int) > 20008)) (some (ByteArray.mk #[])) ((loop (spec_PicHex_s17 v1) ([], 0)).bind (fun v13 => (spec_PicHex_j13 v13))))
set_option maxRecDepth 10000 in
set_option maxHeartbeats 4000000 in
theorem con_spec_PicHex (v1 : (List Int)) (res_ : ByteArray) (h : spec_PicHex v1 = some res_) : Con Try.prog C0 26 [.fz 1 (R e_u8 (v1))] []
    (fun x σ' => x = .sc (.string (res_)) ∧ σ' = []) := by
  refine con_of_sem hP [0, 2, 3, 4, 7, 12] [.tmp 2] Try.func26 (by unfold Try.f26; rfl) rfl rfl (Nat.le_of_ble_eq_true rfl) rfl ?_
  simp only [enter_cons, enter_nil, List.length_cons, List.length_nil, Nat.reduceAdd]
  generalize hQ : endQ _ _ _ _ = Q
  unfold spec_PicHex at h
  refine sem_cut fun k1 hk1 => ?_
  simp (decide := true) only [go_sem, reduceIte, Nat.reduceAdd, Int.reduceToNat, Nat.reduceSub, Nat.reduceMul]
  refine r_cN hk1 (sem_cut fun k2 hk2 => ?_)
  refine sem_cut fun k3 hk3 => ?_
  simp (decide := true) only [go_sem, reduceIte, Nat.reduceAdd, Int.reduceToNat, Nat.reduceSub, Nat.reduceMul]
  refine r_cN hk3 ?_
  refine sem_ifh rfl h ?_ ?_ <;> clear h <;> intro h
  · refine sem_cut fun k4 hk4 => ?_
    simp (decide := true) only [go_sem, reduceIte, Nat.reduceAdd, Int.reduceToNat, Nat.reduceSub, Nat.reduceMul]
    refine r_cN hk4 (r_ret ?_)
    refine r_cR hk2 ?_
    obtain rfl := Option.some.inj h
    refine r_eAR hQ rfl rfl ?_
    simp (decide := true) only [go_sem, reduceIte, Nat.reduceAdd, Int.reduceToNat, Nat.reduceSub, Nat.reduceMul]
    all_goals first | exact wkEnd_same ⟨rfl, rfl⟩ | exact True.intro
  · refine r_skip (r_cN hk2 ?_)
    refine sem_cut fun k5 hk5 => ?_
    simp (decide := true) only [go_sem, reduceIte, Nat.reduceAdd, Int.reduceToNat, Nat.reduceSub, Nat.reduceMul]
    refine r_cN hk5 (sem_cutJ (fun (_ : Unit) (x : (List Int)) => (⟨[(3, .sl 0 0 ((x).length))], [.arr true 1 (R e_u8 (x))]⟩ : St)) (fun (_ : Unit) (x : (List Int)) => spec_PicHex_j13 x = some res_) ?_ ?_)
    · rintro _ v8 h
      simp only [spec_PicHex_j13] at h
      refine sem_cut fun k33 hk33 => ?_
      simp (decide := true) only [go_sem, reduceIte, Nat.reduceAdd, Int.reduceToNat, Nat.reduceSub, Nat.reduceMul]
      refine r_cN hk33 (r_ret ?_)
      obtain rfl := Option.some.inj h
      refine r_eAR hQ rfl rfl ?_
      simp (decide := true) only [go_sem, reduceIte, Nat.reduceAdd, Int.reduceToNat, Nat.reduceSub, Nat.reduceMul]
      all_goals first | exact wkEnd_same ⟨rfl, rfl⟩ | exact True.intro
    · intro k35 hk35 J34
      refine sem_cut fun k36 hk36 => ?_
      simp (decide := true) only [go_sem, reduceIte, Nat.reduceAdd, Int.reduceToNat, Nat.reduceSub, Nat.reduceMul]
      refine r_cN hk36 (sem_blk fun k37 hk37 => ?_)
      obtain ⟨oq54, hLq54, hKq54⟩ := bind_some' h
      clear h
      refine sem_loopP [0, 3, 4] (fun (_ : Unit) (x : ((List Int) × Int)) => (⟨[(0, .fz 1 (R e_u8 (v1))), (3, .sl 0 0 ((x.1).length)), (4, .sc (.int .i64 (x.2)))], [.arr true 1 (R e_u8 (x.1))]⟩ : St)) (fun (_ : Unit) (x : ((List Int) × Int)) => True) (spec_PicHex_s17 v1) () ([], 0) hLq54 (by rfl) (by rfl) ⟨?_, trivial⟩ ?_
      · first | exact wkSt_same rfl | (simp (decide := true) only [go_sem, reduceIte, Nat.reduceAdd, Int.reduceToNat, Nat.reduceSub, Nat.reduceMul]; exact wkSt_same rfl)
      · rintro nq54 _ ⟨v10, v11⟩ xq54 kq54 hkq54 - h hIq54 hEq54
        simp only [spec_PicHex_s17] at h
        refine sem_cut fun k55 hk55 => sem_cut fun k56 hk56 => ?_
        simp (decide := true) only [go_sem, reduceIte, Nat.reduceAdd, Int.reduceToNat, Nat.reduceSub, Nat.reduceMul]
        refine r_cN hk56 ?_
        refine sem_ifh rfl h ?_ ?_ <;> clear h <;> intro h
        · refine r_skip (r_cN hk55 ?_)
          refine sem_cut fun k57 hk57 => sem_blk fun k58 hk58 => ?_
          obtain ⟨v14, c59H, h⟩ := bind_some' h
          obtain ⟨c59A, c59B, c59C, -⟩ := idx_some c59H
          obtain ⟨g60, h⟩ := gd_some h
          obtain ⟨g60A, g60B⟩ := dec_and g60
          obtain ⟨g61, h⟩ := gd_some h
          obtain ⟨g61A, g61B⟩ := dec_and g61
          obtain ⟨g62, h⟩ := gd_some h
          have g62A := apOk_1 g62; have g62B := apOk_2 g62
          with_reducible refine sem_plan (id := 7) (.take 0 (.take 1 (.take 2 (.take 3 (.take 4 (.take 5 (.take 6 (.take 7 (.take 8 (.take 9 (.take 10 (.take 11 (.take 12 (.one 13 (.one 14 (.take 15 .done)))))))))))))))) [] ?_ ?_
          focus kernel_rfl
          repeat' (first | with_reducible refine And.intro ?_ ?_ | exact True.intro | with_reducible assumption | exact fun hf => False.elim hf | (intro hg; first | (simp +contextual [hg]; done) | grind) | omega | simp (decide := true) only [go_sem, reduceIte, Nat.reduceAdd, Int.reduceToNat, Nat.reduceSub, Nat.reduceMul, c59A, c59B, c59C, g60A, g60B, g61A, g61B, g62A, g62B])
          refine r_bN hk58 (r_cN hk57 ?_)
          simp (decide := true) only [go_sem, reduceIte, Nat.reduceAdd, Int.reduceToNat, Nat.reduceSub, Nat.reduceMul]
          obtain rfl := Option.some.inj h
          subst hkq54
          refine r_backP () _ rfl rfl ⟨?_, trivial⟩ (hIq54 _ rfl)
          first | exact wkSt_same rfl | (simp (decide := true) only [go_sem, reduceIte, Nat.reduceAdd, Int.reduceToNat, Nat.reduceSub, Nat.reduceMul]; exact wkSt_same rfl)
        · refine r_exit (r_cE hk55 ?_)
          obtain rfl := Option.some.inj h
          obtain rfl := hEq54 _ rfl
          have h := hKq54
          try simp only [Sum.elim_inl, Sum.elim_inr] at h
          refine r_kE hkq54 (r_bE hk37 ?_)
          refine r_joinU J34 [3] () _ rfl rfl ⟨?_, h⟩
          first | exact wkSt_same rfl | (simp (decide := true) only [go_sem, reduceIte, Nat.reduceAdd, Int.reduceToNat, Nat.reduceSub, Nat.reduceMul]; exact wkSt_same rfl)
noncomputable def spec_l26Rd_of (v1 : l26Rd) (v2 : (List ByteArray)) : Option (ByteArray × l26Rd) :=
  (Option.bind (spec_l26Rd_pick v1 ((v2).length : Int)) fun v3 => (Option.bind (idx v2 (v3.1)) fun v4 => (some (v4, v3.2))))
set_option maxRecDepth 10000 in
set_option maxHeartbeats 4000000 in
theorem con_spec_l26Rd_of (v1 : l26Rd) (v2 : (List ByteArray)) (res_ : (ByteArray × l26Rd)) (h : spec_l26Rd_of v1 v2 = some res_) : Con Try.prog C0 50 [.pt 0 0, .fz 1 (R e_str (v2))] [.rc [.fz 1 (R e_u8 (v1.b)), .sc (.int .i64 (v1.p))]]
    (fun x σ' => x = .sc (.string (res_.1)) ∧ σ' = [.rc [.fz 1 (R e_u8 (res_.2.b)), .sc (.int .i64 (res_.2.p))]]) := by
  refine con_of_sem hP [0, 1, 4] [.tmp 4] Try.func50 (by unfold Try.f50; rfl) rfl rfl (Nat.le_of_ble_eq_true rfl) rfl ?_
  simp only [enter_cons, enter_nil, List.length_cons, List.length_nil, Nat.reduceAdd]
  generalize hQ : endQ _ _ _ _ = Q
  unfold spec_l26Rd_of at h
  refine sem_cut fun k1 hk1 => ?_
  simp (decide := true) only [go_sem, reduceIte, Nat.reduceAdd, Int.reduceToNat, Nat.reduceSub, Nat.reduceMul]
  refine r_cN hk1 (sem_cut fun k2 hk2 => ?_)
  obtain ⟨v3, c3H, h⟩ := bind_some' h
  obtain ⟨v4, c4H, h⟩ := bind_some' h
  obtain ⟨c4A, c4B, c4C, -⟩ := idx_some c4H
  repeat' (first | with_reducible refine And.intro ?_ ?_ | ((with_reducible refine i_call (n := 39) ?_); refine call_open [[0]] ?_) | ((with_reducible refine i_callW (n := 39) ?_); refine callW_use (con_spec_l26Rd_pick v1 ((v2).length : Int) v3 c3H) ?_; rintro x σ' ⟨rfl, rfl⟩ <;> ((with_reducible refine behind_go ?_))) | exact True.intro | with_reducible assumption | exact fun hf => False.elim hf | (intro hg; first | (simp +contextual [hg]; done) | grind) | omega | simp (decide := true) only [go_sem, reduceIte, Nat.reduceAdd, Int.reduceToNat, Nat.reduceSub, Nat.reduceMul, c4A, c4B, c4C])
  refine r_cN hk2 (r_ret ?_)
  obtain rfl := Option.some.inj h
  refine r_eAR hQ rfl rfl ?_
  simp (decide := true) only [go_sem, reduceIte, Nat.reduceAdd, Int.reduceToNat, Nat.reduceSub, Nat.reduceMul]
  all_goals first | exact wkEnd_same ⟨rfl, rfl⟩ | exact True.intro
noncomputable def spec_l26Many_j5 : ByteArray → Option ByteArray
  | v10 => (some v10)
noncomputable def spec_l26Many_j15 (v12 : ByteArray) (v13 : Int) : ByteArray → Option ((ByteArray × Int × ByteArray) ⊕ ByteArray)
  | v17 => (gd (decide ((v12).size + (v12).size ≤ 9223372036854775807)) (some (.inl ((v12 ++ v12), (IntKind.i64.wrap ((v13).tdiv 2)), v17))))
noncomputable def spec_l26Many_s7 : (ByteArray × Int × ByteArray) → Option ((ByteArray × Int × ByteArray) ⊕ ByteArray)
  | (v12, v13, v14) => (cond (decide (v13 > 0)) (cond (((v13).tmod 2) == 1) (gd (decide ((v14).size + (v12).size ≤ 9223372036854775807)) (spec_l26Many_j15 v12 v13 (v14 ++ v12))) (spec_l26Many_j15 v12 v13 v14)) (some (.inr v14)))
noncomputable def spec_l26Many (v1 : ByteArray) (v2 : Int) : Option ByteArray :=
  ((loop spec_l26Many_s7 (v1, v2, (ByteArray.mk #[]))).bind (fun v16 => (spec_l26Many_j5 v16)))
set_option maxRecDepth 10000 in
set_option maxHeartbeats 4000000 in
theorem con_spec_l26Many (v1 : ByteArray) (v2 : Int) (res_ : ByteArray) (h : spec_l26Many v1 v2 = some res_) : Con Try.prog C0 51 [.sc (.string (v1)), .sc (.int .i64 (v2))] []
    (fun x σ' => x = .sc (.string (res_)) ∧ σ' = []) := by
  refine con_of_sem hP [0, 1, 4, 5, 7, 10] [.tmp 4] Try.func51 (by unfold Try.f51; rfl) rfl rfl (Nat.le_of_ble_eq_true rfl) rfl ?_
  simp only [enter_cons, enter_nil, List.length_cons, List.length_nil, Nat.reduceAdd]
  generalize hQ : endQ _ _ _ _ = Q
  unfold spec_l26Many at h
  refine sem_cut fun k1 hk1 => ?_
  simp (decide := true) only [go_sem, reduceIte, Nat.reduceAdd, Int.reduceToNat, Nat.reduceSub, Nat.reduceMul]
  refine r_cN hk1 (sem_cut fun k2 hk2 => ?_)
  simp (decide := true) only [go_sem, reduceIte, Nat.reduceAdd, Int.reduceToNat, Nat.reduceSub, Nat.reduceMul]
  refine r_cN hk2 (sem_cutJ (fun (_ : Unit) (x : ByteArray) => (⟨[(5, .sc (.string (x)))], []⟩ : St)) (fun (_ : Unit) (x : ByteArray) => spec_l26Many_j5 x = some res_) ?_ ?_)
  · rintro _ v10 h
    simp only [spec_l26Many_j5] at h
    refine sem_cut fun k38 hk38 => ?_
    simp (decide := true) only [go_sem, reduceIte, Nat.reduceAdd, Int.reduceToNat, Nat.reduceSub, Nat.reduceMul]
    refine r_cN hk38 (r_ret ?_)
    obtain rfl := Option.some.inj h
    refine r_eAR hQ rfl rfl ?_
    simp (decide := true) only [go_sem, reduceIte, Nat.reduceAdd, Int.reduceToNat, Nat.reduceSub, Nat.reduceMul]
    all_goals first | exact wkEnd_same ⟨rfl, rfl⟩ | exact True.intro
  · intro k40 hk40 J39
    refine sem_blk fun k41 hk41 => ?_
    obtain ⟨oq64, hLq64, hKq64⟩ := bind_some' h
    clear h
    refine sem_loopP [0, 1, 5] (fun (_ : Unit) (x : (ByteArray × Int × ByteArray)) => (⟨[(0, .sc (.string (x.1))), (1, .sc (.int .i64 (x.2.1))), (5, .sc (.string (x.2.2)))], []⟩ : St)) (fun (_ : Unit) (x : (ByteArray × Int × ByteArray)) => True) spec_l26Many_s7 () (v1, v2, (ByteArray.mk #[])) hLq64 (by rfl) (by rfl) ⟨?_, trivial⟩ ?_
    · first | exact wkSt_same rfl | (simp (decide := true) only [go_sem, reduceIte, Nat.reduceAdd, Int.reduceToNat, Nat.reduceSub, Nat.reduceMul]; exact wkSt_same rfl)
    · rintro nq64 _ ⟨v12, v13, v14⟩ xq64 kq64 hkq64 - h hIq64 hEq64
      simp only [spec_l26Many_s7] at h
      refine sem_cut fun k65 hk65 => sem_cut fun k66 hk66 => ?_
      simp (decide := true) only [go_sem, reduceIte, Nat.reduceAdd, Int.reduceToNat, Nat.reduceSub, Nat.reduceMul]
      refine r_cN hk66 ?_
      refine sem_ifh rfl h ?_ ?_ <;> clear h <;> intro h
      · refine r_skip (r_cN hk65 ?_)
        refine sem_blk fun k67 hk67 => sem_cutJ (fun (_ : Unit) (x : ByteArray) => (⟨[(0, .sc (.string (v12))), (1, .sc (.int .i64 (v13))), (5, .sc (.string (x)))], []⟩ : St)) (fun (_ : Unit) (x : ByteArray) => spec_l26Many_j15 v12 v13 x = some xq64) ?_ ?_
        · rintro _ v17 h
          simp only [spec_l26Many_j15] at h
          refine sem_cut fun k70 hk70 => ?_
          obtain ⟨g71, h⟩ := gd_some h
          have g71A := of_decide_eq_true g71
          repeat' (first | with_reducible refine And.intro ?_ ?_ | exact True.intro | with_reducible assumption | exact fun hf => False.elim hf | (intro hg; first | (simp +contextual [hg]; done) | grind) | omega | simp (decide := true) only [go_sem, reduceIte, Nat.reduceAdd, Int.reduceToNat, Nat.reduceSub, Nat.reduceMul, g71A])
          refine r_cN hk70 ?_
          repeat' (first | with_reducible refine And.intro ?_ ?_ | exact True.intro | with_reducible assumption | exact fun hf => False.elim hf | (intro hg; first | (simp +contextual [hg]; done) | grind) | omega | simp (decide := true) only [go_sem, reduceIte, Nat.reduceAdd, Int.reduceToNat, Nat.reduceSub, Nat.reduceMul])
          refine r_bN hk67 ?_
          obtain rfl := Option.some.inj h
          subst hkq64
          refine r_backP () _ rfl rfl ⟨?_, trivial⟩ (hIq64 _ rfl)
          first | exact wkSt_same rfl | (simp (decide := true) only [go_sem, reduceIte, Nat.reduceAdd, Int.reduceToNat, Nat.reduceSub, Nat.reduceMul]; exact wkSt_same rfl)
        · intro k73 hk73 J72
          refine sem_cut fun k74 hk74 => ?_
          repeat' (first | with_reducible refine And.intro ?_ ?_ | exact True.intro | with_reducible assumption | exact fun hf => False.elim hf | (intro hg; first | (simp +contextual [hg]; done) | grind) | omega | simp (decide := true) only [go_sem, reduceIte, Nat.reduceAdd, Int.reduceToNat, Nat.reduceSub, Nat.reduceMul])
          refine r_cN hk74 ?_
          refine sem_ifh rfl h ?_ ?_ <;> clear h <;> intro h
          · obtain ⟨g75, h⟩ := gd_some h
            have g75A := of_decide_eq_true g75
            repeat' (first | with_reducible refine And.intro ?_ ?_ | exact True.intro | with_reducible assumption | exact fun hf => False.elim hf | (intro hg; first | (simp +contextual [hg]; done) | grind) | omega | simp (decide := true) only [go_sem, reduceIte, Nat.reduceAdd, Int.reduceToNat, Nat.reduceSub, Nat.reduceMul, g75A])
            refine r_joinU J72 [0, 1, 5] () _ rfl rfl ⟨?_, h⟩
            first | exact wkSt_same rfl | (simp (decide := true) only [go_sem, reduceIte, Nat.reduceAdd, Int.reduceToNat, Nat.reduceSub, Nat.reduceMul]; exact wkSt_same rfl)
          · refine r_skip (r_joinU J72 [0, 1, 5] () _ rfl rfl ⟨?_, h⟩)
            first | exact wkSt_same rfl | (simp (decide := true) only [go_sem, reduceIte, Nat.reduceAdd, Int.reduceToNat, Nat.reduceSub, Nat.reduceMul]; exact wkSt_same rfl)
      · refine r_exit (r_cE hk65 ?_)
        obtain rfl := Option.some.inj h
        obtain rfl := hEq64 _ rfl
        have h := hKq64
        try simp only [Sum.elim_inl, Sum.elim_inr] at h
        refine r_kE hkq64 (r_bE hk41 ?_)
        refine r_joinU J39 [5] () _ rfl rfl ⟨?_, h⟩
        first | exact wkSt_same rfl | (simp (decide := true) only [go_sem, reduceIte, Nat.reduceAdd, Int.reduceToNat, Nat.reduceSub, Nat.reduceMul]; exact wkSt_same rfl)
noncomputable def spec_DrawPicBytes (v1 : (List Int)) : Option ByteArray :=
  (Option.bind (spec_l26Open v1) fun v2 => (Option.bind (spec_l17Image v2) fun v3 => (Option.bind (spec_PicHex v3.1) fun v4 => (Option.bind (spec_l26Rd_pick v3.2 8) fun v5 => (cond (v5.1 == 0) (Option.bind (spec_l26Rd_of v5.2 [(ByteArray.mk #[48]), (ByteArray.mk #[103, 48]), (ByteArray.mk #[48, 65]), (ByteArray.mk #[32]), (ByteArray.mk #[102, 102]), (ByteArray.mk #[48, 120]), (ByteArray.mk #[10])]) fun v6 => (gd (decide ((v4).size + (v6.1).size ≤ 9223372036854775807)) (some (v4 ++ v6.1)))) (cond (v5.1 == 1) (Option.bind (spec_l26Rd_pick v5.2 2) fun v7 => (Option.bind (spec_l26Many (ByteArray.mk #[48, 48]) (IntKind.i64.wrap (20008 + v7.1))) fun v8 => (some v8))) (some v4)))))))
set_option maxRecDepth 10000 in
set_option maxHeartbeats 4000000 in
theorem con_spec_DrawPicBytes (v1 : (List Int)) (res_ : ByteArray) (h : spec_DrawPicBytes v1 = some res_) : Con Try.prog C0 27 [.fz 1 (R e_u8 (v1))] []
    (fun x σ' => x = .sc (.string (res_)) ∧ σ' = []) := by
  refine con_of_sem hP [0, 2, 3, 4, 11, 12, 19] [.tmp 2] Try.func27 (by unfold Try.f27; rfl) rfl rfl (Nat.le_of_ble_eq_true rfl) rfl ?_
  simp only [enter_cons, enter_nil, List.length_cons, List.length_nil, Nat.reduceAdd]
  generalize hQ : endQ _ _ _ _ = Q
  unfold spec_DrawPicBytes at h
  refine sem_cut fun k1 hk1 => ?_
  simp (decide := true) only [go_sem, reduceIte, Nat.reduceAdd, Int.reduceToNat, Nat.reduceSub, Nat.reduceMul]
  refine r_cN hk1 (sem_cut fun k2 hk2 => ?_)
  obtain ⟨v2, c3H, h⟩ := bind_some' h
  repeat' (first | with_reducible refine And.intro ?_ ?_ | ((with_reducible refine i_call (n := 38) ?_); refine call_open [] ?_) | ((with_reducible refine i_callW (n := 38) ?_); refine callW_use (con_spec_l26Open v1 v2 c3H) ?_; rintro x σ' ⟨rfl, rfl⟩ <;> ((with_reducible refine behind_go ?_))) | exact True.intro | with_reducible assumption | exact fun hf => False.elim hf | (intro hg; first | (simp +contextual [hg]; done) | grind) | omega | simp (decide := true) only [go_sem, reduceIte, Nat.reduceAdd, Int.reduceToNat, Nat.reduceSub, Nat.reduceMul])
  refine r_cN hk2 (sem_cut fun k4 hk4 => ?_)
  obtain ⟨v3, c5H, h⟩ := bind_some' h
  obtain ⟨v4, c6H, h⟩ := bind_some' h
  repeat' (first | with_reducible refine And.intro ?_ ?_ | ((with_reducible refine i_call (n := 40) ?_); refine call_open [[0]] ?_) | ((with_reducible refine i_callW (n := 40) ?_); refine callW_use (con_spec_l17Image v2 v3 c5H) ?_; rintro x σ' ⟨rfl, rfl⟩ <;> ((with_reducible refine behind_go ?_))) | ((with_reducible refine i_call (n := 26) ?_); refine call_openF [] ?_) | ((with_reducible refine i_callW (n := 26) ?_); refine callW_use (con_spec_PicHex v3.1 v4 c6H) ?_; rintro x σ' ⟨rfl, rfl⟩ <;> ((refine ⟨?_, ?_⟩; (focus simp (decide := true) only [go_sem, reduceIte, Nat.reduceAdd, Int.reduceToNat, Nat.reduceSub, Nat.reduceMul])); (with_reducible refine behind_go ?_))) | exact True.intro | with_reducible assumption | exact fun hf => False.elim hf | (intro hg; first | (simp +contextual [hg]; done) | grind) | omega | simp (decide := true) only [go_sem, reduceIte, Nat.reduceAdd, Int.reduceToNat, Nat.reduceSub, Nat.reduceMul])
  refine r_cN hk4 (sem_cut fun k7 hk7 => ?_)
  refine sem_cut fun k8 hk8 => ?_
  obtain ⟨v5, c9H, h⟩ := bind_some' h
  repeat' (first | with_reducible refine And.intro ?_ ?_ | ((with_reducible refine i_call (n := 39) ?_); refine call_open [[0]] ?_) | ((with_reducible refine i_callW (n := 39) ?_); refine callW_use (con_spec_l26Rd_pick v3.2 8 v5 c9H) ?_; rintro x σ' ⟨rfl, rfl⟩ <;> ((with_reducible refine behind_go ?_))) | exact True.intro | with_reducible assumption | exact fun hf => False.elim hf | (intro hg; first | (simp +contextual [hg]; done) | grind) | omega | simp (decide := true) only [go_sem, reduceIte, Nat.reduceAdd, Int.reduceToNat, Nat.reduceSub, Nat.reduceMul])
  refine r_cN hk8 (sem_blk fun k10 hk10 => ?_)
  refine sem_cut fun k11 hk11 => ?_
  simp (decide := true) only [go_sem, reduceIte, Nat.reduceAdd, Int.reduceToNat, Nat.reduceSub, Nat.reduceMul]
  refine r_cN hk11 ?_
  refine sem_ifh rfl h ?_ ?_ <;> clear h <;> intro h
  · refine sem_cut fun k12 hk12 => ?_
    obtain ⟨v6, c13H, h⟩ := bind_some' h
    obtain ⟨g14, h⟩ := gd_some h
    have g14A := of_decide_eq_true g14
    repeat' (first | with_reducible refine And.intro ?_ ?_ | ((with_reducible refine i_call (n := 50) ?_); refine call_open [[0]] ?_) | ((with_reducible refine i_callW (n := 50) ?_); refine callW_use (con_spec_l26Rd_of v5.2 [(ByteArray.mk #[48]), (ByteArray.mk #[103, 48]), (ByteArray.mk #[48, 65]), (ByteArray.mk #[32]), (ByteArray.mk #[102, 102]), (ByteArray.mk #[48, 120]), (ByteArray.mk #[10])] v6 c13H) ?_; rintro x σ' ⟨rfl, rfl⟩ <;> ((with_reducible refine behind_go ?_))) | exact True.intro | with_reducible assumption | exact fun hf => False.elim hf | (intro hg; first | (simp +contextual [hg]; done) | grind) | omega | simp (decide := true) only [go_sem, reduceIte, Nat.reduceAdd, Int.reduceToNat, Nat.reduceSub, Nat.reduceMul, g14A])
    refine r_cN hk12 (r_ret ?_)
    refine r_bR hk10 (r_cR hk7 ?_)
    obtain rfl := Option.some.inj h
    refine r_eAR hQ rfl rfl ?_
    simp (decide := true) only [go_sem, reduceIte, Nat.reduceAdd, Int.reduceToNat, Nat.reduceSub, Nat.reduceMul]
    all_goals first | exact wkEnd_same ⟨rfl, rfl⟩ | exact True.intro
  · refine sem_cut fun k15 hk15 => ?_
    simp (decide := true) only [go_sem, reduceIte, Nat.reduceAdd, Int.reduceToNat, Nat.reduceSub, Nat.reduceMul]
    refine r_cN hk15 ?_
    refine sem_ifh rfl h ?_ ?_ <;> clear h <;> intro h
    · refine sem_cut fun k16 hk16 => ?_
      obtain ⟨v7, c17H, h⟩ := bind_some' h
      obtain ⟨v8, c18H, h⟩ := bind_some' h
      repeat' (first | with_reducible refine And.intro ?_ ?_ | ((with_reducible refine i_call (n := 39) ?_); refine call_open [[0]] ?_) | ((with_reducible refine i_callW (n := 39) ?_); refine callW_use (con_spec_l26Rd_pick v5.2 2 v7 c17H) ?_; rintro x σ' ⟨rfl, rfl⟩ <;> ((with_reducible refine behind_go ?_))) | ((with_reducible refine i_call (n := 51) ?_); refine call_openF [] ?_) | ((with_reducible refine i_callW (n := 51) ?_); refine callW_use (con_spec_l26Many (ByteArray.mk #[48, 48]) (IntKind.i64.wrap (20008 + v7.1)) v8 c18H) ?_; rintro x σ' ⟨rfl, rfl⟩ <;> ((refine ⟨?_, ?_⟩; (focus simp (decide := true) only [go_sem, reduceIte, Nat.reduceAdd, Int.reduceToNat, Nat.reduceSub, Nat.reduceMul])); (with_reducible refine behind_go ?_))) | exact True.intro | with_reducible assumption | exact fun hf => False.elim hf | (intro hg; first | (simp +contextual [hg]; done) | grind) | omega | simp (decide := true) only [go_sem, reduceIte, Nat.reduceAdd, Int.reduceToNat, Nat.reduceSub, Nat.reduceMul])
      refine r_cN hk16 (r_ret ?_)
      refine r_bR hk10 (r_cR hk7 ?_)
      obtain rfl := Option.some.inj h
      refine r_eAR hQ rfl rfl ?_
      simp (decide := true) only [go_sem, reduceIte, Nat.reduceAdd, Int.reduceToNat, Nat.reduceSub, Nat.reduceMul]
      all_goals first | exact wkEnd_same ⟨rfl, rfl⟩ | exact True.intro
    · refine r_skip (r_bN hk10 ?_)
      refine r_cN hk7 (sem_cut fun k19 hk19 => ?_)
      simp (decide := true) only [go_sem, reduceIte, Nat.reduceAdd, Int.reduceToNat, Nat.reduceSub, Nat.reduceMul]
      refine r_cN hk19 (r_ret ?_)
      obtain rfl := Option.some.inj h
      refine r_eAR hQ rfl rfl ?_
      simp (decide := true) only [go_sem, reduceIte, Nat.reduceAdd, Int.reduceToNat, Nat.reduceSub, Nat.reduceMul]
      all_goals first | exact wkEnd_same ⟨rfl, rfl⟩ | exact True.intro
noncomputable def spec_l17Digit (v1 : Int) : Option Int :=
  (cond ((decide (v1 ≥ 48)) && (decide (v1 ≤ 57))) (some (IntKind.i64.wrap ((IntKind.u8.wrap (v1 - 48))))) (cond ((decide (v1 ≥ 97)) && (decide (v1 ≤ 102))) (some (IntKind.i64.wrap ((IntKind.i64.wrap ((IntKind.u8.wrap (v1 - 97)))) + 10))) (some (-1))))
set_option maxRecDepth 10000 in
set_option maxHeartbeats 4000000 in
theorem con_spec_l17Digit (v1 : Int) (res_ : Int) (h : spec_l17Digit v1 = some res_) : Con Try.prog C0 52 [.sc (.int .u8 (v1))] []
    (fun x σ' => x = .sc (.int .i64 (res_)) ∧ σ' = []) := by
  refine con_of_sem hP [0, 2, 8, 17] [.tmp 2] Try.func52 (by unfold Try.f52; rfl) rfl rfl (Nat.le_of_ble_eq_true rfl) rfl ?_
  simp only [enter_cons, enter_nil, List.length_cons, List.length_nil, Nat.reduceAdd]
  generalize hQ : endQ _ _ _ _ = Q
  unfold spec_l17Digit at h
  refine sem_cut fun k1 hk1 => ?_
  simp (decide := true) only [go_sem, reduceIte, Nat.reduceAdd, Int.reduceToNat, Nat.reduceSub, Nat.reduceMul]
  refine r_cN hk1 (sem_cut fun k2 hk2 => ?_)
  refine sem_cut fun k3 hk3 => ?_
  repeat' (first | with_reducible refine And.intro ?_ ?_ | exact True.intro | with_reducible assumption | exact fun hf => False.elim hf | (intro hg; first | (simp +contextual [hg]; done) | grind) | omega | simp (decide := true) only [go_sem, reduceIte, Nat.reduceAdd, Int.reduceToNat, Nat.reduceSub, Nat.reduceMul])
  refine r_cN hk3 ?_
  refine sem_ifh rfl h ?_ ?_ <;> clear h <;> intro h
  · refine sem_cut fun k4 hk4 => ?_
    simp (decide := true) only [go_sem, reduceIte, Nat.reduceAdd, Int.reduceToNat, Nat.reduceSub, Nat.reduceMul]
    refine r_cN hk4 (r_ret ?_)
    refine r_cR hk2 ?_
    obtain rfl := Option.some.inj h
    refine r_eAR hQ rfl rfl ?_
    simp (decide := true) only [go_sem, reduceIte, Nat.reduceAdd, Int.reduceToNat, Nat.reduceSub, Nat.reduceMul]
    all_goals first | exact wkEnd_same ⟨rfl, rfl⟩ | exact True.intro
  · refine r_skip (r_cN hk2 ?_)
    refine sem_cut fun k5 hk5 => sem_cut fun k6 hk6 => ?_
    repeat' (first | with_reducible refine And.intro ?_ ?_ | exact True.intro | with_reducible assumption | exact fun hf => False.elim hf | (intro hg; first | (simp +contextual [hg]; done) | grind) | omega | simp (decide := true) only [go_sem, reduceIte, Nat.reduceAdd, Int.reduceToNat, Nat.reduceSub, Nat.reduceMul])
    refine r_cN hk6 ?_
    refine sem_ifh rfl h ?_ ?_ <;> clear h <;> intro h
    · refine sem_cut fun k7 hk7 => ?_
      simp (decide := true) only [go_sem, reduceIte, Nat.reduceAdd, Int.reduceToNat, Nat.reduceSub, Nat.reduceMul]
      refine r_cN hk7 (r_ret ?_)
      refine r_cR hk5 ?_
      obtain rfl := Option.some.inj h
      refine r_eAR hQ rfl rfl ?_
      simp (decide := true) only [go_sem, reduceIte, Nat.reduceAdd, Int.reduceToNat, Nat.reduceSub, Nat.reduceMul]
      all_goals first | exact wkEnd_same ⟨rfl, rfl⟩ | exact True.intro
    · refine r_skip (r_cN hk5 ?_)
      refine sem_cut fun k8 hk8 => ?_
      simp (decide := true) only [go_sem, reduceIte, Nat.reduceAdd, Int.reduceToNat, Nat.reduceSub, Nat.reduceMul]
      refine r_cN hk8 (r_ret ?_)
      obtain rfl := Option.some.inj h
      refine r_eAR hQ rfl rfl ?_
      simp (decide := true) only [go_sem, reduceIte, Nat.reduceAdd, Int.reduceToNat, Nat.reduceSub, Nat.reduceMul]
      all_goals first | exact wkEnd_same ⟨rfl, rfl⟩ | exact True.intro

end Go.AM
