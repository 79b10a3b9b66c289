/- Pure functions and their contracts. Conditions: none. -/
import Derived.Test.YtkafcijfljjlaabDoorAmQa3
set_option linter.unusedSimpArgs false
set_option linter.unusedVariables false
namespace Go.AM
open Go Go.Proofs
noncomputable def impl_DevIsBit (v1 : DevArg) : Option Bool :=
  (Option.bind (impl_DevArg_kindIs v1 [1, 2, 3, 4, 6, 7, 8]) fun v2 => (some v2))
set_option maxRecDepth 10000 in
set_option maxHeartbeats 4000000 in
theorem con_impl_DevIsBit (v1 : DevArg) (res_ : Bool) (h : impl_DevIsBit v1 = some res_) : Con Tryd.prog C0 89 [.agg [.sc (.int .i64 (v1.Kind)), .sc (.int .i64 (v1.N)), .sc (.int .i64 (v1.P))]] []
    (fun x σ' => x = .sc (.bool (res_)) ∧ σ' = []) := by
  refine con_of_sem hP [0, 1, 2] [.tmp 2] Tryd.func89 (by unfold Tryd.f89; rfl) rfl rfl (Nat.le_of_ble_eq_true rfl) rfl ?_
  simp only [enter_cons, enter_nil, List.length_cons, List.length_nil, Nat.reduceAdd]
  generalize hQ : endQ _ _ _ _ = Q
  unfold impl_DevIsBit at h
  refine sem_cut fun k1 hk1 => ?_
  simp (decide := true) only [go_sem, reduceIte, Nat.reduceAdd, Int.reduceToNat, Nat.reduceSub, Nat.reduceMul]
  refine r_cN hk1 (sem_cut fun k2 hk2 => ?_)
  obtain ⟨v2, c3H, h⟩ := bind_some' h
  repeat' (first | with_reducible refine And.intro ?_ ?_ | ((with_reducible refine i_call (n := 90) ?_); refine call_openF [] ?_) | ((with_reducible refine i_callW (n := 90) ?_); refine callW_use (con_impl_DevArg_kindIs v1 [1, 2, 3, 4, 6, 7, 8] v2 c3H) ?_; rintro x σ' ⟨rfl, rfl⟩ <;> ((refine ⟨?_, ?_⟩; (focus simp (decide := true) only [go_sem, reduceIte, Nat.reduceAdd, Int.reduceToNat, Nat.reduceSub, Nat.reduceMul])); (with_reducible refine behind_go ?_))) | exact True.intro | with_reducible assumption | exact fun hf => False.elim hf | (intro hg; first | (simp +contextual [hg]; done) | grind) | omega | simp (decide := true) only [go_sem, reduceIte, Nat.reduceAdd, Int.reduceToNat, Nat.reduceSub, Nat.reduceMul])
  refine r_cN hk2 (r_ret ?_)
  obtain rfl := Option.some.inj h
  refine r_eAR hQ rfl rfl ?_
  simp (decide := true) only [go_sem, reduceIte, Nat.reduceAdd, Int.reduceToNat, Nat.reduceSub, Nat.reduceMul]
  all_goals first | exact wkEnd_same ⟨rfl, rfl⟩ | exact True.intro
noncomputable def impl_DevIsWhole (v1 : DevArg) : Option Bool :=
  (Option.bind (impl_DevArg_kindIs v1 [7, 8, 9, 11]) fun v2 => (some v2))
set_option maxRecDepth 10000 in
set_option maxHeartbeats 4000000 in
theorem con_impl_DevIsWhole (v1 : DevArg) (res_ : Bool) (h : impl_DevIsWhole v1 = some res_) : Con Tryd.prog C0 94 [.agg [.sc (.int .i64 (v1.Kind)), .sc (.int .i64 (v1.N)), .sc (.int .i64 (v1.P))]] []
    (fun x σ' => x = .sc (.bool (res_)) ∧ σ' = []) := by
  refine con_of_sem hP [0, 1, 2] [.tmp 2] Tryd.func94 (by unfold Tryd.f94; rfl) rfl rfl (Nat.le_of_ble_eq_true rfl) rfl ?_
  simp only [enter_cons, enter_nil, List.length_cons, List.length_nil, Nat.reduceAdd]
  generalize hQ : endQ _ _ _ _ = Q
  unfold impl_DevIsWhole at h
  refine sem_cut fun k1 hk1 => ?_
  simp (decide := true) only [go_sem, reduceIte, Nat.reduceAdd, Int.reduceToNat, Nat.reduceSub, Nat.reduceMul]
  refine r_cN hk1 (sem_cut fun k2 hk2 => ?_)
  obtain ⟨v2, c3H, h⟩ := bind_some' h
  repeat' (first | with_reducible refine And.intro ?_ ?_ | ((with_reducible refine i_call (n := 90) ?_); refine call_openF [] ?_) | ((with_reducible refine i_callW (n := 90) ?_); refine callW_use (con_impl_DevArg_kindIs v1 [7, 8, 9, 11] v2 c3H) ?_; rintro x σ' ⟨rfl, rfl⟩ <;> ((refine ⟨?_, ?_⟩; (focus simp (decide := true) only [go_sem, reduceIte, Nat.reduceAdd, Int.reduceToNat, Nat.reduceSub, Nat.reduceMul])); (with_reducible refine behind_go ?_))) | exact True.intro | with_reducible assumption | exact fun hf => False.elim hf | (intro hg; first | (simp +contextual [hg]; done) | grind) | omega | simp (decide := true) only [go_sem, reduceIte, Nat.reduceAdd, Int.reduceToNat, Nat.reduceSub, Nat.reduceMul])
  refine r_cN hk2 (r_ret ?_)
  obtain rfl := Option.some.inj h
  refine r_eAR hQ rfl rfl ?_
  simp (decide := true) only [go_sem, reduceIte, Nat.reduceAdd, Int.reduceToNat, Nat.reduceSub, Nat.reduceMul]
  all_goals first | exact wkEnd_same ⟨rfl, rfl⟩ | exact True.intro
noncomputable def impl_all_1_fimpl_DevIsWhole (v1 : DevArg) : Option Bool :=
  (Option.bind (impl_DevIsWhole v1) fun v2 => (some (!v2)))
set_option maxRecDepth 10000 in
set_option maxHeartbeats 4000000 in
theorem con_impl_all_1_fimpl_DevIsWhole (v1 : DevArg) (res_ : Bool) (h : impl_all_1_fimpl_DevIsWhole v1 = some res_) : Con Tryd.prog C0 113 [.agg [.sc (.int .i64 (v1.Kind)), .sc (.int .i64 (v1.N)), .sc (.int .i64 (v1.P))], .pt 0 0] [.rc [.sc (.func (.func 94) #[] #[])]]
    (fun x σ' => x = .sc (.bool (res_)) ∧ σ' = [.rc [.sc (.func (.func 94) #[] #[])]]) := by
  refine con_of_sem hP [0, 1, 2, 3] [.tmp 3] Tryd.func113 (by unfold Tryd.f113; rfl) rfl rfl (Nat.le_of_ble_eq_true rfl) rfl ?_
  simp only [enter_cons, enter_nil, List.length_cons, List.length_nil, Nat.reduceAdd]
  generalize hQ : endQ _ _ _ _ = Q
  unfold impl_all_1_fimpl_DevIsWhole at h
  refine sem_cut fun k1 hk1 => ?_
  simp (decide := true) only [go_sem, reduceIte, Nat.reduceAdd, Int.reduceToNat, Nat.reduceSub, Nat.reduceMul]
  refine r_cN hk1 (sem_cut fun k2 hk2 => ?_)
  obtain ⟨v2, c3H, h⟩ := bind_some' h
  repeat' (first | with_reducible refine And.intro ?_ ?_ | ((with_reducible refine i_call (n := 94) ?_); refine call_openF [] ?_) | ((with_reducible refine i_callW (n := 94) ?_); refine callW_use (con_impl_DevIsWhole v1 v2 c3H) ?_; rintro x σ' ⟨rfl, rfl⟩ <;> ((refine ⟨?_, ?_⟩; (focus simp (decide := true) only [go_sem, reduceIte, Nat.reduceAdd, Int.reduceToNat, Nat.reduceSub, Nat.reduceMul])); (with_reducible refine behind_go ?_))) | exact True.intro | with_reducible assumption | exact fun hf => False.elim hf | (intro hg; first | (simp +contextual [hg]; done) | grind) | omega | simp (decide := true) only [go_sem, reduceIte, Nat.reduceAdd, Int.reduceToNat, Nat.reduceSub, Nat.reduceMul])
  refine r_cN hk2 (r_ret ?_)
  obtain rfl := Option.some.inj h
  refine r_eAR hQ rfl rfl ?_
  simp (decide := true) only [go_sem, reduceIte, Nat.reduceAdd, Int.reduceToNat, Nat.reduceSub, Nat.reduceMul]
  all_goals first | exact wkEnd_same ⟨rfl, rfl⟩ | exact True.intro
noncomputable def slices_IndexFunc_impl_DevArg_impl_DevArg_fimpl_all_1_impl_DevIsWhole_j3 : Unit → Option Int
  | () => (some (-1))
noncomputable def slices_IndexFunc_impl_DevArg_impl_DevArg_fimpl_all_1_impl_DevIsWhole_s7 (v1 : (List DevArg)) : Int → Option (Int ⊕ (Int ⊕ Unit))
  | v13 => (cond (decide (v13 < ((v1).length : Int))) (Option.bind (idx v1 (v13)) fun v18 => (Option.bind (impl_all_1_fimpl_DevIsWhole v18) fun v19 => (cond v19 (some (.inr (.inl v13))) (some (.inl (IntKind.i64.wrap (v13 + 1))))))) (some (.inr (.inr ()))))
noncomputable def slices_IndexFunc_impl_DevArg_impl_DevArg_fimpl_all_1_impl_DevIsWhole (v1 : (List DevArg)) : Option Int :=
  ((loop (slices_IndexFunc_impl_DevArg_impl_DevArg_fimpl_all_1_impl_DevIsWhole_s7 v1) 0).bind (Sum.elim (fun v16 => (some v16)) (fun v17 => (slices_IndexFunc_impl_DevArg_impl_DevArg_fimpl_all_1_impl_DevIsWhole_j3 ()))))
set_option maxRecDepth 10000 in
set_option maxHeartbeats 4000000 in
theorem con_slices_IndexFunc_impl_DevArg_impl_DevArg_fimpl_all_1_impl_DevIsWhole (v1 : (List DevArg)) (res_ : Int) (h : slices_IndexFunc_impl_DevArg_impl_DevArg_fimpl_all_1_impl_DevIsWhole v1 = some res_) : Con Tryd.prog C0 118 [.fz 3 (R e_DevArg (v1)), .clo 113 [(0, 0)]] [.rc [.sc (.func (.func 94) #[] #[])]]
    (fun x σ' => x = .sc (.int .i64 (res_)) ∧ σ' = [.rc [.sc (.func (.func 94) #[] #[])]]) := by
  refine con_of_sem hP [0, 1, 4, 5, 7, 8, 9, 16] [.tmp 4] Tryd.func118 (by unfold Tryd.f118; rfl) rfl rfl (Nat.le_of_ble_eq_true rfl) rfl ?_
  simp only [enter_cons, enter_nil, List.length_cons, List.length_nil, Nat.reduceAdd]
  generalize hQ : endQ _ _ _ _ = Q
  unfold slices_IndexFunc_impl_DevArg_impl_DevArg_fimpl_all_1_impl_DevIsWhole at h
  refine sem_cut fun k1 hk1 => ?_
  simp (decide := true) only [go_sem, reduceIte, Nat.reduceAdd, Int.reduceToNat, Nat.reduceSub, Nat.reduceMul]
  refine r_cN hk1 (sem_cutJ (fun (_ : Unit) (x : Unit) => (⟨[], [.rc [.sc (.func (.func 94) #[] #[])]]⟩ : St)) (fun (_ : Unit) (x : Unit) => slices_IndexFunc_impl_DevArg_impl_DevArg_fimpl_all_1_impl_DevIsWhole_j3 x = some res_) ?_ ?_)
  · rintro _ _ h
    simp only [slices_IndexFunc_impl_DevArg_impl_DevArg_fimpl_all_1_impl_DevIsWhole_j3] at h
    refine sem_cut fun k32 hk32 => ?_
    simp (decide := true) only [go_sem, reduceIte, Nat.reduceAdd, Int.reduceToNat, Nat.reduceSub, Nat.reduceMul]
    refine r_cN hk32 (r_ret ?_)
    obtain rfl := Option.some.inj h
    refine r_eAR hQ rfl rfl ?_
    simp (decide := true) only [go_sem, reduceIte, Nat.reduceAdd, Int.reduceToNat, Nat.reduceSub, Nat.reduceMul]
    all_goals first | exact wkEnd_same ⟨rfl, rfl⟩ | exact True.intro
  · intro k34 hk34 J33
    refine sem_cut fun k35 hk35 => ?_
    simp (decide := true) only [go_sem, reduceIte, Nat.reduceAdd, Int.reduceToNat, Nat.reduceSub, Nat.reduceMul]
    refine r_cN hk35 (sem_blk fun k36 hk36 => ?_)
    obtain ⟨oq55, hLq55, hKq55⟩ := bind_some' h
    clear h
    refine sem_loopP [0, 1, 7, 8] (fun (_ : Unit) (x : Int) => (⟨[(0, .fz 3 (R e_DevArg (v1))), (1, .clo 113 [(0, 0)]), (7, .sc (.int .i64 (((v1).length : Int)))), (8, .sc (.int .i64 (x)))], [.rc [.sc (.func (.func 94) #[] #[])]]⟩ : St)) (fun (_ : Unit) (x : Int) => True) (slices_IndexFunc_impl_DevArg_impl_DevArg_fimpl_all_1_impl_DevIsWhole_s7 v1) () 0 hLq55 (by rfl) (by rfl) ⟨?_, trivial⟩ ?_
    · first | exact wkSt_same rfl | (simp (decide := true) only [go_sem, reduceIte, Nat.reduceAdd, Int.reduceToNat, Nat.reduceSub, Nat.reduceMul]; exact wkSt_same rfl)
    · rintro nq55 _ v13 xq55 kq55 hkq55 - h hIq55 hEq55
      simp only [slices_IndexFunc_impl_DevArg_impl_DevArg_fimpl_all_1_impl_DevIsWhole_s7] at h
      refine sem_cut fun k56 hk56 => ?_
      simp (decide := true) only [go_sem, reduceIte, Nat.reduceAdd, Int.reduceToNat, Nat.reduceSub, Nat.reduceMul]
      refine r_cN hk56 (sem_cut fun k57 hk57 => ?_)
      refine sem_ifh rfl h ?_ ?_ <;> clear h <;> intro h
      · refine r_skip (r_cN hk57 ?_)
        refine sem_cut fun k58 hk58 => sem_blk fun k59 hk59 => sem_cut fun k60 hk60 => ?_
        simp (decide := true) only [go_sem, reduceIte, Nat.reduceAdd, Int.reduceToNat, Nat.reduceSub, Nat.reduceMul]
        refine r_cN hk60 (sem_cut fun k61 hk61 => ?_)
        obtain ⟨v18, c62H, h⟩ := bind_some' h
        obtain ⟨c62A, c62B, c62C, -⟩ := idx_some c62H
        obtain ⟨v19, c63H, h⟩ := bind_some' h
        repeat' (first | with_reducible refine And.intro ?_ ?_ | ((with_reducible refine i_call (n := 113) ?_); refine call_openF [[1]] ?_) | ((with_reducible refine i_callW (n := 113) ?_); refine callW_use (con_impl_all_1_fimpl_DevIsWhole v18 v19 c63H) ?_; rintro x σ' ⟨rfl, rfl⟩ <;> ((refine ⟨?_, ?_⟩; (focus simp (decide := true) only [go_sem, reduceIte, Nat.reduceAdd, Int.reduceToNat, Nat.reduceSub, Nat.reduceMul, c62A, c62B, c62C])); (with_reducible refine behind_go ?_))) | exact True.intro | with_reducible assumption | exact fun hf => False.elim hf | (intro hg; first | (simp +contextual [hg]; done) | grind) | omega | simp (decide := true) only [go_sem, reduceIte, Nat.reduceAdd, Int.reduceToNat, Nat.reduceSub, Nat.reduceMul, c62A, c62B, c62C])
        refine r_cN hk61 ?_
        refine sem_ifh rfl h ?_ ?_ <;> clear h <;> intro h
        · refine sem_cut fun k64 hk64 => ?_
          simp (decide := true) only [go_sem, reduceIte, Nat.reduceAdd, Int.reduceToNat, Nat.reduceSub, Nat.reduceMul]
          refine r_cN hk64 (r_ret ?_)
          refine r_bR hk59 (r_cR hk58 ?_)
          obtain rfl := Option.some.inj h
          obtain rfl := hEq55 _ rfl
          have h := hKq55
          try simp only [Sum.elim_inl, Sum.elim_inr] at h
          refine r_kR hkq55 (r_bR hk36 ?_)
          refine r_jR hk34 ?_
          obtain rfl := Option.some.inj h
          refine r_eAR hQ rfl rfl ?_
          simp (decide := true) only [go_sem, reduceIte, Nat.reduceAdd, Int.reduceToNat, Nat.reduceSub, Nat.reduceMul]
          all_goals first | exact wkEnd_same ⟨rfl, rfl⟩ | exact True.intro
        · refine r_skip (r_bN hk59 ?_)
          refine r_cN hk58 ?_
          simp (decide := true) only [go_sem, reduceIte, Nat.reduceAdd, Int.reduceToNat, Nat.reduceSub, Nat.reduceMul]
          obtain rfl := Option.some.inj h
          subst hkq55
          refine r_backP () _ rfl rfl ⟨?_, trivial⟩ (hIq55 _ rfl)
          first | exact wkSt_same rfl | (simp (decide := true) only [go_sem, reduceIte, Nat.reduceAdd, Int.reduceToNat, Nat.reduceSub, Nat.reduceMul]; exact wkSt_same rfl)
      · refine r_exit (r_cE hk57 ?_)
        obtain rfl := Option.some.inj h
        obtain rfl := hEq55 _ rfl
        have h := hKq55
        try simp only [Sum.elim_inl, Sum.elim_inr] at h
        refine r_kE hkq55 (r_bE hk36 ?_)
        refine r_joinU J33 [] () _ rfl rfl ⟨?_, h⟩
        first | exact wkSt_same rfl | (simp (decide := true) only [go_sem, reduceIte, Nat.reduceAdd, Int.reduceToNat, Nat.reduceSub, Nat.reduceMul]; exact wkSt_same rfl)
noncomputable def slices_ContainsFunc_impl_DevArg_impl_DevArg_fimpl_all_1_impl_DevIsWhole (v1 : (List DevArg)) : Option Bool :=
  (Option.bind (slices_IndexFunc_impl_DevArg_impl_DevArg_fimpl_all_1_impl_DevIsWhole v1) fun v2 => (some (decide (v2 ≥ 0))))
set_option maxRecDepth 10000 in
set_option maxHeartbeats 4000000 in
theorem con_slices_ContainsFunc_impl_DevArg_impl_DevArg_fimpl_all_1_impl_DevIsWhole (v1 : (List DevArg)) (res_ : Bool) (h : slices_ContainsFunc_impl_DevArg_impl_DevArg_fimpl_all_1_impl_DevIsWhole v1 = some res_) : Con Tryd.prog C0 112 [.fz 3 (R e_DevArg (v1)), .clo 113 [(0, 0)]] [.rc [.sc (.func (.func 94) #[] #[])]]
    (fun x σ' => x = .sc (.bool (res_)) ∧ σ' = [.rc [.sc (.func (.func 94) #[] #[])]]) := by
  refine con_of_sem hP [0, 1, 4] [.tmp 4] Tryd.func112 (by unfold Tryd.f112; rfl) rfl rfl (Nat.le_of_ble_eq_true rfl) rfl ?_
  simp only [enter_cons, enter_nil, List.length_cons, List.length_nil, Nat.reduceAdd]
  generalize hQ : endQ _ _ _ _ = Q
  unfold slices_ContainsFunc_impl_DevArg_impl_DevArg_fimpl_all_1_impl_DevIsWhole at h
  refine sem_cut fun k1 hk1 => ?_
  simp (decide := true) only [go_sem, reduceIte, Nat.reduceAdd, Int.reduceToNat, Nat.reduceSub, Nat.reduceMul]
  refine r_cN hk1 (sem_cut fun k2 hk2 => ?_)
  obtain ⟨v2, c3H, h⟩ := bind_some' h
  repeat' (first | with_reducible refine And.intro ?_ ?_ | ((with_reducible refine i_call (n := 118) ?_); refine call_openF [[1]] ?_) | ((with_reducible refine i_callW (n := 118) ?_); refine callW_use (con_slices_IndexFunc_impl_DevArg_impl_DevArg_fimpl_all_1_impl_DevIsWhole v1 v2 c3H) ?_; rintro x σ' ⟨rfl, rfl⟩ <;> ((refine ⟨?_, ?_⟩; (focus simp (decide := true) only [go_sem, reduceIte, Nat.reduceAdd, Int.reduceToNat, Nat.reduceSub, Nat.reduceMul])); (with_reducible refine behind_go ?_))) | exact True.intro | with_reducible assumption | exact fun hf => False.elim hf | (intro hg; first | (simp +contextual [hg]; done) | grind) | omega | simp (decide := true) only [go_sem, reduceIte, Nat.reduceAdd, Int.reduceToNat, Nat.reduceSub, Nat.reduceMul])
  refine r_cN hk2 (r_ret ?_)
  obtain rfl := Option.some.inj h
  refine r_eAR hQ rfl rfl ?_
  simp (decide := true) only [go_sem, reduceIte, Nat.reduceAdd, Int.reduceToNat, Nat.reduceSub, Nat.reduceMul]
  all_goals first | exact wkEnd_same ⟨rfl, rfl⟩ | exact True.intro
noncomputable def impl_all_fimpl_DevIsWhole (v1 : (List DevArg)) : Option Bool :=
  (Option.bind (slices_ContainsFunc_impl_DevArg_impl_DevArg_fimpl_all_1_impl_DevIsWhole v1) fun v2 => (some (!v2)))
set_option maxRecDepth 10000 in
set_option maxHeartbeats 4000000 in
theorem con_impl_all_fimpl_DevIsWhole (v1 : (List DevArg)) (res_ : Bool) (h : impl_all_fimpl_DevIsWhole v1 = some res_) : Con Tryd.prog C0 93 [.fz 3 (R e_DevArg (v1)), .sc (.func (.func 94) #[] #[])] []
    (fun x σ' => x = .sc (.bool (res_)) ∧ σ' = []) := by
  refine con_of_sem hP [0, 1, 3, 4] [.tmp 4] Tryd.func93 (by unfold Tryd.f93; rfl) rfl rfl (Nat.le_of_ble_eq_true rfl) rfl ?_
  simp only [enter_cons, enter_nil, List.length_cons, List.length_nil, Nat.reduceAdd]
  generalize hQ : endQ _ _ _ _ = Q
  unfold impl_all_fimpl_DevIsWhole at h
  refine sem_cut fun k1 hk1 => ?_
  simp (decide := true) only [go_sem, reduceIte, Nat.reduceAdd, Int.reduceToNat, Nat.reduceSub, Nat.reduceMul]
  refine r_cN hk1 (sem_cut fun k2 hk2 => ?_)
  obtain ⟨v2, c3H, h⟩ := bind_some' h
  repeat' (first | with_reducible refine And.intro ?_ ?_ | ((with_reducible refine i_call (n := 112) ?_); refine call_openF [[1]] ?_) | ((with_reducible refine i_callW (n := 112) ?_); refine callW_use (con_slices_ContainsFunc_impl_DevArg_impl_DevArg_fimpl_all_1_impl_DevIsWhole v1 v2 c3H) ?_; rintro x σ' ⟨rfl, rfl⟩ <;> ((refine ⟨?_, ?_⟩; (focus simp (decide := true) only [go_sem, reduceIte, Nat.reduceAdd, Int.reduceToNat, Nat.reduceSub, Nat.reduceMul])); (with_reducible refine behind_go ?_))) | exact True.intro | with_reducible assumption | exact fun hf => False.elim hf | (intro hg; first | (simp +contextual [hg]; done) | grind) | omega | simp (decide := true) only [go_sem, reduceIte, Nat.reduceAdd, Int.reduceToNat, Nat.reduceSub, Nat.reduceMul])
  refine r_cN hk2 (r_ret ?_)
  obtain rfl := Option.some.inj h
  refine r_eAR hQ rfl rfl ?_
  simp (decide := true) only [go_sem, reduceIte, Nat.reduceAdd, Int.reduceToNat, Nat.reduceSub, Nat.reduceMul]
  all_goals first | exact wkEnd_same ⟨rfl, rfl⟩ | exact True.intro
noncomputable def impl_DevIsReal (v1 : DevArg) : Option Bool :=
  (Option.bind (impl_DevArg_kindIs v1 [10, 12, 13]) fun v2 => (some v2))
set_option maxRecDepth 10000 in
set_option maxHeartbeats 4000000 in
theorem con_impl_DevIsReal (v1 : DevArg) (res_ : Bool) (h : impl_DevIsReal v1 = some res_) : Con Tryd.prog C0 95 [.agg [.sc (.int .i64 (v1.Kind)), .sc (.int .i64 (v1.N)), .sc (.int .i64 (v1.P))]] []
    (fun x σ' => x = .sc (.bool (res_)) ∧ σ' = []) := by
  refine con_of_sem hP [0, 1, 2] [.tmp 2] Tryd.func95 (by unfold Tryd.f95; rfl) rfl rfl (Nat.le_of_ble_eq_true rfl) rfl ?_
  simp only [enter_cons, enter_nil, List.length_cons, List.length_nil, Nat.reduceAdd]
  generalize hQ : endQ _ _ _ _ = Q
  unfold impl_DevIsReal at h
  refine sem_cut fun k1 hk1 => ?_
  simp (decide := true) only [go_sem, reduceIte, Nat.reduceAdd, Int.reduceToNat, Nat.reduceSub, Nat.reduceMul]
  refine r_cN hk1 (sem_cut fun k2 hk2 => ?_)
  obtain ⟨v2, c3H, h⟩ := bind_some' h
  repeat' (first | with_reducible refine And.intro ?_ ?_ | ((with_reducible refine i_call (n := 90) ?_); refine call_openF [] ?_) | ((with_reducible refine i_callW (n := 90) ?_); refine callW_use (con_impl_DevArg_kindIs v1 [10, 12, 13] v2 c3H) ?_; rintro x σ' ⟨rfl, rfl⟩ <;> ((refine ⟨?_, ?_⟩; (focus simp (decide := true) only [go_sem, reduceIte, Nat.reduceAdd, Int.reduceToNat, Nat.reduceSub, Nat.reduceMul])); (with_reducible refine behind_go ?_))) | exact True.intro | with_reducible assumption | exact fun hf => False.elim hf | (intro hg; first | (simp +contextual [hg]; done) | grind) | omega | simp (decide := true) only [go_sem, reduceIte, Nat.reduceAdd, Int.reduceToNat, Nat.reduceSub, Nat.reduceMul])
  refine r_cN hk2 (r_ret ?_)
  obtain rfl := Option.some.inj h
  refine r_eAR hQ rfl rfl ?_
  simp (decide := true) only [go_sem, reduceIte, Nat.reduceAdd, Int.reduceToNat, Nat.reduceSub, Nat.reduceMul]
  all_goals first | exact wkEnd_same ⟨rfl, rfl⟩ | exact True.intro
noncomputable def impl_all_1_fimpl_DevIsReal (v1 : DevArg) : Option Bool :=
  (Option.bind (impl_DevIsReal v1) fun v2 => (some (!v2)))
set_option maxRecDepth 10000 in
set_option maxHeartbeats 4000000 in
theorem con_impl_all_1_fimpl_DevIsReal (v1 : DevArg) (res_ : Bool) (h : impl_all_1_fimpl_DevIsReal v1 = some res_) : Con Tryd.prog C0 113 [.agg [.sc (.int .i64 (v1.Kind)), .sc (.int .i64 (v1.N)), .sc (.int .i64 (v1.P))], .pt 0 0] [.rc [.sc (.func (.func 95) #[] #[])]]
    (fun x σ' => x = .sc (.bool (res_)) ∧ σ' = [.rc [.sc (.func (.func 95) #[] #[])]]) := by
  refine con_of_sem hP [0, 1, 2, 3] [.tmp 3] Tryd.func113 (by unfold Tryd.f113; rfl) rfl rfl (Nat.le_of_ble_eq_true rfl) rfl ?_
  simp only [enter_cons, enter_nil, List.length_cons, List.length_nil, Nat.reduceAdd]
  generalize hQ : endQ _ _ _ _ = Q
  unfold impl_all_1_fimpl_DevIsReal at h
  refine sem_cut fun k1 hk1 => ?_
  simp (decide := true) only [go_sem, reduceIte, Nat.reduceAdd, Int.reduceToNat, Nat.reduceSub, Nat.reduceMul]
  refine r_cN hk1 (sem_cut fun k2 hk2 => ?_)
  obtain ⟨v2, c3H, h⟩ := bind_some' h
  repeat' (first | with_reducible refine And.intro ?_ ?_ | ((with_reducible refine i_call (n := 95) ?_); refine call_openF [] ?_) | ((with_reducible refine i_callW (n := 95) ?_); refine callW_use (con_impl_DevIsReal v1 v2 c3H) ?_; rintro x σ' ⟨rfl, rfl⟩ <;> ((refine ⟨?_, ?_⟩; (focus simp (decide := true) only [go_sem, reduceIte, Nat.reduceAdd, Int.reduceToNat, Nat.reduceSub, Nat.reduceMul])); (with_reducible refine behind_go ?_))) | exact True.intro | with_reducible assumption | exact fun hf => False.elim hf | (intro hg; first | (simp +contextual [hg]; done) | grind) | omega | simp (decide := true) only [go_sem, reduceIte, Nat.reduceAdd, Int.reduceToNat, Nat.reduceSub, Nat.reduceMul])
  refine r_cN hk2 (r_ret ?_)
  obtain rfl := Option.some.inj h
  refine r_eAR hQ rfl rfl ?_
  simp (decide := true) only [go_sem, reduceIte, Nat.reduceAdd, Int.reduceToNat, Nat.reduceSub, Nat.reduceMul]
  all_goals first | exact wkEnd_same ⟨rfl, rfl⟩ | exact True.intro
noncomputable def slices_IndexFunc_impl_DevArg_impl_DevArg_fimpl_all_1_impl_DevIsReal_j3 : Unit → Option Int
  | () => (some (-1))
noncomputable def slices_IndexFunc_impl_DevArg_impl_DevArg_fimpl_all_1_impl_DevIsReal_s7 (v1 : (List DevArg)) : Int → Option (Int ⊕ (Int ⊕ Unit))
  | v13 => (cond (decide (v13 < ((v1).length : Int))) (Option.bind (idx v1 (v13)) fun v18 => (Option.bind (impl_all_1_fimpl_DevIsReal v18) fun v19 => (cond v19 (some (.inr (.inl v13))) (some (.inl (IntKind.i64.wrap (v13 + 1))))))) (some (.inr (.inr ()))))
noncomputable def slices_IndexFunc_impl_DevArg_impl_DevArg_fimpl_all_1_impl_DevIsReal (v1 : (List DevArg)) : Option Int :=
  ((loop (slices_IndexFunc_impl_DevArg_impl_DevArg_fimpl_all_1_impl_DevIsReal_s7 v1) 0).bind (Sum.elim (fun v16 => (some v16)) (fun v17 => (slices_IndexFunc_impl_DevArg_impl_DevArg_fimpl_all_1_impl_DevIsReal_j3 ()))))
set_option maxRecDepth 10000 in
set_option maxHeartbeats 4000000 in
theorem con_slices_IndexFunc_impl_DevArg_impl_DevArg_fimpl_all_1_impl_DevIsReal (v1 : (List DevArg)) (res_ : Int) (h : slices_IndexFunc_impl_DevArg_impl_DevArg_fimpl_all_1_impl_DevIsReal v1 = some res_) : Con Tryd.prog C0 118 [.fz 3 (R e_DevArg (v1)), .clo 113 [(0, 0)]] [.rc [.sc (.func (.func 95) #[] #[])]]
    (fun x σ' => x = .sc (.int .i64 (res_)) ∧ σ' = [.rc [.sc (.func (.func 95) #[] #[])]]) := by
  refine con_of_sem hP [0, 1, 4, 5, 7, 8, 9, 16] [.tmp 4] Tryd.func118 (by unfold Tryd.f118; rfl) rfl rfl (Nat.le_of_ble_eq_true rfl) rfl ?_
  simp only [enter_cons, enter_nil, List.length_cons, List.length_nil, Nat.reduceAdd]
  generalize hQ : endQ _ _ _ _ = Q
  unfold slices_IndexFunc_impl_DevArg_impl_DevArg_fimpl_all_1_impl_DevIsReal at h
  refine sem_cut fun k1 hk1 => ?_
  simp (decide := true) only [go_sem, reduceIte, Nat.reduceAdd, Int.reduceToNat, Nat.reduceSub, Nat.reduceMul]
  refine r_cN hk1 (sem_cutJ (fun (_ : Unit) (x : Unit) => (⟨[], [.rc [.sc (.func (.func 95) #[] #[])]]⟩ : St)) (fun (_ : Unit) (x : Unit) => slices_IndexFunc_impl_DevArg_impl_DevArg_fimpl_all_1_impl_DevIsReal_j3 x = some res_) ?_ ?_)
  · rintro _ _ h
    simp only [slices_IndexFunc_impl_DevArg_impl_DevArg_fimpl_all_1_impl_DevIsReal_j3] at h
    refine sem_cut fun k32 hk32 => ?_
    simp (decide := true) only [go_sem, reduceIte, Nat.reduceAdd, Int.reduceToNat, Nat.reduceSub, Nat.reduceMul]
    refine r_cN hk32 (r_ret ?_)
    obtain rfl := Option.some.inj h
    refine r_eAR hQ rfl rfl ?_
    simp (decide := true) only [go_sem, reduceIte, Nat.reduceAdd, Int.reduceToNat, Nat.reduceSub, Nat.reduceMul]
    all_goals first | exact wkEnd_same ⟨rfl, rfl⟩ | exact True.intro
  · intro k34 hk34 J33
    refine sem_cut fun k35 hk35 => ?_
    simp (decide := true) only [go_sem, reduceIte, Nat.reduceAdd, Int.reduceToNat, Nat.reduceSub, Nat.reduceMul]
    refine r_cN hk35 (sem_blk fun k36 hk36 => ?_)
    obtain ⟨oq55, hLq55, hKq55⟩ := bind_some' h
    clear h
    refine sem_loopP [0, 1, 7, 8] (fun (_ : Unit) (x : Int) => (⟨[(0, .fz 3 (R e_DevArg (v1))), (1, .clo 113 [(0, 0)]), (7, .sc (.int .i64 (((v1).length : Int)))), (8, .sc (.int .i64 (x)))], [.rc [.sc (.func (.func 95) #[] #[])]]⟩ : St)) (fun (_ : Unit) (x : Int) => True) (slices_IndexFunc_impl_DevArg_impl_DevArg_fimpl_all_1_impl_DevIsReal_s7 v1) () 0 hLq55 (by rfl) (by rfl) ⟨?_, trivial⟩ ?_
    · first | exact wkSt_same rfl | (simp (decide := true) only [go_sem, reduceIte, Nat.reduceAdd, Int.reduceToNat, Nat.reduceSub, Nat.reduceMul]; exact wkSt_same rfl)
    · rintro nq55 _ v13 xq55 kq55 hkq55 - h hIq55 hEq55
      simp only [slices_IndexFunc_impl_DevArg_impl_DevArg_fimpl_all_1_impl_DevIsReal_s7] at h
      refine sem_cut fun k56 hk56 => ?_
      simp (decide := true) only [go_sem, reduceIte, Nat.reduceAdd, Int.reduceToNat, Nat.reduceSub, Nat.reduceMul]
      refine r_cN hk56 (sem_cut fun k57 hk57 => ?_)
      refine sem_ifh rfl h ?_ ?_ <;> clear h <;> intro h
      · refine r_skip (r_cN hk57 ?_)
        refine sem_cut fun k58 hk58 => sem_blk fun k59 hk59 => sem_cut fun k60 hk60 => ?_
        simp (decide := true) only [go_sem, reduceIte, Nat.reduceAdd, Int.reduceToNat, Nat.reduceSub, Nat.reduceMul]
        refine r_cN hk60 (sem_cut fun k61 hk61 => ?_)
        obtain ⟨v18, c62H, h⟩ := bind_some' h
        obtain ⟨c62A, c62B, c62C, -⟩ := idx_some c62H
        obtain ⟨v19, c63H, h⟩ := bind_some' h
        repeat' (first | with_reducible refine And.intro ?_ ?_ | ((with_reducible refine i_call (n := 113) ?_); refine call_openF [[1]] ?_) | ((with_reducible refine i_callW (n := 113) ?_); refine callW_use (con_impl_all_1_fimpl_DevIsReal v18 v19 c63H) ?_; rintro x σ' ⟨rfl, rfl⟩ <;> ((refine ⟨?_, ?_⟩; (focus simp (decide := true) only [go_sem, reduceIte, Nat.reduceAdd, Int.reduceToNat, Nat.reduceSub, Nat.reduceMul, c62A, c62B, c62C])); (with_reducible refine behind_go ?_))) | exact True.intro | with_reducible assumption | exact fun hf => False.elim hf | (intro hg; first | (simp +contextual [hg]; done) | grind) | omega | simp (decide := true) only [go_sem, reduceIte, Nat.reduceAdd, Int.reduceToNat, Nat.reduceSub, Nat.reduceMul, c62A, c62B, c62C])
        refine r_cN hk61 ?_
        refine sem_ifh rfl h ?_ ?_ <;> clear h <;> intro h
        · refine sem_cut fun k64 hk64 => ?_
          simp (decide := true) only [go_sem, reduceIte, Nat.reduceAdd, Int.reduceToNat, Nat.reduceSub, Nat.reduceMul]
          refine r_cN hk64 (r_ret ?_)
          refine r_bR hk59 (r_cR hk58 ?_)
          obtain rfl := Option.some.inj h
          obtain rfl := hEq55 _ rfl
          have h := hKq55
          try simp only [Sum.elim_inl, Sum.elim_inr] at h
          refine r_kR hkq55 (r_bR hk36 ?_)
          refine r_jR hk34 ?_
          obtain rfl := Option.some.inj h
          refine r_eAR hQ rfl rfl ?_
          simp (decide := true) only [go_sem, reduceIte, Nat.reduceAdd, Int.reduceToNat, Nat.reduceSub, Nat.reduceMul]
          all_goals first | exact wkEnd_same ⟨rfl, rfl⟩ | exact True.intro
        · refine r_skip (r_bN hk59 ?_)
          refine r_cN hk58 ?_
          simp (decide := true) only [go_sem, reduceIte, Nat.reduceAdd, Int.reduceToNat, Nat.reduceSub, Nat.reduceMul]
          obtain rfl := Option.some.inj h
          subst hkq55
          refine r_backP () _ rfl rfl ⟨?_, trivial⟩ (hIq55 _ rfl)
          first | exact wkSt_same rfl | (simp (decide := true) only [go_sem, reduceIte, Nat.reduceAdd, Int.reduceToNat, Nat.reduceSub, Nat.reduceMul]; exact wkSt_same rfl)
      · refine r_exit (r_cE hk57 ?_)
        obtain rfl := Option.some.inj h
        obtain rfl := hEq55 _ rfl
        have h := hKq55
        try simp only [Sum.elim_inl, Sum.elim_inr] at h
        refine r_kE hkq55 (r_bE hk36 ?_)
        refine r_joinU J33 [] () _ rfl rfl ⟨?_, h⟩
        first | exact wkSt_same rfl | (simp (decide := true) only [go_sem, reduceIte, Nat.reduceAdd, Int.reduceToNat, Nat.reduceSub, Nat.reduceMul]; exact wkSt_same rfl)
noncomputable def slices_ContainsFunc_impl_DevArg_impl_DevArg_fimpl_all_1_impl_DevIsReal (v1 : (List DevArg)) : Option Bool :=
  (Option.bind (slices_IndexFunc_impl_DevArg_impl_DevArg_fimpl_all_1_impl_DevIsReal v1) fun v2 => (some (decide (v2 ≥ 0))))
set_option maxRecDepth 10000 in
set_option maxHeartbeats 4000000 in
theorem con_slices_ContainsFunc_impl_DevArg_impl_DevArg_fimpl_all_1_impl_DevIsReal (v1 : (List DevArg)) (res_ : Bool) (h : slices_ContainsFunc_impl_DevArg_impl_DevArg_fimpl_all_1_impl_DevIsReal v1 = some res_) : Con Tryd.prog C0 112 [.fz 3 (R e_DevArg (v1)), .clo 113 [(0, 0)]] [.rc [.sc (.func (.func 95) #[] #[])]]
    (fun x σ' => x = .sc (.bool (res_)) ∧ σ' = [.rc [.sc (.func (.func 95) #[] #[])]]) := by
  refine con_of_sem hP [0, 1, 4] [.tmp 4] Tryd.func112 (by unfold Tryd.f112; rfl) rfl rfl (Nat.le_of_ble_eq_true rfl) rfl ?_
  simp only [enter_cons, enter_nil, List.length_cons, List.length_nil, Nat.reduceAdd]
  generalize hQ : endQ _ _ _ _ = Q
  unfold slices_ContainsFunc_impl_DevArg_impl_DevArg_fimpl_all_1_impl_DevIsReal at h
  refine sem_cut fun k1 hk1 => ?_
  simp (decide := true) only [go_sem, reduceIte, Nat.reduceAdd, Int.reduceToNat, Nat.reduceSub, Nat.reduceMul]
  refine r_cN hk1 (sem_cut fun k2 hk2 => ?_)
  obtain ⟨v2, c3H, h⟩ := bind_some' h
  repeat' (first | with_reducible refine And.intro ?_ ?_ | ((with_reducible refine i_call (n := 118) ?_); refine call_openF [[1]] ?_) | ((with_reducible refine i_callW (n := 118) ?_); refine callW_use (con_slices_IndexFunc_impl_DevArg_impl_DevArg_fimpl_all_1_impl_DevIsReal v1 v2 c3H) ?_; rintro x σ' ⟨rfl, rfl⟩ <;> ((refine ⟨?_, ?_⟩; (focus simp (decide := true) only [go_sem, reduceIte, Nat.reduceAdd, Int.reduceToNat, Nat.reduceSub, Nat.reduceMul])); (with_reducible refine behind_go ?_))) | exact True.intro | with_reducible assumption | exact fun hf => False.elim hf | (intro hg; first | (simp +contextual [hg]; done) | grind) | omega | simp (decide := true) only [go_sem, reduceIte, Nat.reduceAdd, Int.reduceToNat, Nat.reduceSub, Nat.reduceMul])
  refine r_cN hk2 (r_ret ?_)
  obtain rfl := Option.some.inj h
  refine r_eAR hQ rfl rfl ?_
  simp (decide := true) only [go_sem, reduceIte, Nat.reduceAdd, Int.reduceToNat, Nat.reduceSub, Nat.reduceMul]
  all_goals first | exact wkEnd_same ⟨rfl, rfl⟩ | exact True.intro
noncomputable def impl_all_fimpl_DevIsReal (v1 : (List DevArg)) : Option Bool :=
  (Option.bind (slices_ContainsFunc_impl_DevArg_impl_DevArg_fimpl_all_1_impl_DevIsReal v1) fun v2 => (some (!v2)))
set_option maxRecDepth 10000 in
set_option maxHeartbeats 4000000 in
theorem con_impl_all_fimpl_DevIsReal (v1 : (List DevArg)) (res_ : Bool) (h : impl_all_fimpl_DevIsReal v1 = some res_) : Con Tryd.prog C0 93 [.fz 3 (R e_DevArg (v1)), .sc (.func (.func 95) #[] #[])] []
    (fun x σ' => x = .sc (.bool (res_)) ∧ σ' = []) := by
  refine con_of_sem hP [0, 1, 3, 4] [.tmp 4] Tryd.func93 (by unfold Tryd.f93; rfl) rfl rfl (Nat.le_of_ble_eq_true rfl) rfl ?_
  simp only [enter_cons, enter_nil, List.length_cons, List.length_nil, Nat.reduceAdd]
  generalize hQ : endQ _ _ _ _ = Q
  unfold impl_all_fimpl_DevIsReal at h
  refine sem_cut fun k1 hk1 => ?_
  simp (decide := true) only [go_sem, reduceIte, Nat.reduceAdd, Int.reduceToNat, Nat.reduceSub, Nat.reduceMul]
  refine r_cN hk1 (sem_cut fun k2 hk2 => ?_)
  obtain ⟨v2, c3H, h⟩ := bind_some' h
  repeat' (first | with_reducible refine And.intro ?_ ?_ | ((with_reducible refine i_call (n := 112) ?_); refine call_openF [[1]] ?_) | ((with_reducible refine i_callW (n := 112) ?_); refine callW_use (con_slices_ContainsFunc_impl_DevArg_impl_DevArg_fimpl_all_1_impl_DevIsReal v1 v2 c3H) ?_; rintro x σ' ⟨rfl, rfl⟩ <;> ((refine ⟨?_, ?_⟩; (focus simp (decide := true) only [go_sem, reduceIte, Nat.reduceAdd, Int.reduceToNat, Nat.reduceSub, Nat.reduceMul])); (with_reducible refine behind_go ?_))) | exact True.intro | with_reducible assumption | exact fun hf => False.elim hf | (intro hg; first | (simp +contextual [hg]; done) | grind) | omega | simp (decide := true) only [go_sem, reduceIte, Nat.reduceAdd, Int.reduceToNat, Nat.reduceSub, Nat.reduceMul])
  refine r_cN hk2 (r_ret ?_)
  obtain rfl := Option.some.inj h
  refine r_eAR hQ rfl rfl ?_
  simp (decide := true) only [go_sem, reduceIte, Nat.reduceAdd, Int.reduceToNat, Nat.reduceSub, Nat.reduceMul]
  all_goals first | exact wkEnd_same ⟨rfl, rfl⟩ | exact True.intro
noncomputable def impl_numbers (v1 : (List DevArg)) : Option Bool :=
  (Option.bind (impl_all_fimpl_DevIsWhole v1) fun v2 => (cond v2 (some true) (Option.bind (impl_all_fimpl_DevIsReal v1) fun v3 => (some v3))))
set_option maxRecDepth 10000 in
set_option maxHeartbeats 4000000 in
theorem con_impl_numbers (v1 : (List DevArg)) (res_ : Bool) (h : impl_numbers v1 = some res_) : Con Tryd.prog C0 91 [.fz 3 (R e_DevArg (v1))] []
    (fun x σ' => x = .sc (.bool (res_)) ∧ σ' = []) := by
  refine con_of_sem hP [0, 2] [.tmp 2] Tryd.func91 (by unfold Tryd.f91; rfl) rfl rfl (Nat.le_of_ble_eq_true rfl) rfl ?_
  simp only [enter_cons, enter_nil, List.length_cons, List.length_nil, Nat.reduceAdd]
  generalize hQ : endQ _ _ _ _ = Q
  unfold impl_numbers at h
  refine sem_cut fun k1 hk1 => ?_
  simp (decide := true) only [go_sem, reduceIte, Nat.reduceAdd, Int.reduceToNat, Nat.reduceSub, Nat.reduceMul]
  refine r_cN hk1 (sem_cut fun k2 hk2 => ?_)
  obtain ⟨v2, c3H, h⟩ := bind_some' h
  rcases Bool.eq_false_or_eq_true v2 with g4 | g4
  · replace h := cond_t h g4
    repeat' (first | with_reducible refine And.intro ?_ ?_ | ((with_reducible refine i_call (n := 93) ?_); refine call_openF [] ?_) | ((with_reducible refine i_callW (n := 93) ?_); refine callW_use (con_impl_all_fimpl_DevIsWhole v1 v2 c3H) ?_; rintro x σ' ⟨rfl, rfl⟩ <;> ((refine ⟨?_, ?_⟩; (focus simp (decide := true) only [go_sem, reduceIte, Nat.reduceAdd, Int.reduceToNat, Nat.reduceSub, Nat.reduceMul, g4])); (with_reducible refine behind_go ?_))) | exact True.intro | with_reducible assumption | exact fun hf => False.elim hf | (intro hg; first | (simp +contextual [hg]; done) | grind) | omega | simp (decide := true) only [go_sem, reduceIte, Nat.reduceAdd, Int.reduceToNat, Nat.reduceSub, Nat.reduceMul, g4])
    refine r_cN hk2 (r_ret ?_)
    obtain rfl := Option.some.inj h
    refine r_eAR hQ rfl rfl ?_
    simp (decide := true) only [go_sem, reduceIte, Nat.reduceAdd, Int.reduceToNat, Nat.reduceSub, Nat.reduceMul]
    all_goals first | exact wkEnd_same ⟨rfl, rfl⟩ | exact True.intro
  · replace h := cond_f h g4
    obtain ⟨v3, c5H, h⟩ := bind_some' h
    repeat' (first | with_reducible refine And.intro ?_ ?_ | ((with_reducible refine i_call (n := 93) ?_); refine call_openF [] ?_) | ((with_reducible refine i_callW (n := 93) ?_); refine callW_use (con_impl_all_fimpl_DevIsWhole v1 v2 c3H) ?_; rintro x σ' ⟨rfl, rfl⟩ <;> ((refine ⟨?_, ?_⟩; (focus simp (decide := true) only [go_sem, reduceIte, Nat.reduceAdd, Int.reduceToNat, Nat.reduceSub, Nat.reduceMul, g4])); (with_reducible refine behind_go ?_))) | ((with_reducible refine i_callW (n := 93) ?_); refine callW_use (con_impl_all_fimpl_DevIsReal v1 v3 c5H) ?_; rintro x σ' ⟨rfl, rfl⟩ <;> ((refine ⟨?_, ?_⟩; (focus simp (decide := true) only [go_sem, reduceIte, Nat.reduceAdd, Int.reduceToNat, Nat.reduceSub, Nat.reduceMul, g4])); (with_reducible refine behind_go ?_))) | exact True.intro | with_reducible assumption | exact fun hf => False.elim hf | (intro hg; first | (simp +contextual [hg]; done) | grind) | omega | simp (decide := true) only [go_sem, reduceIte, Nat.reduceAdd, Int.reduceToNat, Nat.reduceSub, Nat.reduceMul, g4])
    refine r_cN hk2 (r_ret ?_)
    obtain rfl := Option.some.inj h
    refine r_eAR hQ rfl rfl ?_
    simp (decide := true) only [go_sem, reduceIte, Nat.reduceAdd, Int.reduceToNat, Nat.reduceSub, Nat.reduceMul]
    all_goals first | exact wkEnd_same ⟨rfl, rfl⟩ | exact True.intro
noncomputable def impl_ElemIsContact_j25 (v1 : Elem) : Bool → Option Bool
  | v7 => (cond v7 (Option.bind (idx v1.Args (0)) fun v8 => (Option.bind (impl_DevIsBit v8) fun v9 => (cond v9 (Option.bind (idx v1.Args (1)) fun v10 => (Option.bind (impl_DevArg_kindIs v10 [5]) fun v11 => (some v11))) (some false)))) (Option.bind (impl_numbers v1.Args) fun v12 => (some v12)))
noncomputable def impl_ElemIsContact_j15 (v1 : Elem) : Bool → Option Bool
  | v4 => (cond v4 (Option.bind (idx v1.Args (0)) fun v5 => (Option.bind (impl_DevIsBit v5) fun v6 => (some v6))) (cond (v1.Op == 3) (impl_ElemIsContact_j25 v1 (v1.Op == 3)) (impl_ElemIsContact_j25 v1 (v1.Op == 4))))
noncomputable def impl_ElemIsContact (v1 : Elem) : Option Bool :=
  (Option.bind (impl_in v1.Op 1 10) fun v2 => (cond v2 (Option.bind (impl_ElemArity v1.Op) fun v3 => (cond (((v1.Args).length : Int) != v3) (some false) (cond (v1.Op == 1) (impl_ElemIsContact_j15 v1 (v1.Op == 1)) (impl_ElemIsContact_j15 v1 (v1.Op == 2))))) (some false)))
set_option maxRecDepth 10000 in
set_option maxHeartbeats 4000000 in
theorem con_impl_ElemIsContact (v1 : Elem) (res_ : Bool) (h : impl_ElemIsContact v1 = some res_) : Con Tryd.prog C0 62 [.agg [.sc (.int .i64 (v1.Op)), .fz 3 (R e_DevArg (v1.Args))]] []
    (fun x σ' => x = .sc (.bool (res_)) ∧ σ' = []) := by
  refine con_of_sem hP [0, 1, 2, 15, 17, 18, 26] [.tmp 2] Tryd.func62 (by unfold Tryd.f62; rfl) rfl rfl (Nat.le_of_ble_eq_true rfl) rfl ?_
  simp only [enter_cons, enter_nil, List.length_cons, List.length_nil, Nat.reduceAdd]
  generalize hQ : endQ _ _ _ _ = Q
  unfold impl_ElemIsContact at h
  refine sem_cut fun k1 hk1 => ?_
  simp (decide := true) only [go_sem, reduceIte, Nat.reduceAdd, Int.reduceToNat, Nat.reduceSub, Nat.reduceMul]
  refine r_cN hk1 (sem_cut fun k2 hk2 => ?_)
  refine sem_cut fun k3 hk3 => ?_
  obtain ⟨v2, c4H, h⟩ := bind_some' h
  rcases Bool.eq_false_or_eq_true v2 with g5 | g5
  · replace h := cond_t h g5
    obtain ⟨v3, c6H, h⟩ := bind_some' h
    with_reducible refine sem_plan (id := 1) (.take 0 (.take 1 (.one 2 (.take 3 (.take 4 (.take 5 (.take 6 (.take 7 (.take 8 (.take 9 (.one 10 (.take 11 (.take 12 .done))))))))))))) [0] ?_ ?_
    focus kernel_rfl
    repeat' (first | with_reducible refine And.intro ?_ ?_ | ((with_reducible refine i_call (n := 51) ?_); refine call_openF [] ?_) | ((with_reducible refine i_callW (n := 51) ?_); refine callW_use (con_impl_in v1.Op 1 10 v2 c4H) ?_; rintro x σ' ⟨rfl, rfl⟩ <;> ((refine ⟨?_, ?_⟩; (focus simp (decide := true) only [go_sem, reduceIte, Nat.reduceAdd, Int.reduceToNat, Nat.reduceSub, Nat.reduceMul, g5])); (with_reducible refine behind_go ?_))) | ((with_reducible refine i_call (n := 88) ?_); refine call_openF [] ?_) | ((with_reducible refine i_callW (n := 88) ?_); refine callW_use (con_impl_ElemArity v1.Op v3 c6H) ?_; rintro x σ' ⟨rfl, rfl⟩ <;> ((refine ⟨?_, ?_⟩; (focus simp (decide := true) only [go_sem, reduceIte, Nat.reduceAdd, Int.reduceToNat, Nat.reduceSub, Nat.reduceMul, g5])); (with_reducible refine behind_go ?_))) | exact True.intro | with_reducible assumption | exact fun hf => False.elim hf | (intro hg; first | (simp +contextual [hg]; done) | grind) | omega | simp (decide := true) only [go_sem, reduceIte, Nat.reduceAdd, Int.reduceToNat, Nat.reduceSub, Nat.reduceMul, g5])
    refine r_cN hk3 ?_
    refine sem_ifh rfl h ?_ ?_ <;> clear h <;> intro h
    · refine sem_cut fun k7 hk7 => ?_
      simp (decide := true) only [go_sem, reduceIte, Nat.reduceAdd, Int.reduceToNat, Nat.reduceSub, Nat.reduceMul]
      refine r_cN hk7 (r_ret ?_)
      refine r_cR hk2 ?_
      obtain rfl := Option.some.inj h
      refine r_eAR hQ rfl rfl ?_
      simp (decide := true) only [go_sem, reduceIte, Nat.reduceAdd, Int.reduceToNat, Nat.reduceSub, Nat.reduceMul]
      all_goals first | exact wkEnd_same ⟨rfl, rfl⟩ | exact True.intro
    · refine r_skip (r_cN hk2 ?_)
      refine sem_cut fun k8 hk8 => sem_cut fun k9 hk9 => ?_
      simp (decide := true) only [go_sem, reduceIte, Nat.reduceAdd, Int.reduceToNat, Nat.reduceSub, Nat.reduceMul]
      refine r_cN hk9 (sem_blk fun k10 hk10 => ?_)
      refine sem_cutJ (fun (_ : Unit) (x : Bool) => (⟨[(1, .pt 0 0), (17, .sc (.int .i64 (v1.Op))), (18, .sc (.bool (x)))], [.rc [.sc (.int .i64 (v1.Op)), .fz 3 (R e_DevArg (v1.Args))]]⟩ : St)) (fun (_ : Unit) (x : Bool) => impl_ElemIsContact_j15 v1 x = some res_) ?_ ?_
      · rintro _ v4 h
        simp only [impl_ElemIsContact_j15] at h
        refine sem_ifh rfl h ?_ ?_ <;> clear h <;> intro h
        · refine sem_cut fun k12 hk12 => ?_
          obtain ⟨v5, c13H, h⟩ := bind_some' h
          obtain ⟨c13A, c13B, c13C, -⟩ := idx_some c13H
          try simp only [Int.reduceToNat, Int.toNat_zero, Int.toNat_one] at c13C
          obtain ⟨v6, c14H, h⟩ := bind_some' h
          repeat' (first | with_reducible refine And.intro ?_ ?_ | ((with_reducible refine i_call (n := 89) ?_); refine call_openF [] ?_) | ((with_reducible refine i_callW (n := 89) ?_); refine callW_use (con_impl_DevIsBit v5 v6 c14H) ?_; rintro x σ' ⟨rfl, rfl⟩ <;> ((refine ⟨?_, ?_⟩; (focus simp (decide := true) only [go_sem, reduceIte, Nat.reduceAdd, Int.reduceToNat, Nat.reduceSub, Nat.reduceMul, c13A, c13B, c13C])); (with_reducible refine behind_go ?_))) | exact True.intro | with_reducible assumption | exact fun hf => False.elim hf | (intro hg; first | (simp +contextual [hg]; done) | grind) | omega | simp (decide := true) only [go_sem, reduceIte, Nat.reduceAdd, Int.reduceToNat, Nat.reduceSub, Nat.reduceMul, c13A, c13B, c13C])
          refine r_cN hk12 (r_ret ?_)
          refine r_bR hk10 (r_cR hk8 ?_)
          obtain rfl := Option.some.inj h
          refine r_eAR hQ rfl rfl ?_
          simp (decide := true) only [go_sem, reduceIte, Nat.reduceAdd, Int.reduceToNat, Nat.reduceSub, Nat.reduceMul]
          all_goals first | exact wkEnd_same ⟨rfl, rfl⟩ | exact True.intro
        · refine sem_cutJ (fun (_ : Unit) (x : Bool) => (⟨[(1, .pt 0 0), (26, .sc (.bool (x)))], [.rc [.sc (.int .i64 (v1.Op)), .fz 3 (R e_DevArg (v1.Args))]]⟩ : St)) (fun (_ : Unit) (x : Bool) => impl_ElemIsContact_j25 v1 x = some res_) ?_ ?_
          · rintro _ v7 h
            simp only [impl_ElemIsContact_j25] at h
            refine sem_ifh rfl h ?_ ?_ <;> clear h <;> intro h
            · refine sem_cut fun k16 hk16 => ?_
              obtain ⟨v8, c17H, h⟩ := bind_some' h
              obtain ⟨c17A, c17B, c17C, -⟩ := idx_some c17H
              try simp only [Int.reduceToNat, Int.toNat_zero, Int.toNat_one] at c17C
              obtain ⟨v9, c18H, h⟩ := bind_some' h
              rcases Bool.eq_false_or_eq_true v9 with g19 | g19
              · replace h := cond_t h g19
                obtain ⟨v10, c20H, h⟩ := bind_some' h
                obtain ⟨c20A, c20B, c20C, -⟩ := idx_some c20H
                try simp only [Int.reduceToNat, Int.toNat_zero, Int.toNat_one] at c20C
                obtain ⟨v11, c21H, h⟩ := bind_some' h
                repeat' (first | with_reducible refine And.intro ?_ ?_ | ((with_reducible refine i_call (n := 89) ?_); refine call_openF [] ?_) | ((with_reducible refine i_callW (n := 89) ?_); refine callW_use (con_impl_DevIsBit v8 v9 c18H) ?_; rintro x σ' ⟨rfl, rfl⟩ <;> ((refine ⟨?_, ?_⟩; (focus simp (decide := true) only [go_sem, reduceIte, Nat.reduceAdd, Int.reduceToNat, Nat.reduceSub, Nat.reduceMul, c17A, c17B, c17C, g19, c20A, c20B, c20C])); (with_reducible refine behind_go ?_))) | ((with_reducible refine i_call (n := 90) ?_); refine call_openF [] ?_) | ((with_reducible refine i_callW (n := 90) ?_); refine callW_use (con_impl_DevArg_kindIs v10 [5] v11 c21H) ?_; rintro x σ' ⟨rfl, rfl⟩ <;> ((refine ⟨?_, ?_⟩; (focus simp (decide := true) only [go_sem, reduceIte, Nat.reduceAdd, Int.reduceToNat, Nat.reduceSub, Nat.reduceMul, c17A, c17B, c17C, g19, c20A, c20B, c20C])); (with_reducible refine behind_go ?_))) | exact True.intro | with_reducible assumption | exact fun hf => False.elim hf | (intro hg; first | (simp +contextual [hg]; done) | grind) | omega | simp (decide := true) only [go_sem, reduceIte, Nat.reduceAdd, Int.reduceToNat, Nat.reduceSub, Nat.reduceMul, c17A, c17B, c17C, g19, c20A, c20B, c20C])
                refine r_cN hk16 (r_ret ?_)
                refine r_bR hk10 (r_cR hk8 ?_)
                obtain rfl := Option.some.inj h
                refine r_eAR hQ rfl rfl ?_
                simp (decide := true) only [go_sem, reduceIte, Nat.reduceAdd, Int.reduceToNat, Nat.reduceSub, Nat.reduceMul]
                all_goals first | exact wkEnd_same ⟨rfl, rfl⟩ | exact True.intro
              · replace h := cond_f h g19
                repeat' (first | with_reducible refine And.intro ?_ ?_ | ((with_reducible refine i_call (n := 89) ?_); refine call_openF [] ?_) | ((with_reducible refine i_callW (n := 89) ?_); refine callW_use (con_impl_DevIsBit v8 v9 c18H) ?_; rintro x σ' ⟨rfl, rfl⟩ <;> ((refine ⟨?_, ?_⟩; (focus simp (decide := true) only [go_sem, reduceIte, Nat.reduceAdd, Int.reduceToNat, Nat.reduceSub, Nat.reduceMul, c17A, c17B, c17C, g19])); (with_reducible refine behind_go ?_))) | exact True.intro | with_reducible assumption | exact fun hf => False.elim hf | (intro hg; first | (simp +contextual [hg]; done) | grind) | omega | simp (decide := true) only [go_sem, reduceIte, Nat.reduceAdd, Int.reduceToNat, Nat.reduceSub, Nat.reduceMul, c17A, c17B, c17C, g19])
                refine r_cN hk16 (r_ret ?_)
                refine r_bR hk10 (r_cR hk8 ?_)
                obtain rfl := Option.some.inj h
                refine r_eAR hQ rfl rfl ?_
                simp (decide := true) only [go_sem, reduceIte, Nat.reduceAdd, Int.reduceToNat, Nat.reduceSub, Nat.reduceMul]
                all_goals first | exact wkEnd_same ⟨rfl, rfl⟩ | exact True.intro
            · refine r_skip (r_bN hk10 ?_)
              refine r_cN hk8 (sem_cut fun k22 hk22 => ?_)
              obtain ⟨v12, c23H, h⟩ := bind_some' h
              repeat' (first | with_reducible refine And.intro ?_ ?_ | ((with_reducible refine i_call (n := 91) ?_); refine call_openF [] ?_) | ((with_reducible refine i_callW (n := 91) ?_); refine callW_use (con_impl_numbers v1.Args v12 c23H) ?_; rintro x σ' ⟨rfl, rfl⟩ <;> ((refine ⟨?_, ?_⟩; (focus simp (decide := true) only [go_sem, reduceIte, Nat.reduceAdd, Int.reduceToNat, Nat.reduceSub, Nat.reduceMul])); (with_reducible refine behind_go ?_))) | exact True.intro | with_reducible assumption | exact fun hf => False.elim hf | (intro hg; first | (simp +contextual [hg]; done) | grind) | omega | simp (decide := true) only [go_sem, reduceIte, Nat.reduceAdd, Int.reduceToNat, Nat.reduceSub, Nat.reduceMul])
              refine r_cN hk22 (r_ret ?_)
              obtain rfl := Option.some.inj h
              refine r_eAR hQ rfl rfl ?_
              simp (decide := true) only [go_sem, reduceIte, Nat.reduceAdd, Int.reduceToNat, Nat.reduceSub, Nat.reduceMul]
              all_goals first | exact wkEnd_same ⟨rfl, rfl⟩ | exact True.intro
          · intro k25 hk25 J24
            refine sem_cut fun k26 hk26 => ?_
            simp (decide := true) only [go_sem, reduceIte, Nat.reduceAdd, Int.reduceToNat, Nat.reduceSub, Nat.reduceMul]
            refine r_cN hk26 ?_
            refine sem_ifh rfl h ?_ ?_ <;> clear h <;> intro h
            · refine r_skip (r_joinU J24 [1, 26] () _ rfl rfl ⟨?_, h⟩)
              first | exact wkSt_same rfl | (simp (decide := true) only [go_sem, reduceIte, Nat.reduceAdd, Int.reduceToNat, Nat.reduceSub, Nat.reduceMul]; exact wkSt_same rfl)
            · simp (decide := true) only [go_sem, reduceIte, Nat.reduceAdd, Int.reduceToNat, Nat.reduceSub, Nat.reduceMul]
              refine r_joinU J24 [1, 26] () _ rfl rfl ⟨?_, h⟩
              first | exact wkSt_same rfl | (simp (decide := true) only [go_sem, reduceIte, Nat.reduceAdd, Int.reduceToNat, Nat.reduceSub, Nat.reduceMul]; exact wkSt_same rfl)
      · intro k28 hk28 J27
        refine sem_cut fun k29 hk29 => ?_
        simp (decide := true) only [go_sem, reduceIte, Nat.reduceAdd, Int.reduceToNat, Nat.reduceSub, Nat.reduceMul]
        refine r_cN hk29 ?_
        refine sem_ifh rfl h ?_ ?_ <;> clear h <;> intro h
        · refine r_skip (r_joinU J27 [1, 17, 18] () _ rfl rfl ⟨?_, h⟩)
          first | exact wkSt_same rfl | (simp (decide := true) only [go_sem, reduceIte, Nat.reduceAdd, Int.reduceToNat, Nat.reduceSub, Nat.reduceMul]; exact wkSt_same rfl)
        · simp (decide := true) only [go_sem, reduceIte, Nat.reduceAdd, Int.reduceToNat, Nat.reduceSub, Nat.reduceMul]
          refine r_joinU J27 [1, 17, 18] () _ rfl rfl ⟨?_, h⟩
          first | exact wkSt_same rfl | (simp (decide := true) only [go_sem, reduceIte, Nat.reduceAdd, Int.reduceToNat, Nat.reduceSub, Nat.reduceMul]; exact wkSt_same rfl)
  · replace h := cond_f h g5
    with_reducible refine sem_plan (id := 1) (.take 0 (.take 1 (.one 2 (.take 3 (.take 4 (.take 5 (.take 6 (.take 7 (.take 8 (.take 9 (.one 10 (.take 11 (.take 12 .done))))))))))))) [0] ?_ ?_
    focus kernel_rfl
    repeat' (first | with_reducible refine And.intro ?_ ?_ | ((with_reducible refine i_call (n := 51) ?_); refine call_openF [] ?_) | ((with_reducible refine i_callW (n := 51) ?_); refine callW_use (con_impl_in v1.Op 1 10 v2 c4H) ?_; rintro x σ' ⟨rfl, rfl⟩ <;> ((refine ⟨?_, ?_⟩; (focus simp (decide := true) only [go_sem, reduceIte, Nat.reduceAdd, Int.reduceToNat, Nat.reduceSub, Nat.reduceMul, g5])); (with_reducible refine behind_go ?_))) | exact True.intro | with_reducible assumption | exact fun hf => False.elim hf | (intro hg; first | (simp +contextual [hg]; done) | grind) | omega | simp (decide := true) only [go_sem, reduceIte, Nat.reduceAdd, Int.reduceToNat, Nat.reduceSub, Nat.reduceMul, g5])
    refine r_cN hk3 (sem_ifT rfl ?_)
    try replace h := cond_t h rfl
    refine sem_cut fun k30 hk30 => ?_
    simp (decide := true) only [go_sem, reduceIte, Nat.reduceAdd, Int.reduceToNat, Nat.reduceSub, Nat.reduceMul]
    refine r_cN hk30 (r_ret ?_)
    refine r_cR hk2 ?_
    obtain rfl := Option.some.inj h
    refine r_eAR hQ rfl rfl ?_
    simp (decide := true) only [go_sem, reduceIte, Nat.reduceAdd, Int.reduceToNat, Nat.reduceSub, Nat.reduceMul]
    all_goals first | exact wkEnd_same ⟨rfl, rfl⟩ | exact True.intro
noncomputable def impl_ElemIsCoil_1 (v1 : (List DevArg)) : Option (Bool × (List DevArg)) :=
  (Option.bind (idx v1 (0)) fun v2 => (Option.bind (impl_DevArg_kindIs v2 [11]) fun v3 => (cond v3 (some ((decide (v2.N ≥ 0)), v1)) (some (false, v1)))))
set_option maxRecDepth 10000 in
set_option maxHeartbeats 4000000 in
theorem con_impl_ElemIsCoil_1 (v1 : (List DevArg)) (res_ : (Bool × (List DevArg))) (h : impl_ElemIsCoil_1 v1 = some res_) : Con Tryd.prog C0 92 [.pt 0 0] [.rc [.fz 3 (R e_DevArg (v1))]]
    (fun x σ' => x = .sc (.bool (res_.1)) ∧ σ' = [.rc [.fz 3 (R e_DevArg (res_.2))]]) := by
  refine con_of_sem hP [0, 1] [.tmp 1] Tryd.func92 (by unfold Tryd.f92; rfl) rfl rfl (Nat.le_of_ble_eq_true rfl) rfl ?_
  simp only [enter_cons, enter_nil, List.length_cons, List.length_nil, Nat.reduceAdd]
  generalize hQ : endQ _ _ _ _ = Q
  unfold impl_ElemIsCoil_1 at h
  refine sem_cut fun k1 hk1 => ?_
  simp (decide := true) only [go_sem, reduceIte, Nat.reduceAdd, Int.reduceToNat, Nat.reduceSub, Nat.reduceMul]
  refine r_cN hk1 (sem_cut fun k2 hk2 => ?_)
  obtain ⟨v2, c3H, h⟩ := bind_some' h
  obtain ⟨c3A, c3B, c3C, -⟩ := idx_some c3H
  try simp only [Int.reduceToNat, Int.toNat_zero, Int.toNat_one] at c3C
  obtain ⟨v3, c4H, h⟩ := bind_some' h
  rcases Bool.eq_false_or_eq_true v3 with g5 | g5
  · replace h := cond_t h g5
    repeat' (first | with_reducible refine And.intro ?_ ?_ | ((with_reducible refine i_call (n := 90) ?_); refine call_openF [] ?_) | ((with_reducible refine i_callW (n := 90) ?_); refine callW_use (con_impl_DevArg_kindIs v2 [11] v3 c4H) ?_; rintro x σ' ⟨rfl, rfl⟩ <;> ((refine ⟨?_, ?_⟩; (focus simp (decide := true) only [go_sem, reduceIte, Nat.reduceAdd, Int.reduceToNat, Nat.reduceSub, Nat.reduceMul, c3A, c3B, c3C, g5])); (with_reducible refine behind_go ?_))) | exact True.intro | with_reducible assumption | exact fun hf => False.elim hf | (intro hg; first | (simp +contextual [hg]; done) | grind) | omega | simp (decide := true) only [go_sem, reduceIte, Nat.reduceAdd, Int.reduceToNat, Nat.reduceSub, Nat.reduceMul, c3A, c3B, c3C, g5])
    refine r_cN hk2 (r_ret ?_)
    obtain rfl := Option.some.inj h
    refine r_eAR hQ rfl rfl ?_
    simp (decide := true) only [go_sem, reduceIte, Nat.reduceAdd, Int.reduceToNat, Nat.reduceSub, Nat.reduceMul]
    all_goals first | exact wkEnd_same ⟨rfl, rfl⟩ | exact True.intro
  · replace h := cond_f h g5
    repeat' (first | with_reducible refine And.intro ?_ ?_ | ((with_reducible refine i_call (n := 90) ?_); refine call_openF [] ?_) | ((with_reducible refine i_callW (n := 90) ?_); refine callW_use (con_impl_DevArg_kindIs v2 [11] v3 c4H) ?_; rintro x σ' ⟨rfl, rfl⟩ <;> ((refine ⟨?_, ?_⟩; (focus simp (decide := true) only [go_sem, reduceIte, Nat.reduceAdd, Int.reduceToNat, Nat.reduceSub, Nat.reduceMul, c3A, c3B, c3C, g5])); (with_reducible refine behind_go ?_))) | exact True.intro | with_reducible assumption | exact fun hf => False.elim hf | (intro hg; first | (simp +contextual [hg]; done) | grind) | omega | simp (decide := true) only [go_sem, reduceIte, Nat.reduceAdd, Int.reduceToNat, Nat.reduceSub, Nat.reduceMul, c3A, c3B, c3C, g5])
    refine r_cN hk2 (r_ret ?_)
    obtain rfl := Option.some.inj h
    refine r_eAR hQ rfl rfl ?_
    simp (decide := true) only [go_sem, reduceIte, Nat.reduceAdd, Int.reduceToNat, Nat.reduceSub, Nat.reduceMul]
    all_goals first | exact wkEnd_same ⟨rfl, rfl⟩ | exact True.intro
noncomputable def impl_ElemIsCoil_j49 (v1 : Elem) (v4 : DevArg) (v5 : (List DevArg)) : Bool → Option Bool
  | v13 => (cond v13 (Option.bind (impl_DevArg_kindIs v4 [7]) fun v14 => (cond v14 (Option.bind (impl_ElemIsCoil_1 v5) fun v15 => (some v15.1)) (some false))) (cond (v1.Op == 29) (Option.bind (impl_DevArg_kindIs v4 [8]) fun v16 => (cond v16 (Option.bind (impl_ElemIsCoil_1 v5) fun v17 => (some v17.1)) (some false))) (cond (v1.Op == 35) (Option.bind (impl_DevArg_kindIs v4 [9]) fun v18 => (cond v18 (Option.bind (impl_all_fimpl_DevIsWhole v5) fun v19 => (some v19)) (some false))) (cond (v1.Op == 36) (Option.bind (impl_DevArg_kindIs v4 [10]) fun v20 => (cond v20 (Option.bind (idx v5 (0)) fun v21 => (Option.bind (impl_DevIsWhole v21) fun v22 => (some v22))) (some false))) (cond (v1.Op == 37) (Option.bind (impl_DevArg_kindIs v4 [9]) fun v23 => (cond v23 (Option.bind (idx v5 (0)) fun v24 => (Option.bind (impl_DevIsReal v24) fun v25 => (some v25))) (some false))) (Option.bind (impl_DevArg_kindIs v4 [9]) fun v26 => (cond v26 (Option.bind (impl_all_fimpl_DevIsWhole v5) fun v27 => (cond v27 (some true) (Option.bind (impl_DevArg_kindIs v4 [10]) fun v28 => (cond v28 (Option.bind (impl_all_fimpl_DevIsReal v5) fun v29 => (some v29)) (some false))))) (Option.bind (impl_DevArg_kindIs v4 [10]) fun v30 => (cond v30 (Option.bind (impl_all_fimpl_DevIsReal v5) fun v31 => (some v31)) (some false))))))))))
noncomputable def impl_ElemIsCoil (v1 : Elem) : Option Bool :=
  (Option.bind (impl_in v1.Op 21 37) fun v2 => (cond v2 (Option.bind (impl_ElemArity v1.Op) fun v3 => (cond (((v1.Args).length : Int) != v3) (some false) (Option.bind (idx v1.Args (0)) fun v4 => (Option.bind (prtL v1.Args (1)) fun v5 => (cond (v1.Op == 21) (Option.bind (impl_DevArg_kindIs v4 [2, 3]) fun v6 => (some v6)) (cond (v1.Op == 22) (Option.bind (impl_DevArg_kindIs v4 [2, 3, 4]) fun v7 => (some v7)) (cond (v1.Op == 23) (Option.bind (impl_DevArg_kindIs v4 [2, 3, 4, 7, 8]) fun v8 => (some v8)) (cond (v1.Op == 24) (Option.bind (impl_DevArg_kindIs v4 [2, 3]) fun v9 => (cond v9 (Option.bind (idx v5 (0)) fun v10 => (Option.bind (impl_DevArg_kindIs v10 [5]) fun v11 => (some v11))) (some false))) (cond (v1.Op == 25) (Option.bind (impl_DevArg_kindIs v4 [4]) fun v12 => (some v12)) (cond (v1.Op == 26) (impl_ElemIsCoil_j49 v1 v4 v5 (v1.Op == 26)) (cond (v1.Op == 27) (impl_ElemIsCoil_j49 v1 v4 v5 (v1.Op == 27)) (impl_ElemIsCoil_j49 v1 v4 v5 (v1.Op == 28))))))))))))) (some false)))
set_option maxRecDepth 10000 in
set_option maxHeartbeats 4000000 in
theorem con_impl_ElemIsCoil (v1 : Elem) (res_ : Bool) (h : impl_ElemIsCoil v1 = some res_) : Con Tryd.prog C0 63 [.agg [.sc (.int .i64 (v1.Op)), .fz 3 (R e_DevArg (v1.Args))]] []
    (fun x σ' => x = .sc (.bool (res_)) ∧ σ' = []) := by
  refine con_of_sem hP [0, 1, 2, 3, 4, 5, 18, 28, 29, 34, 39, 44, 56, 61, 72, 81, 90, 101] [.tmp 2] Tryd.func63 (by unfold Tryd.f63; rfl) rfl rfl (Nat.le_of_ble_eq_true rfl) rfl ?_
  simp only [enter_cons, enter_nil, List.length_cons, List.length_nil, Nat.reduceAdd]
  generalize hQ : endQ _ _ _ _ = Q
  unfold impl_ElemIsCoil at h
  refine sem_cut fun k1 hk1 => ?_
  simp (decide := true) only [go_sem, reduceIte, Nat.reduceAdd, Int.reduceToNat, Nat.reduceSub, Nat.reduceMul]
  refine r_cN hk1 (sem_cut fun k2 hk2 => ?_)
  refine sem_cut fun k3 hk3 => ?_
  obtain ⟨v2, c4H, h⟩ := bind_some' h
  rcases Bool.eq_false_or_eq_true v2 with g5 | g5
  · replace h := cond_t h g5
    obtain ⟨v3, c6H, h⟩ := bind_some' h
    with_reducible refine sem_plan (id := 1) (.take 0 (.take 1 (.one 2 (.take 3 (.take 4 (.take 5 (.take 6 (.take 7 (.take 8 (.take 9 (.one 10 (.take 11 (.take 12 .done))))))))))))) [0] ?_ ?_
    focus kernel_rfl
    repeat' (first | with_reducible refine And.intro ?_ ?_ | ((with_reducible refine i_call (n := 51) ?_); refine call_openF [] ?_) | ((with_reducible refine i_callW (n := 51) ?_); refine callW_use (con_impl_in v1.Op 21 37 v2 c4H) ?_; rintro x σ' ⟨rfl, rfl⟩ <;> ((refine ⟨?_, ?_⟩; (focus simp (decide := true) only [go_sem, reduceIte, Nat.reduceAdd, Int.reduceToNat, Nat.reduceSub, Nat.reduceMul, g5])); (with_reducible refine behind_go ?_))) | ((with_reducible refine i_call (n := 88) ?_); refine call_openF [] ?_) | ((with_reducible refine i_callW (n := 88) ?_); refine callW_use (con_impl_ElemArity v1.Op v3 c6H) ?_; rintro x σ' ⟨rfl, rfl⟩ <;> ((refine ⟨?_, ?_⟩; (focus simp (decide := true) only [go_sem, reduceIte, Nat.reduceAdd, Int.reduceToNat, Nat.reduceSub, Nat.reduceMul, g5])); (with_reducible refine behind_go ?_))) | exact True.intro | with_reducible assumption | exact fun hf => False.elim hf | (intro hg; first | (simp +contextual [hg]; done) | grind) | omega | simp (decide := true) only [go_sem, reduceIte, Nat.reduceAdd, Int.reduceToNat, Nat.reduceSub, Nat.reduceMul, g5])
    refine r_cN hk3 ?_
    refine sem_ifh rfl h ?_ ?_ <;> clear h <;> intro h
    · refine sem_cut fun k7 hk7 => ?_
      simp (decide := true) only [go_sem, reduceIte, Nat.reduceAdd, Int.reduceToNat, Nat.reduceSub, Nat.reduceMul]
      refine r_cN hk7 (r_ret ?_)
      refine r_cR hk2 ?_
      obtain rfl := Option.some.inj h
      refine r_eAR hQ rfl rfl ?_
      simp (decide := true) only [go_sem, reduceIte, Nat.reduceAdd, Int.reduceToNat, Nat.reduceSub, Nat.reduceMul]
      all_goals first | exact wkEnd_same ⟨rfl, rfl⟩ | exact True.intro
    · refine r_skip (r_cN hk2 ?_)
      refine sem_cut fun k8 hk8 => ?_
      obtain ⟨v4, c9H, h⟩ := bind_some' h
      obtain ⟨c9A, c9B, c9C, -⟩ := idx_some c9H
      try simp only [Int.reduceToNat, Int.toNat_zero, Int.toNat_one] at c9C
      obtain ⟨v5, c10H, h⟩ := bind_some' h
      obtain ⟨c10A, c10B, c10C⟩ := prtL_some c10H
      try simp only [Int.reduceToNat, Int.toNat_zero, Int.toNat_one, Int.toNat_natCast, List.take_length] at c10C
      with_reducible refine sem_plan (id := 3) (.take 0 (.take 1 (.take 2 (.take 3 (.take 4 (.take 5 (.take 6 (.two 7 8 (.one 8 (.one 9 (.last 10 .done))) (.one 7 (.one 9 (.last 10 .done))))))))))) [0] ?_ ?_
      focus kernel_rfl
      repeat' (first | with_reducible refine And.intro ?_ ?_ | exact True.intro | with_reducible assumption | exact fun hf => False.elim hf | (intro hg; first | (simp +contextual [hg]; done) | grind) | omega | simp (decide := true) only [go_sem, reduceIte, Nat.reduceAdd, Int.reduceToNat, Nat.reduceSub, Nat.reduceMul, c9A, c9B, c9C, c10A, c10B, c10C])
      all_goals
        refine r_cN hk8 (sem_cut fun k11 hk11 => ?_)
        simp (decide := true) only [go_sem, reduceIte, Nat.reduceAdd, Int.reduceToNat, Nat.reduceSub, Nat.reduceMul]
        refine r_cN hk11 (sem_cut fun k12 hk12 => ?_)
        refine sem_cut fun k13 hk13 => ?_
        simp (decide := true) only [go_sem, reduceIte, Nat.reduceAdd, Int.reduceToNat, Nat.reduceSub, Nat.reduceMul]
        refine r_cN hk13 (sem_blk fun k14 hk14 => ?_)
        refine sem_cut fun k15 hk15 => ?_
        simp (decide := true) only [go_sem, reduceIte, Nat.reduceAdd, Int.reduceToNat, Nat.reduceSub, Nat.reduceMul]
        refine r_cN hk15 ?_
        refine sem_ifh rfl h ?_ ?_ <;> clear h <;> intro h
        · refine sem_cut fun k16 hk16 => ?_
          obtain ⟨v6, c17H, h⟩ := bind_some' h
          repeat' (first | with_reducible refine And.intro ?_ ?_ | ((with_reducible refine i_call (n := 90) ?_); refine call_openF [] ?_) | ((with_reducible refine i_callW (n := 90) ?_); refine callW_use (con_impl_DevArg_kindIs v4 [2, 3] v6 c17H) ?_; rintro x σ' ⟨rfl, rfl⟩ <;> ((refine ⟨?_, ?_⟩; (focus simp (decide := true) only [go_sem, reduceIte, Nat.reduceAdd, Int.reduceToNat, Nat.reduceSub, Nat.reduceMul])); (with_reducible refine behind_go ?_))) | exact True.intro | with_reducible assumption | exact fun hf => False.elim hf | (intro hg; first | (simp +contextual [hg]; done) | grind) | omega | simp (decide := true) only [go_sem, reduceIte, Nat.reduceAdd, Int.reduceToNat, Nat.reduceSub, Nat.reduceMul])
          refine r_cN hk16 (r_ret ?_)
          refine r_bR hk14 (r_cR hk12 ?_)
          obtain rfl := Option.some.inj h
          refine r_eAR hQ rfl rfl ?_
          simp (decide := true) only [go_sem, reduceIte, Nat.reduceAdd, Int.reduceToNat, Nat.reduceSub, Nat.reduceMul]
          all_goals first | exact wkEnd_same ⟨rfl, rfl⟩ | exact True.intro
        · refine sem_cut fun k18 hk18 => ?_
          simp (decide := true) only [go_sem, reduceIte, Nat.reduceAdd, Int.reduceToNat, Nat.reduceSub, Nat.reduceMul]
          refine r_cN hk18 ?_
          refine sem_ifh rfl h ?_ ?_ <;> clear h <;> intro h
          · refine sem_cut fun k19 hk19 => ?_
            obtain ⟨v7, c20H, h⟩ := bind_some' h
            repeat' (first | with_reducible refine And.intro ?_ ?_ | ((with_reducible refine i_call (n := 90) ?_); refine call_openF [] ?_) | ((with_reducible refine i_callW (n := 90) ?_); refine callW_use (con_impl_DevArg_kindIs v4 [2, 3, 4] v7 c20H) ?_; rintro x σ' ⟨rfl, rfl⟩ <;> ((refine ⟨?_, ?_⟩; (focus simp (decide := true) only [go_sem, reduceIte, Nat.reduceAdd, Int.reduceToNat, Nat.reduceSub, Nat.reduceMul])); (with_reducible refine behind_go ?_))) | exact True.intro | with_reducible assumption | exact fun hf => False.elim hf | (intro hg; first | (simp +contextual [hg]; done) | grind) | omega | simp (decide := true) only [go_sem, reduceIte, Nat.reduceAdd, Int.reduceToNat, Nat.reduceSub, Nat.reduceMul])
            refine r_cN hk19 (r_ret ?_)
            refine r_bR hk14 (r_cR hk12 ?_)
            obtain rfl := Option.some.inj h
            refine r_eAR hQ rfl rfl ?_
            simp (decide := true) only [go_sem, reduceIte, Nat.reduceAdd, Int.reduceToNat, Nat.reduceSub, Nat.reduceMul]
            all_goals first | exact wkEnd_same ⟨rfl, rfl⟩ | exact True.intro
          · refine sem_cut fun k21 hk21 => ?_
            simp (decide := true) only [go_sem, reduceIte, Nat.reduceAdd, Int.reduceToNat, Nat.reduceSub, Nat.reduceMul]
            refine r_cN hk21 ?_
            refine sem_ifh rfl h ?_ ?_ <;> clear h <;> intro h
            · refine sem_cut fun k22 hk22 => ?_
              obtain ⟨v8, c23H, h⟩ := bind_some' h
              repeat' (first | with_reducible refine And.intro ?_ ?_ | ((with_reducible refine i_call (n := 90) ?_); refine call_openF [] ?_) | ((with_reducible refine i_callW (n := 90) ?_); refine callW_use (con_impl_DevArg_kindIs v4 [2, 3, 4, 7, 8] v8 c23H) ?_; rintro x σ' ⟨rfl, rfl⟩ <;> ((refine ⟨?_, ?_⟩; (focus simp (decide := true) only [go_sem, reduceIte, Nat.reduceAdd, Int.reduceToNat, Nat.reduceSub, Nat.reduceMul])); (with_reducible refine behind_go ?_))) | exact True.intro | with_reducible assumption | exact fun hf => False.elim hf | (intro hg; first | (simp +contextual [hg]; done) | grind) | omega | simp (decide := true) only [go_sem, reduceIte, Nat.reduceAdd, Int.reduceToNat, Nat.reduceSub, Nat.reduceMul])
              refine r_cN hk22 (r_ret ?_)
              refine r_bR hk14 (r_cR hk12 ?_)
              obtain rfl := Option.some.inj h
              refine r_eAR hQ rfl rfl ?_
              simp (decide := true) only [go_sem, reduceIte, Nat.reduceAdd, Int.reduceToNat, Nat.reduceSub, Nat.reduceMul]
              all_goals first | exact wkEnd_same ⟨rfl, rfl⟩ | exact True.intro
            · refine sem_cut fun k24 hk24 => ?_
              simp (decide := true) only [go_sem, reduceIte, Nat.reduceAdd, Int.reduceToNat, Nat.reduceSub, Nat.reduceMul]
              refine r_cN hk24 ?_
              refine sem_ifh rfl h ?_ ?_ <;> clear h <;> intro h
              · refine sem_cut fun k25 hk25 => ?_
                obtain ⟨v9, c26H, h⟩ := bind_some' h
                rcases Bool.eq_false_or_eq_true v9 with g27 | g27
                · replace h := cond_t h g27
                  obtain ⟨v10, c28H, h⟩ := bind_some' h
                  obtain ⟨c28A, c28B, c28C, -⟩ := idx_some c28H
                  try simp only [Int.reduceToNat, Int.toNat_zero, Int.toNat_one] at c28C
                  obtain ⟨v11, c29H, h⟩ := bind_some' h
                  repeat' (first | with_reducible refine And.intro ?_ ?_ | ((with_reducible refine i_call (n := 90) ?_); refine call_openF [] ?_) | ((with_reducible refine i_callW (n := 90) ?_); refine callW_use (con_impl_DevArg_kindIs v4 [2, 3] v9 c26H) ?_; rintro x σ' ⟨rfl, rfl⟩ <;> ((refine ⟨?_, ?_⟩; (focus simp (decide := true) only [go_sem, reduceIte, Nat.reduceAdd, Int.reduceToNat, Nat.reduceSub, Nat.reduceMul, g27, c28A, c28B, c28C])); (with_reducible refine behind_go ?_))) | ((with_reducible refine i_callW (n := 90) ?_); refine callW_use (con_impl_DevArg_kindIs v10 [5] v11 c29H) ?_; rintro x σ' ⟨rfl, rfl⟩ <;> ((refine ⟨?_, ?_⟩; (focus simp (decide := true) only [go_sem, reduceIte, Nat.reduceAdd, Int.reduceToNat, Nat.reduceSub, Nat.reduceMul, g27, c28A, c28B, c28C])); (with_reducible refine behind_go ?_))) | exact True.intro | with_reducible assumption | exact fun hf => False.elim hf | (intro hg; first | (simp +contextual [hg]; done) | grind) | omega | simp (decide := true) only [go_sem, reduceIte, Nat.reduceAdd, Int.reduceToNat, Nat.reduceSub, Nat.reduceMul, g27, c28A, c28B, c28C])
                  refine r_cN hk25 (r_ret ?_)
                  refine r_bR hk14 (r_cR hk12 ?_)
                  obtain rfl := Option.some.inj h
                  refine r_eAR hQ rfl rfl ?_
                  simp (decide := true) only [go_sem, reduceIte, Nat.reduceAdd, Int.reduceToNat, Nat.reduceSub, Nat.reduceMul]
                  all_goals first | exact wkEnd_same ⟨rfl, rfl⟩ | exact True.intro
                · replace h := cond_f h g27
                  repeat' (first | with_reducible refine And.intro ?_ ?_ | ((with_reducible refine i_call (n := 90) ?_); refine call_openF [] ?_) | ((with_reducible refine i_callW (n := 90) ?_); refine callW_use (con_impl_DevArg_kindIs v4 [2, 3] v9 c26H) ?_; rintro x σ' ⟨rfl, rfl⟩ <;> ((refine ⟨?_, ?_⟩; (focus simp (decide := true) only [go_sem, reduceIte, Nat.reduceAdd, Int.reduceToNat, Nat.reduceSub, Nat.reduceMul, g27])); (with_reducible refine behind_go ?_))) | exact True.intro | with_reducible assumption | exact fun hf => False.elim hf | (intro hg; first | (simp +contextual [hg]; done) | grind) | omega | simp (decide := true) only [go_sem, reduceIte, Nat.reduceAdd, Int.reduceToNat, Nat.reduceSub, Nat.reduceMul, g27])
                  refine r_cN hk25 (r_ret ?_)
                  refine r_bR hk14 (r_cR hk12 ?_)
                  obtain rfl := Option.some.inj h
                  refine r_eAR hQ rfl rfl ?_
                  simp (decide := true) only [go_sem, reduceIte, Nat.reduceAdd, Int.reduceToNat, Nat.reduceSub, Nat.reduceMul]
                  all_goals first | exact wkEnd_same ⟨rfl, rfl⟩ | exact True.intro
              · refine sem_cut fun k30 hk30 => ?_
                simp (decide := true) only [go_sem, reduceIte, Nat.reduceAdd, Int.reduceToNat, Nat.reduceSub, Nat.reduceMul]
                refine r_cN hk30 ?_
                refine sem_ifh rfl h ?_ ?_ <;> clear h <;> intro h
                · refine sem_cut fun k31 hk31 => ?_
                  obtain ⟨v12, c32H, h⟩ := bind_some' h
                  repeat' (first | with_reducible refine And.intro ?_ ?_ | ((with_reducible refine i_call (n := 90) ?_); refine call_openF [] ?_) | ((with_reducible refine i_callW (n := 90) ?_); refine callW_use (con_impl_DevArg_kindIs v4 [4] v12 c32H) ?_; rintro x σ' ⟨rfl, rfl⟩ <;> ((refine ⟨?_, ?_⟩; (focus simp (decide := true) only [go_sem, reduceIte, Nat.reduceAdd, Int.reduceToNat, Nat.reduceSub, Nat.reduceMul])); (with_reducible refine behind_go ?_))) | exact True.intro | with_reducible assumption | exact fun hf => False.elim hf | (intro hg; first | (simp +contextual [hg]; done) | grind) | omega | simp (decide := true) only [go_sem, reduceIte, Nat.reduceAdd, Int.reduceToNat, Nat.reduceSub, Nat.reduceMul])
                  refine r_cN hk31 (r_ret ?_)
                  refine r_bR hk14 (r_cR hk12 ?_)
                  obtain rfl := Option.some.inj h
                  refine r_eAR hQ rfl rfl ?_
                  simp (decide := true) only [go_sem, reduceIte, Nat.reduceAdd, Int.reduceToNat, Nat.reduceSub, Nat.reduceMul]
                  all_goals first | exact wkEnd_same ⟨rfl, rfl⟩ | exact True.intro
                · refine sem_cutJ (fun (_ : Unit) (x : Bool) => (⟨[(3, .pt 0 0), (4, .pt 1 0), (5, .clo 92 [(1, 0)]), (28, .sc (.int .i64 (v1.Op))), (61, .sc (.bool (x)))], [.rc [.sc (.int .i64 (v4.Kind)), .sc (.int .i64 (v4.N)), .sc (.int .i64 (v4.P))], .rc [.fz 3 (R e_DevArg (v5))]]⟩ : St)) (fun (_ : Unit) (x : Bool) => impl_ElemIsCoil_j49 v1 v4 v5 x = some res_) ?_ ?_
                  · rintro _ v13 h
                    simp only [impl_ElemIsCoil_j49] at h
                    refine sem_ifh rfl h ?_ ?_ <;> clear h <;> intro h
                    · refine sem_cut fun k35 hk35 => ?_
                      obtain ⟨v14, c36H, h⟩ := bind_some' h
                      rcases Bool.eq_false_or_eq_true v14 with g37 | g37
                      · replace h := cond_t h g37
                        obtain ⟨v15, c38H, h⟩ := bind_some' h
                        repeat' (first | with_reducible refine And.intro ?_ ?_ | ((with_reducible refine i_call (n := 90) ?_); refine call_openF [] ?_) | ((with_reducible refine i_callW (n := 90) ?_); refine callW_use (con_impl_DevArg_kindIs v4 [7] v14 c36H) ?_; rintro x σ' ⟨rfl, rfl⟩ <;> ((refine ⟨?_, ?_⟩; (focus simp (decide := true) only [go_sem, reduceIte, Nat.reduceAdd, Int.reduceToNat, Nat.reduceSub, Nat.reduceMul, g37])); (with_reducible refine behind_go ?_))) | ((with_reducible refine i_call (n := 92) ?_); refine call_open [[0]] ?_) | ((with_reducible refine i_callW (n := 92) ?_); refine callW_use (con_impl_ElemIsCoil_1 v5 v15 c38H) ?_; rintro x σ' ⟨rfl, rfl⟩ <;> ((with_reducible refine behind_go ?_))) | exact True.intro | with_reducible assumption | exact fun hf => False.elim hf | (intro hg; first | (simp +contextual [hg]; done) | grind) | omega | simp (decide := true) only [go_sem, reduceIte, Nat.reduceAdd, Int.reduceToNat, Nat.reduceSub, Nat.reduceMul, g37])
                        refine r_cN hk35 (r_ret ?_)
                        refine r_bR hk14 (r_cR hk12 ?_)
                        obtain rfl := Option.some.inj h
                        refine r_eAR hQ rfl rfl ?_
                        simp (decide := true) only [go_sem, reduceIte, Nat.reduceAdd, Int.reduceToNat, Nat.reduceSub, Nat.reduceMul]
                        all_goals first | exact wkEnd_same ⟨rfl, rfl⟩ | exact True.intro
                      · replace h := cond_f h g37
                        repeat' (first | with_reducible refine And.intro ?_ ?_ | ((with_reducible refine i_call (n := 90) ?_); refine call_openF [] ?_) | ((with_reducible refine i_callW (n := 90) ?_); refine callW_use (con_impl_DevArg_kindIs v4 [7] v14 c36H) ?_; rintro x σ' ⟨rfl, rfl⟩ <;> ((refine ⟨?_, ?_⟩; (focus simp (decide := true) only [go_sem, reduceIte, Nat.reduceAdd, Int.reduceToNat, Nat.reduceSub, Nat.reduceMul, g37])); (with_reducible refine behind_go ?_))) | exact True.intro | with_reducible assumption | exact fun hf => False.elim hf | (intro hg; first | (simp +contextual [hg]; done) | grind) | omega | simp (decide := true) only [go_sem, reduceIte, Nat.reduceAdd, Int.reduceToNat, Nat.reduceSub, Nat.reduceMul, g37])
                        refine r_cN hk35 (r_ret ?_)
                        refine r_bR hk14 (r_cR hk12 ?_)
                        obtain rfl := Option.some.inj h
                        refine r_eAR hQ rfl rfl ?_
                        simp (decide := true) only [go_sem, reduceIte, Nat.reduceAdd, Int.reduceToNat, Nat.reduceSub, Nat.reduceMul]
                        all_goals first | exact wkEnd_same ⟨rfl, rfl⟩ | exact True.intro
                    · refine sem_cut fun k39 hk39 => ?_
                      simp (decide := true) only [go_sem, reduceIte, Nat.reduceAdd, Int.reduceToNat, Nat.reduceSub, Nat.reduceMul]
                      refine r_cN hk39 ?_
                      refine sem_ifh rfl h ?_ ?_ <;> clear h <;> intro h
                      · refine sem_cut fun k40 hk40 => ?_
                        obtain ⟨v16, c41H, h⟩ := bind_some' h
                        rcases Bool.eq_false_or_eq_true v16 with g42 | g42
                        · replace h := cond_t h g42
                          obtain ⟨v17, c43H, h⟩ := bind_some' h
                          repeat' (first | with_reducible refine And.intro ?_ ?_ | ((with_reducible refine i_call (n := 90) ?_); refine call_openF [] ?_) | ((with_reducible refine i_callW (n := 90) ?_); refine callW_use (con_impl_DevArg_kindIs v4 [8] v16 c41H) ?_; rintro x σ' ⟨rfl, rfl⟩ <;> ((refine ⟨?_, ?_⟩; (focus simp (decide := true) only [go_sem, reduceIte, Nat.reduceAdd, Int.reduceToNat, Nat.reduceSub, Nat.reduceMul, g42])); (with_reducible refine behind_go ?_))) | ((with_reducible refine i_call (n := 92) ?_); refine call_open [[0]] ?_) | ((with_reducible refine i_callW (n := 92) ?_); refine callW_use (con_impl_ElemIsCoil_1 v5 v17 c43H) ?_; rintro x σ' ⟨rfl, rfl⟩ <;> ((with_reducible refine behind_go ?_))) | exact True.intro | with_reducible assumption | exact fun hf => False.elim hf | (intro hg; first | (simp +contextual [hg]; done) | grind) | omega | simp (decide := true) only [go_sem, reduceIte, Nat.reduceAdd, Int.reduceToNat, Nat.reduceSub, Nat.reduceMul, g42])
                          refine r_cN hk40 (r_ret ?_)
                          refine r_bR hk14 (r_cR hk12 ?_)
                          obtain rfl := Option.some.inj h
                          refine r_eAR hQ rfl rfl ?_
                          simp (decide := true) only [go_sem, reduceIte, Nat.reduceAdd, Int.reduceToNat, Nat.reduceSub, Nat.reduceMul]
                          all_goals first | exact wkEnd_same ⟨rfl, rfl⟩ | exact True.intro
                        · replace h := cond_f h g42
                          repeat' (first | with_reducible refine And.intro ?_ ?_ | ((with_reducible refine i_call (n := 90) ?_); refine call_openF [] ?_) | ((with_reducible refine i_callW (n := 90) ?_); refine callW_use (con_impl_DevArg_kindIs v4 [8] v16 c41H) ?_; rintro x σ' ⟨rfl, rfl⟩ <;> ((refine ⟨?_, ?_⟩; (focus simp (decide := true) only [go_sem, reduceIte, Nat.reduceAdd, Int.reduceToNat, Nat.reduceSub, Nat.reduceMul, g42])); (with_reducible refine behind_go ?_))) | exact True.intro | with_reducible assumption | exact fun hf => False.elim hf | (intro hg; first | (simp +contextual [hg]; done) | grind) | omega | simp (decide := true) only [go_sem, reduceIte, Nat.reduceAdd, Int.reduceToNat, Nat.reduceSub, Nat.reduceMul, g42])
                          refine r_cN hk40 (r_ret ?_)
                          refine r_bR hk14 (r_cR hk12 ?_)
                          obtain rfl := Option.some.inj h
                          refine r_eAR hQ rfl rfl ?_
                          simp (decide := true) only [go_sem, reduceIte, Nat.reduceAdd, Int.reduceToNat, Nat.reduceSub, Nat.reduceMul]
                          all_goals first | exact wkEnd_same ⟨rfl, rfl⟩ | exact True.intro
                      · refine sem_cut fun k44 hk44 => ?_
                        simp (decide := true) only [go_sem, reduceIte, Nat.reduceAdd, Int.reduceToNat, Nat.reduceSub, Nat.reduceMul]
                        refine r_cN hk44 ?_
                        refine sem_ifh rfl h ?_ ?_ <;> clear h <;> intro h
                        · refine sem_cut fun k45 hk45 => ?_
                          obtain ⟨v18, c46H, h⟩ := bind_some' h
                          rcases Bool.eq_false_or_eq_true v18 with g47 | g47
                          · replace h := cond_t h g47
                            obtain ⟨v19, c48H, h⟩ := bind_some' h
                            repeat' (first | with_reducible refine And.intro ?_ ?_ | ((with_reducible refine i_call (n := 90) ?_); refine call_openF [] ?_) | ((with_reducible refine i_callW (n := 90) ?_); refine callW_use (con_impl_DevArg_kindIs v4 [9] v18 c46H) ?_; rintro x σ' ⟨rfl, rfl⟩ <;> ((refine ⟨?_, ?_⟩; (focus simp (decide := true) only [go_sem, reduceIte, Nat.reduceAdd, Int.reduceToNat, Nat.reduceSub, Nat.reduceMul, g47])); (with_reducible refine behind_go ?_))) | ((with_reducible refine i_call (n := 93) ?_); refine call_openF [] ?_) | ((with_reducible refine i_callW (n := 93) ?_); refine callW_use (con_impl_all_fimpl_DevIsWhole v5 v19 c48H) ?_; rintro x σ' ⟨rfl, rfl⟩ <;> ((refine ⟨?_, ?_⟩; (focus simp (decide := true) only [go_sem, reduceIte, Nat.reduceAdd, Int.reduceToNat, Nat.reduceSub, Nat.reduceMul, g47])); (with_reducible refine behind_go ?_))) | exact True.intro | with_reducible assumption | exact fun hf => False.elim hf | (intro hg; first | (simp +contextual [hg]; done) | grind) | omega | simp (decide := true) only [go_sem, reduceIte, Nat.reduceAdd, Int.reduceToNat, Nat.reduceSub, Nat.reduceMul, g47])
                            refine r_cN hk45 (r_ret ?_)
                            refine r_bR hk14 (r_cR hk12 ?_)
                            obtain rfl := Option.some.inj h
                            refine r_eAR hQ rfl rfl ?_
                            simp (decide := true) only [go_sem, reduceIte, Nat.reduceAdd, Int.reduceToNat, Nat.reduceSub, Nat.reduceMul]
                            all_goals first | exact wkEnd_same ⟨rfl, rfl⟩ | exact True.intro
                          · replace h := cond_f h g47
                            repeat' (first | with_reducible refine And.intro ?_ ?_ | ((with_reducible refine i_call (n := 90) ?_); refine call_openF [] ?_) | ((with_reducible refine i_callW (n := 90) ?_); refine callW_use (con_impl_DevArg_kindIs v4 [9] v18 c46H) ?_; rintro x σ' ⟨rfl, rfl⟩ <;> ((refine ⟨?_, ?_⟩; (focus simp (decide := true) only [go_sem, reduceIte, Nat.reduceAdd, Int.reduceToNat, Nat.reduceSub, Nat.reduceMul, g47])); (with_reducible refine behind_go ?_))) | exact True.intro | with_reducible assumption | exact fun hf => False.elim hf | (intro hg; first | (simp +contextual [hg]; done) | grind) | omega | simp (decide := true) only [go_sem, reduceIte, Nat.reduceAdd, Int.reduceToNat, Nat.reduceSub, Nat.reduceMul, g47])
                            refine r_cN hk45 (r_ret ?_)
                            refine r_bR hk14 (r_cR hk12 ?_)
                            obtain rfl := Option.some.inj h
                            refine r_eAR hQ rfl rfl ?_
                            simp (decide := true) only [go_sem, reduceIte, Nat.reduceAdd, Int.reduceToNat, Nat.reduceSub, Nat.reduceMul]
                            all_goals first | exact wkEnd_same ⟨rfl, rfl⟩ | exact True.intro
                        · refine sem_cut fun k49 hk49 => ?_
                          simp (decide := true) only [go_sem, reduceIte, Nat.reduceAdd, Int.reduceToNat, Nat.reduceSub, Nat.reduceMul]
                          refine r_cN hk49 ?_
                          refine sem_ifh rfl h ?_ ?_ <;> clear h <;> intro h
                          · refine sem_cut fun k50 hk50 => ?_
                            obtain ⟨v20, c51H, h⟩ := bind_some' h
                            rcases Bool.eq_false_or_eq_true v20 with g52 | g52
                            · replace h := cond_t h g52
                              obtain ⟨v21, c53H, h⟩ := bind_some' h
                              obtain ⟨c53A, c53B, c53C, -⟩ := idx_some c53H
                              try simp only [Int.reduceToNat, Int.toNat_zero, Int.toNat_one] at c53C
                              obtain ⟨v22, c54H, h⟩ := bind_some' h
                              repeat' (first | with_reducible refine And.intro ?_ ?_ | ((with_reducible refine i_call (n := 90) ?_); refine call_openF [] ?_) | ((with_reducible refine i_callW (n := 90) ?_); refine callW_use (con_impl_DevArg_kindIs v4 [10] v20 c51H) ?_; rintro x σ' ⟨rfl, rfl⟩ <;> ((refine ⟨?_, ?_⟩; (focus simp (decide := true) only [go_sem, reduceIte, Nat.reduceAdd, Int.reduceToNat, Nat.reduceSub, Nat.reduceMul, g52, c53A, c53B, c53C])); (with_reducible refine behind_go ?_))) | ((with_reducible refine i_call (n := 94) ?_); refine call_openF [] ?_) | ((with_reducible refine i_callW (n := 94) ?_); refine callW_use (con_impl_DevIsWhole v21 v22 c54H) ?_; rintro x σ' ⟨rfl, rfl⟩ <;> ((refine ⟨?_, ?_⟩; (focus simp (decide := true) only [go_sem, reduceIte, Nat.reduceAdd, Int.reduceToNat, Nat.reduceSub, Nat.reduceMul, g52, c53A, c53B, c53C])); (with_reducible refine behind_go ?_))) | exact True.intro | with_reducible assumption | exact fun hf => False.elim hf | (intro hg; first | (simp +contextual [hg]; done) | grind) | omega | simp (decide := true) only [go_sem, reduceIte, Nat.reduceAdd, Int.reduceToNat, Nat.reduceSub, Nat.reduceMul, g52, c53A, c53B, c53C])
                              refine r_cN hk50 (r_ret ?_)
                              refine r_bR hk14 (r_cR hk12 ?_)
                              obtain rfl := Option.some.inj h
                              refine r_eAR hQ rfl rfl ?_
                              simp (decide := true) only [go_sem, reduceIte, Nat.reduceAdd, Int.reduceToNat, Nat.reduceSub, Nat.reduceMul]
                              all_goals first | exact wkEnd_same ⟨rfl, rfl⟩ | exact True.intro
                            · replace h := cond_f h g52
                              repeat' (first | with_reducible refine And.intro ?_ ?_ | ((with_reducible refine i_call (n := 90) ?_); refine call_openF [] ?_) | ((with_reducible refine i_callW (n := 90) ?_); refine callW_use (con_impl_DevArg_kindIs v4 [10] v20 c51H) ?_; rintro x σ' ⟨rfl, rfl⟩ <;> ((refine ⟨?_, ?_⟩; (focus simp (decide := true) only [go_sem, reduceIte, Nat.reduceAdd, Int.reduceToNat, Nat.reduceSub, Nat.reduceMul, g52])); (with_reducible refine behind_go ?_))) | exact True.intro | with_reducible assumption | exact fun hf => False.elim hf | (intro hg; first | (simp +contextual [hg]; done) | grind) | omega | simp (decide := true) only [go_sem, reduceIte, Nat.reduceAdd, Int.reduceToNat, Nat.reduceSub, Nat.reduceMul, g52])
                              refine r_cN hk50 (r_ret ?_)
                              refine r_bR hk14 (r_cR hk12 ?_)
                              obtain rfl := Option.some.inj h
                              refine r_eAR hQ rfl rfl ?_
                              simp (decide := true) only [go_sem, reduceIte, Nat.reduceAdd, Int.reduceToNat, Nat.reduceSub, Nat.reduceMul]
                              all_goals first | exact wkEnd_same ⟨rfl, rfl⟩ | exact True.intro
                          · refine sem_cut fun k55 hk55 => ?_
                            simp (decide := true) only [go_sem, reduceIte, Nat.reduceAdd, Int.reduceToNat, Nat.reduceSub, Nat.reduceMul]
                            refine r_cN hk55 ?_
                            refine sem_ifh rfl h ?_ ?_ <;> clear h <;> intro h
                            · refine sem_cut fun k56 hk56 => ?_
                              obtain ⟨v23, c57H, h⟩ := bind_some' h
                              rcases Bool.eq_false_or_eq_true v23 with g58 | g58
                              · replace h := cond_t h g58
                                obtain ⟨v24, c59H, h⟩ := bind_some' h
                                obtain ⟨c59A, c59B, c59C, -⟩ := idx_some c59H
                                try simp only [Int.reduceToNat, Int.toNat_zero, Int.toNat_one] at c59C
                                obtain ⟨v25, c60H, h⟩ := bind_some' h
                                repeat' (first | with_reducible refine And.intro ?_ ?_ | ((with_reducible refine i_call (n := 90) ?_); refine call_openF [] ?_) | ((with_reducible refine i_callW (n := 90) ?_); refine callW_use (con_impl_DevArg_kindIs v4 [9] v23 c57H) ?_; rintro x σ' ⟨rfl, rfl⟩ <;> ((refine ⟨?_, ?_⟩; (focus simp (decide := true) only [go_sem, reduceIte, Nat.reduceAdd, Int.reduceToNat, Nat.reduceSub, Nat.reduceMul, g58, c59A, c59B, c59C])); (with_reducible refine behind_go ?_))) | ((with_reducible refine i_call (n := 95) ?_); refine call_openF [] ?_) | ((with_reducible refine i_callW (n := 95) ?_); refine callW_use (con_impl_DevIsReal v24 v25 c60H) ?_; rintro x σ' ⟨rfl, rfl⟩ <;> ((refine ⟨?_, ?_⟩; (focus simp (decide := true) only [go_sem, reduceIte, Nat.reduceAdd, Int.reduceToNat, Nat.reduceSub, Nat.reduceMul, g58, c59A, c59B, c59C])); (with_reducible refine behind_go ?_))) | exact True.intro | with_reducible assumption | exact fun hf => False.elim hf | (intro hg; first | (simp +contextual [hg]; done) | grind) | omega | simp (decide := true) only [go_sem, reduceIte, Nat.reduceAdd, Int.reduceToNat, Nat.reduceSub, Nat.reduceMul, g58, c59A, c59B, c59C])
                                refine r_cN hk56 (r_ret ?_)
                                refine r_bR hk14 (r_cR hk12 ?_)
                                obtain rfl := Option.some.inj h
                                refine r_eAR hQ rfl rfl ?_
                                simp (decide := true) only [go_sem, reduceIte, Nat.reduceAdd, Int.reduceToNat, Nat.reduceSub, Nat.reduceMul]
                                all_goals first | exact wkEnd_same ⟨rfl, rfl⟩ | exact True.intro
                              · replace h := cond_f h g58
                                repeat' (first | with_reducible refine And.intro ?_ ?_ | ((with_reducible refine i_call (n := 90) ?_); refine call_openF [] ?_) | ((with_reducible refine i_callW (n := 90) ?_); refine callW_use (con_impl_DevArg_kindIs v4 [9] v23 c57H) ?_; rintro x σ' ⟨rfl, rfl⟩ <;> ((refine ⟨?_, ?_⟩; (focus simp (decide := true) only [go_sem, reduceIte, Nat.reduceAdd, Int.reduceToNat, Nat.reduceSub, Nat.reduceMul, g58])); (with_reducible refine behind_go ?_))) | exact True.intro | with_reducible assumption | exact fun hf => False.elim hf | (intro hg; first | (simp +contextual [hg]; done) | grind) | omega | simp (decide := true) only [go_sem, reduceIte, Nat.reduceAdd, Int.reduceToNat, Nat.reduceSub, Nat.reduceMul, g58])
                                refine r_cN hk56 (r_ret ?_)
                                refine r_bR hk14 (r_cR hk12 ?_)
                                obtain rfl := Option.some.inj h
                                refine r_eAR hQ rfl rfl ?_
                                simp (decide := true) only [go_sem, reduceIte, Nat.reduceAdd, Int.reduceToNat, Nat.reduceSub, Nat.reduceMul]
                                all_goals first | exact wkEnd_same ⟨rfl, rfl⟩ | exact True.intro
                            · refine r_skip (r_bN hk14 ?_)
                              refine r_cN hk12 (sem_cut fun k61 hk61 => ?_)
                              obtain ⟨v26, c62H, h⟩ := bind_some' h
                              rcases Bool.eq_false_or_eq_true v26 with g63 | g63
                              · replace h := cond_t h g63
                                obtain ⟨v27, c64H, h⟩ := bind_some' h
                                rcases Bool.eq_false_or_eq_true v27 with g65 | g65
                                · replace h := cond_t h g65
                                  repeat' (first | with_reducible refine And.intro ?_ ?_ | ((with_reducible refine i_call (n := 90) ?_); refine call_openF [] ?_) | ((with_reducible refine i_callW (n := 90) ?_); refine callW_use (con_impl_DevArg_kindIs v4 [9] v26 c62H) ?_; rintro x σ' ⟨rfl, rfl⟩ <;> ((refine ⟨?_, ?_⟩; (focus simp (decide := true) only [go_sem, reduceIte, Nat.reduceAdd, Int.reduceToNat, Nat.reduceSub, Nat.reduceMul, g63, g65])); (with_reducible refine behind_go ?_))) | ((with_reducible refine i_call (n := 93) ?_); refine call_openF [] ?_) | ((with_reducible refine i_callW (n := 93) ?_); refine callW_use (con_impl_all_fimpl_DevIsWhole v5 v27 c64H) ?_; rintro x σ' ⟨rfl, rfl⟩ <;> ((refine ⟨?_, ?_⟩; (focus simp (decide := true) only [go_sem, reduceIte, Nat.reduceAdd, Int.reduceToNat, Nat.reduceSub, Nat.reduceMul, g63, g65])); (with_reducible refine behind_go ?_))) | exact True.intro | with_reducible assumption | exact fun hf => False.elim hf | (intro hg; first | (simp +contextual [hg]; done) | grind) | omega | simp (decide := true) only [go_sem, reduceIte, Nat.reduceAdd, Int.reduceToNat, Nat.reduceSub, Nat.reduceMul, g63, g65])
                                  refine r_cN hk61 (r_ret ?_)
                                  obtain rfl := Option.some.inj h
                                  refine r_eAR hQ rfl rfl ?_
                                  simp (decide := true) only [go_sem, reduceIte, Nat.reduceAdd, Int.reduceToNat, Nat.reduceSub, Nat.reduceMul]
                                  all_goals first | exact wkEnd_same ⟨rfl, rfl⟩ | exact True.intro
                                · replace h := cond_f h g65
                                  obtain ⟨v28, c66H, h⟩ := bind_some' h
                                  rcases Bool.eq_false_or_eq_true v28 with g67 | g67
                                  · replace h := cond_t h g67
                                    obtain ⟨v29, c68H, h⟩ := bind_some' h
                                    repeat' (first | with_reducible refine And.intro ?_ ?_ | ((with_reducible refine i_call (n := 90) ?_); refine call_openF [] ?_) | ((with_reducible refine i_callW (n := 90) ?_); refine callW_use (con_impl_DevArg_kindIs v4 [9] v26 c62H) ?_; rintro x σ' ⟨rfl, rfl⟩ <;> ((refine ⟨?_, ?_⟩; (focus simp (decide := true) only [go_sem, reduceIte, Nat.reduceAdd, Int.reduceToNat, Nat.reduceSub, Nat.reduceMul, g63, g65, g67])); (with_reducible refine behind_go ?_))) | ((with_reducible refine i_call (n := 93) ?_); refine call_openF [] ?_) | ((with_reducible refine i_callW (n := 93) ?_); refine callW_use (con_impl_all_fimpl_DevIsWhole v5 v27 c64H) ?_; rintro x σ' ⟨rfl, rfl⟩ <;> ((refine ⟨?_, ?_⟩; (focus simp (decide := true) only [go_sem, reduceIte, Nat.reduceAdd, Int.reduceToNat, Nat.reduceSub, Nat.reduceMul, g63, g65, g67])); (with_reducible refine behind_go ?_))) | ((with_reducible refine i_callW (n := 90) ?_); refine callW_use (con_impl_DevArg_kindIs v4 [10] v28 c66H) ?_; rintro x σ' ⟨rfl, rfl⟩ <;> ((refine ⟨?_, ?_⟩; (focus simp (decide := true) only [go_sem, reduceIte, Nat.reduceAdd, Int.reduceToNat, Nat.reduceSub, Nat.reduceMul, g63, g65, g67])); (with_reducible refine behind_go ?_))) | ((with_reducible refine i_callW (n := 93) ?_); refine callW_use (con_impl_all_fimpl_DevIsReal v5 v29 c68H) ?_; rintro x σ' ⟨rfl, rfl⟩ <;> ((refine ⟨?_, ?_⟩; (focus simp (decide := true) only [go_sem, reduceIte, Nat.reduceAdd, Int.reduceToNat, Nat.reduceSub, Nat.reduceMul, g63, g65, g67])); (with_reducible refine behind_go ?_))) | exact True.intro | with_reducible assumption | exact fun hf => False.elim hf | (intro hg; first | (simp +contextual [hg]; done) | grind) | omega | simp (decide := true) only [go_sem, reduceIte, Nat.reduceAdd, Int.reduceToNat, Nat.reduceSub, Nat.reduceMul, g63, g65, g67])
                                    refine r_cN hk61 (r_ret ?_)
                                    obtain rfl := Option.some.inj h
                                    refine r_eAR hQ rfl rfl ?_
                                    simp (decide := true) only [go_sem, reduceIte, Nat.reduceAdd, Int.reduceToNat, Nat.reduceSub, Nat.reduceMul]
                                    all_goals first | exact wkEnd_same ⟨rfl, rfl⟩ | exact True.intro
                                  · replace h := cond_f h g67
                                    repeat' (first | with_reducible refine And.intro ?_ ?_ | ((with_reducible refine i_call (n := 90) ?_); refine call_openF [] ?_) | ((with_reducible refine i_callW (n := 90) ?_); refine callW_use (con_impl_DevArg_kindIs v4 [9] v26 c62H) ?_; rintro x σ' ⟨rfl, rfl⟩ <;> ((refine ⟨?_, ?_⟩; (focus simp (decide := true) only [go_sem, reduceIte, Nat.reduceAdd, Int.reduceToNat, Nat.reduceSub, Nat.reduceMul, g63, g65, g67])); (with_reducible refine behind_go ?_))) | ((with_reducible refine i_call (n := 93) ?_); refine call_openF [] ?_) | ((with_reducible refine i_callW (n := 93) ?_); refine callW_use (con_impl_all_fimpl_DevIsWhole v5 v27 c64H) ?_; rintro x σ' ⟨rfl, rfl⟩ <;> ((refine ⟨?_, ?_⟩; (focus simp (decide := true) only [go_sem, reduceIte, Nat.reduceAdd, Int.reduceToNat, Nat.reduceSub, Nat.reduceMul, g63, g65, g67])); (with_reducible refine behind_go ?_))) | ((with_reducible refine i_callW (n := 90) ?_); refine callW_use (con_impl_DevArg_kindIs v4 [10] v28 c66H) ?_; rintro x σ' ⟨rfl, rfl⟩ <;> ((refine ⟨?_, ?_⟩; (focus simp (decide := true) only [go_sem, reduceIte, Nat.reduceAdd, Int.reduceToNat, Nat.reduceSub, Nat.reduceMul, g63, g65, g67])); (with_reducible refine behind_go ?_))) | exact True.intro | with_reducible assumption | exact fun hf => False.elim hf | (intro hg; first | (simp +contextual [hg]; done) | grind) | omega | simp (decide := true) only [go_sem, reduceIte, Nat.reduceAdd, Int.reduceToNat, Nat.reduceSub, Nat.reduceMul, g63, g65, g67])
                                    refine r_cN hk61 (r_ret ?_)
                                    obtain rfl := Option.some.inj h
                                    refine r_eAR hQ rfl rfl ?_
                                    simp (decide := true) only [go_sem, reduceIte, Nat.reduceAdd, Int.reduceToNat, Nat.reduceSub, Nat.reduceMul]
                                    all_goals first | exact wkEnd_same ⟨rfl, rfl⟩ | exact True.intro
                              · replace h := cond_f h g63
                                obtain ⟨v30, c69H, h⟩ := bind_some' h
                                rcases Bool.eq_false_or_eq_true v30 with g70 | g70
                                · replace h := cond_t h g70
                                  obtain ⟨v31, c71H, h⟩ := bind_some' h
                                  repeat' (first | with_reducible refine And.intro ?_ ?_ | ((with_reducible refine i_call (n := 90) ?_); refine call_openF [] ?_) | ((with_reducible refine i_callW (n := 90) ?_); refine callW_use (con_impl_DevArg_kindIs v4 [9] v26 c62H) ?_; rintro x σ' ⟨rfl, rfl⟩ <;> ((refine ⟨?_, ?_⟩; (focus simp (decide := true) only [go_sem, reduceIte, Nat.reduceAdd, Int.reduceToNat, Nat.reduceSub, Nat.reduceMul, g63, g70])); (with_reducible refine behind_go ?_))) | ((with_reducible refine i_callW (n := 90) ?_); refine callW_use (con_impl_DevArg_kindIs v4 [10] v30 c69H) ?_; rintro x σ' ⟨rfl, rfl⟩ <;> ((refine ⟨?_, ?_⟩; (focus simp (decide := true) only [go_sem, reduceIte, Nat.reduceAdd, Int.reduceToNat, Nat.reduceSub, Nat.reduceMul, g63, g70])); (with_reducible refine behind_go ?_))) | ((with_reducible refine i_call (n := 93) ?_); refine call_openF [] ?_) | ((with_reducible refine i_callW (n := 93) ?_); refine callW_use (con_impl_all_fimpl_DevIsReal v5 v31 c71H) ?_; rintro x σ' ⟨rfl, rfl⟩ <;> ((refine ⟨?_, ?_⟩; (focus simp (decide := true) only [go_sem, reduceIte, Nat.reduceAdd, Int.reduceToNat, Nat.reduceSub, Nat.reduceMul, g63, g70])); (with_reducible refine behind_go ?_))) | exact True.intro | with_reducible assumption | exact fun hf => False.elim hf | (intro hg; first | (simp +contextual [hg]; done) | grind) | omega | simp (decide := true) only [go_sem, reduceIte, Nat.reduceAdd, Int.reduceToNat, Nat.reduceSub, Nat.reduceMul, g63, g70])
                                  refine r_cN hk61 (r_ret ?_)
                                  obtain rfl := Option.some.inj h
                                  refine r_eAR hQ rfl rfl ?_
                                  simp (decide := true) only [go_sem, reduceIte, Nat.reduceAdd, Int.reduceToNat, Nat.reduceSub, Nat.reduceMul]
                                  all_goals first | exact wkEnd_same ⟨rfl, rfl⟩ | exact True.intro
                                · replace h := cond_f h g70
                                  repeat' (first | with_reducible refine And.intro ?_ ?_ | ((with_reducible refine i_call (n := 90) ?_); refine call_openF [] ?_) | ((with_reducible refine i_callW (n := 90) ?_); refine callW_use (con_impl_DevArg_kindIs v4 [9] v26 c62H) ?_; rintro x σ' ⟨rfl, rfl⟩ <;> ((refine ⟨?_, ?_⟩; (focus simp (decide := true) only [go_sem, reduceIte, Nat.reduceAdd, Int.reduceToNat, Nat.reduceSub, Nat.reduceMul, g63, g70])); (with_reducible refine behind_go ?_))) | ((with_reducible refine i_callW (n := 90) ?_); refine callW_use (con_impl_DevArg_kindIs v4 [10] v30 c69H) ?_; rintro x σ' ⟨rfl, rfl⟩ <;> ((refine ⟨?_, ?_⟩; (focus simp (decide := true) only [go_sem, reduceIte, Nat.reduceAdd, Int.reduceToNat, Nat.reduceSub, Nat.reduceMul, g63, g70])); (with_reducible refine behind_go ?_))) | exact True.intro | with_reducible assumption | exact fun hf => False.elim hf | (intro hg; first | (simp +contextual [hg]; done) | grind) | omega | simp (decide := true) only [go_sem, reduceIte, Nat.reduceAdd, Int.reduceToNat, Nat.reduceSub, Nat.reduceMul, g63, g70])
                                  refine r_cN hk61 (r_ret ?_)
                                  obtain rfl := Option.some.inj h
                                  refine r_eAR hQ rfl rfl ?_
                                  simp (decide := true) only [go_sem, reduceIte, Nat.reduceAdd, Int.reduceToNat, Nat.reduceSub, Nat.reduceMul]
                                  all_goals first | exact wkEnd_same ⟨rfl, rfl⟩ | exact True.intro
                  · intro k73 hk73 J72
                    refine sem_cut fun k74 hk74 => ?_
                    simp (decide := true) only [go_sem, reduceIte, Nat.reduceAdd, Int.reduceToNat, Nat.reduceSub, Nat.reduceMul]
                    refine r_cN hk74 ?_
                    refine sem_ifh rfl h ?_ ?_ <;> clear h <;> intro h
                    · refine r_skip (r_joinU J72 [3, 4, 5, 28, 61] () _ rfl rfl ⟨?_, h⟩)
                      first | exact wkSt_same rfl | (simp (decide := true) only [go_sem, reduceIte, Nat.reduceAdd, Int.reduceToNat, Nat.reduceSub, Nat.reduceMul]; exact wkSt_same rfl)
                    · refine sem_cut fun k75 hk75 => ?_
                      simp (decide := true) only [go_sem, reduceIte, Nat.reduceAdd, Int.reduceToNat, Nat.reduceSub, Nat.reduceMul]
                      refine r_cN hk75 ?_
                      refine sem_ifh rfl h ?_ ?_ <;> clear h <;> intro h
                      · refine r_skip (r_joinU J72 [3, 4, 5, 28, 61] () _ rfl rfl ⟨?_, h⟩)
                        first | exact wkSt_same rfl | (simp (decide := true) only [go_sem, reduceIte, Nat.reduceAdd, Int.reduceToNat, Nat.reduceSub, Nat.reduceMul]; exact wkSt_same rfl)
                      · simp (decide := true) only [go_sem, reduceIte, Nat.reduceAdd, Int.reduceToNat, Nat.reduceSub, Nat.reduceMul]
                        refine r_joinU J72 [3, 4, 5, 28, 61] () _ rfl rfl ⟨?_, h⟩
                        first | exact wkSt_same rfl | (simp (decide := true) only [go_sem, reduceIte, Nat.reduceAdd, Int.reduceToNat, Nat.reduceSub, Nat.reduceMul]; exact wkSt_same rfl)
  · replace h := cond_f h g5
    with_reducible refine sem_plan (id := 1) (.take 0 (.take 1 (.one 2 (.take 3 (.take 4 (.take 5 (.take 6 (.take 7 (.take 8 (.take 9 (.one 10 (.take 11 (.take 12 .done))))))))))))) [0] ?_ ?_
    focus kernel_rfl
    repeat' (first | with_reducible refine And.intro ?_ ?_ | ((with_reducible refine i_call (n := 51) ?_); refine call_openF [] ?_) | ((with_reducible refine i_callW (n := 51) ?_); refine callW_use (con_impl_in v1.Op 21 37 v2 c4H) ?_; rintro x σ' ⟨rfl, rfl⟩ <;> ((refine ⟨?_, ?_⟩; (focus simp (decide := true) only [go_sem, reduceIte, Nat.reduceAdd, Int.reduceToNat, Nat.reduceSub, Nat.reduceMul, g5])); (with_reducible refine behind_go ?_))) | exact True.intro | with_reducible assumption | exact fun hf => False.elim hf | (intro hg; first | (simp +contextual [hg]; done) | grind) | omega | simp (decide := true) only [go_sem, reduceIte, Nat.reduceAdd, Int.reduceToNat, Nat.reduceSub, Nat.reduceMul, g5])
    refine r_cN hk3 (sem_ifT rfl ?_)
    try replace h := cond_t h rfl
    refine sem_cut fun k76 hk76 => ?_
    simp (decide := true) only [go_sem, reduceIte, Nat.reduceAdd, Int.reduceToNat, Nat.reduceSub, Nat.reduceMul]
    refine r_cN hk76 (r_ret ?_)
    refine r_cR hk2 ?_
    obtain rfl := Option.some.inj h
    refine r_eAR hQ rfl rfl ?_
    simp (decide := true) only [go_sem, reduceIte, Nat.reduceAdd, Int.reduceToNat, Nat.reduceSub, Nat.reduceMul]
    all_goals first | exact wkEnd_same ⟨rfl, rfl⟩ | exact True.intro
noncomputable def impl_Elem_bare (v1 : Elem) : Option Bool :=
  (some ((v1.Op == 0) && (((v1.Args).length : Int) == 0)))
set_option maxRecDepth 10000 in
set_option maxHeartbeats 4000000 in
theorem con_impl_Elem_bare (v1 : Elem) (res_ : Bool) (h : impl_Elem_bare v1 = some res_) : Con Tryd.prog C0 64 [.agg [.sc (.int .i64 (v1.Op)), .fz 3 (R e_DevArg (v1.Args))]] []
    (fun x σ' => x = .sc (.bool (res_)) ∧ σ' = []) := by
  refine con_of_sem hP [0, 1, 2] [.tmp 2] Tryd.func64 (by unfold Tryd.f64; rfl) rfl rfl (Nat.le_of_ble_eq_true rfl) rfl ?_
  simp only [enter_cons, enter_nil, List.length_cons, List.length_nil, Nat.reduceAdd]
  generalize hQ : endQ _ _ _ _ = Q
  unfold impl_Elem_bare at h
  refine sem_cut fun k1 hk1 => ?_
  simp (decide := true) only [go_sem, reduceIte, Nat.reduceAdd, Int.reduceToNat, Nat.reduceSub, Nat.reduceMul]
  refine r_cN hk1 (sem_cut fun k2 hk2 => ?_)
  repeat' (first | with_reducible refine And.intro ?_ ?_ | exact True.intro | with_reducible assumption | exact fun hf => False.elim hf | (intro hg; first | (simp +contextual [hg]; done) | grind) | omega | simp (decide := true) only [go_sem, reduceIte, Nat.reduceAdd, Int.reduceToNat, Nat.reduceSub, Nat.reduceMul])
  refine r_cN hk2 (r_ret ?_)
  obtain rfl := Option.some.inj h
  refine r_eAR hQ rfl rfl ?_
  simp (decide := true) only [go_sem, reduceIte, Nat.reduceAdd, Int.reduceToNat, Nat.reduceSub, Nat.reduceMul]
  all_goals first | exact wkEnd_same ⟨rfl, rfl⟩ | exact True.intro
noncomputable def impl_ListOk (v1 : Inst) : Option Bool :=
  (Option.bind (impl_in v1.Code 1 3) fun v2 => (cond v2 (Option.bind (impl_ElemIsContact (⟨v1.One_Op, v1.One_Args⟩ : Elem)) fun v3 => (some v3)) (cond (v1.Code == 10) (Option.bind (impl_ElemIsCoil (⟨v1.One_Op, v1.One_Args⟩ : Elem)) fun v4 => (some v4)) (Option.bind (impl_in v1.Code 4 11) fun v5 => (cond v5 (Option.bind (impl_Elem_bare (⟨v1.One_Op, v1.One_Args⟩ : Elem)) fun v6 => (some v6)) (some false))))))
set_option maxRecDepth 10000 in
set_option maxHeartbeats 4000000 in
theorem con_impl_ListOk (v1 : Inst) (res_ : Bool) (h : impl_ListOk v1 = some res_) : Con Tryd.prog C0 46 [.agg [.sc (.int .i64 (v1.Code)), .sc (.int .i64 (v1.One_Op)), .fz 3 (R e_DevArg (v1.One_Args))]] []
    (fun x σ' => x = .sc (.bool (res_)) ∧ σ' = []) := by
  refine con_of_sem hP [0, 1, 2, 3, 10] [.tmp 2] Tryd.func46 (by unfold Tryd.f46; rfl) rfl rfl (Nat.le_of_ble_eq_true rfl) rfl ?_
  simp only [enter_cons, enter_nil, List.length_cons, List.length_nil, Nat.reduceAdd]
  generalize hQ : endQ _ _ _ _ = Q
  unfold impl_ListOk at h
  refine sem_cut fun k1 hk1 => ?_
  simp (decide := true) only [go_sem, reduceIte, Nat.reduceAdd, Int.reduceToNat, Nat.reduceSub, Nat.reduceMul]
  refine r_cN hk1 (sem_cut fun k2 hk2 => ?_)
  refine sem_blk fun k3 hk3 => sem_cut fun k4 hk4 => ?_
  obtain ⟨v2, c5H, h⟩ := bind_some' h
  repeat' (first | with_reducible refine And.intro ?_ ?_ | ((with_reducible refine i_call (n := 51) ?_); refine call_openF [] ?_) | ((with_reducible refine i_callW (n := 51) ?_); refine callW_use (con_impl_in v1.Code 1 3 v2 c5H) ?_; rintro x σ' ⟨rfl, rfl⟩ <;> ((refine ⟨?_, ?_⟩; (focus simp (decide := true) only [go_sem, reduceIte, Nat.reduceAdd, Int.reduceToNat, Nat.reduceSub, Nat.reduceMul])); (with_reducible refine behind_go ?_))) | exact True.intro | with_reducible assumption | exact fun hf => False.elim hf | (intro hg; first | (simp +contextual [hg]; done) | grind) | omega | simp (decide := true) only [go_sem, reduceIte, Nat.reduceAdd, Int.reduceToNat, Nat.reduceSub, Nat.reduceMul])
  refine r_cN hk4 ?_
  refine sem_ifh rfl h ?_ ?_ <;> clear h <;> intro h
  · refine sem_cut fun k6 hk6 => ?_
    obtain ⟨v3, c7H, h⟩ := bind_some' h
    repeat' (first | with_reducible refine And.intro ?_ ?_ | ((with_reducible refine i_call (n := 62) ?_); refine call_openF [] ?_) | ((with_reducible refine i_callW (n := 62) ?_); refine callW_use (con_impl_ElemIsContact (⟨v1.One_Op, v1.One_Args⟩ : Elem) v3 c7H) ?_; rintro x σ' ⟨rfl, rfl⟩ <;> ((refine ⟨?_, ?_⟩; (focus simp (decide := true) only [go_sem, reduceIte, Nat.reduceAdd, Int.reduceToNat, Nat.reduceSub, Nat.reduceMul])); (with_reducible refine behind_go ?_))) | exact True.intro | with_reducible assumption | exact fun hf => False.elim hf | (intro hg; first | (simp +contextual [hg]; done) | grind) | omega | simp (decide := true) only [go_sem, reduceIte, Nat.reduceAdd, Int.reduceToNat, Nat.reduceSub, Nat.reduceMul])
    refine r_cN hk6 (r_ret ?_)
    refine r_bR hk3 (r_cR hk2 ?_)
    obtain rfl := Option.some.inj h
    refine r_eAR hQ rfl rfl ?_
    simp (decide := true) only [go_sem, reduceIte, Nat.reduceAdd, Int.reduceToNat, Nat.reduceSub, Nat.reduceMul]
    all_goals first | exact wkEnd_same ⟨rfl, rfl⟩ | exact True.intro
  · refine sem_cut fun k8 hk8 => ?_
    simp (decide := true) only [go_sem, reduceIte, Nat.reduceAdd, Int.reduceToNat, Nat.reduceSub, Nat.reduceMul]
    refine r_cN hk8 ?_
    refine sem_ifh rfl h ?_ ?_ <;> clear h <;> intro h
    · refine sem_cut fun k9 hk9 => ?_
      obtain ⟨v4, c10H, h⟩ := bind_some' h
      repeat' (first | with_reducible refine And.intro ?_ ?_ | ((with_reducible refine i_call (n := 63) ?_); refine call_openF [] ?_) | ((with_reducible refine i_callW (n := 63) ?_); refine callW_use (con_impl_ElemIsCoil (⟨v1.One_Op, v1.One_Args⟩ : Elem) v4 c10H) ?_; rintro x σ' ⟨rfl, rfl⟩ <;> ((refine ⟨?_, ?_⟩; (focus simp (decide := true) only [go_sem, reduceIte, Nat.reduceAdd, Int.reduceToNat, Nat.reduceSub, Nat.reduceMul])); (with_reducible refine behind_go ?_))) | exact True.intro | with_reducible assumption | exact fun hf => False.elim hf | (intro hg; first | (simp +contextual [hg]; done) | grind) | omega | simp (decide := true) only [go_sem, reduceIte, Nat.reduceAdd, Int.reduceToNat, Nat.reduceSub, Nat.reduceMul])
      refine r_cN hk9 (r_ret ?_)
      refine r_bR hk3 (r_cR hk2 ?_)
      obtain rfl := Option.some.inj h
      refine r_eAR hQ rfl rfl ?_
      simp (decide := true) only [go_sem, reduceIte, Nat.reduceAdd, Int.reduceToNat, Nat.reduceSub, Nat.reduceMul]
      all_goals first | exact wkEnd_same ⟨rfl, rfl⟩ | exact True.intro
    · refine r_skip (r_bN hk3 ?_)
      refine r_cN hk2 (sem_cut fun k11 hk11 => ?_)
      obtain ⟨v5, c12H, h⟩ := bind_some' h
      rcases Bool.eq_false_or_eq_true v5 with g13 | g13
      · replace h := cond_t h g13
        obtain ⟨v6, c14H, h⟩ := bind_some' h
        repeat' (first | with_reducible refine And.intro ?_ ?_ | ((with_reducible refine i_call (n := 51) ?_); refine call_openF [] ?_) | ((with_reducible refine i_callW (n := 51) ?_); refine callW_use (con_impl_in v1.Code 4 11 v5 c12H) ?_; rintro x σ' ⟨rfl, rfl⟩ <;> ((refine ⟨?_, ?_⟩; (focus simp (decide := true) only [go_sem, reduceIte, Nat.reduceAdd, Int.reduceToNat, Nat.reduceSub, Nat.reduceMul, g13])); (with_reducible refine behind_go ?_))) | ((with_reducible refine i_call (n := 64) ?_); refine call_openF [] ?_) | ((with_reducible refine i_callW (n := 64) ?_); refine callW_use (con_impl_Elem_bare (⟨v1.One_Op, v1.One_Args⟩ : Elem) v6 c14H) ?_; rintro x σ' ⟨rfl, rfl⟩ <;> ((refine ⟨?_, ?_⟩; (focus simp (decide := true) only [go_sem, reduceIte, Nat.reduceAdd, Int.reduceToNat, Nat.reduceSub, Nat.reduceMul, g13])); (with_reducible refine behind_go ?_))) | exact True.intro | with_reducible assumption | exact fun hf => False.elim hf | (intro hg; first | (simp +contextual [hg]; done) | grind) | omega | simp (decide := true) only [go_sem, reduceIte, Nat.reduceAdd, Int.reduceToNat, Nat.reduceSub, Nat.reduceMul, g13])
        refine r_cN hk11 (r_ret ?_)
        obtain rfl := Option.some.inj h
        refine r_eAR hQ rfl rfl ?_
        simp (decide := true) only [go_sem, reduceIte, Nat.reduceAdd, Int.reduceToNat, Nat.reduceSub, Nat.reduceMul]
        all_goals first | exact wkEnd_same ⟨rfl, rfl⟩ | exact True.intro
      · replace h := cond_f h g13
        repeat' (first | with_reducible refine And.intro ?_ ?_ | ((with_reducible refine i_call (n := 51) ?_); refine call_openF [] ?_) | ((with_reducible refine i_callW (n := 51) ?_); refine callW_use (con_impl_in v1.Code 4 11 v5 c12H) ?_; rintro x σ' ⟨rfl, rfl⟩ <;> ((refine ⟨?_, ?_⟩; (focus simp (decide := true) only [go_sem, reduceIte, Nat.reduceAdd, Int.reduceToNat, Nat.reduceSub, Nat.reduceMul, g13])); (with_reducible refine behind_go ?_))) | exact True.intro | with_reducible assumption | exact fun hf => False.elim hf | (intro hg; first | (simp +contextual [hg]; done) | grind) | omega | simp (decide := true) only [go_sem, reduceIte, Nat.reduceAdd, Int.reduceToNat, Nat.reduceSub, Nat.reduceMul, g13])
        refine r_cN hk11 (r_ret ?_)
        obtain rfl := Option.some.inj h
        refine r_eAR hQ rfl rfl ?_
        simp (decide := true) only [go_sem, reduceIte, Nat.reduceAdd, Int.reduceToNat, Nat.reduceSub, Nat.reduceMul]
        all_goals first | exact wkEnd_same ⟨rfl, rfl⟩ | exact True.intro
noncomputable def impl_needs_j13 : Bool → Option Int
  | v2 => (cond v2 (some 2) (some 1))
noncomputable def impl_needs (v1 : Int) : Option Int :=
  (cond (v1 == 1) (some 0) (cond (v1 == 4) (impl_needs_j13 (v1 == 4)) (impl_needs_j13 (v1 == 5))))
set_option maxRecDepth 10000 in
set_option maxHeartbeats 4000000 in
theorem con_impl_needs (v1 : Int) (res_ : Int) (h : impl_needs v1 = some res_) : Con Tryd.prog C0 47 [.sc (.int .i64 (v1))] []
    (fun x σ' => x = .sc (.int .i64 (res_)) ∧ σ' = []) := by
  refine con_of_sem hP [0, 2, 3, 4, 6] [.tmp 2] Tryd.func47 (by unfold Tryd.f47; rfl) rfl rfl (Nat.le_of_ble_eq_true rfl) rfl ?_
  simp only [enter_cons, enter_nil, List.length_cons, List.length_nil, Nat.reduceAdd]
  generalize hQ : endQ _ _ _ _ = Q
  unfold impl_needs at h
  refine sem_cut fun k1 hk1 => ?_
  simp (decide := true) only [go_sem, reduceIte, Nat.reduceAdd, Int.reduceToNat, Nat.reduceSub, Nat.reduceMul]
  refine r_cN hk1 (sem_cut fun k2 hk2 => ?_)
  refine sem_cut fun k3 hk3 => ?_
  simp (decide := true) only [go_sem, reduceIte, Nat.reduceAdd, Int.reduceToNat, Nat.reduceSub, Nat.reduceMul]
  refine r_cN hk3 (sem_blk fun k4 hk4 => ?_)
  refine sem_cut fun k5 hk5 => ?_
  simp (decide := true) only [go_sem, reduceIte, Nat.reduceAdd, Int.reduceToNat, Nat.reduceSub, Nat.reduceMul]
  refine r_cN hk5 ?_
  refine sem_ifh rfl h ?_ ?_ <;> clear h <;> intro h
  · refine sem_cut fun k6 hk6 => ?_
    simp (decide := true) only [go_sem, reduceIte, Nat.reduceAdd, Int.reduceToNat, Nat.reduceSub, Nat.reduceMul]
    refine r_cN hk6 (r_ret ?_)
    refine r_bR hk4 (r_cR hk2 ?_)
    obtain rfl := Option.some.inj h
    refine r_eAR hQ rfl rfl ?_
    simp (decide := true) only [go_sem, reduceIte, Nat.reduceAdd, Int.reduceToNat, Nat.reduceSub, Nat.reduceMul]
    all_goals first | exact wkEnd_same ⟨rfl, rfl⟩ | exact True.intro
  · refine sem_cutJ (fun (_ : Unit) (x : Bool) => (⟨[(6, .sc (.bool (x)))], []⟩ : St)) (fun (_ : Unit) (x : Bool) => impl_needs_j13 x = some res_) ?_ ?_
    · rintro _ v2 h
      simp only [impl_needs_j13] at h
      refine sem_ifh rfl h ?_ ?_ <;> clear h <;> intro h
      · refine sem_cut fun k8 hk8 => ?_
        simp (decide := true) only [go_sem, reduceIte, Nat.reduceAdd, Int.reduceToNat, Nat.reduceSub, Nat.reduceMul]
        refine r_cN hk8 (r_ret ?_)
        refine r_bR hk4 (r_cR hk2 ?_)
        obtain rfl := Option.some.inj h
        refine r_eAR hQ rfl rfl ?_
        simp (decide := true) only [go_sem, reduceIte, Nat.reduceAdd, Int.reduceToNat, Nat.reduceSub, Nat.reduceMul]
        all_goals first | exact wkEnd_same ⟨rfl, rfl⟩ | exact True.intro
      · refine r_skip (r_bN hk4 ?_)
        refine r_cN hk2 (sem_cut fun k9 hk9 => ?_)
        simp (decide := true) only [go_sem, reduceIte, Nat.reduceAdd, Int.reduceToNat, Nat.reduceSub, Nat.reduceMul]
        refine r_cN hk9 (r_ret ?_)
        obtain rfl := Option.some.inj h
        refine r_eAR hQ rfl rfl ?_
        simp (decide := true) only [go_sem, reduceIte, Nat.reduceAdd, Int.reduceToNat, Nat.reduceSub, Nat.reduceMul]
        all_goals first | exact wkEnd_same ⟨rfl, rfl⟩ | exact True.intro
    · intro k11 hk11 J10
      refine sem_cut fun k12 hk12 => ?_
      simp (decide := true) only [go_sem, reduceIte, Nat.reduceAdd, Int.reduceToNat, Nat.reduceSub, Nat.reduceMul]
      refine r_cN hk12 ?_
      refine sem_ifh rfl h ?_ ?_ <;> clear h <;> intro h
      · refine r_skip (r_joinU J10 [6] () _ rfl rfl ⟨?_, h⟩)
        first | exact wkSt_same rfl | (simp (decide := true) only [go_sem, reduceIte, Nat.reduceAdd, Int.reduceToNat, Nat.reduceSub, Nat.reduceMul]; exact wkSt_same rfl)
      · simp (decide := true) only [go_sem, reduceIte, Nat.reduceAdd, Int.reduceToNat, Nat.reduceSub, Nat.reduceMul]
        refine r_joinU J10 [6] () _ rfl rfl ⟨?_, h⟩
        first | exact wkSt_same rfl | (simp (decide := true) only [go_sem, reduceIte, Nat.reduceAdd, Int.reduceToNat, Nat.reduceSub, Nat.reduceMul]; exact wkSt_same rfl)
noncomputable def impl_SureState_wrong_j37 (v2 : Inst) (v4 : Bool) : Bool → Option Int
  | v7 => (cond v7 (some 7) (cond ((((v2.Code == 8) || (v2.Code == 9)) || (v2.Code == 11)) && (!v4)) (some 8) (some 0)))
noncomputable def impl_SureState_wrong (v1 : SureState) (v2 : Inst) (v3 : Bool) (v4 : Bool) : Option Int :=
  (Option.bind (impl_ListOk v2) fun v5 => (cond (!v5) (some 2) (Option.bind (impl_needs v2.Code) fun v6 => (cond (decide (v1.Bits < v6)) (some 3) (cond ((v2.Code == 1) && (decide (v1.Bits ≥ 16))) (some 4) (cond ((decide (v2.Code ≥ 7)) && (decide (v1.Bits > 1))) (some 5) (cond (v3 && ((((v2.Code == 3) || (v2.Code == 6)) && (v1.Bits == 1)) || ((v2.Code == 5) && (v1.Bits == 2)))) (some 6) (cond ((v2.Code == 7) && (decide (v1.Forks ≥ 8))) (impl_SureState_wrong_j37 v2 v4 ((v2.Code == 7) && (decide (v1.Forks ≥ 8)))) (cond (((v2.Code == 8) || (v2.Code == 9)) && (v1.Forks == 0)) (impl_SureState_wrong_j37 v2 v4 (((v2.Code == 8) || (v2.Code == 9)) && (v1.Forks == 0))) (impl_SureState_wrong_j37 v2 v4 ((v2.Code == 11) && (v1.Forks != 0))))))))))))
set_option maxRecDepth 10000 in
set_option maxHeartbeats 4000000 in
theorem con_impl_SureState_wrong (v1 : SureState) (v2 : Inst) (v3 : Bool) (v4 : Bool) (res_ : Int) (h : impl_SureState_wrong v1 v2 v3 v4 = some res_) : Con Tryd.prog C0 23 [.agg [.sc (.int .i64 (v1.Bits)), .sc (.int .i64 (v1.Forks))], .agg [.sc (.int .i64 (v2.Code)), .sc (.int .i64 (v2.One_Op)), .fz 3 (R e_DevArg (v2.One_Args))], .sc (.bool (v3)), .sc (.bool (v4))] []
    (fun x σ' => x = .sc (.int .i64 (res_)) ∧ σ' = []) := by
  refine con_of_sem hP [0, 1, 2, 3, 4, 5, 8, 9, 12, 16, 22, 30, 38, 62, 88] [.tmp 8] Tryd.func23 (by unfold Tryd.f23; rfl) rfl rfl (Nat.le_of_ble_eq_true rfl) rfl ?_
  simp only [enter_cons, enter_nil, List.length_cons, List.length_nil, Nat.reduceAdd]
  generalize hQ : endQ _ _ _ _ = Q
  unfold impl_SureState_wrong at h
  refine sem_cut fun k1 hk1 => ?_
  simp (decide := true) only [go_sem, reduceIte, Nat.reduceAdd, Int.reduceToNat, Nat.reduceSub, Nat.reduceMul]
  refine r_cN hk1 (sem_cut fun k2 hk2 => ?_)
  simp (decide := true) only [go_sem, reduceIte, Nat.reduceAdd, Int.reduceToNat, Nat.reduceSub, Nat.reduceMul]
  refine r_cN hk2 (sem_cut fun k3 hk3 => ?_)
  refine sem_blk fun k4 hk4 => sem_cut fun k5 hk5 => ?_
  obtain ⟨v5, c6H, h⟩ := bind_some' h
  repeat' (first | with_reducible refine And.intro ?_ ?_ | ((with_reducible refine i_call (n := 46) ?_); refine call_openF [] ?_) | ((with_reducible refine i_callW (n := 46) ?_); refine callW_use (con_impl_ListOk v2 v5 c6H) ?_; rintro x σ' ⟨rfl, rfl⟩ <;> ((refine ⟨?_, ?_⟩; (focus simp (decide := true) only [go_sem, reduceIte, Nat.reduceAdd, Int.reduceToNat, Nat.reduceSub, Nat.reduceMul])); (with_reducible refine behind_go ?_))) | exact True.intro | with_reducible assumption | exact fun hf => False.elim hf | (intro hg; first | (simp +contextual [hg]; done) | grind) | omega | simp (decide := true) only [go_sem, reduceIte, Nat.reduceAdd, Int.reduceToNat, Nat.reduceSub, Nat.reduceMul])
  refine r_cN hk5 ?_
  refine sem_ifh rfl h ?_ ?_ <;> clear h <;> intro h
  · refine sem_cut fun k7 hk7 => ?_
    simp (decide := true) only [go_sem, reduceIte, Nat.reduceAdd, Int.reduceToNat, Nat.reduceSub, Nat.reduceMul]
    refine r_cN hk7 (r_ret ?_)
    refine r_bR hk4 (r_cR hk3 ?_)
    obtain rfl := Option.some.inj h
    refine r_eAR hQ rfl rfl ?_
    simp (decide := true) only [go_sem, reduceIte, Nat.reduceAdd, Int.reduceToNat, Nat.reduceSub, Nat.reduceMul]
    all_goals first | exact wkEnd_same ⟨rfl, rfl⟩ | exact True.intro
  · refine sem_cut fun k8 hk8 => ?_
    obtain ⟨v6, c9H, h⟩ := bind_some' h
    with_reducible refine sem_plan (id := 4) (.take 0 (.take 1 (.take 2 (.one 3 (.take 4 (.take 5 .done)))))) [0] ?_ ?_
    focus kernel_rfl
    repeat' (first | with_reducible refine And.intro ?_ ?_ | ((with_reducible refine i_call (n := 47) ?_); refine call_openF [] ?_) | ((with_reducible refine i_callW (n := 47) ?_); refine callW_use (con_impl_needs v2.Code v6 c9H) ?_; rintro x σ' ⟨rfl, rfl⟩ <;> ((refine ⟨?_, ?_⟩; (focus simp (decide := true) only [go_sem, reduceIte, Nat.reduceAdd, Int.reduceToNat, Nat.reduceSub, Nat.reduceMul])); (with_reducible refine behind_go ?_))) | exact True.intro | with_reducible assumption | exact fun hf => False.elim hf | (intro hg; first | (simp +contextual [hg]; done) | grind) | omega | simp (decide := true) only [go_sem, reduceIte, Nat.reduceAdd, Int.reduceToNat, Nat.reduceSub, Nat.reduceMul])
    refine r_cN hk8 ?_
    refine sem_ifh rfl h ?_ ?_ <;> clear h <;> intro h
    · refine sem_cut fun k10 hk10 => ?_
      simp (decide := true) only [go_sem, reduceIte, Nat.reduceAdd, Int.reduceToNat, Nat.reduceSub, Nat.reduceMul]
      refine r_cN hk10 (r_ret ?_)
      refine r_bR hk4 (r_cR hk3 ?_)
      obtain rfl := Option.some.inj h
      refine r_eAR hQ rfl rfl ?_
      simp (decide := true) only [go_sem, reduceIte, Nat.reduceAdd, Int.reduceToNat, Nat.reduceSub, Nat.reduceMul]
      all_goals first | exact wkEnd_same ⟨rfl, rfl⟩ | exact True.intro
    · refine sem_cut fun k11 hk11 => ?_
      repeat' (first | with_reducible refine And.intro ?_ ?_ | exact True.intro | with_reducible assumption | exact fun hf => False.elim hf | (intro hg; first | (simp +contextual [hg]; done) | grind) | omega | simp (decide := true) only [go_sem, reduceIte, Nat.reduceAdd, Int.reduceToNat, Nat.reduceSub, Nat.reduceMul])
      refine r_cN hk11 ?_
      refine sem_ifh rfl h ?_ ?_ <;> clear h <;> intro h
      · refine sem_cut fun k12 hk12 => ?_
        simp (decide := true) only [go_sem, reduceIte, Nat.reduceAdd, Int.reduceToNat, Nat.reduceSub, Nat.reduceMul]
        refine r_cN hk12 (r_ret ?_)
        refine r_bR hk4 (r_cR hk3 ?_)
        obtain rfl := Option.some.inj h
        refine r_eAR hQ rfl rfl ?_
        simp (decide := true) only [go_sem, reduceIte, Nat.reduceAdd, Int.reduceToNat, Nat.reduceSub, Nat.reduceMul]
        all_goals first | exact wkEnd_same ⟨rfl, rfl⟩ | exact True.intro
      · refine sem_cut fun k13 hk13 => ?_
        repeat' (first | with_reducible refine And.intro ?_ ?_ | exact True.intro | with_reducible assumption | exact fun hf => False.elim hf | (intro hg; first | (simp +contextual [hg]; done) | grind) | omega | simp (decide := true) only [go_sem, reduceIte, Nat.reduceAdd, Int.reduceToNat, Nat.reduceSub, Nat.reduceMul])
        refine r_cN hk13 ?_
        refine sem_ifh rfl h ?_ ?_ <;> clear h <;> intro h
        · refine sem_cut fun k14 hk14 => ?_
          simp (decide := true) only [go_sem, reduceIte, Nat.reduceAdd, Int.reduceToNat, Nat.reduceSub, Nat.reduceMul]
          refine r_cN hk14 (r_ret ?_)
          refine r_bR hk4 (r_cR hk3 ?_)
          obtain rfl := Option.some.inj h
          refine r_eAR hQ rfl rfl ?_
          simp (decide := true) only [go_sem, reduceIte, Nat.reduceAdd, Int.reduceToNat, Nat.reduceSub, Nat.reduceMul]
          all_goals first | exact wkEnd_same ⟨rfl, rfl⟩ | exact True.intro
        · refine sem_cut fun k15 hk15 => ?_
          repeat' (first | with_reducible refine And.intro ?_ ?_ | exact True.intro | with_reducible assumption | exact fun hf => False.elim hf | (intro hg; first | (simp +contextual [hg]; done) | grind) | omega | simp (decide := true) only [go_sem, reduceIte, Nat.reduceAdd, Int.reduceToNat, Nat.reduceSub, Nat.reduceMul])
          refine r_cN hk15 ?_
          refine sem_ifh rfl h ?_ ?_ <;> clear h <;> intro h
          · refine sem_cut fun k16 hk16 => ?_
            simp (decide := true) only [go_sem, reduceIte, Nat.reduceAdd, Int.reduceToNat, Nat.reduceSub, Nat.reduceMul]
            refine r_cN hk16 (r_ret ?_)
            refine r_bR hk4 (r_cR hk3 ?_)
            obtain rfl := Option.some.inj h
            refine r_eAR hQ rfl rfl ?_
            simp (decide := true) only [go_sem, reduceIte, Nat.reduceAdd, Int.reduceToNat, Nat.reduceSub, Nat.reduceMul]
            all_goals first | exact wkEnd_same ⟨rfl, rfl⟩ | exact True.intro
          · refine sem_cutJ (fun (_ : Unit) (x : Bool) => (⟨[(3, .sc (.bool (v4))), (9, .sc (.int .i64 (v2.Code))), (62, .sc (.bool (x)))], []⟩ : St)) (fun (_ : Unit) (x : Bool) => impl_SureState_wrong_j37 v2 v4 x = some res_) ?_ ?_
            · rintro _ v7 h
              simp only [impl_SureState_wrong_j37] at h
              refine sem_ifh rfl h ?_ ?_ <;> clear h <;> intro h
              · refine sem_cut fun k19 hk19 => ?_
                simp (decide := true) only [go_sem, reduceIte, Nat.reduceAdd, Int.reduceToNat, Nat.reduceSub, Nat.reduceMul]
                refine r_cN hk19 (r_ret ?_)
                refine r_bR hk4 (r_cR hk3 ?_)
                obtain rfl := Option.some.inj h
                refine r_eAR hQ rfl rfl ?_
                simp (decide := true) only [go_sem, reduceIte, Nat.reduceAdd, Int.reduceToNat, Nat.reduceSub, Nat.reduceMul]
                all_goals first | exact wkEnd_same ⟨rfl, rfl⟩ | exact True.intro
              · refine sem_cut fun k20 hk20 => ?_
                repeat' (first | with_reducible refine And.intro ?_ ?_ | exact True.intro | with_reducible assumption | exact fun hf => False.elim hf | (intro hg; first | (simp +contextual [hg]; done) | grind) | omega | simp (decide := true) only [go_sem, reduceIte, Nat.reduceAdd, Int.reduceToNat, Nat.reduceSub, Nat.reduceMul])
                refine r_cN hk20 ?_
                refine sem_ifh rfl h ?_ ?_ <;> clear h <;> intro h
                · refine sem_cut fun k21 hk21 => ?_
                  simp (decide := true) only [go_sem, reduceIte, Nat.reduceAdd, Int.reduceToNat, Nat.reduceSub, Nat.reduceMul]
                  refine r_cN hk21 (r_ret ?_)
                  refine r_bR hk4 (r_cR hk3 ?_)
                  obtain rfl := Option.some.inj h
                  refine r_eAR hQ rfl rfl ?_
                  simp (decide := true) only [go_sem, reduceIte, Nat.reduceAdd, Int.reduceToNat, Nat.reduceSub, Nat.reduceMul]
                  all_goals first | exact wkEnd_same ⟨rfl, rfl⟩ | exact True.intro
                · refine r_skip (r_bN hk4 ?_)
                  refine r_cN hk3 (sem_cut fun k22 hk22 => ?_)
                  simp (decide := true) only [go_sem, reduceIte, Nat.reduceAdd, Int.reduceToNat, Nat.reduceSub, Nat.reduceMul]
                  refine r_cN hk22 (r_ret ?_)
                  obtain rfl := Option.some.inj h
                  refine r_eAR hQ rfl rfl ?_
                  simp (decide := true) only [go_sem, reduceIte, Nat.reduceAdd, Int.reduceToNat, Nat.reduceSub, Nat.reduceMul]
                  all_goals first | exact wkEnd_same ⟨rfl, rfl⟩ | exact True.intro
            · intro k24 hk24 J23
              refine sem_cut fun k25 hk25 => ?_
              repeat' (first | with_reducible refine And.intro ?_ ?_ | exact True.intro | with_reducible assumption | exact fun hf => False.elim hf | (intro hg; first | (simp +contextual [hg]; done) | grind) | omega | simp (decide := true) only [go_sem, reduceIte, Nat.reduceAdd, Int.reduceToNat, Nat.reduceSub, Nat.reduceMul])
              refine r_cN hk25 ?_
              refine sem_ifh rfl h ?_ ?_ <;> clear h <;> intro h
              · refine r_skip (r_joinU J23 [3, 9, 62] () _ rfl rfl ⟨?_, h⟩)
                first | exact wkSt_same rfl | (simp (decide := true) only [go_sem, reduceIte, Nat.reduceAdd, Int.reduceToNat, Nat.reduceSub, Nat.reduceMul]; exact wkSt_same rfl)
              · refine sem_cut fun k26 hk26 => ?_
                repeat' (first | with_reducible refine And.intro ?_ ?_ | exact True.intro | with_reducible assumption | exact fun hf => False.elim hf | (intro hg; first | (simp +contextual [hg]; done) | grind) | omega | simp (decide := true) only [go_sem, reduceIte, Nat.reduceAdd, Int.reduceToNat, Nat.reduceSub, Nat.reduceMul])
                refine r_cN hk26 ?_
                refine sem_ifh rfl h ?_ ?_ <;> clear h <;> intro h
                · refine r_skip (r_joinU J23 [3, 9, 62] () _ rfl rfl ⟨?_, h⟩)
                  first | exact wkSt_same rfl | (simp (decide := true) only [go_sem, reduceIte, Nat.reduceAdd, Int.reduceToNat, Nat.reduceSub, Nat.reduceMul]; exact wkSt_same rfl)
                · repeat' (first | with_reducible refine And.intro ?_ ?_ | exact True.intro | with_reducible assumption | exact fun hf => False.elim hf | (intro hg; first | (simp +contextual [hg]; done) | grind) | omega | simp (decide := true) only [go_sem, reduceIte, Nat.reduceAdd, Int.reduceToNat, Nat.reduceSub, Nat.reduceMul])
                  refine r_joinU J23 [3, 9, 62] () _ rfl rfl ⟨?_, h⟩
                  first | exact wkSt_same rfl | (simp (decide := true) only [go_sem, reduceIte, Nat.reduceAdd, Int.reduceToNat, Nat.reduceSub, Nat.reduceMul]; exact wkSt_same rfl)
noncomputable def impl_SureState_behind_j3 : (Int × Int) → Option SureState
  | (v4, v5) => (some (⟨v4, v5⟩ : SureState))
noncomputable def impl_SureState_behind_j11 (v1 : SureState) (v2 : Int) : Bool → Option SureState
  | v6 => (cond v6 (impl_SureState_behind_j3 ((IntKind.i64.wrap (v1.Bits - 1)), v1.Forks)) (cond (v2 == 7) (impl_SureState_behind_j3 (v1.Bits, (IntKind.i64.wrap (v1.Forks + 1)))) (cond (v2 == 9) (impl_SureState_behind_j3 (v1.Bits, (IntKind.i64.wrap (v1.Forks - 1)))) (impl_SureState_behind_j3 (v1.Bits, v1.Forks)))))
noncomputable def impl_SureState_behind (v1 : SureState) (v2 : Int) : Option SureState :=
  (cond (v2 == 1) (impl_SureState_behind_j3 ((IntKind.i64.wrap (v1.Bits + 1)), v1.Forks)) (cond (v2 == 4) (impl_SureState_behind_j11 v1 v2 (v2 == 4)) (cond (v2 == 5) (impl_SureState_behind_j11 v1 v2 (v2 == 5)) (impl_SureState_behind_j11 v1 v2 (v2 == 11)))))
set_option maxRecDepth 10000 in
set_option maxHeartbeats 4000000 in
theorem con_impl_SureState_behind (v1 : SureState) (v2 : Int) (res_ : SureState) (h : impl_SureState_behind v1 v2 = some res_) : Con Tryd.prog C0 24 [.agg [.sc (.int .i64 (v1.Bits)), .sc (.int .i64 (v1.Forks))], .sc (.int .i64 (v2))] []
    (fun x σ' => x = .agg [.sc (.int .i64 (res_.Bits)), .sc (.int .i64 (res_.Forks))] ∧ σ' = []) := by
  refine con_of_sem hP [0, 1, 2, 4, 5, 6, 12, 20, 26] [.cell 4 49] Tryd.func24 (by unfold Tryd.f24; rfl) rfl rfl (Nat.le_of_ble_eq_true rfl) rfl ?_
  simp only [enter_cons, enter_nil, List.length_cons, List.length_nil, Nat.reduceAdd]
  generalize hQ : endQ _ _ _ _ = Q
  unfold impl_SureState_behind at h
  refine sem_cut fun k1 hk1 => ?_
  simp (decide := true) only [go_sem, reduceIte, Nat.reduceAdd, Int.reduceToNat, Nat.reduceSub, Nat.reduceMul]
  refine r_cN hk1 (sem_cutJ (fun (_ : Unit) (x : (Int × Int)) => (⟨[(2, .pt 0 0), (4, .pt 1 0)], [.rc [.sc (.int .i64 (x.1)), .sc (.int .i64 (x.2))], .rc [.sc (.int .i64 (0)), .sc (.int .i64 (0))]]⟩ : St)) (fun (_ : Unit) (x : (Int × Int)) => impl_SureState_behind_j3 x = some res_) ?_ ?_)
  · rintro _ ⟨v4, v5⟩ h
    simp only [impl_SureState_behind_j3] at h
    refine sem_cut fun k13 hk13 => ?_
    simp (decide := true) only [go_sem, reduceIte, Nat.reduceAdd, Int.reduceToNat, Nat.reduceSub, Nat.reduceMul]
    refine r_cN hk13 (r_ret ?_)
    obtain rfl := Option.some.inj h
    refine r_eAR hQ rfl rfl ?_
    simp (decide := true) only [go_sem, reduceIte, Nat.reduceAdd, Int.reduceToNat, Nat.reduceSub, Nat.reduceMul]
    repeat' (with_reducible refine And.intro ?_ ?_)
    all_goals first | exact wkEnd_same ⟨rfl, rfl⟩ | exact True.intro
  · intro k15 hk15 J14
    refine sem_cut fun k16 hk16 => ?_
    simp (decide := true) only [go_sem, reduceIte, Nat.reduceAdd, Int.reduceToNat, Nat.reduceSub, Nat.reduceMul]
    refine r_cN hk16 (sem_blk fun k17 hk17 => ?_)
    refine sem_cut fun k18 hk18 => ?_
    simp (decide := true) only [go_sem, reduceIte, Nat.reduceAdd, Int.reduceToNat, Nat.reduceSub, Nat.reduceMul]
    refine r_cN hk18 ?_
    refine sem_ifh rfl h ?_ ?_ <;> clear h <;> intro h
    · simp (decide := true) only [go_sem, reduceIte, Nat.reduceAdd, Int.reduceToNat, Nat.reduceSub, Nat.reduceMul]
      refine r_bN hk17 (r_joinU J14 [2, 4] () _ rfl rfl ⟨?_, h⟩)
      first | exact wkSt_same rfl | (simp (decide := true) only [go_sem, reduceIte, Nat.reduceAdd, Int.reduceToNat, Nat.reduceSub, Nat.reduceMul]; exact wkSt_same rfl)
    · refine sem_cutJ (fun (_ : Unit) (x : Bool) => (⟨[(2, .pt 0 0), (4, .pt 1 0), (5, .sc (.int .i64 (v2))), (12, .sc (.bool (x)))], [.rc [.sc (.int .i64 (v1.Bits)), .sc (.int .i64 (v1.Forks))], .rc [.sc (.int .i64 (0)), .sc (.int .i64 (0))]]⟩ : St)) (fun (_ : Unit) (x : Bool) => impl_SureState_behind_j11 v1 v2 x = some res_) ?_ ?_
      · rintro _ v6 h
        simp only [impl_SureState_behind_j11] at h
        refine sem_ifh rfl h ?_ ?_ <;> clear h <;> intro h
        · simp (decide := true) only [go_sem, reduceIte, Nat.reduceAdd, Int.reduceToNat, Nat.reduceSub, Nat.reduceMul]
          refine r_bN hk17 (r_joinU J14 [2, 4] () _ rfl rfl ⟨?_, h⟩)
          first | exact wkSt_same rfl | (simp (decide := true) only [go_sem, reduceIte, Nat.reduceAdd, Int.reduceToNat, Nat.reduceSub, Nat.reduceMul]; exact wkSt_same rfl)
        · refine sem_cut fun k21 hk21 => ?_
          simp (decide := true) only [go_sem, reduceIte, Nat.reduceAdd, Int.reduceToNat, Nat.reduceSub, Nat.reduceMul]
          refine r_cN hk21 ?_
          refine sem_ifh rfl h ?_ ?_ <;> clear h <;> intro h
          · simp (decide := true) only [go_sem, reduceIte, Nat.reduceAdd, Int.reduceToNat, Nat.reduceSub, Nat.reduceMul]
            refine r_bN hk17 (r_joinU J14 [2, 4] () _ rfl rfl ⟨?_, h⟩)
            first | exact wkSt_same rfl | (simp (decide := true) only [go_sem, reduceIte, Nat.reduceAdd, Int.reduceToNat, Nat.reduceSub, Nat.reduceMul]; exact wkSt_same rfl)
          · refine sem_cut fun k22 hk22 => ?_
            simp (decide := true) only [go_sem, reduceIte, Nat.reduceAdd, Int.reduceToNat, Nat.reduceSub, Nat.reduceMul]
            refine r_cN hk22 ?_
            refine sem_ifh rfl h ?_ ?_ <;> clear h <;> intro h
            · simp (decide := true) only [go_sem, reduceIte, Nat.reduceAdd, Int.reduceToNat, Nat.reduceSub, Nat.reduceMul]
              refine r_bN hk17 (r_joinU J14 [2, 4] () _ rfl rfl ⟨?_, h⟩)
              first | exact wkSt_same rfl | (simp (decide := true) only [go_sem, reduceIte, Nat.reduceAdd, Int.reduceToNat, Nat.reduceSub, Nat.reduceMul]; exact wkSt_same rfl)
            · refine r_skip (r_bN hk17 ?_)
              refine r_joinU J14 [2, 4] () _ rfl rfl ⟨?_, h⟩
              first | exact wkSt_same rfl | (simp (decide := true) only [go_sem, reduceIte, Nat.reduceAdd, Int.reduceToNat, Nat.reduceSub, Nat.reduceMul]; exact wkSt_same rfl)
      · intro k24 hk24 J23
        refine sem_cut fun k25 hk25 => ?_
        simp (decide := true) only [go_sem, reduceIte, Nat.reduceAdd, Int.reduceToNat, Nat.reduceSub, Nat.reduceMul]
        refine r_cN hk25 ?_
        refine sem_ifh rfl h ?_ ?_ <;> clear h <;> intro h
        · refine r_skip (r_joinU J23 [2, 4, 5, 12] () _ rfl rfl ⟨?_, h⟩)
          first | exact wkSt_same rfl | (simp (decide := true) only [go_sem, reduceIte, Nat.reduceAdd, Int.reduceToNat, Nat.reduceSub, Nat.reduceMul]; exact wkSt_same rfl)
        · refine sem_cut fun k26 hk26 => ?_
          simp (decide := true) only [go_sem, reduceIte, Nat.reduceAdd, Int.reduceToNat, Nat.reduceSub, Nat.reduceMul]
          refine r_cN hk26 ?_
          refine sem_ifh rfl h ?_ ?_ <;> clear h <;> intro h
          · refine r_skip (r_joinU J23 [2, 4, 5, 12] () _ rfl rfl ⟨?_, h⟩)
            first | exact wkSt_same rfl | (simp (decide := true) only [go_sem, reduceIte, Nat.reduceAdd, Int.reduceToNat, Nat.reduceSub, Nat.reduceMul]; exact wkSt_same rfl)
          · simp (decide := true) only [go_sem, reduceIte, Nat.reduceAdd, Int.reduceToNat, Nat.reduceSub, Nat.reduceMul]
            refine r_joinU J23 [2, 4, 5, 12] () _ rfl rfl ⟨?_, h⟩
            first | exact wkSt_same rfl | (simp (decide := true) only [go_sem, reduceIte, Nat.reduceAdd, Int.reduceToNat, Nat.reduceSub, Nat.reduceMul]; exact wkSt_same rfl)
noncomputable def impl_SureCheck_j15 (v1 : (List Inst)) : (Int × Int) → Option SureFault
  | (v18, v19) => (cond (v18 != 0) (some (⟨9, ((v1).length : Int)⟩ : SureFault)) (some (⟨0, 0⟩ : SureFault)))
noncomputable def impl_SureCheck_s19 (v1 : (List Inst)) : (Int × Int × Bool × Bool × Int) → Option ((Int × Int × Bool × Bool × Int) ⊕ ((Int × Int) ⊕ (Int × Int)))
  | (v23, v24, v25, v26, v27) => (cond (decide (v27 < ((v1).length : Int))) (Option.bind (idx v1 (v27)) fun v33 => (Option.bind (impl_SureState_wrong (⟨v23, v24⟩ : SureState) v33 v25 v26) fun v34 => (cond (v34 != 0) (some (.inr (.inl (v34, v27)))) (Option.bind (impl_SureState_behind (⟨v23, v24⟩ : SureState) v33.Code) fun v35 => (some (.inl (v35.Bits, v35.Forks, ((v33.Code != 11) && ((v25 || (v33.Code == 10)) || (v33.Code == 7))), (v33.Code == 10), (IntKind.i64.wrap (v27 + 1))))))))) (some (.inr (.inr (v23, v24)))))
noncomputable def impl_SureCheck (v1 : (List Inst)) : Option SureFault :=
  (cond (decide (((v1).length : Int) > 1000)) (some (⟨1, 0⟩ : SureFault)) ((loop (impl_SureCheck_s19 v1) (0, 0, false, false, 0)).bind (Sum.elim (fun v31 => (some (⟨v31.1, v31.2⟩ : SureFault))) (fun v32 => (impl_SureCheck_j15 v1 (v32.1, v32.2))))))
set_option maxRecDepth 10000 in
set_option maxHeartbeats 4000000 in
theorem con_impl_SureCheck (v1 : (List Inst)) (res_ : SureFault) (h : impl_SureCheck v1 = some res_) : Con Tryd.prog C0 8 [.fz 3 (R e_Inst (v1))] []
    (fun x σ' => x = .agg [.sc (.int .i64 (res_.Code)), .sc (.int .i64 (res_.At))] ∧ σ' = []) := by
  refine con_of_sem hP [0, 2, 3, 4, 5, 6, 7, 8, 11, 14, 15, 16, 17, 27, 55] [.cell 2 28] Tryd.func8 (by unfold Tryd.f8; rfl) rfl rfl (Nat.le_of_ble_eq_true rfl) rfl ?_
  simp only [enter_cons, enter_nil, List.length_cons, List.length_nil, Nat.reduceAdd]
  generalize hQ : endQ _ _ _ _ = Q
  unfold impl_SureCheck at h
  refine sem_cut fun k1 hk1 => ?_
  simp (decide := true) only [go_sem, reduceIte, Nat.reduceAdd, Int.reduceToNat, Nat.reduceSub, Nat.reduceMul]
  refine r_cN hk1 (sem_cut fun k2 hk2 => ?_)
  refine sem_cut fun k3 hk3 => ?_
  simp (decide := true) only [go_sem, reduceIte, Nat.reduceAdd, Int.reduceToNat, Nat.reduceSub, Nat.reduceMul]
  refine r_cN hk3 ?_
  refine sem_ifh rfl h ?_ ?_ <;> clear h <;> intro h
  · refine sem_cut fun k4 hk4 => ?_
    simp (decide := true) only [go_sem, reduceIte, Nat.reduceAdd, Int.reduceToNat, Nat.reduceSub, Nat.reduceMul]
    refine r_cN hk4 (r_ret ?_)
    refine r_cR hk2 ?_
    obtain rfl := Option.some.inj h
    refine r_eAR hQ rfl rfl ?_
    simp (decide := true) only [go_sem, reduceIte, Nat.reduceAdd, Int.reduceToNat, Nat.reduceSub, Nat.reduceMul]
    repeat' (with_reducible refine And.intro ?_ ?_)
    all_goals first | exact wkEnd_same ⟨rfl, rfl⟩ | exact True.intro
  · refine r_skip (r_cN hk2 ?_)
    refine sem_cut fun k5 hk5 => ?_
    simp (decide := true) only [go_sem, reduceIte, Nat.reduceAdd, Int.reduceToNat, Nat.reduceSub, Nat.reduceMul]
    refine r_cN hk5 (sem_cut fun k6 hk6 => ?_)
    simp (decide := true) only [go_sem, reduceIte, Nat.reduceAdd, Int.reduceToNat, Nat.reduceSub, Nat.reduceMul]
    refine r_cN hk6 (sem_cutJ (fun (_ : Unit) (x : (Int × Int)) => (⟨[(0, .fz 3 (R e_Inst (v1))), (2, .pt 0 0), (3, .pt 1 0)], [.rc [.sc (.int .i64 (0)), .sc (.int .i64 (0))], .rc [.sc (.int .i64 (x.1)), .sc (.int .i64 (x.2))]]⟩ : St)) (fun (_ : Unit) (x : (Int × Int)) => impl_SureCheck_j15 v1 x = some res_) ?_ ?_)
    · rintro _ ⟨v18, v19⟩ h
      simp only [impl_SureCheck_j15] at h
      refine sem_cut fun k52 hk52 => sem_cut fun k53 hk53 => ?_
      simp (decide := true) only [go_sem, reduceIte, Nat.reduceAdd, Int.reduceToNat, Nat.reduceSub, Nat.reduceMul]
      refine r_cN hk53 ?_
      refine sem_ifh rfl h ?_ ?_ <;> clear h <;> intro h
      · refine sem_cut fun k54 hk54 => ?_
        simp (decide := true) only [go_sem, reduceIte, Nat.reduceAdd, Int.reduceToNat, Nat.reduceSub, Nat.reduceMul]
        refine r_cN hk54 (r_ret ?_)
        refine r_cR hk52 ?_
        obtain rfl := Option.some.inj h
        refine r_eAR hQ rfl rfl ?_
        simp (decide := true) only [go_sem, reduceIte, Nat.reduceAdd, Int.reduceToNat, Nat.reduceSub, Nat.reduceMul]
        repeat' (with_reducible refine And.intro ?_ ?_)
        all_goals first | exact wkEnd_same ⟨rfl, rfl⟩ | exact True.intro
      · refine r_skip (r_cN hk52 ?_)
        refine sem_cut fun k55 hk55 => ?_
        simp (decide := true) only [go_sem, reduceIte, Nat.reduceAdd, Int.reduceToNat, Nat.reduceSub, Nat.reduceMul]
        refine r_cN hk55 (r_ret ?_)
        obtain rfl := Option.some.inj h
        refine r_eAR hQ rfl rfl ?_
        simp (decide := true) only [go_sem, reduceIte, Nat.reduceAdd, Int.reduceToNat, Nat.reduceSub, Nat.reduceMul]
        repeat' (with_reducible refine And.intro ?_ ?_)
        all_goals first | exact wkEnd_same ⟨rfl, rfl⟩ | exact True.intro
    · intro k57 hk57 J56
      refine sem_cut fun k58 hk58 => ?_
      simp (decide := true) only [go_sem, reduceIte, Nat.reduceAdd, Int.reduceToNat, Nat.reduceSub, Nat.reduceMul]
      refine r_cN hk58 (sem_blk fun k59 hk59 => ?_)
      obtain ⟨oq88, hLq88, hKq88⟩ := bind_some' h
      clear h
      refine sem_loopP [0, 2, 3, 4, 5, 14, 15, 16] (fun (_ : Unit) (x : (Int × Int × Bool × Bool × Int)) => (⟨[(0, .fz 3 (R e_Inst (v1))), (2, .pt 0 0), (3, .pt 1 0), (4, .sc (.bool (x.2.2.1))), (5, .sc (.bool (x.2.2.2.1))), (14, .fz 3 (R e_Inst (v1))), (15, .sc (.int .i64 (((v1).length : Int)))), (16, .sc (.int .i64 (x.2.2.2.2)))], [.rc [.sc (.int .i64 (0)), .sc (.int .i64 (0))], .rc [.sc (.int .i64 (x.1)), .sc (.int .i64 (x.2.1))]]⟩ : St)) (fun (_ : Unit) (x : (Int × Int × Bool × Bool × Int)) => True) (impl_SureCheck_s19 v1) () (0, 0, false, false, 0) hLq88 (by rfl) (by rfl) ⟨?_, trivial⟩ ?_
      · first | exact wkSt_same rfl | (simp (decide := true) only [go_sem, reduceIte, Nat.reduceAdd, Int.reduceToNat, Nat.reduceSub, Nat.reduceMul]; exact wkSt_same rfl)
      · rintro nq88 _ ⟨v23, v24, v25, v26, v27⟩ xq88 kq88 hkq88 - h hIq88 hEq88
        simp only [impl_SureCheck_s19] at h
        refine sem_cut fun k89 hk89 => ?_
        simp (decide := true) only [go_sem, reduceIte, Nat.reduceAdd, Int.reduceToNat, Nat.reduceSub, Nat.reduceMul]
        refine r_cN hk89 (sem_cut fun k90 hk90 => ?_)
        refine sem_ifh rfl h ?_ ?_ <;> clear h <;> intro h
        · refine r_skip (r_cN hk90 ?_)
          refine sem_cut fun k91 hk91 => sem_blk fun k92 hk92 => sem_cut fun k93 hk93 => ?_
          obtain ⟨v33, c94H, h⟩ := bind_some' h
          obtain ⟨c94A, c94B, c94C, -⟩ := idx_some c94H
          repeat' (first | with_reducible refine And.intro ?_ ?_ | exact True.intro | with_reducible assumption | exact fun hf => False.elim hf | (intro hg; first | (simp +contextual [hg]; done) | grind) | omega | simp (decide := true) only [go_sem, reduceIte, Nat.reduceAdd, Int.reduceToNat, Nat.reduceSub, Nat.reduceMul, c94A, c94B, c94C])
          refine r_cN hk93 (sem_cut fun k95 hk95 => ?_)
          refine sem_cut fun k96 hk96 => ?_
          obtain ⟨v34, c97H, h⟩ := bind_some' h
          repeat' (first | with_reducible refine And.intro ?_ ?_ | ((with_reducible refine i_call (n := 23) ?_); refine call_openF [] ?_) | ((with_reducible refine i_callW (n := 23) ?_); refine callW_use (con_impl_SureState_wrong (⟨v23, v24⟩ : SureState) v33 v25 v26 v34 c97H) ?_; rintro x σ' ⟨rfl, rfl⟩ <;> ((refine ⟨?_, ?_⟩; (focus simp (decide := true) only [go_sem, reduceIte, Nat.reduceAdd, Int.reduceToNat, Nat.reduceSub, Nat.reduceMul])); (with_reducible refine behind_go ?_))) | exact True.intro | with_reducible assumption | exact fun hf => False.elim hf | (intro hg; first | (simp +contextual [hg]; done) | grind) | omega | simp (decide := true) only [go_sem, reduceIte, Nat.reduceAdd, Int.reduceToNat, Nat.reduceSub, Nat.reduceMul])
          refine r_cN hk96 (sem_cut fun k98 hk98 => ?_)
          simp (decide := true) only [go_sem, reduceIte, Nat.reduceAdd, Int.reduceToNat, Nat.reduceSub, Nat.reduceMul]
          refine r_cN hk98 ?_
          refine sem_ifh rfl h ?_ ?_ <;> clear h <;> intro h
          · refine sem_cut fun k99 hk99 => ?_
            simp (decide := true) only [go_sem, reduceIte, Nat.reduceAdd, Int.reduceToNat, Nat.reduceSub, Nat.reduceMul]
            refine r_cN hk99 (r_ret ?_)
            refine r_cR hk95 (r_bR hk92 ?_)
            refine r_cR hk91 ?_
            obtain rfl := Option.some.inj h
            obtain rfl := hEq88 _ rfl
            have h := hKq88
            try simp only [Sum.elim_inl, Sum.elim_inr] at h
            refine r_kR hkq88 (r_bR hk59 ?_)
            refine r_jR hk57 ?_
            obtain rfl := Option.some.inj h
            refine r_eAR hQ rfl rfl ?_
            simp (decide := true) only [go_sem, reduceIte, Nat.reduceAdd, Int.reduceToNat, Nat.reduceSub, Nat.reduceMul]
            repeat' (with_reducible refine And.intro ?_ ?_)
            all_goals first | exact wkEnd_same ⟨rfl, rfl⟩ | exact True.intro
          · refine r_skip (r_cN hk95 ?_)
            refine sem_cut fun k100 hk100 => ?_
            obtain ⟨v35, c101H, h⟩ := bind_some' h
            repeat' (first | with_reducible refine And.intro ?_ ?_ | ((with_reducible refine i_call (n := 24) ?_); refine call_openF [] ?_) | ((with_reducible refine i_callW (n := 24) ?_); refine callW_use (con_impl_SureState_behind (⟨v23, v24⟩ : SureState) v33.Code v35 c101H) ?_; rintro x σ' ⟨rfl, rfl⟩ <;> ((refine ⟨?_, ?_⟩; (focus simp (decide := true) only [go_sem, reduceIte, Nat.reduceAdd, Int.reduceToNat, Nat.reduceSub, Nat.reduceMul])); (with_reducible refine behind_go ?_))) | exact True.intro | with_reducible assumption | exact fun hf => False.elim hf | (intro hg; first | (simp +contextual [hg]; done) | grind) | omega | simp (decide := true) only [go_sem, reduceIte, Nat.reduceAdd, Int.reduceToNat, Nat.reduceSub, Nat.reduceMul])
            refine r_cN hk100 (sem_cut fun k102 hk102 => ?_)
            simp (decide := true) only [go_sem, reduceIte, Nat.reduceAdd, Int.reduceToNat, Nat.reduceSub, Nat.reduceMul]
            refine r_cN hk102 ?_
            repeat' (first | with_reducible refine And.intro ?_ ?_ | exact True.intro | with_reducible assumption | exact fun hf => False.elim hf | (intro hg; first | (simp +contextual [hg]; done) | grind) | omega | simp (decide := true) only [go_sem, reduceIte, Nat.reduceAdd, Int.reduceToNat, Nat.reduceSub, Nat.reduceMul])
            refine r_bN hk92 (r_cN hk91 ?_)
            simp (decide := true) only [go_sem, reduceIte, Nat.reduceAdd, Int.reduceToNat, Nat.reduceSub, Nat.reduceMul]
            obtain rfl := Option.some.inj h
            subst hkq88
            refine r_backP () _ rfl rfl ⟨?_, trivial⟩ (hIq88 _ rfl)
            first | exact wkSt_same rfl | (simp (decide := true) only [go_sem, reduceIte, Nat.reduceAdd, Int.reduceToNat, Nat.reduceSub, Nat.reduceMul]; exact wkSt_same rfl)
        · refine r_exit (r_cE hk90 ?_)
          obtain rfl := Option.some.inj h
          obtain rfl := hEq88 _ rfl
          have h := hKq88
          try simp only [Sum.elim_inl, Sum.elim_inr] at h
          refine r_kE hkq88 (r_bE hk59 ?_)
          refine r_joinU J56 [0, 2, 3] () _ rfl rfl ⟨?_, h⟩
          first | exact wkSt_same rfl | (simp (decide := true) only [go_sem, reduceIte, Nat.reduceAdd, Int.reduceToNat, Nat.reduceSub, Nat.reduceMul]; exact wkSt_same rfl)
noncomputable def impl_verified (v1 : (List Inst)) : Option Bool :=
  (Option.bind (impl_SureCheck v1) fun v2 => (some ((v2.Code == 0) && (v2.At == 0))))
set_option maxRecDepth 10000 in
set_option maxHeartbeats 4000000 in
theorem con_impl_verified (v1 : (List Inst)) (res_ : Bool) (h : impl_verified v1 = some res_) : Con Tryd.prog C0 19 [.fz 3 (R e_Inst (v1))] []
    (fun x σ' => x = .sc (.bool (res_)) ∧ σ' = []) := by
  refine con_of_sem hP [0, 2] [.tmp 2] Tryd.func19 (by unfold Tryd.f19; rfl) rfl rfl (Nat.le_of_ble_eq_true rfl) rfl ?_
  simp only [enter_cons, enter_nil, List.length_cons, List.length_nil, Nat.reduceAdd]
  generalize hQ : endQ _ _ _ _ = Q
  unfold impl_verified at h
  refine sem_cut fun k1 hk1 => ?_
  simp (decide := true) only [go_sem, reduceIte, Nat.reduceAdd, Int.reduceToNat, Nat.reduceSub, Nat.reduceMul]
  refine r_cN hk1 (sem_cut fun k2 hk2 => ?_)
  obtain ⟨v2, c3H, h⟩ := bind_some' h
  repeat' (first | with_reducible refine And.intro ?_ ?_ | ((with_reducible refine i_call (n := 8) ?_); refine call_openF [] ?_) | ((with_reducible refine i_callW (n := 8) ?_); refine callW_use (con_impl_SureCheck v1 v2 c3H) ?_; rintro x σ' ⟨rfl, rfl⟩ <;> ((refine ⟨?_, ?_⟩; (focus simp (decide := true) only [go_sem, reduceIte, Nat.reduceAdd, Int.reduceToNat, Nat.reduceSub, Nat.reduceMul])); (with_reducible refine behind_go ?_))) | exact True.intro | with_reducible assumption | exact fun hf => False.elim hf | (intro hg; first | (simp +contextual [hg]; done) | grind) | omega | simp (decide := true) only [go_sem, reduceIte, Nat.reduceAdd, Int.reduceToNat, Nat.reduceSub, Nat.reduceMul])
  refine r_cN hk2 (r_ret ?_)
  obtain rfl := Option.some.inj h
  refine r_eAR hQ rfl rfl ?_
  simp (decide := true) only [go_sem, reduceIte, Nat.reduceAdd, Int.reduceToNat, Nat.reduceSub, Nat.reduceMul]
  all_goals first | exact wkEnd_same ⟨rfl, rfl⟩ | exact True.intro

end Go.AM
