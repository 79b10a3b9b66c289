/- Pure functions and their contracts. Conditions: none. -/
import Derived.Test.YtkafcijfljjlaabDoorAmQa4
set_option linter.unusedSimpArgs false
set_option linter.unusedVariables false
namespace Go.AM
open Go Go.Proofs
noncomputable def slices_Clone_impl_DevArg_impl_DevArg (v1 : (List DevArg)) : Option (List DevArg) :=
  (nilq v1 fun v2 => (cond v2 (some []) (gd (apOk (v1).length 24) (some v1))))
set_option maxRecDepth 10000 in
set_option maxHeartbeats 4000000 in
theorem con_slices_Clone_impl_DevArg_impl_DevArg (v1 : (List DevArg)) (res_ : (List DevArg)) (h : slices_Clone_impl_DevArg_impl_DevArg v1 = some res_) : Con Tryd.prog C0 109 [.fz 3 (R e_DevArg (v1))] []
    (fun x σ' => x = .fz 3 (R e_DevArg (res_)) ∧ σ' = []) := by
  refine con_of_sem hP [0, 2, 4] [.tmp 2] Tryd.func109 (by unfold Tryd.f109; rfl) rfl rfl (Nat.le_of_ble_eq_true rfl) rfl ?_
  simp only [enter_cons, enter_nil, List.length_cons, List.length_nil, Nat.reduceAdd]
  generalize hQ : endQ _ _ _ _ = Q
  unfold slices_Clone_impl_DevArg_impl_DevArg at h
  refine sem_cut fun k1 hk1 => ?_
  simp (decide := true) only [go_sem, reduceIte, Nat.reduceAdd, Int.reduceToNat, Nat.reduceSub, Nat.reduceMul]
  refine r_cN hk1 (sem_cut fun k2 hk2 => ?_)
  refine sem_cut fun k3 hk3 => ?_
  have c4H := nilq_some h
  clear h
  repeat' (first | with_reducible refine And.intro ?_ ?_ | exact True.intro | with_reducible assumption | exact fun hf => False.elim hf | (intro hg; first | (simp +contextual [hg]; done) | grind) | omega | ((with_reducible refine r_nileq ?_); refine ⟨?_, ?_⟩) | (intro v2 c4B) | simp (decide := true) only [go_sem, reduceIte, Nat.reduceAdd, Int.reduceToNat, Nat.reduceSub, Nat.reduceMul])
  replace h := c4H v2 (fun e => by have e2 := c4B e; simpa only [go_sem, reduceIte, Nat.reduceEqDiff] using e2)
  refine r_cN hk3 ?_
  refine sem_ifh rfl h ?_ ?_ <;> clear h <;> intro h
  · refine sem_cut fun k5 hk5 => ?_
    simp (decide := true) only [go_sem, reduceIte, Nat.reduceAdd, Int.reduceToNat, Nat.reduceSub, Nat.reduceMul]
    refine r_cN hk5 (r_ret ?_)
    refine r_cR hk2 ?_
    obtain rfl := Option.some.inj h
    refine r_eAR hQ rfl rfl ?_
    simp (decide := true) only [go_sem, reduceIte, Nat.reduceAdd, Int.reduceToNat, Nat.reduceSub, Nat.reduceMul]
    all_goals first | exact True.intro | (refine wkEnd_mk ?_ ?_ (⟨rfl, rfl⟩) <;> repeat' (first | exact wkE_nil | (with_reducible apply wkE_cons) | exact wkC_nil _ | exact wkV_nil _ | exact wkA_nil _ | (with_reducible apply wkV_agg) | (with_reducible apply wkV_tup) | (with_reducible apply wkA_agg) | exact wkA_refl _ | exact wkV_refl _ | exact wkS_nil | (with_reducible apply wkS_cons) | (with_reducible apply wkO_rc) | (with_reducible apply wkO_arr) | exact wkO_refl _ | exact wkL_nil | (with_reducible apply wkL_cons) | exact wkC_refl _ | exact wkT_nil | (with_reducible apply wkT_cons) | (with_reducible apply wkR_appR) | (with_reducible apply wkR_consR) | exact wkR_nilR _ | exact wkR_refl _))
  · refine r_skip (r_cN hk2 ?_)
    refine sem_cut fun k6 hk6 => ?_
    obtain ⟨g7, h⟩ := gd_some h
    have g7A := apOk_1 g7; have g7B := apOk_2 g7
    repeat' (first | with_reducible refine And.intro ?_ ?_ | exact True.intro | with_reducible assumption | exact fun hf => False.elim hf | (intro hg; first | (simp +contextual [hg]; done) | grind) | omega | simp (decide := true) only [go_sem, reduceIte, Nat.reduceAdd, Int.reduceToNat, Nat.reduceSub, Nat.reduceMul, g7A, g7B])
    refine r_cN hk6 (r_ret ?_)
    obtain rfl := Option.some.inj h
    refine r_eAR hQ rfl rfl ?_
    simp (decide := true) only [go_sem, reduceIte, Nat.reduceAdd, Int.reduceToNat, Nat.reduceSub, Nat.reduceMul]
    all_goals first | exact wkEnd_same ⟨rfl, rfl⟩ | exact True.intro
noncomputable def slices_Clip_impl_DevArg_impl_DevArg (v1 : (List DevArg)) : Option (List DevArg) :=
  (Option.bind (prtH v1 (((v1).length : Int))) fun v2 => (some v2))
set_option maxRecDepth 10000 in
set_option maxHeartbeats 4000000 in
theorem con_slices_Clip_impl_DevArg_impl_DevArg (v1 : (List DevArg)) (res_ : (List DevArg)) (h : slices_Clip_impl_DevArg_impl_DevArg v1 = some res_) : Con Tryd.prog C0 108 [.fz 3 (R e_DevArg (v1))] []
    (fun x σ' => x = .fz 3 (R e_DevArg (res_)) ∧ σ' = []) := by
  refine con_of_sem hP [0, 2] [.tmp 2] Tryd.func108 (by unfold Tryd.f108; rfl) rfl rfl (Nat.le_of_ble_eq_true rfl) rfl ?_
  simp only [enter_cons, enter_nil, List.length_cons, List.length_nil, Nat.reduceAdd]
  generalize hQ : endQ _ _ _ _ = Q
  unfold slices_Clip_impl_DevArg_impl_DevArg at h
  refine sem_cut fun k1 hk1 => ?_
  simp (decide := true) only [go_sem, reduceIte, Nat.reduceAdd, Int.reduceToNat, Nat.reduceSub, Nat.reduceMul]
  refine r_cN hk1 (sem_cut fun k2 hk2 => ?_)
  obtain ⟨v2, c3H, h⟩ := bind_some' h
  obtain ⟨c3A, c3B, c3C⟩ := prtH_some c3H
  try simp only [Int.reduceToNat, Int.toNat_zero, Int.toNat_one, Int.toNat_natCast, List.take_length] at c3C
  repeat' (first | with_reducible refine And.intro ?_ ?_ | exact True.intro | with_reducible assumption | exact fun hf => False.elim hf | (intro hg; first | (simp +contextual [hg]; done) | grind) | omega | simp (decide := true) only [go_sem, reduceIte, Nat.reduceAdd, Int.reduceToNat, Nat.reduceSub, Nat.reduceMul, c3A, c3B, c3C])
  refine r_cN hk2 (r_ret ?_)
  obtain rfl := Option.some.inj h
  refine r_eAR hQ rfl rfl ?_
  simp (decide := true) only [go_sem, reduceIte, Nat.reduceAdd, Int.reduceToNat, Nat.reduceSub, Nat.reduceMul]
  all_goals first | exact wkEnd_same ⟨rfl, rfl⟩ | exact True.intro
noncomputable def impl_clone_impl_DevArg (v1 : (List DevArg)) : Option (List DevArg) :=
  (Option.bind (slices_Clone_impl_DevArg_impl_DevArg v1) fun v2 => (Option.bind (slices_Clip_impl_DevArg_impl_DevArg v2) fun v3 => (some v3)))
set_option maxRecDepth 10000 in
set_option maxHeartbeats 4000000 in
theorem con_impl_clone_impl_DevArg (v1 : (List DevArg)) (res_ : (List DevArg)) (h : impl_clone_impl_DevArg v1 = some res_) : Con Tryd.prog C0 81 [.fz 3 (R e_DevArg (v1))] []
    (fun x σ' => x = .fz 3 (R e_DevArg (res_)) ∧ σ' = []) := by
  refine con_of_sem hP [0, 2] [.tmp 2] Tryd.func81 (by unfold Tryd.f81; rfl) rfl rfl (Nat.le_of_ble_eq_true rfl) rfl ?_
  simp only [enter_cons, enter_nil, List.length_cons, List.length_nil, Nat.reduceAdd]
  generalize hQ : endQ _ _ _ _ = Q
  unfold impl_clone_impl_DevArg at h
  refine sem_cut fun k1 hk1 => ?_
  simp (decide := true) only [go_sem, reduceIte, Nat.reduceAdd, Int.reduceToNat, Nat.reduceSub, Nat.reduceMul]
  refine r_cN hk1 (sem_cut fun k2 hk2 => ?_)
  obtain ⟨v2, c3H, h⟩ := bind_some' h
  obtain ⟨v3, c4H, h⟩ := bind_some' h
  repeat' (first | with_reducible refine And.intro ?_ ?_ | ((with_reducible refine i_call (n := 109) ?_); refine call_open [] ?_) | ((with_reducible refine i_callW (n := 109) ?_); refine callW_use (con_slices_Clone_impl_DevArg_impl_DevArg v1 v2 c3H) ?_; rintro x σ' ⟨rfl, rfl⟩ <;> ((with_reducible refine behind_go ?_))) | ((with_reducible refine i_call (n := 108) ?_); refine call_open [] ?_) | ((with_reducible refine i_callW (n := 108) ?_); refine callW_use (con_slices_Clip_impl_DevArg_impl_DevArg v2 v3 c4H) ?_; rintro x σ' ⟨rfl, rfl⟩ <;> ((with_reducible refine behind_go ?_))) | exact True.intro | with_reducible assumption | exact fun hf => False.elim hf | (intro hg; first | (simp +contextual [hg]; done) | grind) | omega | simp (decide := true) only [go_sem, reduceIte, Nat.reduceAdd, Int.reduceToNat, Nat.reduceSub, Nat.reduceMul])
  refine r_cN hk2 (r_ret ?_)
  obtain rfl := Option.some.inj h
  refine r_eAR hQ rfl rfl ?_
  simp (decide := true) only [go_sem, reduceIte, Nat.reduceAdd, Int.reduceToNat, Nat.reduceSub, Nat.reduceMul]
  all_goals first | exact wkEnd_same ⟨rfl, rfl⟩ | exact True.intro
noncomputable def impl_Elem_copyOf (v1 : Elem) : Option Elem :=
  (Option.bind (impl_clone_impl_DevArg v1.Args) fun v2 => (some (⟨v1.Op, v2⟩ : Elem)))
set_option maxRecDepth 10000 in
set_option maxHeartbeats 4000000 in
theorem con_impl_Elem_copyOf (v1 : Elem) (res_ : Elem) (h : impl_Elem_copyOf v1 = some res_) : Con Tryd.prog C0 59 [.agg [.sc (.int .i64 (v1.Op)), .fz 3 (R e_DevArg (v1.Args))]] []
    (fun x σ' => x = .agg [.sc (.int .i64 (res_.Op)), .fz 3 (R e_DevArg (res_.Args))] ∧ σ' = []) := by
  refine con_of_sem hP [0, 1, 2] [.cell 2 44] Tryd.func59 (by unfold Tryd.f59; rfl) rfl rfl (Nat.le_of_ble_eq_true rfl) rfl ?_
  simp only [enter_cons, enter_nil, List.length_cons, List.length_nil, Nat.reduceAdd]
  generalize hQ : endQ _ _ _ _ = Q
  unfold impl_Elem_copyOf at h
  refine sem_cut fun k1 hk1 => ?_
  simp (decide := true) only [go_sem, reduceIte, Nat.reduceAdd, Int.reduceToNat, Nat.reduceSub, Nat.reduceMul]
  refine r_cN hk1 (sem_cut fun k2 hk2 => ?_)
  obtain ⟨v2, c3H, h⟩ := bind_some' h
  with_reducible refine sem_plan (id := 1) (.take 0 (.take 1 (.take 2 (.take 3 (.one 4 (.take 5 (.last 6 .done))))))) [0] ?_ ?_
  focus kernel_rfl
  repeat' (first | with_reducible refine And.intro ?_ ?_ | ((with_reducible refine i_call (n := 81) ?_); refine call_open [] ?_) | ((with_reducible refine i_callW (n := 81) ?_); refine callW_use (con_impl_clone_impl_DevArg v1.Args v2 c3H) ?_; rintro x σ' ⟨rfl, rfl⟩ <;> ((with_reducible refine behind_go ?_))) | exact True.intro | with_reducible assumption | exact fun hf => False.elim hf | (intro hg; first | (simp +contextual [hg]; done) | grind) | omega | simp (decide := true) only [go_sem, reduceIte, Nat.reduceAdd, Int.reduceToNat, Nat.reduceSub, Nat.reduceMul])
  refine r_cN hk2 (r_ret ?_)
  obtain rfl := Option.some.inj h
  refine r_eAR hQ rfl rfl ?_
  simp (decide := true) only [go_sem, reduceIte, Nat.reduceAdd, Int.reduceToNat, Nat.reduceSub, Nat.reduceMul]
  repeat' (with_reducible refine And.intro ?_ ?_)
  all_goals first | exact wkEnd_same ⟨rfl, rfl⟩ | exact True.intro
noncomputable def impl_copyList_j5 : (List Inst) → Option (List Inst)
  | v14 => (some v14)
noncomputable def impl_copyList_s9 (v1 : (List Inst)) : ((List Inst) × Int) → Option (((List Inst) × Int) ⊕ (List Inst))
  | (v18, v19) => (cond (decide (v19 < ((v1).length : Int))) (Option.bind (idx v1 (v19)) fun v24 => (Option.bind (impl_Elem_copyOf (⟨v24.One_Op, v24.One_Args⟩ : Elem)) fun v25 => (Option.bind (idx v18 (v19)) fun v26 => (some (.inl (((v18).set (v19).toNat (⟨v24.Code, v25.Op, v25.Args⟩ : Inst)), (IntKind.i64.wrap (v19 + 1)))))))) (some (.inr v18)))
noncomputable def impl_copyList (v1 : (List Inst)) : Option (List Inst) :=
  (gd (mkOk (((v1).length : Int)) (((v1).length : Int)) 40) ((loop (impl_copyList_s9 v1) ((List.replicate (((v1).length : Int)).toNat (⟨0, 0, []⟩ : Inst)), 0)).bind (fun v23 => (impl_copyList_j5 v23))))
set_option maxRecDepth 10000 in
set_option maxHeartbeats 4000000 in
theorem con_impl_copyList (v1 : (List Inst)) (res_ : (List Inst)) (h : impl_copyList v1 = some res_) : Con Tryd.prog C0 42 [.fz 3 (R e_Inst (v1))] []
    (fun x σ' => x = .sl 0 0 ((res_).length) ∧ σ' = [.arr true 3 (R e_Inst (res_))]) := by
  refine con_of_sem hP [0, 2, 3, 4, 5, 9, 10, 11, 12] [.tmp 2] Tryd.func42 (by unfold Tryd.f42; rfl) rfl rfl (Nat.le_of_ble_eq_true rfl) rfl ?_
  simp only [enter_cons, enter_nil, List.length_cons, List.length_nil, Nat.reduceAdd]
  generalize hQ : endQ _ _ _ _ = Q
  unfold impl_copyList at h
  refine sem_cut fun k1 hk1 => ?_
  simp (decide := true) only [go_sem, reduceIte, Nat.reduceAdd, Int.reduceToNat, Nat.reduceSub, Nat.reduceMul]
  refine r_cN hk1 (sem_cut fun k2 hk2 => ?_)
  obtain ⟨g3, h⟩ := gd_some h
  obtain ⟨g3A, g3B, g3C, g3D⟩ := mkOk_some g3
  repeat' (first | with_reducible refine And.intro ?_ ?_ | exact True.intro | with_reducible assumption | exact fun hf => False.elim hf | (intro hg; first | (simp +contextual [hg]; done) | grind) | omega | simp (decide := true) only [go_sem, reduceIte, Nat.reduceAdd, Int.reduceToNat, Nat.reduceSub, Nat.reduceMul, g3A, g3B, g3C, g3D])
  refine r_cN hk2 (sem_cutJ (fun (_ : Unit) (x : (List Inst)) => (⟨[(3, .sl 0 0 ((x).length))], [.arr true 3 (R e_Inst (x))]⟩ : St)) (fun (_ : Unit) (x : (List Inst)) => impl_copyList_j5 x = some res_) ?_ ?_)
  · rintro _ v14 h
    simp only [impl_copyList_j5] at h
    refine sem_cut fun k31 hk31 => ?_
    simp (decide := true) only [go_sem, reduceIte, Nat.reduceAdd, Int.reduceToNat, Nat.reduceSub, Nat.reduceMul]
    refine r_cN hk31 (r_ret ?_)
    obtain rfl := Option.some.inj h
    refine r_eOR hQ rfl rfl ?_
    simp (decide := true) only [go_sem, reduceIte, Nat.reduceAdd, Int.reduceToNat, Nat.reduceSub, Nat.reduceMul]
    all_goals first | exact wkEnd_same ⟨rfl, rfl⟩ | exact True.intro
  · intro k33 hk33 J32
    refine sem_cut fun k34 hk34 => ?_
    simp (decide := true) only [go_sem, reduceIte, Nat.reduceAdd, Int.reduceToNat, Nat.reduceSub, Nat.reduceMul]
    refine r_cN hk34 (sem_blk fun k35 hk35 => ?_)
    obtain ⟨oq52, hLq52, hKq52⟩ := bind_some' h
    clear h
    refine sem_loopP [3, 9, 10, 11] (fun (_ : Unit) (x : ((List Inst) × Int)) => (⟨[(3, .sl 0 0 ((x.1).length)), (9, .fz 3 (R e_Inst (v1))), (10, .sc (.int .i64 (((v1).length : Int)))), (11, .sc (.int .i64 (x.2)))], [.arr true 3 (R e_Inst (x.1))]⟩ : St)) (fun (_ : Unit) (x : ((List Inst) × Int)) => True) (impl_copyList_s9 v1) () ((List.replicate (((v1).length : Int)).toNat (⟨0, 0, []⟩ : Inst)), 0) hLq52 (by rfl) (by rfl) ⟨?_, trivial⟩ ?_
    · simp (decide := true) only [go_sem, reduceIte, Nat.reduceAdd, Int.reduceToNat, Nat.reduceSub, Nat.reduceMul]
      (apply wkSt_mk <;> repeat' (first | exact wkE_nil | (with_reducible apply wkE_cons) | exact wkC_nil _ | exact wkV_nil _ | exact wkA_nil _ | (with_reducible apply wkV_agg) | (with_reducible apply wkV_tup) | (with_reducible apply wkA_agg) | exact wkA_refl _ | exact wkV_refl _ | exact wkS_nil | (with_reducible apply wkS_cons) | (with_reducible apply wkO_rc) | (with_reducible apply wkO_arr) | exact wkO_refl _ | exact wkL_nil | (with_reducible apply wkL_cons) | exact wkC_refl _ | exact wkT_nil | (with_reducible apply wkT_cons) | (with_reducible apply wkR_appR) | (with_reducible apply wkR_consR) | exact wkR_nilR _ | exact wkR_refl _ | (refine wkR_repR ?_ _) | apply wkL_cons | (simp only [R_len, List.length_append, List.length_cons, List.length_nil, List.length_replicate]; exact wkV_refl _) | (simp only [R_len, List.length_append, List.length_cons, List.length_nil]; exact wkC_refl _)))
    · rintro nq52 _ ⟨v18, v19⟩ xq52 kq52 hkq52 - h hIq52 hEq52
      simp only [impl_copyList_s9] at h
      refine sem_cut fun k53 hk53 => ?_
      simp (decide := true) only [go_sem, reduceIte, Nat.reduceAdd, Int.reduceToNat, Nat.reduceSub, Nat.reduceMul]
      refine r_cN hk53 (sem_cut fun k54 hk54 => ?_)
      refine sem_ifh rfl h ?_ ?_ <;> clear h <;> intro h
      · refine r_skip (r_cN hk54 ?_)
        refine sem_cut fun k55 hk55 => sem_blk fun k56 hk56 => sem_cut fun k57 hk57 => ?_
        obtain ⟨v24, c58H, h⟩ := bind_some' h
        obtain ⟨c58A, c58B, c58C, -⟩ := idx_some c58H
        repeat' (first | with_reducible refine And.intro ?_ ?_ | exact True.intro | with_reducible assumption | exact fun hf => False.elim hf | (intro hg; first | (simp +contextual [hg]; done) | grind) | omega | simp (decide := true) only [go_sem, reduceIte, Nat.reduceAdd, Int.reduceToNat, Nat.reduceSub, Nat.reduceMul, c58A, c58B, c58C])
        refine r_cN hk57 ?_
        obtain ⟨v25, c59H, h⟩ := bind_some' h
        obtain ⟨v26, c60H, h⟩ := bind_some' h
        obtain ⟨c60A, c60B, c60C, -⟩ := idx_some c60H
        with_reducible refine sem_plan (id := 5) (.take 0 (.take 1 (.take 2 (.take 3 (.take 4 (.take 5 (.one 6 (.take 7 (.take 8 (.last 9 .done)))))))))) [1] ?_ ?_
        focus kernel_rfl
        repeat' (first | with_reducible refine And.intro ?_ ?_ | ((with_reducible refine i_call (n := 59) ?_); refine call_open [] ?_) | ((with_reducible refine i_callW (n := 59) ?_); refine callW_use (con_impl_Elem_copyOf (⟨v24.One_Op, v24.One_Args⟩ : Elem) v25 c59H) ?_; rintro x σ' ⟨rfl, rfl⟩ <;> ((with_reducible refine behind_go ?_))) | exact True.intro | with_reducible assumption | exact fun hf => False.elim hf | (intro hg; first | (simp +contextual [hg]; done) | grind) | omega | simp (decide := true) only [go_sem, reduceIte, Nat.reduceAdd, Int.reduceToNat, Nat.reduceSub, Nat.reduceMul, c60A, c60B, c60C])
        refine r_bN hk56 (r_cN hk55 ?_)
        simp (decide := true) only [go_sem, reduceIte, Nat.reduceAdd, Int.reduceToNat, Nat.reduceSub, Nat.reduceMul]
        obtain rfl := Option.some.inj h
        subst hkq52
        refine r_backP () _ rfl rfl ⟨?_, trivial⟩ (hIq52 _ rfl)
        first | exact wkSt_same rfl | (simp (decide := true) only [go_sem, reduceIte, Nat.reduceAdd, Int.reduceToNat, Nat.reduceSub, Nat.reduceMul]; exact wkSt_same rfl)
      · refine r_exit (r_cE hk54 ?_)
        obtain rfl := Option.some.inj h
        obtain rfl := hEq52 _ rfl
        have h := hKq52
        try simp only [Sum.elim_inl, Sum.elim_inr] at h
        refine r_kE hkq52 (r_bE hk35 ?_)
        refine r_joinU J32 [3] () _ rfl rfl ⟨?_, h⟩
        first | exact wkSt_same rfl | (simp (decide := true) only [go_sem, reduceIte, Nat.reduceAdd, Int.reduceToNat, Nat.reduceSub, Nat.reduceMul]; exact wkSt_same rfl)
noncomputable def slices_Clip_impl_Inst_impl_Inst (v1 : (List (List Inst))) : Option (List (List Inst)) :=
  (Option.bind (prtH v1 (((v1).length : Int))) fun v2 => (some v2))
set_option maxRecDepth 10000 in
set_option maxHeartbeats 4000000 in
theorem con_slices_Clip_impl_Inst_impl_Inst (v1 : (List (List Inst))) (res_ : (List (List Inst))) (h : slices_Clip_impl_Inst_impl_Inst v1 = some res_) : Con Tryd.prog C0 43 [.fz 1 (R e_L_Inst (v1))] []
    (fun x σ' => x = .fz 1 (R e_L_Inst (res_)) ∧ σ' = []) := by
  refine con_of_sem hP [0, 2] [.tmp 2] Tryd.func43 (by unfold Tryd.f43; rfl) rfl rfl (Nat.le_of_ble_eq_true rfl) rfl ?_
  simp only [enter_cons, enter_nil, List.length_cons, List.length_nil, Nat.reduceAdd]
  generalize hQ : endQ _ _ _ _ = Q
  unfold slices_Clip_impl_Inst_impl_Inst at h
  refine sem_cut fun k1 hk1 => ?_
  simp (decide := true) only [go_sem, reduceIte, Nat.reduceAdd, Int.reduceToNat, Nat.reduceSub, Nat.reduceMul]
  refine r_cN hk1 (sem_cut fun k2 hk2 => ?_)
  obtain ⟨v2, c3H, h⟩ := bind_some' h
  obtain ⟨c3A, c3B, c3C⟩ := prtH_some c3H
  try simp only [Int.reduceToNat, Int.toNat_zero, Int.toNat_one, Int.toNat_natCast, List.take_length] at c3C
  repeat' (first | with_reducible refine And.intro ?_ ?_ | exact True.intro | with_reducible assumption | exact fun hf => False.elim hf | (intro hg; first | (simp +contextual [hg]; done) | grind) | omega | simp (decide := true) only [go_sem, reduceIte, Nat.reduceAdd, Int.reduceToNat, Nat.reduceSub, Nat.reduceMul, c3A, c3B, c3C])
  refine r_cN hk2 (r_ret ?_)
  obtain rfl := Option.some.inj h
  refine r_eAR hQ rfl rfl ?_
  simp (decide := true) only [go_sem, reduceIte, Nat.reduceAdd, Int.reduceToNat, Nat.reduceSub, Nat.reduceMul]
  all_goals first | exact wkEnd_same ⟨rfl, rfl⟩ | exact True.intro
noncomputable def impl_rungsOf_j7 : (List (List Inst)) → Option (List (List Inst))
  | v46 => (Option.bind (slices_Clip_impl_Inst_impl_Inst v46) fun v47 => (some v47))
noncomputable def impl_rungsOf_j18 (v59 : Int) : ((List (List Inst)) × Int) → Option (((List (List Inst)) × Int × Int) ⊕ (List (List Inst)))
  | (v80, v81) => (some (.inl (v80, v81, (IntKind.i64.wrap (v59 + 1)))))
noncomputable def impl_rungsOf_s11 (v1 : (List Inst)) : ((List (List Inst)) × Int × Int) → Option (((List (List Inst)) × Int × Int) ⊕ (List (List Inst)))
  | (v57, v58, v59) => (cond (decide (v59 < ((v1).length : Int))) (Option.bind (idx v1 (v59)) fun v82 => (cond (v82.Code == 11) (Option.bind (prt v1 (v58) ((IntKind.i64.wrap (v59 + 1)))) fun v83 => (Option.bind (impl_copyList v83) fun v84 => (gd (apOk ((v57 ++ [v84])).length 24) (impl_rungsOf_j18 v59 ((v57 ++ [v84]), (IntKind.i64.wrap (v59 + 1))))))) (impl_rungsOf_j18 v59 (v57, v58)))) (some (.inr v57)))
noncomputable def impl_rungsOf (v1 : (List Inst)) : Option (List (List Inst)) :=
  ((loop (impl_rungsOf_s11 v1) ([], 0, 0)).bind (fun v76 => (impl_rungsOf_j7 v76)))
set_option maxRecDepth 10000 in
set_option maxHeartbeats 4000000 in
theorem con_impl_rungsOf (v1 : (List Inst)) (res_ : (List (List Inst))) (h : impl_rungsOf v1 = some res_) : Con Tryd.prog C0 20 [.fz 3 (R e_Inst (v1))] []
    (fun x σ' => x = .fz 1 (R e_L_Inst (res_)) ∧ σ' = []) := by
  refine con_of_sem hP [0, 2, 3, 4, 5, 6, 7, 8, 9, 10, 16] [.tmp 2] Tryd.func20 (by unfold Tryd.f20; rfl) rfl rfl (Nat.le_of_ble_eq_true rfl) rfl ?_
  simp only [enter_cons, enter_nil, List.length_cons, List.length_nil, Nat.reduceAdd]
  generalize hQ : endQ _ _ _ _ = Q
  unfold impl_rungsOf at h
  refine sem_cut fun k1 hk1 => ?_
  simp (decide := true) only [go_sem, reduceIte, Nat.reduceAdd, Int.reduceToNat, Nat.reduceSub, Nat.reduceMul]
  refine r_cN hk1 (sem_cut fun k2 hk2 => ?_)
  simp (decide := true) only [go_sem, reduceIte, Nat.reduceAdd, Int.reduceToNat, Nat.reduceSub, Nat.reduceMul]
  refine r_cN hk2 (sem_cut fun k3 hk3 => ?_)
  simp (decide := true) only [go_sem, reduceIte, Nat.reduceAdd, Int.reduceToNat, Nat.reduceSub, Nat.reduceMul]
  refine r_cN hk3 (sem_cutJ (fun (i : P2) (x : (List (List Inst))) => match i with | .a => (⟨[(3, .sl 0 0 ((x).length))], [.arr true 1 (R e_L_Inst (x))]⟩ : St) | .b => (⟨[(3, .sc (.slice none 0 0))], []⟩ : St)) (fun (i : P2) (x : (List (List Inst))) => (match i with | .a => True | .b => x = []) ∧ impl_rungsOf_j7 x = some res_) ?_ ?_)
  · rintro (_ | _) v46 ⟨hp, h⟩
    · simp only [impl_rungsOf_j7] at h
      refine sem_cut fun k107 hk107 => ?_
      obtain ⟨v47, c108H, h⟩ := bind_some' h
      repeat' (first | with_reducible refine And.intro ?_ ?_ | ((with_reducible refine i_call (n := 43) ?_); refine call_open [] ?_) | ((with_reducible refine i_callW (n := 43) ?_); refine callW_use (con_slices_Clip_impl_Inst_impl_Inst v46 v47 c108H) ?_; rintro x σ' ⟨rfl, rfl⟩ <;> ((with_reducible refine behind_go ?_))) | exact True.intro | with_reducible assumption | exact fun hf => False.elim hf | (intro hg; first | (simp +contextual [hg]; done) | grind) | omega | simp (decide := true) only [go_sem, reduceIte, Nat.reduceAdd, Int.reduceToNat, Nat.reduceSub, Nat.reduceMul])
      refine r_cN hk107 (r_ret ?_)
      obtain rfl := Option.some.inj h
      refine r_eAR hQ rfl rfl ?_
      simp (decide := true) only [go_sem, reduceIte, Nat.reduceAdd, Int.reduceToNat, Nat.reduceSub, Nat.reduceMul]
      all_goals first | exact wkEnd_same ⟨rfl, rfl⟩ | exact True.intro
    · replace hp : v46 = [] := hp
      subst hp
      simp only [impl_rungsOf_j7] at h
      try simp only [List.nil_append, List.length_nil, Int.natCast_zero] at h
      refine sem_cut fun k109 hk109 => ?_
      obtain ⟨v48, c110H, h⟩ := bind_some' h
      repeat' (first | with_reducible refine And.intro ?_ ?_ | ((with_reducible refine i_call (n := 43) ?_); refine call_open [] ?_) | ((with_reducible refine i_callW (n := 43) ?_); refine callW_use (Con.wk (con_slices_Clip_impl_Inst_impl_Inst [] v48 c110H) ⟨(by repeat' (first | exact wkE_nil | (with_reducible apply wkE_cons) | exact wkC_nil _ | exact wkV_nil _ | exact wkA_nil _ | (with_reducible apply wkV_agg) | (with_reducible apply wkV_tup) | (with_reducible apply wkA_agg) | exact wkA_refl _ | exact wkV_refl _ | exact wkS_nil | (with_reducible apply wkS_cons) | (with_reducible apply wkO_rc) | (with_reducible apply wkO_arr) | exact wkO_refl _ | exact wkL_nil | (with_reducible apply wkL_cons) | exact wkC_refl _ | exact wkT_nil | (with_reducible apply wkT_cons) | (with_reducible apply wkR_appR) | (with_reducible apply wkR_consR) | exact wkR_nilR _ | exact wkR_refl _)), trivial⟩) ?_; rintro x σ' ⟨rfl, rfl⟩ <;> ((with_reducible refine behind_go ?_))) | exact True.intro | with_reducible assumption | exact fun hf => False.elim hf | (intro hg; first | (simp +contextual [hg]; done) | grind) | omega | simp (decide := true) only [go_sem, reduceIte, Nat.reduceAdd, Int.reduceToNat, Nat.reduceSub, Nat.reduceMul])
      refine r_cN hk109 (r_ret ?_)
      obtain rfl := Option.some.inj h
      refine r_eAR hQ rfl rfl ?_
      simp (decide := true) only [go_sem, reduceIte, Nat.reduceAdd, Int.reduceToNat, Nat.reduceSub, Nat.reduceMul]
      all_goals first | exact wkEnd_same ⟨rfl, rfl⟩ | exact True.intro
  · intro k112 hk112 J111
    refine sem_cut fun k113 hk113 => ?_
    simp (decide := true) only [go_sem, reduceIte, Nat.reduceAdd, Int.reduceToNat, Nat.reduceSub, Nat.reduceMul]
    refine r_cN hk113 (sem_blk fun k114 hk114 => ?_)
    obtain ⟨oq175, hLq175, hKq175⟩ := bind_some' h
    clear h
    refine sem_loopP [0, 3, 4, 7, 8, 9] (fun (i : P2) (x : ((List (List Inst)) × Int × Int)) => match i with | .a => (⟨[(0, .fz 3 (R e_Inst (v1))), (3, .sl 0 0 ((x.1).length)), (4, .sc (.int .i64 (x.2.1))), (7, .fz 3 (R e_Inst (v1))), (8, .sc (.int .i64 (((v1).length : Int)))), (9, .sc (.int .i64 (x.2.2)))], [.arr true 1 (R e_L_Inst (x.1))]⟩ : St) | .b => (⟨[(0, .fz 3 (R e_Inst (v1))), (3, .sc (.slice none 0 0)), (4, .sc (.int .i64 (x.2.1))), (7, .fz 3 (R e_Inst (v1))), (8, .sc (.int .i64 (((v1).length : Int)))), (9, .sc (.int .i64 (x.2.2)))], []⟩ : St)) (fun (i : P2) (x : ((List (List Inst)) × Int × Int)) => (match i with | .a => True | .b => x.1 = [])) (impl_rungsOf_s11 v1) (.b) ([], 0, 0) hLq175 (by rfl) (by rfl) ⟨?_, rfl⟩ ?_
    · first | exact wkSt_same rfl | (simp (decide := true) only [go_sem, reduceIte, Nat.reduceAdd, Int.reduceToNat, Nat.reduceSub, Nat.reduceMul]; exact wkSt_same rfl)
    · rintro nq175 (_ | _) ⟨v57, v58, v59⟩ xq175 kq175 hkq175 hp h hIq175 hEq175
      · simp only [impl_rungsOf_s11] at h
        refine sem_cut fun k176 hk176 => ?_
        simp (decide := true) only [go_sem, reduceIte, Nat.reduceAdd, Int.reduceToNat, Nat.reduceSub, Nat.reduceMul]
        refine r_cN hk176 (sem_cut fun k177 hk177 => ?_)
        refine sem_ifh rfl h ?_ ?_ <;> clear h <;> intro h
        · refine r_skip (r_cN hk177 ?_)
          refine sem_cutJ (fun (_ : Unit) (x : ((List (List Inst)) × Int)) => (⟨[(0, .fz 3 (R e_Inst (v1))), (3, .sl 0 0 ((x.1).length)), (4, .sc (.int .i64 (x.2))), (7, .fz 3 (R e_Inst (v1))), (8, .sc (.int .i64 (((v1).length : Int)))), (9, .sc (.int .i64 (v59)))], [.arr true 1 (R e_L_Inst (x.1))]⟩ : St)) (fun (_ : Unit) (x : ((List (List Inst)) × Int)) => impl_rungsOf_j18 v59 x = some xq175) ?_ ?_
          · rintro _ ⟨v80, v81⟩ h
            simp only [impl_rungsOf_j18] at h
            simp (decide := true) only [go_sem, reduceIte, Nat.reduceAdd, Int.reduceToNat, Nat.reduceSub, Nat.reduceMul]
            obtain rfl := Option.some.inj h
            subst hkq175
            refine r_backP (.a) (v80, v81, (IntKind.i64.wrap (v59 + 1))) rfl rfl ⟨?_, trivial⟩ (hIq175 _ rfl)
            first | exact wkSt_same rfl | (simp (decide := true) only [go_sem, reduceIte, Nat.reduceAdd, Int.reduceToNat, Nat.reduceSub, Nat.reduceMul]; exact wkSt_same rfl)
          · intro k187 hk187 J186
            refine sem_blk fun k188 hk188 => sem_cut fun k189 hk189 => ?_
            obtain ⟨v82, c190H, h⟩ := bind_some' h
            obtain ⟨c190A, c190B, c190C, -⟩ := idx_some c190H
            repeat' (first | with_reducible refine And.intro ?_ ?_ | exact True.intro | with_reducible assumption | exact fun hf => False.elim hf | (intro hg; first | (simp +contextual [hg]; done) | grind) | omega | simp (decide := true) only [go_sem, reduceIte, Nat.reduceAdd, Int.reduceToNat, Nat.reduceSub, Nat.reduceMul, c190A, c190B, c190C])
            refine r_cN hk189 (sem_cut fun k191 hk191 => ?_)
            simp (decide := true) only [go_sem, reduceIte, Nat.reduceAdd, Int.reduceToNat, Nat.reduceSub, Nat.reduceMul]
            refine r_cN hk191 ?_
            refine sem_ifh rfl h ?_ ?_ <;> clear h <;> intro h
            · refine sem_cut fun k192 hk192 => ?_
              obtain ⟨v83, c193H, h⟩ := bind_some' h
              obtain ⟨c193A, c193B, c193C, c193D⟩ := prt_some c193H
              try simp only [Int.reduceToNat, Int.toNat_zero, Int.toNat_one, Int.toNat_natCast, List.take_length] at c193D
              obtain ⟨v84, c194H, h⟩ := bind_some' h
              obtain ⟨g195, h⟩ := gd_some h
              have g195A := apOk_1 g195; have g195B := apOk_2 g195
              repeat' (first | with_reducible refine And.intro ?_ ?_ | ((with_reducible refine i_call (n := 42) ?_); refine call_open [] ?_) | ((with_reducible refine i_callW (n := 42) ?_); refine callW_use (con_impl_copyList v83 v84 c194H) ?_; rintro x σ' ⟨rfl, rfl⟩ <;> ((with_reducible refine behind_go ?_))) | exact True.intro | with_reducible assumption | exact fun hf => False.elim hf | (intro hg; first | (simp +contextual [hg]; done) | grind) | omega | simp (decide := true) only [go_sem, reduceIte, Nat.reduceAdd, Int.reduceToNat, Nat.reduceSub, Nat.reduceMul, c193A, c193B, c193C, c193D, g195A, g195B])
              refine r_cN hk192 ?_
              simp (decide := true) only [go_sem, reduceIte, Nat.reduceAdd, Int.reduceToNat, Nat.reduceSub, Nat.reduceMul]
              refine r_bN hk188 (r_joinU J186 [0, 3, 4, 7, 8, 9] () _ rfl rfl ⟨?_, h⟩)
              first | exact wkSt_same rfl | (simp (decide := true) only [go_sem, reduceIte, Nat.reduceAdd, Int.reduceToNat, Nat.reduceSub, Nat.reduceMul]; exact wkSt_same rfl)
            · refine r_skip (r_bN hk188 ?_)
              refine r_joinU J186 [0, 3, 4, 7, 8, 9] () _ rfl rfl ⟨?_, h⟩
              first | exact wkSt_same rfl | (simp (decide := true) only [go_sem, reduceIte, Nat.reduceAdd, Int.reduceToNat, Nat.reduceSub, Nat.reduceMul]; exact wkSt_same rfl)
        · refine r_exit (r_cE hk177 ?_)
          obtain rfl := Option.some.inj h
          obtain rfl := hEq175 _ rfl
          have h := hKq175
          try simp only [Sum.elim_inl, Sum.elim_inr] at h
          refine r_kE hkq175 (r_bE hk114 ?_)
          refine r_joinU J111 [3] (.a) v57 rfl rfl ⟨?_, ⟨trivial, h⟩⟩
          first | exact wkSt_same rfl | (simp (decide := true) only [go_sem, reduceIte, Nat.reduceAdd, Int.reduceToNat, Nat.reduceSub, Nat.reduceMul]; exact wkSt_same rfl)
      · replace hp : v57 = [] := hp
        subst hp
        simp only [impl_rungsOf_s11] at h
        try simp only [List.nil_append, List.length_nil, Int.natCast_zero] at h
        refine sem_cut fun k196 hk196 => ?_
        simp (decide := true) only [go_sem, reduceIte, Nat.reduceAdd, Int.reduceToNat, Nat.reduceSub, Nat.reduceMul]
        refine r_cN hk196 (sem_cut fun k197 hk197 => ?_)
        refine sem_ifh rfl h ?_ ?_ <;> clear h <;> intro h
        · refine r_skip (r_cN hk197 ?_)
          refine sem_cutJ (fun (i : P2) (x : ((List (List Inst)) × Int)) => match i with | .a => (⟨[(0, .fz 3 (R e_Inst (v1))), (3, .sl 0 0 ((x.1).length)), (4, .sc (.int .i64 (x.2))), (7, .fz 3 (R e_Inst (v1))), (8, .sc (.int .i64 (((v1).length : Int)))), (9, .sc (.int .i64 (v59)))], [.arr true 1 (R e_L_Inst (x.1))]⟩ : St) | .b => (⟨[(0, .fz 3 (R e_Inst (v1))), (3, .sc (.slice none 0 0)), (4, .sc (.int .i64 (x.2))), (7, .fz 3 (R e_Inst (v1))), (8, .sc (.int .i64 (((v1).length : Int)))), (9, .sc (.int .i64 (v59)))], []⟩ : St)) (fun (i : P2) (x : ((List (List Inst)) × Int)) => (match i with | .a => True | .b => x.1 = []) ∧ impl_rungsOf_j18 v59 x = some xq175) ?_ ?_
          · rintro (_ | _) ⟨v88, v89⟩ ⟨hp, h⟩
            · simp only [impl_rungsOf_j18] at h
              simp (decide := true) only [go_sem, reduceIte, Nat.reduceAdd, Int.reduceToNat, Nat.reduceSub, Nat.reduceMul]
              obtain rfl := Option.some.inj h
              subst hkq175
              refine r_backP (.a) (v88, v89, (IntKind.i64.wrap (v59 + 1))) rfl rfl ⟨?_, trivial⟩ (hIq175 _ rfl)
              first | exact wkSt_same rfl | (simp (decide := true) only [go_sem, reduceIte, Nat.reduceAdd, Int.reduceToNat, Nat.reduceSub, Nat.reduceMul]; exact wkSt_same rfl)
            · replace hp : v88 = [] := hp
              subst hp
              simp only [impl_rungsOf_j18] at h
              try simp only [List.nil_append, List.length_nil, Int.natCast_zero] at h
              simp (decide := true) only [go_sem, reduceIte, Nat.reduceAdd, Int.reduceToNat, Nat.reduceSub, Nat.reduceMul]
              obtain rfl := Option.some.inj h
              subst hkq175
              refine r_backP (.b) ([], v89, (IntKind.i64.wrap (v59 + 1))) rfl rfl ⟨?_, rfl⟩ (hIq175 _ rfl)
              first | exact wkSt_same rfl | (simp (decide := true) only [go_sem, reduceIte, Nat.reduceAdd, Int.reduceToNat, Nat.reduceSub, Nat.reduceMul]; exact wkSt_same rfl)
          · intro k207 hk207 J206
            refine sem_blk fun k208 hk208 => sem_cut fun k209 hk209 => ?_
            obtain ⟨v90, c210H, h⟩ := bind_some' h
            obtain ⟨c210A, c210B, c210C, -⟩ := idx_some c210H
            repeat' (first | with_reducible refine And.intro ?_ ?_ | exact True.intro | with_reducible assumption | exact fun hf => False.elim hf | (intro hg; first | (simp +contextual [hg]; done) | grind) | omega | simp (decide := true) only [go_sem, reduceIte, Nat.reduceAdd, Int.reduceToNat, Nat.reduceSub, Nat.reduceMul, c210A, c210B, c210C])
            refine r_cN hk209 (sem_cut fun k211 hk211 => ?_)
            simp (decide := true) only [go_sem, reduceIte, Nat.reduceAdd, Int.reduceToNat, Nat.reduceSub, Nat.reduceMul]
            refine r_cN hk211 ?_
            refine sem_ifh rfl h ?_ ?_ <;> clear h <;> intro h
            · refine sem_cut fun k212 hk212 => ?_
              obtain ⟨v91, c213H, h⟩ := bind_some' h
              obtain ⟨c213A, c213B, c213C, c213D⟩ := prt_some c213H
              try simp only [Int.reduceToNat, Int.toNat_zero, Int.toNat_one, Int.toNat_natCast, List.take_length] at c213D
              obtain ⟨v92, c214H, h⟩ := bind_some' h
              obtain ⟨g215, h⟩ := gd_some h
              have g215A := apOk_1 g215; have g215B := apOk_2 g215
              repeat' (first | with_reducible refine And.intro ?_ ?_ | ((with_reducible refine i_call (n := 42) ?_); refine call_open [] ?_) | ((with_reducible refine i_callW (n := 42) ?_); refine callW_use (con_impl_copyList v91 v92 c214H) ?_; rintro x σ' ⟨rfl, rfl⟩ <;> ((with_reducible refine behind_go ?_))) | exact True.intro | with_reducible assumption | exact fun hf => False.elim hf | (intro hg; first | (simp +contextual [hg]; done) | grind) | omega | simp (decide := true) only [go_sem, reduceIte, Nat.reduceAdd, Int.reduceToNat, Nat.reduceSub, Nat.reduceMul, c213A, c213B, c213C, c213D, g215A, g215B])
              refine r_cN hk212 ?_
              simp (decide := true) only [go_sem, reduceIte, Nat.reduceAdd, Int.reduceToNat, Nat.reduceSub, Nat.reduceMul]
              refine r_bN hk208 (r_joinU J206 [0, 3, 4, 7, 8, 9] (.a) ([v92], (IntKind.i64.wrap (v59 + 1))) rfl rfl ⟨?_, ⟨trivial, h⟩⟩)
              first | exact wkSt_same rfl | (simp (decide := true) only [go_sem, reduceIte, Nat.reduceAdd, Int.reduceToNat, Nat.reduceSub, Nat.reduceMul]; exact wkSt_same rfl)
            · refine r_skip (r_bN hk208 ?_)
              refine r_joinU J206 [0, 3, 4, 7, 8, 9] (.b) ([], v58) rfl rfl ⟨?_, ⟨rfl, h⟩⟩
              first | exact wkSt_same rfl | (simp (decide := true) only [go_sem, reduceIte, Nat.reduceAdd, Int.reduceToNat, Nat.reduceSub, Nat.reduceMul]; exact wkSt_same rfl)
        · refine r_exit (r_cE hk197 ?_)
          obtain rfl := Option.some.inj h
          obtain rfl := hEq175 _ rfl
          have h := hKq175
          try simp only [Sum.elim_inl, Sum.elim_inr] at h
          refine r_kE hkq175 (r_bE hk114 ?_)
          refine r_joinU J111 [3] (.b) [] rfl rfl ⟨?_, ⟨rfl, h⟩⟩
          first | exact wkSt_same rfl | (simp (decide := true) only [go_sem, reduceIte, Nat.reduceAdd, Int.reduceToNat, Nat.reduceSub, Nat.reduceMul]; exact wkSt_same rfl)
noncomputable def impl_SureRungs (v1 : (List Inst)) : Option (List (List Inst)) :=
  (Option.bind (impl_verified v1) fun v2 => (cond (!v2) (some []) (Option.bind (impl_rungsOf v1) fun v3 => (some v3))))
set_option maxRecDepth 10000 in
set_option maxHeartbeats 4000000 in
theorem con_impl_SureRungs (v1 : (List Inst)) (res_ : (List (List Inst))) (h : impl_SureRungs v1 = some res_) : Con Tryd.prog C0 6 [.fz 3 (R e_Inst (v1))] []
    (fun x σ' => x = .fz 1 (R e_L_Inst (res_)) ∧ σ' = []) := by
  refine con_of_sem hP [0, 2, 5] [.tmp 2] Tryd.func6 (by unfold Tryd.f6; rfl) rfl rfl (Nat.le_of_ble_eq_true rfl) rfl ?_
  simp only [enter_cons, enter_nil, List.length_cons, List.length_nil, Nat.reduceAdd]
  generalize hQ : endQ _ _ _ _ = Q
  unfold impl_SureRungs at h
  refine sem_cut fun k1 hk1 => ?_
  simp (decide := true) only [go_sem, reduceIte, Nat.reduceAdd, Int.reduceToNat, Nat.reduceSub, Nat.reduceMul]
  refine r_cN hk1 (sem_cut fun k2 hk2 => ?_)
  refine sem_cut fun k3 hk3 => ?_
  obtain ⟨v2, c4H, h⟩ := bind_some' h
  repeat' (first | with_reducible refine And.intro ?_ ?_ | ((with_reducible refine i_call (n := 19) ?_); refine call_openF [] ?_) | ((with_reducible refine i_callW (n := 19) ?_); refine callW_use (con_impl_verified v1 v2 c4H) ?_; rintro x σ' ⟨rfl, rfl⟩ <;> ((refine ⟨?_, ?_⟩; (focus simp (decide := true) only [go_sem, reduceIte, Nat.reduceAdd, Int.reduceToNat, Nat.reduceSub, Nat.reduceMul])); (with_reducible refine behind_go ?_))) | exact True.intro | with_reducible assumption | exact fun hf => False.elim hf | (intro hg; first | (simp +contextual [hg]; done) | grind) | omega | simp (decide := true) only [go_sem, reduceIte, Nat.reduceAdd, Int.reduceToNat, Nat.reduceSub, Nat.reduceMul])
  refine r_cN hk3 ?_
  refine sem_ifh rfl h ?_ ?_ <;> clear h <;> intro h
  · refine sem_cut fun k5 hk5 => ?_
    simp (decide := true) only [go_sem, reduceIte, Nat.reduceAdd, Int.reduceToNat, Nat.reduceSub, Nat.reduceMul]
    refine r_cN hk5 (r_ret ?_)
    refine r_cR hk2 ?_
    obtain rfl := Option.some.inj h
    refine r_eAR hQ rfl rfl ?_
    simp (decide := true) only [go_sem, reduceIte, Nat.reduceAdd, Int.reduceToNat, Nat.reduceSub, Nat.reduceMul]
    all_goals first | exact True.intro | (refine wkEnd_mk ?_ ?_ (⟨rfl, rfl⟩) <;> repeat' (first | exact wkE_nil | (with_reducible apply wkE_cons) | exact wkC_nil _ | exact wkV_nil _ | exact wkA_nil _ | (with_reducible apply wkV_agg) | (with_reducible apply wkV_tup) | (with_reducible apply wkA_agg) | exact wkA_refl _ | exact wkV_refl _ | exact wkS_nil | (with_reducible apply wkS_cons) | (with_reducible apply wkO_rc) | (with_reducible apply wkO_arr) | exact wkO_refl _ | exact wkL_nil | (with_reducible apply wkL_cons) | exact wkC_refl _ | exact wkT_nil | (with_reducible apply wkT_cons) | (with_reducible apply wkR_appR) | (with_reducible apply wkR_consR) | exact wkR_nilR _ | exact wkR_refl _))
  · refine r_skip (r_cN hk2 ?_)
    refine sem_cut fun k6 hk6 => ?_
    obtain ⟨v3, c7H, h⟩ := bind_some' h
    repeat' (first | with_reducible refine And.intro ?_ ?_ | ((with_reducible refine i_call (n := 20) ?_); refine call_open [] ?_) | ((with_reducible refine i_callW (n := 20) ?_); refine callW_use (con_impl_rungsOf v1 v3 c7H) ?_; rintro x σ' ⟨rfl, rfl⟩ <;> ((with_reducible refine behind_go ?_))) | exact True.intro | with_reducible assumption | exact fun hf => False.elim hf | (intro hg; first | (simp +contextual [hg]; done) | grind) | omega | simp (decide := true) only [go_sem, reduceIte, Nat.reduceAdd, Int.reduceToNat, Nat.reduceSub, Nat.reduceMul])
    refine r_cN hk6 (r_ret ?_)
    obtain rfl := Option.some.inj h
    refine r_eAR hQ rfl rfl ?_
    simp (decide := true) only [go_sem, reduceIte, Nat.reduceAdd, Int.reduceToNat, Nat.reduceSub, Nat.reduceMul]
    all_goals first | exact wkEnd_same ⟨rfl, rfl⟩ | exact True.intro
noncomputable def spec_DevOk (v1 : DevArg) : Option Bool :=
  (cond (v1.Kind == 11) (some (((decide (v1.N ≥ (-32768))) && (decide (v1.N ≤ 32767))) && (v1.P == 0))) (cond (v1.Kind == 12) (some (((((decide (v1.N ≥ (-999999999))) && (decide (v1.N ≤ 999999999))) && (decide (v1.P ≥ 1))) && (decide (v1.P ≤ 6))) && ((v1.P == 1) || (((v1.N).tmod 10) != 0)))) (cond (v1.Kind == 13) (some (((decide (v1.N ≥ 0)) && (decide (v1.N ≤ 3))) && (v1.P == 0))) (cond (decide (v1.N ≥ 0)) (Option.bind (spec_DevSize v1.Kind) fun v2 => (some ((decide (v1.N < v2)) && (v1.P == 0)))) (some false)))))
set_option maxRecDepth 10000 in
set_option maxHeartbeats 4000000 in
theorem con_spec_DevOk (v1 : DevArg) (res_ : Bool) (h : spec_DevOk v1 = some res_) : Con Tryd.prog C0 83 [.agg [.sc (.int .i64 (v1.Kind)), .sc (.int .i64 (v1.N)), .sc (.int .i64 (v1.P))]] []
    (fun x σ' => x = .sc (.bool (res_)) ∧ σ' = []) := by
  refine con_of_sem hP [0, 1, 2, 4, 5, 20, 51] [.tmp 2] Tryd.func83 (by unfold Tryd.f83; rfl) rfl rfl (Nat.le_of_ble_eq_true rfl) rfl ?_
  simp only [enter_cons, enter_nil, List.length_cons, List.length_nil, Nat.reduceAdd]
  generalize hQ : endQ _ _ _ _ = Q
  unfold spec_DevOk at h
  refine sem_cut fun k1 hk1 => ?_
  simp (decide := true) only [go_sem, reduceIte, Nat.reduceAdd, Int.reduceToNat, Nat.reduceSub, Nat.reduceMul]
  refine r_cN hk1 (sem_cut fun k2 hk2 => ?_)
  refine sem_cut fun k3 hk3 => ?_
  simp (decide := true) only [go_sem, reduceIte, Nat.reduceAdd, Int.reduceToNat, Nat.reduceSub, Nat.reduceMul]
  refine r_cN hk3 (sem_blk fun k4 hk4 => ?_)
  refine sem_cut fun k5 hk5 => ?_
  simp (decide := true) only [go_sem, reduceIte, Nat.reduceAdd, Int.reduceToNat, Nat.reduceSub, Nat.reduceMul]
  refine r_cN hk5 ?_
  refine sem_ifh rfl h ?_ ?_ <;> clear h <;> intro h
  · refine sem_cut fun k6 hk6 => ?_
    repeat' (first | with_reducible refine And.intro ?_ ?_ | exact True.intro | with_reducible assumption | exact fun hf => False.elim hf | (intro hg; first | (simp +contextual [hg]; done) | grind) | omega | simp (decide := true) only [go_sem, reduceIte, Nat.reduceAdd, Int.reduceToNat, Nat.reduceSub, Nat.reduceMul])
    refine r_cN hk6 (r_ret ?_)
    refine r_bR hk4 (r_cR hk2 ?_)
    obtain rfl := Option.some.inj h
    refine r_eAR hQ rfl rfl ?_
    simp (decide := true) only [go_sem, reduceIte, Nat.reduceAdd, Int.reduceToNat, Nat.reduceSub, Nat.reduceMul]
    all_goals first | exact wkEnd_same ⟨rfl, rfl⟩ | exact True.intro
  · refine sem_cut fun k7 hk7 => ?_
    simp (decide := true) only [go_sem, reduceIte, Nat.reduceAdd, Int.reduceToNat, Nat.reduceSub, Nat.reduceMul]
    refine r_cN hk7 ?_
    refine sem_ifh rfl h ?_ ?_ <;> clear h <;> intro h
    · refine sem_cut fun k8 hk8 => ?_
      repeat' (first | with_reducible refine And.intro ?_ ?_ | exact True.intro | with_reducible assumption | exact fun hf => False.elim hf | (intro hg; first | (simp +contextual [hg]; done) | grind) | omega | simp (decide := true) only [go_sem, reduceIte, Nat.reduceAdd, Int.reduceToNat, Nat.reduceSub, Nat.reduceMul])
      refine r_cN hk8 (r_ret ?_)
      refine r_bR hk4 (r_cR hk2 ?_)
      obtain rfl := Option.some.inj h
      refine r_eAR hQ rfl rfl ?_
      simp (decide := true) only [go_sem, reduceIte, Nat.reduceAdd, Int.reduceToNat, Nat.reduceSub, Nat.reduceMul]
      all_goals first | exact wkEnd_same ⟨rfl, rfl⟩ | exact True.intro
    · refine sem_cut fun k9 hk9 => ?_
      simp (decide := true) only [go_sem, reduceIte, Nat.reduceAdd, Int.reduceToNat, Nat.reduceSub, Nat.reduceMul]
      refine r_cN hk9 ?_
      refine sem_ifh rfl h ?_ ?_ <;> clear h <;> intro h
      · refine sem_cut fun k10 hk10 => ?_
        repeat' (first | with_reducible refine And.intro ?_ ?_ | exact True.intro | with_reducible assumption | exact fun hf => False.elim hf | (intro hg; first | (simp +contextual [hg]; done) | grind) | omega | simp (decide := true) only [go_sem, reduceIte, Nat.reduceAdd, Int.reduceToNat, Nat.reduceSub, Nat.reduceMul])
        refine r_cN hk10 (r_ret ?_)
        refine r_bR hk4 (r_cR hk2 ?_)
        obtain rfl := Option.some.inj h
        refine r_eAR hQ rfl rfl ?_
        simp (decide := true) only [go_sem, reduceIte, Nat.reduceAdd, Int.reduceToNat, Nat.reduceSub, Nat.reduceMul]
        all_goals first | exact wkEnd_same ⟨rfl, rfl⟩ | exact True.intro
      · refine r_skip (r_bN hk4 ?_)
        refine r_cN hk2 (sem_cut fun k11 hk11 => ?_)
        rcases Bool.eq_false_or_eq_true (decide (v1.N ≥ 0)) with g12 | g12
        · replace h := cond_t h g12
          obtain ⟨v2, c13H, h⟩ := bind_some' h
          with_reducible refine sem_plan (id := 8) (.take 0 (.take 1 (.take 2 (.take 3 (.take 4 (.take 5 (.take 6 (.take 7 (.one 8 (.take 9 (.take 10 (.take 11 (.take 12 (.take 13 (.take 14 (.take 15 (.take 16 .done))))))))))))))))) [0] ?_ ?_
          focus kernel_rfl
          repeat' (first | with_reducible refine And.intro ?_ ?_ | ((with_reducible refine i_call (n := 107) ?_); refine call_openF [] ?_) | ((with_reducible refine i_callW (n := 107) ?_); refine callW_use (con_spec_DevSize v1.Kind v2 c13H) ?_; rintro x σ' ⟨rfl, rfl⟩ <;> ((refine ⟨?_, ?_⟩; (focus simp (decide := true) only [go_sem, reduceIte, Nat.reduceAdd, Int.reduceToNat, Nat.reduceSub, Nat.reduceMul, g12])); (with_reducible refine behind_go ?_))) | exact True.intro | with_reducible assumption | exact fun hf => False.elim hf | (intro hg; first | (simp +contextual [hg]; done) | grind) | omega | simp (decide := true) only [go_sem, reduceIte, Nat.reduceAdd, Int.reduceToNat, Nat.reduceSub, Nat.reduceMul, g12])
          refine r_cN hk11 (r_ret ?_)
          obtain rfl := Option.some.inj h
          refine r_eAR hQ rfl rfl ?_
          simp (decide := true) only [go_sem, reduceIte, Nat.reduceAdd, Int.reduceToNat, Nat.reduceSub, Nat.reduceMul]
          all_goals first | exact wkEnd_same ⟨rfl, rfl⟩ | exact True.intro
        · replace h := cond_f h g12
          with_reducible refine sem_plan (id := 8) (.take 0 (.take 1 (.take 2 (.take 3 (.take 4 (.take 5 (.take 6 (.take 7 (.one 8 (.take 9 (.take 10 (.take 11 (.take 12 (.take 13 (.take 14 (.take 15 (.take 16 .done))))))))))))))))) [0] ?_ ?_
          focus kernel_rfl
          repeat' (first | with_reducible refine And.intro ?_ ?_ | exact True.intro | with_reducible assumption | exact fun hf => False.elim hf | (intro hg; first | (simp +contextual [hg]; done) | grind) | omega | simp (decide := true) only [go_sem, reduceIte, Nat.reduceAdd, Int.reduceToNat, Nat.reduceSub, Nat.reduceMul, g12])
          refine r_cN hk11 (r_ret ?_)
          obtain rfl := Option.some.inj h
          refine r_eAR hQ rfl rfl ?_
          simp (decide := true) only [go_sem, reduceIte, Nat.reduceAdd, Int.reduceToNat, Nat.reduceSub, Nat.reduceMul]
          all_goals first | exact wkEnd_same ⟨rfl, rfl⟩ | exact True.intro
noncomputable def spec_DevIsBit (v1 : DevArg) : Option Bool :=
  (Option.bind (spec_DevOk v1) fun v2 => (some (v2 && ((((decide (v1.Kind ≤ 4)) || (v1.Kind == 6)) || (v1.Kind == 7)) || (v1.Kind == 8)))))
set_option maxRecDepth 10000 in
set_option maxHeartbeats 4000000 in
theorem con_spec_DevIsBit (v1 : DevArg) (res_ : Bool) (h : spec_DevIsBit v1 = some res_) : Con Tryd.prog C0 82 [.agg [.sc (.int .i64 (v1.Kind)), .sc (.int .i64 (v1.N)), .sc (.int .i64 (v1.P))]] []
    (fun x σ' => x = .sc (.bool (res_)) ∧ σ' = []) := by
  refine con_of_sem hP [0, 1, 2] [.tmp 2] Tryd.func82 (by unfold Tryd.f82; rfl) rfl rfl (Nat.le_of_ble_eq_true rfl) rfl ?_
  simp only [enter_cons, enter_nil, List.length_cons, List.length_nil, Nat.reduceAdd]
  generalize hQ : endQ _ _ _ _ = Q
  unfold spec_DevIsBit at h
  refine sem_cut fun k1 hk1 => ?_
  simp (decide := true) only [go_sem, reduceIte, Nat.reduceAdd, Int.reduceToNat, Nat.reduceSub, Nat.reduceMul]
  refine r_cN hk1 (sem_cut fun k2 hk2 => ?_)
  obtain ⟨v2, c3H, h⟩ := bind_some' h
  repeat' (first | with_reducible refine And.intro ?_ ?_ | ((with_reducible refine i_call (n := 83) ?_); refine call_openF [] ?_) | ((with_reducible refine i_callW (n := 83) ?_); refine callW_use (con_spec_DevOk v1 v2 c3H) ?_; rintro x σ' ⟨rfl, rfl⟩ <;> ((refine ⟨?_, ?_⟩; (focus simp (decide := true) only [go_sem, reduceIte, Nat.reduceAdd, Int.reduceToNat, Nat.reduceSub, Nat.reduceMul])); (with_reducible refine behind_go ?_))) | exact True.intro | with_reducible assumption | exact fun hf => False.elim hf | (intro hg; first | (simp +contextual [hg]; done) | grind) | omega | simp (decide := true) only [go_sem, reduceIte, Nat.reduceAdd, Int.reduceToNat, Nat.reduceSub, Nat.reduceMul])
  refine r_cN hk2 (r_ret ?_)
  obtain rfl := Option.some.inj h
  refine r_eAR hQ rfl rfl ?_
  simp (decide := true) only [go_sem, reduceIte, Nat.reduceAdd, Int.reduceToNat, Nat.reduceSub, Nat.reduceMul]
  all_goals first | exact wkEnd_same ⟨rfl, rfl⟩ | exact True.intro
noncomputable def spec_DevIsWhole (v1 : DevArg) : Option Bool :=
  (Option.bind (spec_DevOk v1) fun v2 => (some (v2 && ((((v1.Kind == 7) || (v1.Kind == 8)) || (v1.Kind == 9)) || (v1.Kind == 11)))))
set_option maxRecDepth 10000 in
set_option maxHeartbeats 4000000 in
theorem con_spec_DevIsWhole (v1 : DevArg) (res_ : Bool) (h : spec_DevIsWhole v1 = some res_) : Con Tryd.prog C0 84 [.agg [.sc (.int .i64 (v1.Kind)), .sc (.int .i64 (v1.N)), .sc (.int .i64 (v1.P))]] []
    (fun x σ' => x = .sc (.bool (res_)) ∧ σ' = []) := by
  refine con_of_sem hP [0, 1, 2] [.tmp 2] Tryd.func84 (by unfold Tryd.f84; rfl) rfl rfl (Nat.le_of_ble_eq_true rfl) rfl ?_
  simp only [enter_cons, enter_nil, List.length_cons, List.length_nil, Nat.reduceAdd]
  generalize hQ : endQ _ _ _ _ = Q
  unfold spec_DevIsWhole at h
  refine sem_cut fun k1 hk1 => ?_
  simp (decide := true) only [go_sem, reduceIte, Nat.reduceAdd, Int.reduceToNat, Nat.reduceSub, Nat.reduceMul]
  refine r_cN hk1 (sem_cut fun k2 hk2 => ?_)
  obtain ⟨v2, c3H, h⟩ := bind_some' h
  repeat' (first | with_reducible refine And.intro ?_ ?_ | ((with_reducible refine i_call (n := 83) ?_); refine call_openF [] ?_) | ((with_reducible refine i_callW (n := 83) ?_); refine callW_use (con_spec_DevOk v1 v2 c3H) ?_; rintro x σ' ⟨rfl, rfl⟩ <;> ((refine ⟨?_, ?_⟩; (focus simp (decide := true) only [go_sem, reduceIte, Nat.reduceAdd, Int.reduceToNat, Nat.reduceSub, Nat.reduceMul])); (with_reducible refine behind_go ?_))) | exact True.intro | with_reducible assumption | exact fun hf => False.elim hf | (intro hg; first | (simp +contextual [hg]; done) | grind) | omega | simp (decide := true) only [go_sem, reduceIte, Nat.reduceAdd, Int.reduceToNat, Nat.reduceSub, Nat.reduceMul])
  refine r_cN hk2 (r_ret ?_)
  obtain rfl := Option.some.inj h
  refine r_eAR hQ rfl rfl ?_
  simp (decide := true) only [go_sem, reduceIte, Nat.reduceAdd, Int.reduceToNat, Nat.reduceSub, Nat.reduceMul]
  all_goals first | exact wkEnd_same ⟨rfl, rfl⟩ | exact True.intro
noncomputable def spec_DevIsReal (v1 : DevArg) : Option Bool :=
  (Option.bind (spec_DevOk v1) fun v2 => (some (v2 && (((v1.Kind == 10) || (v1.Kind == 12)) || (v1.Kind == 13)))))
set_option maxRecDepth 10000 in
set_option maxHeartbeats 4000000 in
theorem con_spec_DevIsReal (v1 : DevArg) (res_ : Bool) (h : spec_DevIsReal v1 = some res_) : Con Tryd.prog C0 85 [.agg [.sc (.int .i64 (v1.Kind)), .sc (.int .i64 (v1.N)), .sc (.int .i64 (v1.P))]] []
    (fun x σ' => x = .sc (.bool (res_)) ∧ σ' = []) := by
  refine con_of_sem hP [0, 1, 2] [.tmp 2] Tryd.func85 (by unfold Tryd.f85; rfl) rfl rfl (Nat.le_of_ble_eq_true rfl) rfl ?_
  simp only [enter_cons, enter_nil, List.length_cons, List.length_nil, Nat.reduceAdd]
  generalize hQ : endQ _ _ _ _ = Q
  unfold spec_DevIsReal at h
  refine sem_cut fun k1 hk1 => ?_
  simp (decide := true) only [go_sem, reduceIte, Nat.reduceAdd, Int.reduceToNat, Nat.reduceSub, Nat.reduceMul]
  refine r_cN hk1 (sem_cut fun k2 hk2 => ?_)
  obtain ⟨v2, c3H, h⟩ := bind_some' h
  repeat' (first | with_reducible refine And.intro ?_ ?_ | ((with_reducible refine i_call (n := 83) ?_); refine call_openF [] ?_) | ((with_reducible refine i_callW (n := 83) ?_); refine callW_use (con_spec_DevOk v1 v2 c3H) ?_; rintro x σ' ⟨rfl, rfl⟩ <;> ((refine ⟨?_, ?_⟩; (focus simp (decide := true) only [go_sem, reduceIte, Nat.reduceAdd, Int.reduceToNat, Nat.reduceSub, Nat.reduceMul])); (with_reducible refine behind_go ?_))) | exact True.intro | with_reducible assumption | exact fun hf => False.elim hf | (intro hg; first | (simp +contextual [hg]; done) | grind) | omega | simp (decide := true) only [go_sem, reduceIte, Nat.reduceAdd, Int.reduceToNat, Nat.reduceSub, Nat.reduceMul])
  refine r_cN hk2 (r_ret ?_)
  obtain rfl := Option.some.inj h
  refine r_eAR hQ rfl rfl ?_
  simp (decide := true) only [go_sem, reduceIte, Nat.reduceAdd, Int.reduceToNat, Nat.reduceSub, Nat.reduceMul]
  all_goals first | exact wkEnd_same ⟨rfl, rfl⟩ | exact True.intro
noncomputable def spec_ElemIsContact (v1 : Elem) : Option Bool :=
  (cond (decide (v1.Op < 1)) (some false) (cond (decide (v1.Op > 10)) (some false) (Option.bind (spec_ElemArity v1.Op) fun v2 => (cond (((v1.Args).length : Int) != v2) (some false) (cond (decide (v1.Op ≤ 2)) (Option.bind (idx v1.Args (0)) fun v3 => (Option.bind (spec_DevIsBit v3) fun v4 => (some v4))) (cond (decide (v1.Op ≤ 4)) (Option.bind (idx v1.Args (0)) fun v5 => (Option.bind (spec_DevIsBit v5) fun v6 => (cond v6 (Option.bind (idx v1.Args (1)) fun v7 => (Option.bind (spec_DevOk v7) fun v8 => (cond v8 (some (v7.Kind == 5)) (some false)))) (some false)))) (Option.bind (idx v1.Args (0)) fun v9 => (Option.bind (spec_DevIsWhole v9) fun v10 => (cond v10 (Option.bind (idx v1.Args (1)) fun v11 => (Option.bind (spec_DevIsWhole v11) fun v12 => (cond v12 (some true) (Option.bind (spec_DevIsReal v9) fun v13 => (cond v13 (Option.bind (spec_DevIsReal v11) fun v14 => (some v14)) (some false)))))) (Option.bind (spec_DevIsReal v9) fun v15 => (cond v15 (Option.bind (idx v1.Args (1)) fun v16 => (Option.bind (spec_DevIsReal v16) fun v17 => (some v17))) (some false))))))))))))
set_option maxRecDepth 10000 in
set_option maxHeartbeats 4000000 in
theorem con_spec_ElemIsContact (v1 : Elem) (res_ : Bool) (h : spec_ElemIsContact v1 = some res_) : Con Tryd.prog C0 60 [.agg [.sc (.int .i64 (v1.Op)), .fz 3 (R e_DevArg (v1.Args))]] []
    (fun x σ' => x = .sc (.bool (res_)) ∧ σ' = []) := by
  refine con_of_sem hP [0, 1, 2, 19, 22, 30] [.tmp 2] Tryd.func60 (by unfold Tryd.f60; rfl) rfl rfl (Nat.le_of_ble_eq_true rfl) rfl ?_
  simp only [enter_cons, enter_nil, List.length_cons, List.length_nil, Nat.reduceAdd]
  generalize hQ : endQ _ _ _ _ = Q
  unfold spec_ElemIsContact at h
  refine sem_cut fun k1 hk1 => ?_
  simp (decide := true) only [go_sem, reduceIte, Nat.reduceAdd, Int.reduceToNat, Nat.reduceSub, Nat.reduceMul]
  refine r_cN hk1 (sem_cut fun k2 hk2 => ?_)
  refine sem_cut fun k3 hk3 => ?_
  rcases Bool.eq_false_or_eq_true (decide (v1.Op < 1)) with g4 | g4
  · replace h := cond_t h g4
    with_reducible refine sem_plan (id := 1) (.take 0 (.take 1 (.take 2 (.take 3 (.take 4 (.take 5 (.take 6 (.take 7 (.take 8 (.take 9 (.take 10 (.take 11 (.take 12 (.take 13 (.one 14 (.take 15 (.take 16 .done))))))))))))))))) [0] ?_ ?_
    focus kernel_rfl
    repeat' (first | with_reducible refine And.intro ?_ ?_ | exact True.intro | with_reducible assumption | exact fun hf => False.elim hf | (intro hg; first | (simp +contextual [hg]; done) | grind) | omega | simp (decide := true) only [go_sem, reduceIte, Nat.reduceAdd, Int.reduceToNat, Nat.reduceSub, Nat.reduceMul, g4])
    refine r_cN hk3 (sem_ifT rfl ?_)
    try replace h := cond_t h rfl
    refine sem_cut fun k5 hk5 => ?_
    simp (decide := true) only [go_sem, reduceIte, Nat.reduceAdd, Int.reduceToNat, Nat.reduceSub, Nat.reduceMul]
    refine r_cN hk5 (r_ret ?_)
    refine r_cR hk2 ?_
    obtain rfl := Option.some.inj h
    refine r_eAR hQ rfl rfl ?_
    simp (decide := true) only [go_sem, reduceIte, Nat.reduceAdd, Int.reduceToNat, Nat.reduceSub, Nat.reduceMul]
    all_goals first | exact wkEnd_same ⟨rfl, rfl⟩ | exact True.intro
  · replace h := cond_f h g4
    rcases Bool.eq_false_or_eq_true (decide (v1.Op > 10)) with g6 | g6
    · replace h := cond_t h g6
      with_reducible refine sem_plan (id := 1) (.take 0 (.take 1 (.take 2 (.take 3 (.take 4 (.take 5 (.take 6 (.take 7 (.take 8 (.take 9 (.take 10 (.take 11 (.take 12 (.take 13 (.one 14 (.take 15 (.take 16 .done))))))))))))))))) [0] ?_ ?_
      focus kernel_rfl
      repeat' (first | with_reducible refine And.intro ?_ ?_ | exact True.intro | with_reducible assumption | exact fun hf => False.elim hf | (intro hg; first | (simp +contextual [hg]; done) | grind) | omega | simp (decide := true) only [go_sem, reduceIte, Nat.reduceAdd, Int.reduceToNat, Nat.reduceSub, Nat.reduceMul, g4, g6])
      refine r_cN hk3 (sem_ifT rfl ?_)
      try replace h := cond_t h rfl
      refine sem_cut fun k7 hk7 => ?_
      simp (decide := true) only [go_sem, reduceIte, Nat.reduceAdd, Int.reduceToNat, Nat.reduceSub, Nat.reduceMul]
      refine r_cN hk7 (r_ret ?_)
      refine r_cR hk2 ?_
      obtain rfl := Option.some.inj h
      refine r_eAR hQ rfl rfl ?_
      simp (decide := true) only [go_sem, reduceIte, Nat.reduceAdd, Int.reduceToNat, Nat.reduceSub, Nat.reduceMul]
      all_goals first | exact wkEnd_same ⟨rfl, rfl⟩ | exact True.intro
    · replace h := cond_f h g6
      obtain ⟨v2, c8H, h⟩ := bind_some' h
      with_reducible refine sem_plan (id := 1) (.take 0 (.take 1 (.take 2 (.take 3 (.take 4 (.take 5 (.take 6 (.take 7 (.take 8 (.take 9 (.take 10 (.take 11 (.take 12 (.take 13 (.one 14 (.take 15 (.take 16 .done))))))))))))))))) [0] ?_ ?_
      focus kernel_rfl
      repeat' (first | with_reducible refine And.intro ?_ ?_ | ((with_reducible refine i_call (n := 75) ?_); refine call_openF [] ?_) | ((with_reducible refine i_callW (n := 75) ?_); refine callW_use (con_spec_ElemArity v1.Op v2 c8H) ?_; rintro x σ' ⟨rfl, rfl⟩ <;> ((refine ⟨?_, ?_⟩; (focus simp (decide := true) only [go_sem, reduceIte, Nat.reduceAdd, Int.reduceToNat, Nat.reduceSub, Nat.reduceMul, g4, g6])); (with_reducible refine behind_go ?_))) | exact True.intro | with_reducible assumption | exact fun hf => False.elim hf | (intro hg; first | (simp +contextual [hg]; done) | grind) | omega | simp (decide := true) only [go_sem, reduceIte, Nat.reduceAdd, Int.reduceToNat, Nat.reduceSub, Nat.reduceMul, g4, g6])
      refine r_cN hk3 ?_
      refine sem_ifh rfl h ?_ ?_ <;> clear h <;> intro h
      · refine sem_cut fun k9 hk9 => ?_
        simp (decide := true) only [go_sem, reduceIte, Nat.reduceAdd, Int.reduceToNat, Nat.reduceSub, Nat.reduceMul]
        refine r_cN hk9 (r_ret ?_)
        refine r_cR hk2 ?_
        obtain rfl := Option.some.inj h
        refine r_eAR hQ rfl rfl ?_
        simp (decide := true) only [go_sem, reduceIte, Nat.reduceAdd, Int.reduceToNat, Nat.reduceSub, Nat.reduceMul]
        all_goals first | exact wkEnd_same ⟨rfl, rfl⟩ | exact True.intro
      · refine r_skip (r_cN hk2 ?_)
        refine sem_cut fun k10 hk10 => sem_cut fun k11 hk11 => ?_
        simp (decide := true) only [go_sem, reduceIte, Nat.reduceAdd, Int.reduceToNat, Nat.reduceSub, Nat.reduceMul]
        refine r_cN hk11 ?_
        refine sem_ifh rfl h ?_ ?_ <;> clear h <;> intro h
        · refine sem_cut fun k12 hk12 => ?_
          obtain ⟨v3, c13H, h⟩ := bind_some' h
          obtain ⟨c13A, c13B, c13C, -⟩ := idx_some c13H
          try simp only [Int.reduceToNat, Int.toNat_zero, Int.toNat_one] at c13C
          obtain ⟨v4, c14H, h⟩ := bind_some' h
          repeat' (first | with_reducible refine And.intro ?_ ?_ | ((with_reducible refine i_call (n := 82) ?_); refine call_openF [] ?_) | ((with_reducible refine i_callW (n := 82) ?_); refine callW_use (con_spec_DevIsBit v3 v4 c14H) ?_; rintro x σ' ⟨rfl, rfl⟩ <;> ((refine ⟨?_, ?_⟩; (focus simp (decide := true) only [go_sem, reduceIte, Nat.reduceAdd, Int.reduceToNat, Nat.reduceSub, Nat.reduceMul, c13A, c13B, c13C])); (with_reducible refine behind_go ?_))) | exact True.intro | with_reducible assumption | exact fun hf => False.elim hf | (intro hg; first | (simp +contextual [hg]; done) | grind) | omega | simp (decide := true) only [go_sem, reduceIte, Nat.reduceAdd, Int.reduceToNat, Nat.reduceSub, Nat.reduceMul, c13A, c13B, c13C])
          refine r_cN hk12 (r_ret ?_)
          refine r_cR hk10 ?_
          obtain rfl := Option.some.inj h
          refine r_eAR hQ rfl rfl ?_
          simp (decide := true) only [go_sem, reduceIte, Nat.reduceAdd, Int.reduceToNat, Nat.reduceSub, Nat.reduceMul]
          all_goals first | exact wkEnd_same ⟨rfl, rfl⟩ | exact True.intro
        · refine r_skip (r_cN hk10 ?_)
          refine sem_cut fun k15 hk15 => sem_cut fun k16 hk16 => ?_
          simp (decide := true) only [go_sem, reduceIte, Nat.reduceAdd, Int.reduceToNat, Nat.reduceSub, Nat.reduceMul]
          refine r_cN hk16 ?_
          refine sem_ifh rfl h ?_ ?_ <;> clear h <;> intro h
          · refine sem_cut fun k17 hk17 => ?_
            obtain ⟨v5, c18H, h⟩ := bind_some' h
            obtain ⟨c18A, c18B, c18C, -⟩ := idx_some c18H
            try simp only [Int.reduceToNat, Int.toNat_zero, Int.toNat_one] at c18C
            obtain ⟨v6, c19H, h⟩ := bind_some' h
            rcases Bool.eq_false_or_eq_true v6 with g20 | g20
            · replace h := cond_t h g20
              obtain ⟨v7, c21H, h⟩ := bind_some' h
              obtain ⟨c21A, c21B, c21C, -⟩ := idx_some c21H
              try simp only [Int.reduceToNat, Int.toNat_zero, Int.toNat_one] at c21C
              obtain ⟨v8, c22H, h⟩ := bind_some' h
              rcases Bool.eq_false_or_eq_true v8 with g23 | g23
              · replace h := cond_t h g23
                repeat' (first | with_reducible refine And.intro ?_ ?_ | ((with_reducible refine i_call (n := 82) ?_); refine call_openF [] ?_) | ((with_reducible refine i_callW (n := 82) ?_); refine callW_use (con_spec_DevIsBit v5 v6 c19H) ?_; rintro x σ' ⟨rfl, rfl⟩ <;> ((refine ⟨?_, ?_⟩; (focus simp (decide := true) only [go_sem, reduceIte, Nat.reduceAdd, Int.reduceToNat, Nat.reduceSub, Nat.reduceMul, c18A, c18B, c18C, g20, c21A, c21B, c21C, g23])); (with_reducible refine behind_go ?_))) | ((with_reducible refine i_call (n := 83) ?_); refine call_openF [] ?_) | ((with_reducible refine i_callW (n := 83) ?_); refine callW_use (con_spec_DevOk v7 v8 c22H) ?_; rintro x σ' ⟨rfl, rfl⟩ <;> ((refine ⟨?_, ?_⟩; (focus simp (decide := true) only [go_sem, reduceIte, Nat.reduceAdd, Int.reduceToNat, Nat.reduceSub, Nat.reduceMul, c18A, c18B, c18C, g20, c21A, c21B, c21C, g23])); (with_reducible refine behind_go ?_))) | exact True.intro | with_reducible assumption | exact fun hf => False.elim hf | (intro hg; first | (simp +contextual [hg]; done) | grind) | omega | simp (decide := true) only [go_sem, reduceIte, Nat.reduceAdd, Int.reduceToNat, Nat.reduceSub, Nat.reduceMul, c18A, c18B, c18C, g20, c21A, c21B, c21C, g23])
                refine r_cN hk17 (r_ret ?_)
                refine r_cR hk15 ?_
                obtain rfl := Option.some.inj h
                refine r_eAR hQ rfl rfl ?_
                simp (decide := true) only [go_sem, reduceIte, Nat.reduceAdd, Int.reduceToNat, Nat.reduceSub, Nat.reduceMul]
                all_goals first | exact wkEnd_same ⟨rfl, rfl⟩ | exact True.intro
              · replace h := cond_f h g23
                repeat' (first | with_reducible refine And.intro ?_ ?_ | ((with_reducible refine i_call (n := 82) ?_); refine call_openF [] ?_) | ((with_reducible refine i_callW (n := 82) ?_); refine callW_use (con_spec_DevIsBit v5 v6 c19H) ?_; rintro x σ' ⟨rfl, rfl⟩ <;> ((refine ⟨?_, ?_⟩; (focus simp (decide := true) only [go_sem, reduceIte, Nat.reduceAdd, Int.reduceToNat, Nat.reduceSub, Nat.reduceMul, c18A, c18B, c18C, g20, c21A, c21B, c21C, g23])); (with_reducible refine behind_go ?_))) | ((with_reducible refine i_call (n := 83) ?_); refine call_openF [] ?_) | ((with_reducible refine i_callW (n := 83) ?_); refine callW_use (con_spec_DevOk v7 v8 c22H) ?_; rintro x σ' ⟨rfl, rfl⟩ <;> ((refine ⟨?_, ?_⟩; (focus simp (decide := true) only [go_sem, reduceIte, Nat.reduceAdd, Int.reduceToNat, Nat.reduceSub, Nat.reduceMul, c18A, c18B, c18C, g20, c21A, c21B, c21C, g23])); (with_reducible refine behind_go ?_))) | exact True.intro | with_reducible assumption | exact fun hf => False.elim hf | (intro hg; first | (simp +contextual [hg]; done) | grind) | omega | simp (decide := true) only [go_sem, reduceIte, Nat.reduceAdd, Int.reduceToNat, Nat.reduceSub, Nat.reduceMul, c18A, c18B, c18C, g20, c21A, c21B, c21C, g23])
                refine r_cN hk17 (r_ret ?_)
                refine r_cR hk15 ?_
                obtain rfl := Option.some.inj h
                refine r_eAR hQ rfl rfl ?_
                simp (decide := true) only [go_sem, reduceIte, Nat.reduceAdd, Int.reduceToNat, Nat.reduceSub, Nat.reduceMul]
                all_goals first | exact wkEnd_same ⟨rfl, rfl⟩ | exact True.intro
            · replace h := cond_f h g20
              repeat' (first | with_reducible refine And.intro ?_ ?_ | ((with_reducible refine i_call (n := 82) ?_); refine call_openF [] ?_) | ((with_reducible refine i_callW (n := 82) ?_); refine callW_use (con_spec_DevIsBit v5 v6 c19H) ?_; rintro x σ' ⟨rfl, rfl⟩ <;> ((refine ⟨?_, ?_⟩; (focus simp (decide := true) only [go_sem, reduceIte, Nat.reduceAdd, Int.reduceToNat, Nat.reduceSub, Nat.reduceMul, c18A, c18B, c18C, g20])); (with_reducible refine behind_go ?_))) | exact True.intro | with_reducible assumption | exact fun hf => False.elim hf | (intro hg; first | (simp +contextual [hg]; done) | grind) | omega | simp (decide := true) only [go_sem, reduceIte, Nat.reduceAdd, Int.reduceToNat, Nat.reduceSub, Nat.reduceMul, c18A, c18B, c18C, g20])
              refine r_cN hk17 (r_ret ?_)
              refine r_cR hk15 ?_
              obtain rfl := Option.some.inj h
              refine r_eAR hQ rfl rfl ?_
              simp (decide := true) only [go_sem, reduceIte, Nat.reduceAdd, Int.reduceToNat, Nat.reduceSub, Nat.reduceMul]
              all_goals first | exact wkEnd_same ⟨rfl, rfl⟩ | exact True.intro
          · refine r_skip (r_cN hk15 ?_)
            refine sem_cut fun k24 hk24 => ?_
            obtain ⟨v9, c25H, h⟩ := bind_some' h
            obtain ⟨c25A, c25B, c25C, -⟩ := idx_some c25H
            try simp only [Int.reduceToNat, Int.toNat_zero, Int.toNat_one] at c25C
            obtain ⟨v10, c26H, h⟩ := bind_some' h
            rcases Bool.eq_false_or_eq_true v10 with g27 | g27
            · replace h := cond_t h g27
              obtain ⟨v11, c28H, h⟩ := bind_some' h
              obtain ⟨c28A, c28B, c28C, -⟩ := idx_some c28H
              try simp only [Int.reduceToNat, Int.toNat_zero, Int.toNat_one] at c28C
              obtain ⟨v12, c29H, h⟩ := bind_some' h
              rcases Bool.eq_false_or_eq_true v12 with g30 | g30
              · replace h := cond_t h g30
                repeat' (first | with_reducible refine And.intro ?_ ?_ | ((with_reducible refine i_call (n := 84) ?_); refine call_openF [] ?_) | ((with_reducible refine i_callW (n := 84) ?_); refine callW_use (con_spec_DevIsWhole v9 v10 c26H) ?_; rintro x σ' ⟨rfl, rfl⟩ <;> ((refine ⟨?_, ?_⟩; (focus simp (decide := true) only [go_sem, reduceIte, Nat.reduceAdd, Int.reduceToNat, Nat.reduceSub, Nat.reduceMul, c25A, c25B, c25C, g27, c28A, c28B, c28C, g30])); (with_reducible refine behind_go ?_))) | ((with_reducible refine i_callW (n := 84) ?_); refine callW_use (con_spec_DevIsWhole v11 v12 c29H) ?_; rintro x σ' ⟨rfl, rfl⟩ <;> ((refine ⟨?_, ?_⟩; (focus simp (decide := true) only [go_sem, reduceIte, Nat.reduceAdd, Int.reduceToNat, Nat.reduceSub, Nat.reduceMul, c25A, c25B, c25C, g27, c28A, c28B, c28C, g30])); (with_reducible refine behind_go ?_))) | exact True.intro | with_reducible assumption | exact fun hf => False.elim hf | (intro hg; first | (simp +contextual [hg]; done) | grind) | omega | simp (decide := true) only [go_sem, reduceIte, Nat.reduceAdd, Int.reduceToNat, Nat.reduceSub, Nat.reduceMul, c25A, c25B, c25C, g27, c28A, c28B, c28C, g30])
                refine r_cN hk24 (r_ret ?_)
                obtain rfl := Option.some.inj h
                refine r_eAR hQ rfl rfl ?_
                simp (decide := true) only [go_sem, reduceIte, Nat.reduceAdd, Int.reduceToNat, Nat.reduceSub, Nat.reduceMul]
                all_goals first | exact wkEnd_same ⟨rfl, rfl⟩ | exact True.intro
              · replace h := cond_f h g30
                obtain ⟨v13, c31H, h⟩ := bind_some' h
                rcases Bool.eq_false_or_eq_true v13 with g32 | g32
                · replace h := cond_t h g32
                  obtain ⟨v14, c33H, h⟩ := bind_some' h
                  repeat' (first | with_reducible refine And.intro ?_ ?_ | ((with_reducible refine i_call (n := 84) ?_); refine call_openF [] ?_) | ((with_reducible refine i_callW (n := 84) ?_); refine callW_use (con_spec_DevIsWhole v9 v10 c26H) ?_; rintro x σ' ⟨rfl, rfl⟩ <;> ((refine ⟨?_, ?_⟩; (focus simp (decide := true) only [go_sem, reduceIte, Nat.reduceAdd, Int.reduceToNat, Nat.reduceSub, Nat.reduceMul, c25A, c25B, c25C, g27, c28A, c28B, c28C, g30, g32])); (with_reducible refine behind_go ?_))) | ((with_reducible refine i_callW (n := 84) ?_); refine callW_use (con_spec_DevIsWhole v11 v12 c29H) ?_; rintro x σ' ⟨rfl, rfl⟩ <;> ((refine ⟨?_, ?_⟩; (focus simp (decide := true) only [go_sem, reduceIte, Nat.reduceAdd, Int.reduceToNat, Nat.reduceSub, Nat.reduceMul, c25A, c25B, c25C, g27, c28A, c28B, c28C, g30, g32])); (with_reducible refine behind_go ?_))) | ((with_reducible refine i_call (n := 85) ?_); refine call_openF [] ?_) | ((with_reducible refine i_callW (n := 85) ?_); refine callW_use (con_spec_DevIsReal v9 v13 c31H) ?_; rintro x σ' ⟨rfl, rfl⟩ <;> ((refine ⟨?_, ?_⟩; (focus simp (decide := true) only [go_sem, reduceIte, Nat.reduceAdd, Int.reduceToNat, Nat.reduceSub, Nat.reduceMul, c25A, c25B, c25C, g27, c28A, c28B, c28C, g30, g32])); (with_reducible refine behind_go ?_))) | ((with_reducible refine i_callW (n := 85) ?_); refine callW_use (con_spec_DevIsReal v11 v14 c33H) ?_; rintro x σ' ⟨rfl, rfl⟩ <;> ((refine ⟨?_, ?_⟩; (focus simp (decide := true) only [go_sem, reduceIte, Nat.reduceAdd, Int.reduceToNat, Nat.reduceSub, Nat.reduceMul, c25A, c25B, c25C, g27, c28A, c28B, c28C, g30, g32])); (with_reducible refine behind_go ?_))) | exact True.intro | with_reducible assumption | exact fun hf => False.elim hf | (intro hg; first | (simp +contextual [hg]; done) | grind) | omega | simp (decide := true) only [go_sem, reduceIte, Nat.reduceAdd, Int.reduceToNat, Nat.reduceSub, Nat.reduceMul, c25A, c25B, c25C, g27, c28A, c28B, c28C, g30, g32])
                  refine r_cN hk24 (r_ret ?_)
                  obtain rfl := Option.some.inj h
                  refine r_eAR hQ rfl rfl ?_
                  simp (decide := true) only [go_sem, reduceIte, Nat.reduceAdd, Int.reduceToNat, Nat.reduceSub, Nat.reduceMul]
                  all_goals first | exact wkEnd_same ⟨rfl, rfl⟩ | exact True.intro
                · replace h := cond_f h g32
                  repeat' (first | with_reducible refine And.intro ?_ ?_ | ((with_reducible refine i_call (n := 84) ?_); refine call_openF [] ?_) | ((with_reducible refine i_callW (n := 84) ?_); refine callW_use (con_spec_DevIsWhole v9 v10 c26H) ?_; rintro x σ' ⟨rfl, rfl⟩ <;> ((refine ⟨?_, ?_⟩; (focus simp (decide := true) only [go_sem, reduceIte, Nat.reduceAdd, Int.reduceToNat, Nat.reduceSub, Nat.reduceMul, c25A, c25B, c25C, g27, c28A, c28B, c28C, g30, g32])); (with_reducible refine behind_go ?_))) | ((with_reducible refine i_callW (n := 84) ?_); refine callW_use (con_spec_DevIsWhole v11 v12 c29H) ?_; rintro x σ' ⟨rfl, rfl⟩ <;> ((refine ⟨?_, ?_⟩; (focus simp (decide := true) only [go_sem, reduceIte, Nat.reduceAdd, Int.reduceToNat, Nat.reduceSub, Nat.reduceMul, c25A, c25B, c25C, g27, c28A, c28B, c28C, g30, g32])); (with_reducible refine behind_go ?_))) | ((with_reducible refine i_call (n := 85) ?_); refine call_openF [] ?_) | ((with_reducible refine i_callW (n := 85) ?_); refine callW_use (con_spec_DevIsReal v9 v13 c31H) ?_; rintro x σ' ⟨rfl, rfl⟩ <;> ((refine ⟨?_, ?_⟩; (focus simp (decide := true) only [go_sem, reduceIte, Nat.reduceAdd, Int.reduceToNat, Nat.reduceSub, Nat.reduceMul, c25A, c25B, c25C, g27, c28A, c28B, c28C, g30, g32])); (with_reducible refine behind_go ?_))) | exact True.intro | with_reducible assumption | exact fun hf => False.elim hf | (intro hg; first | (simp +contextual [hg]; done) | grind) | omega | simp (decide := true) only [go_sem, reduceIte, Nat.reduceAdd, Int.reduceToNat, Nat.reduceSub, Nat.reduceMul, c25A, c25B, c25C, g27, c28A, c28B, c28C, g30, g32])
                  refine r_cN hk24 (r_ret ?_)
                  obtain rfl := Option.some.inj h
                  refine r_eAR hQ rfl rfl ?_
                  simp (decide := true) only [go_sem, reduceIte, Nat.reduceAdd, Int.reduceToNat, Nat.reduceSub, Nat.reduceMul]
                  all_goals first | exact wkEnd_same ⟨rfl, rfl⟩ | exact True.intro
            · replace h := cond_f h g27
              obtain ⟨v15, c34H, h⟩ := bind_some' h
              rcases Bool.eq_false_or_eq_true v15 with g35 | g35
              · replace h := cond_t h g35
                obtain ⟨v16, c36H, h⟩ := bind_some' h
                obtain ⟨c36A, c36B, c36C, -⟩ := idx_some c36H
                try simp only [Int.reduceToNat, Int.toNat_zero, Int.toNat_one] at c36C
                obtain ⟨v17, c37H, h⟩ := bind_some' h
                repeat' (first | with_reducible refine And.intro ?_ ?_ | ((with_reducible refine i_call (n := 84) ?_); refine call_openF [] ?_) | ((with_reducible refine i_callW (n := 84) ?_); refine callW_use (con_spec_DevIsWhole v9 v10 c26H) ?_; rintro x σ' ⟨rfl, rfl⟩ <;> ((refine ⟨?_, ?_⟩; (focus simp (decide := true) only [go_sem, reduceIte, Nat.reduceAdd, Int.reduceToNat, Nat.reduceSub, Nat.reduceMul, c25A, c25B, c25C, g27, g35, c36A, c36B, c36C])); (with_reducible refine behind_go ?_))) | ((with_reducible refine i_call (n := 85) ?_); refine call_openF [] ?_) | ((with_reducible refine i_callW (n := 85) ?_); refine callW_use (con_spec_DevIsReal v9 v15 c34H) ?_; rintro x σ' ⟨rfl, rfl⟩ <;> ((refine ⟨?_, ?_⟩; (focus simp (decide := true) only [go_sem, reduceIte, Nat.reduceAdd, Int.reduceToNat, Nat.reduceSub, Nat.reduceMul, c25A, c25B, c25C, g27, g35, c36A, c36B, c36C])); (with_reducible refine behind_go ?_))) | ((with_reducible refine i_callW (n := 85) ?_); refine callW_use (con_spec_DevIsReal v16 v17 c37H) ?_; rintro x σ' ⟨rfl, rfl⟩ <;> ((refine ⟨?_, ?_⟩; (focus simp (decide := true) only [go_sem, reduceIte, Nat.reduceAdd, Int.reduceToNat, Nat.reduceSub, Nat.reduceMul, c25A, c25B, c25C, g27, g35, c36A, c36B, c36C])); (with_reducible refine behind_go ?_))) | exact True.intro | with_reducible assumption | exact fun hf => False.elim hf | (intro hg; first | (simp +contextual [hg]; done) | grind) | omega | simp (decide := true) only [go_sem, reduceIte, Nat.reduceAdd, Int.reduceToNat, Nat.reduceSub, Nat.reduceMul, c25A, c25B, c25C, g27, g35, c36A, c36B, c36C])
                refine r_cN hk24 (r_ret ?_)
                obtain rfl := Option.some.inj h
                refine r_eAR hQ rfl rfl ?_
                simp (decide := true) only [go_sem, reduceIte, Nat.reduceAdd, Int.reduceToNat, Nat.reduceSub, Nat.reduceMul]
                all_goals first | exact wkEnd_same ⟨rfl, rfl⟩ | exact True.intro
              · replace h := cond_f h g35
                repeat' (first | with_reducible refine And.intro ?_ ?_ | ((with_reducible refine i_call (n := 84) ?_); refine call_openF [] ?_) | ((with_reducible refine i_callW (n := 84) ?_); refine callW_use (con_spec_DevIsWhole v9 v10 c26H) ?_; rintro x σ' ⟨rfl, rfl⟩ <;> ((refine ⟨?_, ?_⟩; (focus simp (decide := true) only [go_sem, reduceIte, Nat.reduceAdd, Int.reduceToNat, Nat.reduceSub, Nat.reduceMul, c25A, c25B, c25C, g27, g35])); (with_reducible refine behind_go ?_))) | ((with_reducible refine i_call (n := 85) ?_); refine call_openF [] ?_) | ((with_reducible refine i_callW (n := 85) ?_); refine callW_use (con_spec_DevIsReal v9 v15 c34H) ?_; rintro x σ' ⟨rfl, rfl⟩ <;> ((refine ⟨?_, ?_⟩; (focus simp (decide := true) only [go_sem, reduceIte, Nat.reduceAdd, Int.reduceToNat, Nat.reduceSub, Nat.reduceMul, c25A, c25B, c25C, g27, g35])); (with_reducible refine behind_go ?_))) | exact True.intro | with_reducible assumption | exact fun hf => False.elim hf | (intro hg; first | (simp +contextual [hg]; done) | grind) | omega | simp (decide := true) only [go_sem, reduceIte, Nat.reduceAdd, Int.reduceToNat, Nat.reduceSub, Nat.reduceMul, c25A, c25B, c25C, g27, g35])
                refine r_cN hk24 (r_ret ?_)
                obtain rfl := Option.some.inj h
                refine r_eAR hQ rfl rfl ?_
                simp (decide := true) only [go_sem, reduceIte, Nat.reduceAdd, Int.reduceToNat, Nat.reduceSub, Nat.reduceMul]
                all_goals first | exact wkEnd_same ⟨rfl, rfl⟩ | exact True.intro
noncomputable def spec_l4Kind (v1 : DevArg) (v2 : Int) (v3 : Int) : Option Bool :=
  (Option.bind (spec_DevOk v1) fun v4 => (some (v4 && ((v1.Kind == v2) || (v1.Kind == v3)))))
set_option maxRecDepth 10000 in
set_option maxHeartbeats 4000000 in
theorem con_spec_l4Kind (v1 : DevArg) (v2 : Int) (v3 : Int) (res_ : Bool) (h : spec_l4Kind v1 v2 v3 = some res_) : Con Tryd.prog C0 86 [.agg [.sc (.int .i64 (v1.Kind)), .sc (.int .i64 (v1.N)), .sc (.int .i64 (v1.P))], .sc (.int .i64 (v2)), .sc (.int .i64 (v3))] []
    (fun x σ' => x = .sc (.bool (res_)) ∧ σ' = []) := by
  refine con_of_sem hP [0, 1, 2, 3, 6] [.tmp 6] Tryd.func86 (by unfold Tryd.f86; rfl) rfl rfl (Nat.le_of_ble_eq_true rfl) rfl ?_
  simp only [enter_cons, enter_nil, List.length_cons, List.length_nil, Nat.reduceAdd]
  generalize hQ : endQ _ _ _ _ = Q
  unfold spec_l4Kind at h
  refine sem_cut fun k1 hk1 => ?_
  simp (decide := true) only [go_sem, reduceIte, Nat.reduceAdd, Int.reduceToNat, Nat.reduceSub, Nat.reduceMul]
  refine r_cN hk1 (sem_cut fun k2 hk2 => ?_)
  obtain ⟨v4, c3H, h⟩ := bind_some' h
  repeat' (first | with_reducible refine And.intro ?_ ?_ | ((with_reducible refine i_call (n := 83) ?_); refine call_openF [] ?_) | ((with_reducible refine i_callW (n := 83) ?_); refine callW_use (con_spec_DevOk v1 v4 c3H) ?_; rintro x σ' ⟨rfl, rfl⟩ <;> ((refine ⟨?_, ?_⟩; (focus simp (decide := true) only [go_sem, reduceIte, Nat.reduceAdd, Int.reduceToNat, Nat.reduceSub, Nat.reduceMul])); (with_reducible refine behind_go ?_))) | exact True.intro | with_reducible assumption | exact fun hf => False.elim hf | (intro hg; first | (simp +contextual [hg]; done) | grind) | omega | simp (decide := true) only [go_sem, reduceIte, Nat.reduceAdd, Int.reduceToNat, Nat.reduceSub, Nat.reduceMul])
  refine r_cN hk2 (r_ret ?_)
  obtain rfl := Option.some.inj h
  refine r_eAR hQ rfl rfl ?_
  simp (decide := true) only [go_sem, reduceIte, Nat.reduceAdd, Int.reduceToNat, Nat.reduceSub, Nat.reduceMul]
  all_goals first | exact wkEnd_same ⟨rfl, rfl⟩ | exact True.intro
noncomputable def spec_l4Calc_j13 (v1 : Elem) : Bool → Option Bool
  | v21 => (some (v21 || (v1.Op != 35)))
noncomputable def spec_l4Calc_s17 (v1 : Elem) : (Bool × Int) → Option ((Bool × Int) ⊕ (Unit ⊕ Bool))
  | (v26, v27) => (cond (decide (v27 < ((v1.Args).length : Int))) (cond v26 (Option.bind (idx v1.Args (v27)) fun v34 => (Option.bind (spec_DevIsWhole v34) fun v35 => (cond (!v35) (some (.inr (.inl ()))) (some (.inl (true, (IntKind.i64.wrap (v27 + 1)))))))) (Option.bind (idx v1.Args (v27)) fun v36 => (Option.bind (spec_DevIsReal v36) fun v37 => (cond (!v37) (some (.inr (.inl ()))) (some (.inl (false, (IntKind.i64.wrap (v27 + 1))))))))) (some (.inr (.inr v26))))
noncomputable def spec_l4Calc (v1 : Elem) : Option Bool :=
  (Option.bind (idx v1.Args (0)) fun v2 => (Option.bind (spec_l4Kind v2 9 10) fun v3 => (cond (!v3) (some false) (Option.bind (idx v1.Args (0)) fun v4 => ((loop (spec_l4Calc_s17 v1) ((v4.Kind == 9), 1)).bind (Sum.elim (fun v32 => (some false)) (fun v33 => (spec_l4Calc_j13 v1 v33))))))))
set_option maxRecDepth 10000 in
set_option maxHeartbeats 4000000 in
theorem con_spec_l4Calc (v1 : Elem) (res_ : Bool) (h : spec_l4Calc v1 = some res_) : Con Tryd.prog C0 87 [.agg [.sc (.int .i64 (v1.Op)), .fz 3 (R e_DevArg (v1.Args))]] []
    (fun x σ' => x = .sc (.bool (res_)) ∧ σ' = []) := by
  refine con_of_sem hP [0, 1, 2, 3, 4, 10, 21, 46] [.tmp 2] Tryd.func87 (by unfold Tryd.f87; rfl) rfl rfl (Nat.le_of_ble_eq_true rfl) rfl ?_
  simp only [enter_cons, enter_nil, List.length_cons, List.length_nil, Nat.reduceAdd]
  generalize hQ : endQ _ _ _ _ = Q
  unfold spec_l4Calc at h
  refine sem_cut fun k1 hk1 => ?_
  simp (decide := true) only [go_sem, reduceIte, Nat.reduceAdd, Int.reduceToNat, Nat.reduceSub, Nat.reduceMul]
  refine r_cN hk1 (sem_cut fun k2 hk2 => ?_)
  refine sem_cut fun k3 hk3 => ?_
  obtain ⟨v2, c4H, h⟩ := bind_some' h
  obtain ⟨c4A, c4B, c4C, -⟩ := idx_some c4H
  try simp only [Int.reduceToNat, Int.toNat_zero, Int.toNat_one] at c4C
  obtain ⟨v3, c5H, h⟩ := bind_some' h
  repeat' (first | with_reducible refine And.intro ?_ ?_ | ((with_reducible refine i_call (n := 86) ?_); refine call_openF [] ?_) | ((with_reducible refine i_callW (n := 86) ?_); refine callW_use (con_spec_l4Kind v2 9 10 v3 c5H) ?_; rintro x σ' ⟨rfl, rfl⟩ <;> ((refine ⟨?_, ?_⟩; (focus simp (decide := true) only [go_sem, reduceIte, Nat.reduceAdd, Int.reduceToNat, Nat.reduceSub, Nat.reduceMul, c4A, c4B, c4C])); (with_reducible refine behind_go ?_))) | exact True.intro | with_reducible assumption | exact fun hf => False.elim hf | (intro hg; first | (simp +contextual [hg]; done) | grind) | omega | simp (decide := true) only [go_sem, reduceIte, Nat.reduceAdd, Int.reduceToNat, Nat.reduceSub, Nat.reduceMul, c4A, c4B, c4C])
  refine r_cN hk3 ?_
  refine sem_ifh rfl h ?_ ?_ <;> clear h <;> intro h
  · refine sem_cut fun k6 hk6 => ?_
    simp (decide := true) only [go_sem, reduceIte, Nat.reduceAdd, Int.reduceToNat, Nat.reduceSub, Nat.reduceMul]
    refine r_cN hk6 (r_ret ?_)
    refine r_cR hk2 ?_
    obtain rfl := Option.some.inj h
    refine r_eAR hQ rfl rfl ?_
    simp (decide := true) only [go_sem, reduceIte, Nat.reduceAdd, Int.reduceToNat, Nat.reduceSub, Nat.reduceMul]
    all_goals first | exact wkEnd_same ⟨rfl, rfl⟩ | exact True.intro
  · refine r_skip (r_cN hk2 ?_)
    refine sem_cut fun k7 hk7 => ?_
    obtain ⟨v4, c8H, h⟩ := bind_some' h
    obtain ⟨c8A, c8B, c8C, -⟩ := idx_some c8H
    try simp only [Int.reduceToNat, Int.toNat_zero, Int.toNat_one] at c8C
    repeat' (first | with_reducible refine And.intro ?_ ?_ | exact True.intro | with_reducible assumption | exact fun hf => False.elim hf | (intro hg; first | (simp +contextual [hg]; done) | grind) | omega | simp (decide := true) only [go_sem, reduceIte, Nat.reduceAdd, Int.reduceToNat, Nat.reduceSub, Nat.reduceMul, c8A, c8B, c8C])
    refine r_cN hk7 (sem_cutJ (fun (_ : Unit) (x : Bool) => (⟨[(1, .pt 0 0), (3, .sc (.bool (x)))], [.rc [.sc (.int .i64 (v1.Op)), .fz 3 (R e_DevArg (v1.Args))]]⟩ : St)) (fun (_ : Unit) (x : Bool) => spec_l4Calc_j13 v1 x = some res_) ?_ ?_)
    · rintro _ v21 h
      simp only [spec_l4Calc_j13] at h
      refine sem_cut fun k48 hk48 => ?_
      repeat' (first | with_reducible refine And.intro ?_ ?_ | exact True.intro | with_reducible assumption | exact fun hf => False.elim hf | (intro hg; first | (simp +contextual [hg]; done) | grind) | omega | simp (decide := true) only [go_sem, reduceIte, Nat.reduceAdd, Int.reduceToNat, Nat.reduceSub, Nat.reduceMul])
      refine r_cN hk48 (r_ret ?_)
      obtain rfl := Option.some.inj h
      refine r_eAR hQ rfl rfl ?_
      simp (decide := true) only [go_sem, reduceIte, Nat.reduceAdd, Int.reduceToNat, Nat.reduceSub, Nat.reduceMul]
      all_goals first | exact wkEnd_same ⟨rfl, rfl⟩ | exact True.intro
    · intro k50 hk50 J49
      refine sem_cut fun k51 hk51 => ?_
      simp (decide := true) only [go_sem, reduceIte, Nat.reduceAdd, Int.reduceToNat, Nat.reduceSub, Nat.reduceMul]
      refine r_cN hk51 (sem_blk fun k52 hk52 => ?_)
      obtain ⟨oq77, hLq77, hKq77⟩ := bind_some' h
      clear h
      refine sem_loopP [1, 3, 4] (fun (_ : Unit) (x : (Bool × Int)) => (⟨[(1, .pt 0 0), (3, .sc (.bool (x.1))), (4, .sc (.int .i64 (x.2)))], [.rc [.sc (.int .i64 (v1.Op)), .fz 3 (R e_DevArg (v1.Args))]]⟩ : St)) (fun (_ : Unit) (x : (Bool × Int)) => True) (spec_l4Calc_s17 v1) () ((v4.Kind == 9), 1) hLq77 (by rfl) (by rfl) ⟨?_, trivial⟩ ?_
      · first | exact wkSt_same rfl | (simp (decide := true) only [go_sem, reduceIte, Nat.reduceAdd, Int.reduceToNat, Nat.reduceSub, Nat.reduceMul]; exact wkSt_same rfl)
      · rintro nq77 _ ⟨v26, v27⟩ xq77 kq77 hkq77 - h hIq77 hEq77
        simp only [spec_l4Calc_s17] at h
        refine sem_cut fun k78 hk78 => sem_cut fun k79 hk79 => ?_
        simp (decide := true) only [go_sem, reduceIte, Nat.reduceAdd, Int.reduceToNat, Nat.reduceSub, Nat.reduceMul]
        refine r_cN hk79 ?_
        refine sem_ifh rfl h ?_ ?_ <;> clear h <;> intro h
        · refine r_skip (r_cN hk78 ?_)
          refine sem_cut fun k80 hk80 => sem_blk fun k81 hk81 => sem_cut fun k82 hk82 => ?_
          rcases Bool.eq_false_or_eq_true v26 with g83 | g83
          · replace h := cond_t h g83
            obtain ⟨v34, c84H, h⟩ := bind_some' h
            obtain ⟨c84A, c84B, c84C, -⟩ := idx_some c84H
            obtain ⟨v35, c85H, h⟩ := bind_some' h
            repeat' (first | with_reducible refine And.intro ?_ ?_ | ((with_reducible refine i_call (n := 84) ?_); refine call_openF [] ?_) | ((with_reducible refine i_callW (n := 84) ?_); refine callW_use (con_spec_DevIsWhole v34 v35 c85H) ?_; rintro x σ' ⟨rfl, rfl⟩ <;> ((refine ⟨?_, ?_⟩; (focus simp (decide := true) only [go_sem, reduceIte, Nat.reduceAdd, Int.reduceToNat, Nat.reduceSub, Nat.reduceMul, g83, c84A, c84B, c84C])); (with_reducible refine behind_go ?_))) | exact True.intro | with_reducible assumption | exact fun hf => False.elim hf | (intro hg; first | (simp +contextual [hg]; done) | grind) | omega | simp (decide := true) only [go_sem, reduceIte, Nat.reduceAdd, Int.reduceToNat, Nat.reduceSub, Nat.reduceMul, g83, c84A, c84B, c84C])
            refine r_cN hk82 ?_
            refine sem_ifh rfl h ?_ ?_ <;> clear h <;> intro h
            · refine sem_cut fun k86 hk86 => ?_
              simp (decide := true) only [go_sem, reduceIte, Nat.reduceAdd, Int.reduceToNat, Nat.reduceSub, Nat.reduceMul]
              refine r_cN hk86 (r_ret ?_)
              refine r_bR hk81 (r_cR hk80 ?_)
              obtain rfl := Option.some.inj h
              obtain rfl := hEq77 _ rfl
              have h := hKq77
              try simp only [Sum.elim_inl, Sum.elim_inr] at h
              refine r_kR hkq77 (r_bR hk52 ?_)
              refine r_jR hk50 ?_
              obtain rfl := Option.some.inj h
              refine r_eAR hQ rfl rfl ?_
              simp (decide := true) only [go_sem, reduceIte, Nat.reduceAdd, Int.reduceToNat, Nat.reduceSub, Nat.reduceMul]
              all_goals first | exact wkEnd_same ⟨rfl, rfl⟩ | exact True.intro
            · refine r_skip (r_bN hk81 ?_)
              refine r_cN hk80 ?_
              simp (decide := true) only [go_sem, reduceIte, Nat.reduceAdd, Int.reduceToNat, Nat.reduceSub, Nat.reduceMul]
              obtain rfl := Option.some.inj h
              subst hkq77
              refine r_backP () _ rfl rfl ⟨?_, trivial⟩ (hIq77 _ rfl)
              first | exact wkSt_same rfl | (simp (decide := true) only [go_sem, reduceIte, Nat.reduceAdd, Int.reduceToNat, Nat.reduceSub, Nat.reduceMul]; exact wkSt_same rfl)
          · replace h := cond_f h g83
            obtain ⟨v36, c87H, h⟩ := bind_some' h
            obtain ⟨c87A, c87B, c87C, -⟩ := idx_some c87H
            obtain ⟨v37, c88H, h⟩ := bind_some' h
            repeat' (first | with_reducible refine And.intro ?_ ?_ | ((with_reducible refine i_call (n := 85) ?_); refine call_openF [] ?_) | ((with_reducible refine i_callW (n := 85) ?_); refine callW_use (con_spec_DevIsReal v36 v37 c88H) ?_; rintro x σ' ⟨rfl, rfl⟩ <;> ((refine ⟨?_, ?_⟩; (focus simp (decide := true) only [go_sem, reduceIte, Nat.reduceAdd, Int.reduceToNat, Nat.reduceSub, Nat.reduceMul, g83, c87A, c87B, c87C])); (with_reducible refine behind_go ?_))) | exact True.intro | with_reducible assumption | exact fun hf => False.elim hf | (intro hg; first | (simp +contextual [hg]; done) | grind) | omega | simp (decide := true) only [go_sem, reduceIte, Nat.reduceAdd, Int.reduceToNat, Nat.reduceSub, Nat.reduceMul, g83, c87A, c87B, c87C])
            refine r_cN hk82 ?_
            refine sem_ifh rfl h ?_ ?_ <;> clear h <;> intro h
            · refine sem_cut fun k89 hk89 => ?_
              simp (decide := true) only [go_sem, reduceIte, Nat.reduceAdd, Int.reduceToNat, Nat.reduceSub, Nat.reduceMul]
              refine r_cN hk89 (r_ret ?_)
              refine r_bR hk81 (r_cR hk80 ?_)
              obtain rfl := Option.some.inj h
              obtain rfl := hEq77 _ rfl
              have h := hKq77
              try simp only [Sum.elim_inl, Sum.elim_inr] at h
              refine r_kR hkq77 (r_bR hk52 ?_)
              refine r_jR hk50 ?_
              obtain rfl := Option.some.inj h
              refine r_eAR hQ rfl rfl ?_
              simp (decide := true) only [go_sem, reduceIte, Nat.reduceAdd, Int.reduceToNat, Nat.reduceSub, Nat.reduceMul]
              all_goals first | exact wkEnd_same ⟨rfl, rfl⟩ | exact True.intro
            · refine r_skip (r_bN hk81 ?_)
              refine r_cN hk80 ?_
              simp (decide := true) only [go_sem, reduceIte, Nat.reduceAdd, Int.reduceToNat, Nat.reduceSub, Nat.reduceMul]
              obtain rfl := Option.some.inj h
              subst hkq77
              refine r_backP () _ rfl rfl ⟨?_, trivial⟩ (hIq77 _ rfl)
              first | exact wkSt_same rfl | (simp (decide := true) only [go_sem, reduceIte, Nat.reduceAdd, Int.reduceToNat, Nat.reduceSub, Nat.reduceMul]; exact wkSt_same rfl)
        · refine r_exit (r_cE hk78 ?_)
          obtain rfl := Option.some.inj h
          obtain rfl := hEq77 _ rfl
          have h := hKq77
          try simp only [Sum.elim_inl, Sum.elim_inr] at h
          refine r_kE hkq77 (r_bE hk52 ?_)
          refine r_joinU J49 [1, 3] () _ rfl rfl ⟨?_, h⟩
          first | exact wkSt_same rfl | (simp (decide := true) only [go_sem, reduceIte, Nat.reduceAdd, Int.reduceToNat, Nat.reduceSub, Nat.reduceMul]; exact wkSt_same rfl)
noncomputable def spec_ElemIsCoil_j47 (v1 : Elem) (v3 : DevArg) : Bool → Option Bool
  | v14 => (cond v14 (Option.bind (spec_l4Kind v3 7 7) fun v15 => (cond v15 (Option.bind (idx v1.Args (1)) fun v16 => (Option.bind (spec_l4Kind v16 11 11) fun v17 => (cond v17 (some (decide (v16.N ≥ 0))) (some false)))) (some false))) (cond (v1.Op == 29) (Option.bind (spec_l4Kind v3 8 8) fun v18 => (cond v18 (Option.bind (idx v1.Args (1)) fun v19 => (Option.bind (spec_l4Kind v19 11 11) fun v20 => (cond v20 (some (decide (v19.N ≥ 0))) (some false)))) (some false))) (cond (v1.Op == 36) (Option.bind (spec_l4Kind v3 10 10) fun v21 => (cond v21 (Option.bind (idx v1.Args (1)) fun v22 => (Option.bind (spec_DevIsWhole v22) fun v23 => (some v23))) (some false))) (cond (v1.Op == 37) (Option.bind (spec_l4Kind v3 9 9) fun v24 => (cond v24 (Option.bind (idx v1.Args (1)) fun v25 => (Option.bind (spec_DevIsReal v25) fun v26 => (some v26))) (some false))) (Option.bind (spec_l4Calc v1) fun v27 => (some v27))))))
noncomputable def spec_ElemIsCoil (v1 : Elem) : Option Bool :=
  (cond (decide (v1.Op < 21)) (some false) (cond (decide (v1.Op > 37)) (some false) (Option.bind (spec_ElemArity v1.Op) fun v2 => (cond (((v1.Args).length : Int) != v2) (some false) (Option.bind (idx v1.Args (0)) fun v3 => (cond (v1.Op == 21) (Option.bind (spec_l4Kind v3 2 3) fun v4 => (some v4)) (cond (v1.Op == 22) (Option.bind (spec_l4Kind v3 2 3) fun v5 => (cond v5 (some true) (Option.bind (spec_l4Kind v3 4 4) fun v6 => (some v6)))) (cond (v1.Op == 23) (Option.bind (spec_l4Kind v3 2 3) fun v7 => (cond v7 (some true) (Option.bind (spec_l4Kind v3 4 7) fun v8 => (cond v8 (some true) (Option.bind (spec_l4Kind v3 8 8) fun v9 => (some v9)))))) (cond (v1.Op == 24) (Option.bind (spec_l4Kind v3 2 3) fun v10 => (cond v10 (Option.bind (idx v1.Args (1)) fun v11 => (Option.bind (spec_l4Kind v11 5 5) fun v12 => (some v12))) (some false))) (cond (v1.Op == 25) (Option.bind (spec_l4Kind v3 4 4) fun v13 => (some v13)) (cond (v1.Op == 26) (spec_ElemIsCoil_j47 v1 v3 (v1.Op == 26)) (cond (v1.Op == 27) (spec_ElemIsCoil_j47 v1 v3 (v1.Op == 27)) (spec_ElemIsCoil_j47 v1 v3 (v1.Op == 28))))))))))))))
set_option maxRecDepth 10000 in
set_option maxHeartbeats 4000000 in
theorem con_spec_ElemIsCoil (v1 : Elem) (res_ : Bool) (h : spec_ElemIsCoil v1 = some res_) : Con Tryd.prog C0 61 [.agg [.sc (.int .i64 (v1.Op)), .fz 3 (R e_DevArg (v1.Args))]] []
    (fun x σ' => x = .sc (.bool (res_)) ∧ σ' = []) := by
  refine con_of_sem hP [0, 1, 2, 3, 20, 26, 27, 31, 39, 51, 62, 66, 87, 106, 117] [.tmp 2] Tryd.func61 (by unfold Tryd.f61; rfl) rfl rfl (Nat.le_of_ble_eq_true rfl) rfl ?_
  simp only [enter_cons, enter_nil, List.length_cons, List.length_nil, Nat.reduceAdd]
  generalize hQ : endQ _ _ _ _ = Q
  unfold spec_ElemIsCoil at h
  refine sem_cut fun k1 hk1 => ?_
  simp (decide := true) only [go_sem, reduceIte, Nat.reduceAdd, Int.reduceToNat, Nat.reduceSub, Nat.reduceMul]
  refine r_cN hk1 (sem_cut fun k2 hk2 => ?_)
  refine sem_cut fun k3 hk3 => ?_
  rcases Bool.eq_false_or_eq_true (decide (v1.Op < 21)) with g4 | g4
  · replace h := cond_t h g4
    with_reducible refine sem_plan (id := 1) (.take 0 (.take 1 (.take 2 (.take 3 (.take 4 (.take 5 (.take 6 (.take 7 (.take 8 (.take 9 (.take 10 (.take 11 (.take 12 (.take 13 (.one 14 (.take 15 (.take 16 .done))))))))))))))))) [0] ?_ ?_
    focus kernel_rfl
    repeat' (first | with_reducible refine And.intro ?_ ?_ | exact True.intro | with_reducible assumption | exact fun hf => False.elim hf | (intro hg; first | (simp +contextual [hg]; done) | grind) | omega | simp (decide := true) only [go_sem, reduceIte, Nat.reduceAdd, Int.reduceToNat, Nat.reduceSub, Nat.reduceMul, g4])
    refine r_cN hk3 (sem_ifT rfl ?_)
    try replace h := cond_t h rfl
    refine sem_cut fun k5 hk5 => ?_
    simp (decide := true) only [go_sem, reduceIte, Nat.reduceAdd, Int.reduceToNat, Nat.reduceSub, Nat.reduceMul]
    refine r_cN hk5 (r_ret ?_)
    refine r_cR hk2 ?_
    obtain rfl := Option.some.inj h
    refine r_eAR hQ rfl rfl ?_
    simp (decide := true) only [go_sem, reduceIte, Nat.reduceAdd, Int.reduceToNat, Nat.reduceSub, Nat.reduceMul]
    all_goals first | exact wkEnd_same ⟨rfl, rfl⟩ | exact True.intro
  · replace h := cond_f h g4
    rcases Bool.eq_false_or_eq_true (decide (v1.Op > 37)) with g6 | g6
    · replace h := cond_t h g6
      with_reducible refine sem_plan (id := 1) (.take 0 (.take 1 (.take 2 (.take 3 (.take 4 (.take 5 (.take 6 (.take 7 (.take 8 (.take 9 (.take 10 (.take 11 (.take 12 (.take 13 (.one 14 (.take 15 (.take 16 .done))))))))))))))))) [0] ?_ ?_
      focus kernel_rfl
      repeat' (first | with_reducible refine And.intro ?_ ?_ | exact True.intro | with_reducible assumption | exact fun hf => False.elim hf | (intro hg; first | (simp +contextual [hg]; done) | grind) | omega | simp (decide := true) only [go_sem, reduceIte, Nat.reduceAdd, Int.reduceToNat, Nat.reduceSub, Nat.reduceMul, g4, g6])
      refine r_cN hk3 (sem_ifT rfl ?_)
      try replace h := cond_t h rfl
      refine sem_cut fun k7 hk7 => ?_
      simp (decide := true) only [go_sem, reduceIte, Nat.reduceAdd, Int.reduceToNat, Nat.reduceSub, Nat.reduceMul]
      refine r_cN hk7 (r_ret ?_)
      refine r_cR hk2 ?_
      obtain rfl := Option.some.inj h
      refine r_eAR hQ rfl rfl ?_
      simp (decide := true) only [go_sem, reduceIte, Nat.reduceAdd, Int.reduceToNat, Nat.reduceSub, Nat.reduceMul]
      all_goals first | exact wkEnd_same ⟨rfl, rfl⟩ | exact True.intro
    · replace h := cond_f h g6
      obtain ⟨v2, c8H, h⟩ := bind_some' h
      with_reducible refine sem_plan (id := 1) (.take 0 (.take 1 (.take 2 (.take 3 (.take 4 (.take 5 (.take 6 (.take 7 (.take 8 (.take 9 (.take 10 (.take 11 (.take 12 (.take 13 (.one 14 (.take 15 (.take 16 .done))))))))))))))))) [0] ?_ ?_
      focus kernel_rfl
      repeat' (first | with_reducible refine And.intro ?_ ?_ | ((with_reducible refine i_call (n := 75) ?_); refine call_openF [] ?_) | ((with_reducible refine i_callW (n := 75) ?_); refine callW_use (con_spec_ElemArity v1.Op v2 c8H) ?_; rintro x σ' ⟨rfl, rfl⟩ <;> ((refine ⟨?_, ?_⟩; (focus simp (decide := true) only [go_sem, reduceIte, Nat.reduceAdd, Int.reduceToNat, Nat.reduceSub, Nat.reduceMul, g4, g6])); (with_reducible refine behind_go ?_))) | exact True.intro | with_reducible assumption | exact fun hf => False.elim hf | (intro hg; first | (simp +contextual [hg]; done) | grind) | omega | simp (decide := true) only [go_sem, reduceIte, Nat.reduceAdd, Int.reduceToNat, Nat.reduceSub, Nat.reduceMul, g4, g6])
      refine r_cN hk3 ?_
      refine sem_ifh rfl h ?_ ?_ <;> clear h <;> intro h
      · refine sem_cut fun k9 hk9 => ?_
        simp (decide := true) only [go_sem, reduceIte, Nat.reduceAdd, Int.reduceToNat, Nat.reduceSub, Nat.reduceMul]
        refine r_cN hk9 (r_ret ?_)
        refine r_cR hk2 ?_
        obtain rfl := Option.some.inj h
        refine r_eAR hQ rfl rfl ?_
        simp (decide := true) only [go_sem, reduceIte, Nat.reduceAdd, Int.reduceToNat, Nat.reduceSub, Nat.reduceMul]
        all_goals first | exact wkEnd_same ⟨rfl, rfl⟩ | exact True.intro
      · refine r_skip (r_cN hk2 ?_)
        refine sem_cut fun k10 hk10 => ?_
        obtain ⟨v3, c11H, h⟩ := bind_some' h
        obtain ⟨c11A, c11B, c11C, -⟩ := idx_some c11H
        try simp only [Int.reduceToNat, Int.toNat_zero, Int.toNat_one] at c11C
        repeat' (first | with_reducible refine And.intro ?_ ?_ | exact True.intro | with_reducible assumption | exact fun hf => False.elim hf | (intro hg; first | (simp +contextual [hg]; done) | grind) | omega | simp (decide := true) only [go_sem, reduceIte, Nat.reduceAdd, Int.reduceToNat, Nat.reduceSub, Nat.reduceMul, c11A, c11B, c11C])
        refine r_cN hk10 (sem_cut fun k12 hk12 => ?_)
        refine sem_cut fun k13 hk13 => ?_
        simp (decide := true) only [go_sem, reduceIte, Nat.reduceAdd, Int.reduceToNat, Nat.reduceSub, Nat.reduceMul]
        refine r_cN hk13 (sem_blk fun k14 hk14 => ?_)
        refine sem_cut fun k15 hk15 => ?_
        simp (decide := true) only [go_sem, reduceIte, Nat.reduceAdd, Int.reduceToNat, Nat.reduceSub, Nat.reduceMul]
        refine r_cN hk15 ?_
        refine sem_ifh rfl h ?_ ?_ <;> clear h <;> intro h
        · refine sem_cut fun k16 hk16 => ?_
          obtain ⟨v4, c17H, h⟩ := bind_some' h
          repeat' (first | with_reducible refine And.intro ?_ ?_ | ((with_reducible refine i_call (n := 86) ?_); refine call_openF [] ?_) | ((with_reducible refine i_callW (n := 86) ?_); refine callW_use (con_spec_l4Kind v3 2 3 v4 c17H) ?_; rintro x σ' ⟨rfl, rfl⟩ <;> ((refine ⟨?_, ?_⟩; (focus simp (decide := true) only [go_sem, reduceIte, Nat.reduceAdd, Int.reduceToNat, Nat.reduceSub, Nat.reduceMul])); (with_reducible refine behind_go ?_))) | exact True.intro | with_reducible assumption | exact fun hf => False.elim hf | (intro hg; first | (simp +contextual [hg]; done) | grind) | omega | simp (decide := true) only [go_sem, reduceIte, Nat.reduceAdd, Int.reduceToNat, Nat.reduceSub, Nat.reduceMul])
          refine r_cN hk16 (r_ret ?_)
          refine r_bR hk14 (r_cR hk12 ?_)
          obtain rfl := Option.some.inj h
          refine r_eAR hQ rfl rfl ?_
          simp (decide := true) only [go_sem, reduceIte, Nat.reduceAdd, Int.reduceToNat, Nat.reduceSub, Nat.reduceMul]
          all_goals first | exact wkEnd_same ⟨rfl, rfl⟩ | exact True.intro
        · refine sem_cut fun k18 hk18 => ?_
          simp (decide := true) only [go_sem, reduceIte, Nat.reduceAdd, Int.reduceToNat, Nat.reduceSub, Nat.reduceMul]
          refine r_cN hk18 ?_
          refine sem_ifh rfl h ?_ ?_ <;> clear h <;> intro h
          · refine sem_cut fun k19 hk19 => ?_
            obtain ⟨v5, c20H, h⟩ := bind_some' h
            rcases Bool.eq_false_or_eq_true v5 with g21 | g21
            · replace h := cond_t h g21
              repeat' (first | with_reducible refine And.intro ?_ ?_ | ((with_reducible refine i_call (n := 86) ?_); refine call_openF [] ?_) | ((with_reducible refine i_callW (n := 86) ?_); refine callW_use (con_spec_l4Kind v3 2 3 v5 c20H) ?_; rintro x σ' ⟨rfl, rfl⟩ <;> ((refine ⟨?_, ?_⟩; (focus simp (decide := true) only [go_sem, reduceIte, Nat.reduceAdd, Int.reduceToNat, Nat.reduceSub, Nat.reduceMul, g21])); (with_reducible refine behind_go ?_))) | exact True.intro | with_reducible assumption | exact fun hf => False.elim hf | (intro hg; first | (simp +contextual [hg]; done) | grind) | omega | simp (decide := true) only [go_sem, reduceIte, Nat.reduceAdd, Int.reduceToNat, Nat.reduceSub, Nat.reduceMul, g21])
              refine r_cN hk19 (r_ret ?_)
              refine r_bR hk14 (r_cR hk12 ?_)
              obtain rfl := Option.some.inj h
              refine r_eAR hQ rfl rfl ?_
              simp (decide := true) only [go_sem, reduceIte, Nat.reduceAdd, Int.reduceToNat, Nat.reduceSub, Nat.reduceMul]
              all_goals first | exact wkEnd_same ⟨rfl, rfl⟩ | exact True.intro
            · replace h := cond_f h g21
              obtain ⟨v6, c22H, h⟩ := bind_some' h
              repeat' (first | with_reducible refine And.intro ?_ ?_ | ((with_reducible refine i_call (n := 86) ?_); refine call_openF [] ?_) | ((with_reducible refine i_callW (n := 86) ?_); refine callW_use (con_spec_l4Kind v3 2 3 v5 c20H) ?_; rintro x σ' ⟨rfl, rfl⟩ <;> ((refine ⟨?_, ?_⟩; (focus simp (decide := true) only [go_sem, reduceIte, Nat.reduceAdd, Int.reduceToNat, Nat.reduceSub, Nat.reduceMul, g21])); (with_reducible refine behind_go ?_))) | ((with_reducible refine i_callW (n := 86) ?_); refine callW_use (con_spec_l4Kind v3 4 4 v6 c22H) ?_; rintro x σ' ⟨rfl, rfl⟩ <;> ((refine ⟨?_, ?_⟩; (focus simp (decide := true) only [go_sem, reduceIte, Nat.reduceAdd, Int.reduceToNat, Nat.reduceSub, Nat.reduceMul, g21])); (with_reducible refine behind_go ?_))) | exact True.intro | with_reducible assumption | exact fun hf => False.elim hf | (intro hg; first | (simp +contextual [hg]; done) | grind) | omega | simp (decide := true) only [go_sem, reduceIte, Nat.reduceAdd, Int.reduceToNat, Nat.reduceSub, Nat.reduceMul, g21])
              refine r_cN hk19 (r_ret ?_)
              refine r_bR hk14 (r_cR hk12 ?_)
              obtain rfl := Option.some.inj h
              refine r_eAR hQ rfl rfl ?_
              simp (decide := true) only [go_sem, reduceIte, Nat.reduceAdd, Int.reduceToNat, Nat.reduceSub, Nat.reduceMul]
              all_goals first | exact wkEnd_same ⟨rfl, rfl⟩ | exact True.intro
          · refine sem_cut fun k23 hk23 => ?_
            simp (decide := true) only [go_sem, reduceIte, Nat.reduceAdd, Int.reduceToNat, Nat.reduceSub, Nat.reduceMul]
            refine r_cN hk23 ?_
            refine sem_ifh rfl h ?_ ?_ <;> clear h <;> intro h
            · refine sem_cut fun k24 hk24 => ?_
              obtain ⟨v7, c25H, h⟩ := bind_some' h
              rcases Bool.eq_false_or_eq_true v7 with g26 | g26
              · replace h := cond_t h g26
                repeat' (first | with_reducible refine And.intro ?_ ?_ | ((with_reducible refine i_call (n := 86) ?_); refine call_openF [] ?_) | ((with_reducible refine i_callW (n := 86) ?_); refine callW_use (con_spec_l4Kind v3 2 3 v7 c25H) ?_; rintro x σ' ⟨rfl, rfl⟩ <;> ((refine ⟨?_, ?_⟩; (focus simp (decide := true) only [go_sem, reduceIte, Nat.reduceAdd, Int.reduceToNat, Nat.reduceSub, Nat.reduceMul, g26])); (with_reducible refine behind_go ?_))) | exact True.intro | with_reducible assumption | exact fun hf => False.elim hf | (intro hg; first | (simp +contextual [hg]; done) | grind) | omega | simp (decide := true) only [go_sem, reduceIte, Nat.reduceAdd, Int.reduceToNat, Nat.reduceSub, Nat.reduceMul, g26])
                refine r_cN hk24 (r_ret ?_)
                refine r_bR hk14 (r_cR hk12 ?_)
                obtain rfl := Option.some.inj h
                refine r_eAR hQ rfl rfl ?_
                simp (decide := true) only [go_sem, reduceIte, Nat.reduceAdd, Int.reduceToNat, Nat.reduceSub, Nat.reduceMul]
                all_goals first | exact wkEnd_same ⟨rfl, rfl⟩ | exact True.intro
              · replace h := cond_f h g26
                obtain ⟨v8, c27H, h⟩ := bind_some' h
                rcases Bool.eq_false_or_eq_true v8 with g28 | g28
                · replace h := cond_t h g28
                  repeat' (first | with_reducible refine And.intro ?_ ?_ | ((with_reducible refine i_call (n := 86) ?_); refine call_openF [] ?_) | ((with_reducible refine i_callW (n := 86) ?_); refine callW_use (con_spec_l4Kind v3 2 3 v7 c25H) ?_; rintro x σ' ⟨rfl, rfl⟩ <;> ((refine ⟨?_, ?_⟩; (focus simp (decide := true) only [go_sem, reduceIte, Nat.reduceAdd, Int.reduceToNat, Nat.reduceSub, Nat.reduceMul, g26, g28])); (with_reducible refine behind_go ?_))) | ((with_reducible refine i_callW (n := 86) ?_); refine callW_use (con_spec_l4Kind v3 4 7 v8 c27H) ?_; rintro x σ' ⟨rfl, rfl⟩ <;> ((refine ⟨?_, ?_⟩; (focus simp (decide := true) only [go_sem, reduceIte, Nat.reduceAdd, Int.reduceToNat, Nat.reduceSub, Nat.reduceMul, g26, g28])); (with_reducible refine behind_go ?_))) | exact True.intro | with_reducible assumption | exact fun hf => False.elim hf | (intro hg; first | (simp +contextual [hg]; done) | grind) | omega | simp (decide := true) only [go_sem, reduceIte, Nat.reduceAdd, Int.reduceToNat, Nat.reduceSub, Nat.reduceMul, g26, g28])
                  refine r_cN hk24 (r_ret ?_)
                  refine r_bR hk14 (r_cR hk12 ?_)
                  obtain rfl := Option.some.inj h
                  refine r_eAR hQ rfl rfl ?_
                  simp (decide := true) only [go_sem, reduceIte, Nat.reduceAdd, Int.reduceToNat, Nat.reduceSub, Nat.reduceMul]
                  all_goals first | exact wkEnd_same ⟨rfl, rfl⟩ | exact True.intro
                · replace h := cond_f h g28
                  obtain ⟨v9, c29H, h⟩ := bind_some' h
                  repeat' (first | with_reducible refine And.intro ?_ ?_ | ((with_reducible refine i_call (n := 86) ?_); refine call_openF [] ?_) | ((with_reducible refine i_callW (n := 86) ?_); refine callW_use (con_spec_l4Kind v3 2 3 v7 c25H) ?_; rintro x σ' ⟨rfl, rfl⟩ <;> ((refine ⟨?_, ?_⟩; (focus simp (decide := true) only [go_sem, reduceIte, Nat.reduceAdd, Int.reduceToNat, Nat.reduceSub, Nat.reduceMul, g26, g28])); (with_reducible refine behind_go ?_))) | ((with_reducible refine i_callW (n := 86) ?_); refine callW_use (con_spec_l4Kind v3 4 7 v8 c27H) ?_; rintro x σ' ⟨rfl, rfl⟩ <;> ((refine ⟨?_, ?_⟩; (focus simp (decide := true) only [go_sem, reduceIte, Nat.reduceAdd, Int.reduceToNat, Nat.reduceSub, Nat.reduceMul, g26, g28])); (with_reducible refine behind_go ?_))) | ((with_reducible refine i_callW (n := 86) ?_); refine callW_use (con_spec_l4Kind v3 8 8 v9 c29H) ?_; rintro x σ' ⟨rfl, rfl⟩ <;> ((refine ⟨?_, ?_⟩; (focus simp (decide := true) only [go_sem, reduceIte, Nat.reduceAdd, Int.reduceToNat, Nat.reduceSub, Nat.reduceMul, g26, g28])); (with_reducible refine behind_go ?_))) | exact True.intro | with_reducible assumption | exact fun hf => False.elim hf | (intro hg; first | (simp +contextual [hg]; done) | grind) | omega | simp (decide := true) only [go_sem, reduceIte, Nat.reduceAdd, Int.reduceToNat, Nat.reduceSub, Nat.reduceMul, g26, g28])
                  refine r_cN hk24 (r_ret ?_)
                  refine r_bR hk14 (r_cR hk12 ?_)
                  obtain rfl := Option.some.inj h
                  refine r_eAR hQ rfl rfl ?_
                  simp (decide := true) only [go_sem, reduceIte, Nat.reduceAdd, Int.reduceToNat, Nat.reduceSub, Nat.reduceMul]
                  all_goals first | exact wkEnd_same ⟨rfl, rfl⟩ | exact True.intro
            · refine sem_cut fun k30 hk30 => ?_
              simp (decide := true) only [go_sem, reduceIte, Nat.reduceAdd, Int.reduceToNat, Nat.reduceSub, Nat.reduceMul]
              refine r_cN hk30 ?_
              refine sem_ifh rfl h ?_ ?_ <;> clear h <;> intro h
              · refine sem_cut fun k31 hk31 => ?_
                obtain ⟨v10, c32H, h⟩ := bind_some' h
                rcases Bool.eq_false_or_eq_true v10 with g33 | g33
                · replace h := cond_t h g33
                  obtain ⟨v11, c34H, h⟩ := bind_some' h
                  obtain ⟨c34A, c34B, c34C, -⟩ := idx_some c34H
                  try simp only [Int.reduceToNat, Int.toNat_zero, Int.toNat_one] at c34C
                  obtain ⟨v12, c35H, h⟩ := bind_some' h
                  repeat' (first | with_reducible refine And.intro ?_ ?_ | ((with_reducible refine i_call (n := 86) ?_); refine call_openF [] ?_) | ((with_reducible refine i_callW (n := 86) ?_); refine callW_use (con_spec_l4Kind v3 2 3 v10 c32H) ?_; rintro x σ' ⟨rfl, rfl⟩ <;> ((refine ⟨?_, ?_⟩; (focus simp (decide := true) only [go_sem, reduceIte, Nat.reduceAdd, Int.reduceToNat, Nat.reduceSub, Nat.reduceMul, g33, c34A, c34B, c34C])); (with_reducible refine behind_go ?_))) | ((with_reducible refine i_callW (n := 86) ?_); refine callW_use (con_spec_l4Kind v11 5 5 v12 c35H) ?_; rintro x σ' ⟨rfl, rfl⟩ <;> ((refine ⟨?_, ?_⟩; (focus simp (decide := true) only [go_sem, reduceIte, Nat.reduceAdd, Int.reduceToNat, Nat.reduceSub, Nat.reduceMul, g33, c34A, c34B, c34C])); (with_reducible refine behind_go ?_))) | exact True.intro | with_reducible assumption | exact fun hf => False.elim hf | (intro hg; first | (simp +contextual [hg]; done) | grind) | omega | simp (decide := true) only [go_sem, reduceIte, Nat.reduceAdd, Int.reduceToNat, Nat.reduceSub, Nat.reduceMul, g33, c34A, c34B, c34C])
                  refine r_cN hk31 (r_ret ?_)
                  refine r_bR hk14 (r_cR hk12 ?_)
                  obtain rfl := Option.some.inj h
                  refine r_eAR hQ rfl rfl ?_
                  simp (decide := true) only [go_sem, reduceIte, Nat.reduceAdd, Int.reduceToNat, Nat.reduceSub, Nat.reduceMul]
                  all_goals first | exact wkEnd_same ⟨rfl, rfl⟩ | exact True.intro
                · replace h := cond_f h g33
                  repeat' (first | with_reducible refine And.intro ?_ ?_ | ((with_reducible refine i_call (n := 86) ?_); refine call_openF [] ?_) | ((with_reducible refine i_callW (n := 86) ?_); refine callW_use (con_spec_l4Kind v3 2 3 v10 c32H) ?_; rintro x σ' ⟨rfl, rfl⟩ <;> ((refine ⟨?_, ?_⟩; (focus simp (decide := true) only [go_sem, reduceIte, Nat.reduceAdd, Int.reduceToNat, Nat.reduceSub, Nat.reduceMul, g33])); (with_reducible refine behind_go ?_))) | exact True.intro | with_reducible assumption | exact fun hf => False.elim hf | (intro hg; first | (simp +contextual [hg]; done) | grind) | omega | simp (decide := true) only [go_sem, reduceIte, Nat.reduceAdd, Int.reduceToNat, Nat.reduceSub, Nat.reduceMul, g33])
                  refine r_cN hk31 (r_ret ?_)
                  refine r_bR hk14 (r_cR hk12 ?_)
                  obtain rfl := Option.some.inj h
                  refine r_eAR hQ rfl rfl ?_
                  simp (decide := true) only [go_sem, reduceIte, Nat.reduceAdd, Int.reduceToNat, Nat.reduceSub, Nat.reduceMul]
                  all_goals first | exact wkEnd_same ⟨rfl, rfl⟩ | exact True.intro
              · refine sem_cut fun k36 hk36 => ?_
                simp (decide := true) only [go_sem, reduceIte, Nat.reduceAdd, Int.reduceToNat, Nat.reduceSub, Nat.reduceMul]
                refine r_cN hk36 ?_
                refine sem_ifh rfl h ?_ ?_ <;> clear h <;> intro h
                · refine sem_cut fun k37 hk37 => ?_
                  obtain ⟨v13, c38H, h⟩ := bind_some' h
                  repeat' (first | with_reducible refine And.intro ?_ ?_ | ((with_reducible refine i_call (n := 86) ?_); refine call_openF [] ?_) | ((with_reducible refine i_callW (n := 86) ?_); refine callW_use (con_spec_l4Kind v3 4 4 v13 c38H) ?_; rintro x σ' ⟨rfl, rfl⟩ <;> ((refine ⟨?_, ?_⟩; (focus simp (decide := true) only [go_sem, reduceIte, Nat.reduceAdd, Int.reduceToNat, Nat.reduceSub, Nat.reduceMul])); (with_reducible refine behind_go ?_))) | exact True.intro | with_reducible assumption | exact fun hf => False.elim hf | (intro hg; first | (simp +contextual [hg]; done) | grind) | omega | simp (decide := true) only [go_sem, reduceIte, Nat.reduceAdd, Int.reduceToNat, Nat.reduceSub, Nat.reduceMul])
                  refine r_cN hk37 (r_ret ?_)
                  refine r_bR hk14 (r_cR hk12 ?_)
                  obtain rfl := Option.some.inj h
                  refine r_eAR hQ rfl rfl ?_
                  simp (decide := true) only [go_sem, reduceIte, Nat.reduceAdd, Int.reduceToNat, Nat.reduceSub, Nat.reduceMul]
                  all_goals first | exact wkEnd_same ⟨rfl, rfl⟩ | exact True.intro
                · refine sem_cutJ (fun (_ : Unit) (x : Bool) => (⟨[(1, .pt 0 0), (3, .pt 1 0), (26, .sc (.int .i64 (v1.Op))), (66, .sc (.bool (x)))], [.rc [.sc (.int .i64 (v1.Op)), .fz 3 (R e_DevArg (v1.Args))], .rc [.sc (.int .i64 (v3.Kind)), .sc (.int .i64 (v3.N)), .sc (.int .i64 (v3.P))]]⟩ : St)) (fun (_ : Unit) (x : Bool) => spec_ElemIsCoil_j47 v1 v3 x = some res_) ?_ ?_
                  · rintro _ v14 h
                    simp only [spec_ElemIsCoil_j47] at h
                    refine sem_ifh rfl h ?_ ?_ <;> clear h <;> intro h
                    · refine sem_cut fun k41 hk41 => ?_
                      obtain ⟨v15, c42H, h⟩ := bind_some' h
                      rcases Bool.eq_false_or_eq_true v15 with g43 | g43
                      · replace h := cond_t h g43
                        obtain ⟨v16, c44H, h⟩ := bind_some' h
                        obtain ⟨c44A, c44B, c44C, -⟩ := idx_some c44H
                        try simp only [Int.reduceToNat, Int.toNat_zero, Int.toNat_one] at c44C
                        obtain ⟨v17, c45H, h⟩ := bind_some' h
                        rcases Bool.eq_false_or_eq_true v17 with g46 | g46
                        · replace h := cond_t h g46
                          repeat' (first | with_reducible refine And.intro ?_ ?_ | ((with_reducible refine i_call (n := 86) ?_); refine call_openF [] ?_) | ((with_reducible refine i_callW (n := 86) ?_); refine callW_use (con_spec_l4Kind v3 7 7 v15 c42H) ?_; rintro x σ' ⟨rfl, rfl⟩ <;> ((refine ⟨?_, ?_⟩; (focus simp (decide := true) only [go_sem, reduceIte, Nat.reduceAdd, Int.reduceToNat, Nat.reduceSub, Nat.reduceMul, g43, c44A, c44B, c44C, g46])); (with_reducible refine behind_go ?_))) | ((with_reducible refine i_callW (n := 86) ?_); refine callW_use (con_spec_l4Kind v16 11 11 v17 c45H) ?_; rintro x σ' ⟨rfl, rfl⟩ <;> ((refine ⟨?_, ?_⟩; (focus simp (decide := true) only [go_sem, reduceIte, Nat.reduceAdd, Int.reduceToNat, Nat.reduceSub, Nat.reduceMul, g43, c44A, c44B, c44C, g46])); (with_reducible refine behind_go ?_))) | exact True.intro | with_reducible assumption | exact fun hf => False.elim hf | (intro hg; first | (simp +contextual [hg]; done) | grind) | omega | simp (decide := true) only [go_sem, reduceIte, Nat.reduceAdd, Int.reduceToNat, Nat.reduceSub, Nat.reduceMul, g43, c44A, c44B, c44C, g46])
                          refine r_cN hk41 (r_ret ?_)
                          refine r_bR hk14 (r_cR hk12 ?_)
                          obtain rfl := Option.some.inj h
                          refine r_eAR hQ rfl rfl ?_
                          simp (decide := true) only [go_sem, reduceIte, Nat.reduceAdd, Int.reduceToNat, Nat.reduceSub, Nat.reduceMul]
                          all_goals first | exact wkEnd_same ⟨rfl, rfl⟩ | exact True.intro
                        · replace h := cond_f h g46
                          repeat' (first | with_reducible refine And.intro ?_ ?_ | ((with_reducible refine i_call (n := 86) ?_); refine call_openF [] ?_) | ((with_reducible refine i_callW (n := 86) ?_); refine callW_use (con_spec_l4Kind v3 7 7 v15 c42H) ?_; rintro x σ' ⟨rfl, rfl⟩ <;> ((refine ⟨?_, ?_⟩; (focus simp (decide := true) only [go_sem, reduceIte, Nat.reduceAdd, Int.reduceToNat, Nat.reduceSub, Nat.reduceMul, g43, c44A, c44B, c44C, g46])); (with_reducible refine behind_go ?_))) | ((with_reducible refine i_callW (n := 86) ?_); refine callW_use (con_spec_l4Kind v16 11 11 v17 c45H) ?_; rintro x σ' ⟨rfl, rfl⟩ <;> ((refine ⟨?_, ?_⟩; (focus simp (decide := true) only [go_sem, reduceIte, Nat.reduceAdd, Int.reduceToNat, Nat.reduceSub, Nat.reduceMul, g43, c44A, c44B, c44C, g46])); (with_reducible refine behind_go ?_))) | exact True.intro | with_reducible assumption | exact fun hf => False.elim hf | (intro hg; first | (simp +contextual [hg]; done) | grind) | omega | simp (decide := true) only [go_sem, reduceIte, Nat.reduceAdd, Int.reduceToNat, Nat.reduceSub, Nat.reduceMul, g43, c44A, c44B, c44C, g46])
                          refine r_cN hk41 (r_ret ?_)
                          refine r_bR hk14 (r_cR hk12 ?_)
                          obtain rfl := Option.some.inj h
                          refine r_eAR hQ rfl rfl ?_
                          simp (decide := true) only [go_sem, reduceIte, Nat.reduceAdd, Int.reduceToNat, Nat.reduceSub, Nat.reduceMul]
                          all_goals first | exact wkEnd_same ⟨rfl, rfl⟩ | exact True.intro
                      · replace h := cond_f h g43
                        repeat' (first | with_reducible refine And.intro ?_ ?_ | ((with_reducible refine i_call (n := 86) ?_); refine call_openF [] ?_) | ((with_reducible refine i_callW (n := 86) ?_); refine callW_use (con_spec_l4Kind v3 7 7 v15 c42H) ?_; rintro x σ' ⟨rfl, rfl⟩ <;> ((refine ⟨?_, ?_⟩; (focus simp (decide := true) only [go_sem, reduceIte, Nat.reduceAdd, Int.reduceToNat, Nat.reduceSub, Nat.reduceMul, g43])); (with_reducible refine behind_go ?_))) | exact True.intro | with_reducible assumption | exact fun hf => False.elim hf | (intro hg; first | (simp +contextual [hg]; done) | grind) | omega | simp (decide := true) only [go_sem, reduceIte, Nat.reduceAdd, Int.reduceToNat, Nat.reduceSub, Nat.reduceMul, g43])
                        refine r_cN hk41 (r_ret ?_)
                        refine r_bR hk14 (r_cR hk12 ?_)
                        obtain rfl := Option.some.inj h
                        refine r_eAR hQ rfl rfl ?_
                        simp (decide := true) only [go_sem, reduceIte, Nat.reduceAdd, Int.reduceToNat, Nat.reduceSub, Nat.reduceMul]
                        all_goals first | exact wkEnd_same ⟨rfl, rfl⟩ | exact True.intro
                    · refine sem_cut fun k47 hk47 => ?_
                      simp (decide := true) only [go_sem, reduceIte, Nat.reduceAdd, Int.reduceToNat, Nat.reduceSub, Nat.reduceMul]
                      refine r_cN hk47 ?_
                      refine sem_ifh rfl h ?_ ?_ <;> clear h <;> intro h
                      · refine sem_cut fun k48 hk48 => ?_
                        obtain ⟨v18, c49H, h⟩ := bind_some' h
                        rcases Bool.eq_false_or_eq_true v18 with g50 | g50
                        · replace h := cond_t h g50
                          obtain ⟨v19, c51H, h⟩ := bind_some' h
                          obtain ⟨c51A, c51B, c51C, -⟩ := idx_some c51H
                          try simp only [Int.reduceToNat, Int.toNat_zero, Int.toNat_one] at c51C
                          obtain ⟨v20, c52H, h⟩ := bind_some' h
                          rcases Bool.eq_false_or_eq_true v20 with g53 | g53
                          · replace h := cond_t h g53
                            repeat' (first | with_reducible refine And.intro ?_ ?_ | ((with_reducible refine i_call (n := 86) ?_); refine call_openF [] ?_) | ((with_reducible refine i_callW (n := 86) ?_); refine callW_use (con_spec_l4Kind v3 8 8 v18 c49H) ?_; rintro x σ' ⟨rfl, rfl⟩ <;> ((refine ⟨?_, ?_⟩; (focus simp (decide := true) only [go_sem, reduceIte, Nat.reduceAdd, Int.reduceToNat, Nat.reduceSub, Nat.reduceMul, g50, c51A, c51B, c51C, g53])); (with_reducible refine behind_go ?_))) | ((with_reducible refine i_callW (n := 86) ?_); refine callW_use (con_spec_l4Kind v19 11 11 v20 c52H) ?_; rintro x σ' ⟨rfl, rfl⟩ <;> ((refine ⟨?_, ?_⟩; (focus simp (decide := true) only [go_sem, reduceIte, Nat.reduceAdd, Int.reduceToNat, Nat.reduceSub, Nat.reduceMul, g50, c51A, c51B, c51C, g53])); (with_reducible refine behind_go ?_))) | exact True.intro | with_reducible assumption | exact fun hf => False.elim hf | (intro hg; first | (simp +contextual [hg]; done) | grind) | omega | simp (decide := true) only [go_sem, reduceIte, Nat.reduceAdd, Int.reduceToNat, Nat.reduceSub, Nat.reduceMul, g50, c51A, c51B, c51C, g53])
                            refine r_cN hk48 (r_ret ?_)
                            refine r_bR hk14 (r_cR hk12 ?_)
                            obtain rfl := Option.some.inj h
                            refine r_eAR hQ rfl rfl ?_
                            simp (decide := true) only [go_sem, reduceIte, Nat.reduceAdd, Int.reduceToNat, Nat.reduceSub, Nat.reduceMul]
                            all_goals first | exact wkEnd_same ⟨rfl, rfl⟩ | exact True.intro
                          · replace h := cond_f h g53
                            repeat' (first | with_reducible refine And.intro ?_ ?_ | ((with_reducible refine i_call (n := 86) ?_); refine call_openF [] ?_) | ((with_reducible refine i_callW (n := 86) ?_); refine callW_use (con_spec_l4Kind v3 8 8 v18 c49H) ?_; rintro x σ' ⟨rfl, rfl⟩ <;> ((refine ⟨?_, ?_⟩; (focus simp (decide := true) only [go_sem, reduceIte, Nat.reduceAdd, Int.reduceToNat, Nat.reduceSub, Nat.reduceMul, g50, c51A, c51B, c51C, g53])); (with_reducible refine behind_go ?_))) | ((with_reducible refine i_callW (n := 86) ?_); refine callW_use (con_spec_l4Kind v19 11 11 v20 c52H) ?_; rintro x σ' ⟨rfl, rfl⟩ <;> ((refine ⟨?_, ?_⟩; (focus simp (decide := true) only [go_sem, reduceIte, Nat.reduceAdd, Int.reduceToNat, Nat.reduceSub, Nat.reduceMul, g50, c51A, c51B, c51C, g53])); (with_reducible refine behind_go ?_))) | exact True.intro | with_reducible assumption | exact fun hf => False.elim hf | (intro hg; first | (simp +contextual [hg]; done) | grind) | omega | simp (decide := true) only [go_sem, reduceIte, Nat.reduceAdd, Int.reduceToNat, Nat.reduceSub, Nat.reduceMul, g50, c51A, c51B, c51C, g53])
                            refine r_cN hk48 (r_ret ?_)
                            refine r_bR hk14 (r_cR hk12 ?_)
                            obtain rfl := Option.some.inj h
                            refine r_eAR hQ rfl rfl ?_
                            simp (decide := true) only [go_sem, reduceIte, Nat.reduceAdd, Int.reduceToNat, Nat.reduceSub, Nat.reduceMul]
                            all_goals first | exact wkEnd_same ⟨rfl, rfl⟩ | exact True.intro
                        · replace h := cond_f h g50
                          repeat' (first | with_reducible refine And.intro ?_ ?_ | ((with_reducible refine i_call (n := 86) ?_); refine call_openF [] ?_) | ((with_reducible refine i_callW (n := 86) ?_); refine callW_use (con_spec_l4Kind v3 8 8 v18 c49H) ?_; rintro x σ' ⟨rfl, rfl⟩ <;> ((refine ⟨?_, ?_⟩; (focus simp (decide := true) only [go_sem, reduceIte, Nat.reduceAdd, Int.reduceToNat, Nat.reduceSub, Nat.reduceMul, g50])); (with_reducible refine behind_go ?_))) | exact True.intro | with_reducible assumption | exact fun hf => False.elim hf | (intro hg; first | (simp +contextual [hg]; done) | grind) | omega | simp (decide := true) only [go_sem, reduceIte, Nat.reduceAdd, Int.reduceToNat, Nat.reduceSub, Nat.reduceMul, g50])
                          refine r_cN hk48 (r_ret ?_)
                          refine r_bR hk14 (r_cR hk12 ?_)
                          obtain rfl := Option.some.inj h
                          refine r_eAR hQ rfl rfl ?_
                          simp (decide := true) only [go_sem, reduceIte, Nat.reduceAdd, Int.reduceToNat, Nat.reduceSub, Nat.reduceMul]
                          all_goals first | exact wkEnd_same ⟨rfl, rfl⟩ | exact True.intro
                      · refine sem_cut fun k54 hk54 => ?_
                        simp (decide := true) only [go_sem, reduceIte, Nat.reduceAdd, Int.reduceToNat, Nat.reduceSub, Nat.reduceMul]
                        refine r_cN hk54 ?_
                        refine sem_ifh rfl h ?_ ?_ <;> clear h <;> intro h
                        · refine sem_cut fun k55 hk55 => ?_
                          obtain ⟨v21, c56H, h⟩ := bind_some' h
                          rcases Bool.eq_false_or_eq_true v21 with g57 | g57
                          · replace h := cond_t h g57
                            obtain ⟨v22, c58H, h⟩ := bind_some' h
                            obtain ⟨c58A, c58B, c58C, -⟩ := idx_some c58H
                            try simp only [Int.reduceToNat, Int.toNat_zero, Int.toNat_one] at c58C
                            obtain ⟨v23, c59H, h⟩ := bind_some' h
                            repeat' (first | with_reducible refine And.intro ?_ ?_ | ((with_reducible refine i_call (n := 86) ?_); refine call_openF [] ?_) | ((with_reducible refine i_callW (n := 86) ?_); refine callW_use (con_spec_l4Kind v3 10 10 v21 c56H) ?_; rintro x σ' ⟨rfl, rfl⟩ <;> ((refine ⟨?_, ?_⟩; (focus simp (decide := true) only [go_sem, reduceIte, Nat.reduceAdd, Int.reduceToNat, Nat.reduceSub, Nat.reduceMul, g57, c58A, c58B, c58C])); (with_reducible refine behind_go ?_))) | ((with_reducible refine i_call (n := 84) ?_); refine call_openF [] ?_) | ((with_reducible refine i_callW (n := 84) ?_); refine callW_use (con_spec_DevIsWhole v22 v23 c59H) ?_; rintro x σ' ⟨rfl, rfl⟩ <;> ((refine ⟨?_, ?_⟩; (focus simp (decide := true) only [go_sem, reduceIte, Nat.reduceAdd, Int.reduceToNat, Nat.reduceSub, Nat.reduceMul, g57, c58A, c58B, c58C])); (with_reducible refine behind_go ?_))) | exact True.intro | with_reducible assumption | exact fun hf => False.elim hf | (intro hg; first | (simp +contextual [hg]; done) | grind) | omega | simp (decide := true) only [go_sem, reduceIte, Nat.reduceAdd, Int.reduceToNat, Nat.reduceSub, Nat.reduceMul, g57, c58A, c58B, c58C])
                            refine r_cN hk55 (r_ret ?_)
                            refine r_bR hk14 (r_cR hk12 ?_)
                            obtain rfl := Option.some.inj h
                            refine r_eAR hQ rfl rfl ?_
                            simp (decide := true) only [go_sem, reduceIte, Nat.reduceAdd, Int.reduceToNat, Nat.reduceSub, Nat.reduceMul]
                            all_goals first | exact wkEnd_same ⟨rfl, rfl⟩ | exact True.intro
                          · replace h := cond_f h g57
                            repeat' (first | with_reducible refine And.intro ?_ ?_ | ((with_reducible refine i_call (n := 86) ?_); refine call_openF [] ?_) | ((with_reducible refine i_callW (n := 86) ?_); refine callW_use (con_spec_l4Kind v3 10 10 v21 c56H) ?_; rintro x σ' ⟨rfl, rfl⟩ <;> ((refine ⟨?_, ?_⟩; (focus simp (decide := true) only [go_sem, reduceIte, Nat.reduceAdd, Int.reduceToNat, Nat.reduceSub, Nat.reduceMul, g57])); (with_reducible refine behind_go ?_))) | exact True.intro | with_reducible assumption | exact fun hf => False.elim hf | (intro hg; first | (simp +contextual [hg]; done) | grind) | omega | simp (decide := true) only [go_sem, reduceIte, Nat.reduceAdd, Int.reduceToNat, Nat.reduceSub, Nat.reduceMul, g57])
                            refine r_cN hk55 (r_ret ?_)
                            refine r_bR hk14 (r_cR hk12 ?_)
                            obtain rfl := Option.some.inj h
                            refine r_eAR hQ rfl rfl ?_
                            simp (decide := true) only [go_sem, reduceIte, Nat.reduceAdd, Int.reduceToNat, Nat.reduceSub, Nat.reduceMul]
                            all_goals first | exact wkEnd_same ⟨rfl, rfl⟩ | exact True.intro
                        · refine sem_cut fun k60 hk60 => ?_
                          simp (decide := true) only [go_sem, reduceIte, Nat.reduceAdd, Int.reduceToNat, Nat.reduceSub, Nat.reduceMul]
                          refine r_cN hk60 ?_
                          refine sem_ifh rfl h ?_ ?_ <;> clear h <;> intro h
                          · refine sem_cut fun k61 hk61 => ?_
                            obtain ⟨v24, c62H, h⟩ := bind_some' h
                            rcases Bool.eq_false_or_eq_true v24 with g63 | g63
                            · replace h := cond_t h g63
                              obtain ⟨v25, c64H, h⟩ := bind_some' h
                              obtain ⟨c64A, c64B, c64C, -⟩ := idx_some c64H
                              try simp only [Int.reduceToNat, Int.toNat_zero, Int.toNat_one] at c64C
                              obtain ⟨v26, c65H, h⟩ := bind_some' h
                              repeat' (first | with_reducible refine And.intro ?_ ?_ | ((with_reducible refine i_call (n := 86) ?_); refine call_openF [] ?_) | ((with_reducible refine i_callW (n := 86) ?_); refine callW_use (con_spec_l4Kind v3 9 9 v24 c62H) ?_; rintro x σ' ⟨rfl, rfl⟩ <;> ((refine ⟨?_, ?_⟩; (focus simp (decide := true) only [go_sem, reduceIte, Nat.reduceAdd, Int.reduceToNat, Nat.reduceSub, Nat.reduceMul, g63, c64A, c64B, c64C])); (with_reducible refine behind_go ?_))) | ((with_reducible refine i_call (n := 85) ?_); refine call_openF [] ?_) | ((with_reducible refine i_callW (n := 85) ?_); refine callW_use (con_spec_DevIsReal v25 v26 c65H) ?_; rintro x σ' ⟨rfl, rfl⟩ <;> ((refine ⟨?_, ?_⟩; (focus simp (decide := true) only [go_sem, reduceIte, Nat.reduceAdd, Int.reduceToNat, Nat.reduceSub, Nat.reduceMul, g63, c64A, c64B, c64C])); (with_reducible refine behind_go ?_))) | exact True.intro | with_reducible assumption | exact fun hf => False.elim hf | (intro hg; first | (simp +contextual [hg]; done) | grind) | omega | simp (decide := true) only [go_sem, reduceIte, Nat.reduceAdd, Int.reduceToNat, Nat.reduceSub, Nat.reduceMul, g63, c64A, c64B, c64C])
                              refine r_cN hk61 (r_ret ?_)
                              refine r_bR hk14 (r_cR hk12 ?_)
                              obtain rfl := Option.some.inj h
                              refine r_eAR hQ rfl rfl ?_
                              simp (decide := true) only [go_sem, reduceIte, Nat.reduceAdd, Int.reduceToNat, Nat.reduceSub, Nat.reduceMul]
                              all_goals first | exact wkEnd_same ⟨rfl, rfl⟩ | exact True.intro
                            · replace h := cond_f h g63
                              repeat' (first | with_reducible refine And.intro ?_ ?_ | ((with_reducible refine i_call (n := 86) ?_); refine call_openF [] ?_) | ((with_reducible refine i_callW (n := 86) ?_); refine callW_use (con_spec_l4Kind v3 9 9 v24 c62H) ?_; rintro x σ' ⟨rfl, rfl⟩ <;> ((refine ⟨?_, ?_⟩; (focus simp (decide := true) only [go_sem, reduceIte, Nat.reduceAdd, Int.reduceToNat, Nat.reduceSub, Nat.reduceMul, g63])); (with_reducible refine behind_go ?_))) | exact True.intro | with_reducible assumption | exact fun hf => False.elim hf | (intro hg; first | (simp +contextual [hg]; done) | grind) | omega | simp (decide := true) only [go_sem, reduceIte, Nat.reduceAdd, Int.reduceToNat, Nat.reduceSub, Nat.reduceMul, g63])
                              refine r_cN hk61 (r_ret ?_)
                              refine r_bR hk14 (r_cR hk12 ?_)
                              obtain rfl := Option.some.inj h
                              refine r_eAR hQ rfl rfl ?_
                              simp (decide := true) only [go_sem, reduceIte, Nat.reduceAdd, Int.reduceToNat, Nat.reduceSub, Nat.reduceMul]
                              all_goals first | exact wkEnd_same ⟨rfl, rfl⟩ | exact True.intro
                          · refine r_skip (r_bN hk14 ?_)
                            refine r_cN hk12 (sem_cut fun k66 hk66 => ?_)
                            obtain ⟨v27, c67H, h⟩ := bind_some' h
                            repeat' (first | with_reducible refine And.intro ?_ ?_ | ((with_reducible refine i_call (n := 87) ?_); refine call_openF [] ?_) | ((with_reducible refine i_callW (n := 87) ?_); refine callW_use (con_spec_l4Calc v1 v27 c67H) ?_; rintro x σ' ⟨rfl, rfl⟩ <;> ((refine ⟨?_, ?_⟩; (focus simp (decide := true) only [go_sem, reduceIte, Nat.reduceAdd, Int.reduceToNat, Nat.reduceSub, Nat.reduceMul])); (with_reducible refine behind_go ?_))) | exact True.intro | with_reducible assumption | exact fun hf => False.elim hf | (intro hg; first | (simp +contextual [hg]; done) | grind) | omega | simp (decide := true) only [go_sem, reduceIte, Nat.reduceAdd, Int.reduceToNat, Nat.reduceSub, Nat.reduceMul])
                            refine r_cN hk66 (r_ret ?_)
                            obtain rfl := Option.some.inj h
                            refine r_eAR hQ rfl rfl ?_
                            simp (decide := true) only [go_sem, reduceIte, Nat.reduceAdd, Int.reduceToNat, Nat.reduceSub, Nat.reduceMul]
                            all_goals first | exact wkEnd_same ⟨rfl, rfl⟩ | exact True.intro
                  · intro k69 hk69 J68
                    refine sem_cut fun k70 hk70 => ?_
                    simp (decide := true) only [go_sem, reduceIte, Nat.reduceAdd, Int.reduceToNat, Nat.reduceSub, Nat.reduceMul]
                    refine r_cN hk70 ?_
                    refine sem_ifh rfl h ?_ ?_ <;> clear h <;> intro h
                    · refine r_skip (r_joinU J68 [1, 3, 26, 66] () _ rfl rfl ⟨?_, h⟩)
                      first | exact wkSt_same rfl | (simp (decide := true) only [go_sem, reduceIte, Nat.reduceAdd, Int.reduceToNat, Nat.reduceSub, Nat.reduceMul]; exact wkSt_same rfl)
                    · refine sem_cut fun k71 hk71 => ?_
                      simp (decide := true) only [go_sem, reduceIte, Nat.reduceAdd, Int.reduceToNat, Nat.reduceSub, Nat.reduceMul]
                      refine r_cN hk71 ?_
                      refine sem_ifh rfl h ?_ ?_ <;> clear h <;> intro h
                      · refine r_skip (r_joinU J68 [1, 3, 26, 66] () _ rfl rfl ⟨?_, h⟩)
                        first | exact wkSt_same rfl | (simp (decide := true) only [go_sem, reduceIte, Nat.reduceAdd, Int.reduceToNat, Nat.reduceSub, Nat.reduceMul]; exact wkSt_same rfl)
                      · simp (decide := true) only [go_sem, reduceIte, Nat.reduceAdd, Int.reduceToNat, Nat.reduceSub, Nat.reduceMul]
                        refine r_joinU J68 [1, 3, 26, 66] () _ rfl rfl ⟨?_, h⟩
                        first | exact wkSt_same rfl | (simp (decide := true) only [go_sem, reduceIte, Nat.reduceAdd, Int.reduceToNat, Nat.reduceSub, Nat.reduceMul]; exact wkSt_same rfl)
noncomputable def spec_ListOk (v1 : Inst) : Option Bool :=
  (cond ((decide (v1.Code < 1)) || (decide (v1.Code > 11))) (some false) (cond (decide (v1.Code ≤ 3)) (Option.bind (spec_ElemIsContact (⟨v1.One_Op, v1.One_Args⟩ : Elem)) fun v2 => (some v2)) (cond (v1.Code == 10) (Option.bind (spec_ElemIsCoil (⟨v1.One_Op, v1.One_Args⟩ : Elem)) fun v3 => (some v3)) (some ((v1.One_Op == 0) && (((v1.One_Args).length : Int) == 0))))))
set_option maxRecDepth 10000 in
set_option maxHeartbeats 4000000 in
theorem con_spec_ListOk (v1 : Inst) (res_ : Bool) (h : spec_ListOk v1 = some res_) : Con Tryd.prog C0 44 [.agg [.sc (.int .i64 (v1.Code)), .sc (.int .i64 (v1.One_Op)), .fz 3 (R e_DevArg (v1.One_Args))]] []
    (fun x σ' => x = .sc (.bool (res_)) ∧ σ' = []) := by
  refine con_of_sem hP [0, 1, 2, 3, 12, 19] [.tmp 2] Tryd.func44 (by unfold Tryd.f44; rfl) rfl rfl (Nat.le_of_ble_eq_true rfl) rfl ?_
  simp only [enter_cons, enter_nil, List.length_cons, List.length_nil, Nat.reduceAdd]
  generalize hQ : endQ _ _ _ _ = Q
  unfold spec_ListOk at h
  refine sem_cut fun k1 hk1 => ?_
  simp (decide := true) only [go_sem, reduceIte, Nat.reduceAdd, Int.reduceToNat, Nat.reduceSub, Nat.reduceMul]
  refine r_cN hk1 (sem_cut fun k2 hk2 => ?_)
  refine sem_blk fun k3 hk3 => sem_cut fun k4 hk4 => ?_
  repeat' (first | with_reducible refine And.intro ?_ ?_ | exact True.intro | with_reducible assumption | exact fun hf => False.elim hf | (intro hg; first | (simp +contextual [hg]; done) | grind) | omega | simp (decide := true) only [go_sem, reduceIte, Nat.reduceAdd, Int.reduceToNat, Nat.reduceSub, Nat.reduceMul])
  refine r_cN hk4 ?_
  refine sem_ifh rfl h ?_ ?_ <;> clear h <;> intro h
  · refine sem_cut fun k5 hk5 => ?_
    simp (decide := true) only [go_sem, reduceIte, Nat.reduceAdd, Int.reduceToNat, Nat.reduceSub, Nat.reduceMul]
    refine r_cN hk5 (r_ret ?_)
    refine r_bR hk3 (r_cR hk2 ?_)
    obtain rfl := Option.some.inj h
    refine r_eAR hQ rfl rfl ?_
    simp (decide := true) only [go_sem, reduceIte, Nat.reduceAdd, Int.reduceToNat, Nat.reduceSub, Nat.reduceMul]
    all_goals first | exact wkEnd_same ⟨rfl, rfl⟩ | exact True.intro
  · refine sem_cut fun k6 hk6 => ?_
    simp (decide := true) only [go_sem, reduceIte, Nat.reduceAdd, Int.reduceToNat, Nat.reduceSub, Nat.reduceMul]
    refine r_cN hk6 ?_
    refine sem_ifh rfl h ?_ ?_ <;> clear h <;> intro h
    · refine sem_cut fun k7 hk7 => ?_
      obtain ⟨v2, c8H, h⟩ := bind_some' h
      repeat' (first | with_reducible refine And.intro ?_ ?_ | ((with_reducible refine i_call (n := 60) ?_); refine call_openF [] ?_) | ((with_reducible refine i_callW (n := 60) ?_); refine callW_use (con_spec_ElemIsContact (⟨v1.One_Op, v1.One_Args⟩ : Elem) v2 c8H) ?_; rintro x σ' ⟨rfl, rfl⟩ <;> ((refine ⟨?_, ?_⟩; (focus simp (decide := true) only [go_sem, reduceIte, Nat.reduceAdd, Int.reduceToNat, Nat.reduceSub, Nat.reduceMul])); (with_reducible refine behind_go ?_))) | exact True.intro | with_reducible assumption | exact fun hf => False.elim hf | (intro hg; first | (simp +contextual [hg]; done) | grind) | omega | simp (decide := true) only [go_sem, reduceIte, Nat.reduceAdd, Int.reduceToNat, Nat.reduceSub, Nat.reduceMul])
      refine r_cN hk7 (r_ret ?_)
      refine r_bR hk3 (r_cR hk2 ?_)
      obtain rfl := Option.some.inj h
      refine r_eAR hQ rfl rfl ?_
      simp (decide := true) only [go_sem, reduceIte, Nat.reduceAdd, Int.reduceToNat, Nat.reduceSub, Nat.reduceMul]
      all_goals first | exact wkEnd_same ⟨rfl, rfl⟩ | exact True.intro
    · refine sem_cut fun k9 hk9 => ?_
      simp (decide := true) only [go_sem, reduceIte, Nat.reduceAdd, Int.reduceToNat, Nat.reduceSub, Nat.reduceMul]
      refine r_cN hk9 ?_
      refine sem_ifh rfl h ?_ ?_ <;> clear h <;> intro h
      · refine sem_cut fun k10 hk10 => ?_
        obtain ⟨v3, c11H, h⟩ := bind_some' h
        repeat' (first | with_reducible refine And.intro ?_ ?_ | ((with_reducible refine i_call (n := 61) ?_); refine call_openF [] ?_) | ((with_reducible refine i_callW (n := 61) ?_); refine callW_use (con_spec_ElemIsCoil (⟨v1.One_Op, v1.One_Args⟩ : Elem) v3 c11H) ?_; rintro x σ' ⟨rfl, rfl⟩ <;> ((refine ⟨?_, ?_⟩; (focus simp (decide := true) only [go_sem, reduceIte, Nat.reduceAdd, Int.reduceToNat, Nat.reduceSub, Nat.reduceMul])); (with_reducible refine behind_go ?_))) | exact True.intro | with_reducible assumption | exact fun hf => False.elim hf | (intro hg; first | (simp +contextual [hg]; done) | grind) | omega | simp (decide := true) only [go_sem, reduceIte, Nat.reduceAdd, Int.reduceToNat, Nat.reduceSub, Nat.reduceMul])
        refine r_cN hk10 (r_ret ?_)
        refine r_bR hk3 (r_cR hk2 ?_)
        obtain rfl := Option.some.inj h
        refine r_eAR hQ rfl rfl ?_
        simp (decide := true) only [go_sem, reduceIte, Nat.reduceAdd, Int.reduceToNat, Nat.reduceSub, Nat.reduceMul]
        all_goals first | exact wkEnd_same ⟨rfl, rfl⟩ | exact True.intro
      · refine r_skip (r_bN hk3 ?_)
        refine r_cN hk2 (sem_cut fun k12 hk12 => ?_)
        repeat' (first | with_reducible refine And.intro ?_ ?_ | exact True.intro | with_reducible assumption | exact fun hf => False.elim hf | (intro hg; first | (simp +contextual [hg]; done) | grind) | omega | simp (decide := true) only [go_sem, reduceIte, Nat.reduceAdd, Int.reduceToNat, Nat.reduceSub, Nat.reduceMul])
        refine r_cN hk12 (r_ret ?_)
        obtain rfl := Option.some.inj h
        refine r_eAR hQ rfl rfl ?_
        simp (decide := true) only [go_sem, reduceIte, Nat.reduceAdd, Int.reduceToNat, Nat.reduceSub, Nat.reduceMul]
        all_goals first | exact wkEnd_same ⟨rfl, rfl⟩ | exact True.intro
noncomputable def spec_l12Needs_j13 : Bool → Option Int
  | v2 => (cond v2 (some 2) (some 1))
noncomputable def spec_l12Needs (v1 : Int) : Option Int :=
  (cond (v1 == 1) (some 0) (cond (v1 == 4) (spec_l12Needs_j13 (v1 == 4)) (spec_l12Needs_j13 (v1 == 5))))
set_option maxRecDepth 10000 in
set_option maxHeartbeats 4000000 in
theorem con_spec_l12Needs (v1 : Int) (res_ : Int) (h : spec_l12Needs v1 = some res_) : Con Tryd.prog C0 45 [.sc (.int .i64 (v1))] []
    (fun x σ' => x = .sc (.int .i64 (res_)) ∧ σ' = []) := by
  refine con_of_sem hP [0, 2, 3, 4, 6] [.tmp 2] Tryd.func45 (by unfold Tryd.f45; rfl) rfl rfl (Nat.le_of_ble_eq_true rfl) rfl ?_
  simp only [enter_cons, enter_nil, List.length_cons, List.length_nil, Nat.reduceAdd]
  generalize hQ : endQ _ _ _ _ = Q
  unfold spec_l12Needs at h
  refine sem_cut fun k1 hk1 => ?_
  simp (decide := true) only [go_sem, reduceIte, Nat.reduceAdd, Int.reduceToNat, Nat.reduceSub, Nat.reduceMul]
  refine r_cN hk1 (sem_cut fun k2 hk2 => ?_)
  refine sem_cut fun k3 hk3 => ?_
  simp (decide := true) only [go_sem, reduceIte, Nat.reduceAdd, Int.reduceToNat, Nat.reduceSub, Nat.reduceMul]
  refine r_cN hk3 (sem_blk fun k4 hk4 => ?_)
  refine sem_cut fun k5 hk5 => ?_
  simp (decide := true) only [go_sem, reduceIte, Nat.reduceAdd, Int.reduceToNat, Nat.reduceSub, Nat.reduceMul]
  refine r_cN hk5 ?_
  refine sem_ifh rfl h ?_ ?_ <;> clear h <;> intro h
  · refine sem_cut fun k6 hk6 => ?_
    simp (decide := true) only [go_sem, reduceIte, Nat.reduceAdd, Int.reduceToNat, Nat.reduceSub, Nat.reduceMul]
    refine r_cN hk6 (r_ret ?_)
    refine r_bR hk4 (r_cR hk2 ?_)
    obtain rfl := Option.some.inj h
    refine r_eAR hQ rfl rfl ?_
    simp (decide := true) only [go_sem, reduceIte, Nat.reduceAdd, Int.reduceToNat, Nat.reduceSub, Nat.reduceMul]
    all_goals first | exact wkEnd_same ⟨rfl, rfl⟩ | exact True.intro
  · refine sem_cutJ (fun (_ : Unit) (x : Bool) => (⟨[(6, .sc (.bool (x)))], []⟩ : St)) (fun (_ : Unit) (x : Bool) => spec_l12Needs_j13 x = some res_) ?_ ?_
    · rintro _ v2 h
      simp only [spec_l12Needs_j13] at h
      refine sem_ifh rfl h ?_ ?_ <;> clear h <;> intro h
      · refine sem_cut fun k8 hk8 => ?_
        simp (decide := true) only [go_sem, reduceIte, Nat.reduceAdd, Int.reduceToNat, Nat.reduceSub, Nat.reduceMul]
        refine r_cN hk8 (r_ret ?_)
        refine r_bR hk4 (r_cR hk2 ?_)
        obtain rfl := Option.some.inj h
        refine r_eAR hQ rfl rfl ?_
        simp (decide := true) only [go_sem, reduceIte, Nat.reduceAdd, Int.reduceToNat, Nat.reduceSub, Nat.reduceMul]
        all_goals first | exact wkEnd_same ⟨rfl, rfl⟩ | exact True.intro
      · refine r_skip (r_bN hk4 ?_)
        refine r_cN hk2 (sem_cut fun k9 hk9 => ?_)
        simp (decide := true) only [go_sem, reduceIte, Nat.reduceAdd, Int.reduceToNat, Nat.reduceSub, Nat.reduceMul]
        refine r_cN hk9 (r_ret ?_)
        obtain rfl := Option.some.inj h
        refine r_eAR hQ rfl rfl ?_
        simp (decide := true) only [go_sem, reduceIte, Nat.reduceAdd, Int.reduceToNat, Nat.reduceSub, Nat.reduceMul]
        all_goals first | exact wkEnd_same ⟨rfl, rfl⟩ | exact True.intro
    · intro k11 hk11 J10
      refine sem_cut fun k12 hk12 => ?_
      simp (decide := true) only [go_sem, reduceIte, Nat.reduceAdd, Int.reduceToNat, Nat.reduceSub, Nat.reduceMul]
      refine r_cN hk12 ?_
      refine sem_ifh rfl h ?_ ?_ <;> clear h <;> intro h
      · refine r_skip (r_joinU J10 [6] () _ rfl rfl ⟨?_, h⟩)
        first | exact wkSt_same rfl | (simp (decide := true) only [go_sem, reduceIte, Nat.reduceAdd, Int.reduceToNat, Nat.reduceSub, Nat.reduceMul]; exact wkSt_same rfl)
      · simp (decide := true) only [go_sem, reduceIte, Nat.reduceAdd, Int.reduceToNat, Nat.reduceSub, Nat.reduceMul]
        refine r_joinU J10 [6] () _ rfl rfl ⟨?_, h⟩
        first | exact wkSt_same rfl | (simp (decide := true) only [go_sem, reduceIte, Nat.reduceAdd, Int.reduceToNat, Nat.reduceSub, Nat.reduceMul]; exact wkSt_same rfl)

end Go.AM
