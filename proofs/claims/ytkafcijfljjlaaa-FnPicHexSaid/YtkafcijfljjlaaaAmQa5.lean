/- Pure functions and their contracts. Conditions: none. -/
import Derived.Test.YtkafcijfljjlaaaAmQa4
set_option linter.unusedSimpArgs false
set_option linter.unusedVariables false
namespace Go.AM
open Go Go.Proofs
noncomputable def spec_PicBytes_j13 : (List Int) → Option ((List Int) × Bool)
  | v12 => (some (v12, true))
noncomputable def spec_PicBytes_s17 (v1 : ByteArray) : ((List Int) × Int) → Option (((List Int) × Int) ⊕ (Unit ⊕ (List Int)))
  | (v15, v16) => (cond (decide (v16 < ((v1).size : Int))) (gd (decide (0 ≤ v16) && decide (v16 < ((v1).size : Int))) (Option.bind (spec_l17Digit (bat v1 v16)) fun v21 => (gd (decide (0 ≤ (IntKind.i64.wrap (v16 + 1))) && decide ((IntKind.i64.wrap (v16 + 1)) < ((v1).size : Int))) (Option.bind (spec_l17Digit (bat v1 (IntKind.i64.wrap (v16 + 1)))) fun v22 => (cond ((decide (v21 < 0)) || (decide (v22 < 0))) (some (.inr (.inl ()))) (gd (apOk ((v15 ++ [(IntKind.u8.wrap ((IntKind.i64.wrap ((IntKind.i64.wrap (v21 * 16)) + v22))))])).length 1) (some (.inl ((v15 ++ [(IntKind.u8.wrap ((IntKind.i64.wrap ((IntKind.i64.wrap (v21 * 16)) + v22))))]), (IntKind.i64.wrap (v16 + 2))))))))))) (some (.inr (.inr v15))))
noncomputable def spec_PicBytes (v1 : ByteArray) : Option ((List Int) × Bool) :=
  (cond ((((((v1).size : Int)).tmod 2) == 1) || (decide (((v1).size : Int) > 40016))) (some ([], false)) ((loop (spec_PicBytes_s17 v1) ([], 0)).bind (Sum.elim (fun v19 => (some ([], false))) (fun v20 => (spec_PicBytes_j13 v20)))))
set_option maxRecDepth 10000 in
set_option maxHeartbeats 4000000 in
theorem con_spec_PicBytes (v1 : ByteArray) (res_ : ((List Int) × Bool)) (h : spec_PicBytes v1 = some res_) : Con Try.prog C0 28 [.sc (.string (v1))] []
    (fun x σ' => x = .tup [.fz 1 (R e_u8 (res_.1)), .sc (.bool (res_.2))] ∧ σ' = []) := by
  refine con_of_sem hP [0, 2, 3, 4, 5, 6, 7, 16, 21, 38] [.tmp 2, .tmp 3] Try.func28 (by unfold Try.f28; rfl) rfl rfl (Nat.le_of_ble_eq_true rfl) rfl ?_
  simp only [enter_cons, enter_nil, List.length_cons, List.length_nil, Nat.reduceAdd]
  generalize hQ : endQ _ _ _ _ = Q
  unfold spec_PicBytes at h
  refine sem_cut fun k1 hk1 => ?_
  simp (decide := true) only [go_sem, reduceIte, Nat.reduceAdd, Int.reduceToNat, Nat.reduceSub, Nat.reduceMul]
  refine r_cN hk1 (sem_cut fun k2 hk2 => ?_)
  refine sem_cut fun k3 hk3 => ?_
  repeat' (first | with_reducible refine And.intro ?_ ?_ | exact True.intro | with_reducible assumption | exact fun hf => False.elim hf | (intro hg; first | (simp +contextual [hg]; done) | grind) | omega | simp (decide := true) only [go_sem, reduceIte, Nat.reduceAdd, Int.reduceToNat, Nat.reduceSub, Nat.reduceMul])
  refine r_cN hk3 ?_
  refine sem_ifh rfl h ?_ ?_ <;> clear h <;> intro h
  · refine sem_cut fun k4 hk4 => ?_
    simp (decide := true) only [go_sem, reduceIte, Nat.reduceAdd, Int.reduceToNat, Nat.reduceSub, Nat.reduceMul]
    refine r_cN hk4 (r_ret ?_)
    refine r_cR hk2 ?_
    obtain rfl := Option.some.inj h
    refine r_eAR hQ rfl rfl ?_
    simp (decide := true) only [go_sem, reduceIte, Nat.reduceAdd, Int.reduceToNat, Nat.reduceSub, Nat.reduceMul]
    all_goals first | exact True.intro | (refine wkEnd_mk ?_ ?_ (⟨rfl, rfl⟩) <;> repeat' (first | exact wkE_nil | (with_reducible apply wkE_cons) | exact wkC_nil _ | exact wkV_nil _ | exact wkA_nil _ | (with_reducible apply wkV_agg) | (with_reducible apply wkV_tup) | (with_reducible apply wkA_agg) | exact wkA_refl _ | exact wkV_refl _ | exact wkS_nil | (with_reducible apply wkS_cons) | (with_reducible apply wkO_rc) | (with_reducible apply wkO_arr) | exact wkO_refl _ | exact wkL_nil | (with_reducible apply wkL_cons) | exact wkC_refl _ | exact wkT_nil | (with_reducible apply wkT_cons) | (with_reducible apply wkR_appR) | (with_reducible apply wkR_consR) | exact wkR_nilR _ | exact wkR_refl _))
  · refine r_skip (r_cN hk2 ?_)
    refine sem_cut fun k5 hk5 => ?_
    simp (decide := true) only [go_sem, reduceIte, Nat.reduceAdd, Int.reduceToNat, Nat.reduceSub, Nat.reduceMul]
    refine r_cN hk5 (sem_cutJ (fun (_ : Unit) (x : (List Int)) => (⟨[(4, .sl 0 0 ((x).length))], [.arr true 1 (R e_u8 (x))]⟩ : St)) (fun (_ : Unit) (x : (List Int)) => spec_PicBytes_j13 x = some res_) ?_ ?_)
    · rintro _ v12 h
      simp only [spec_PicBytes_j13] at h
      refine sem_cut fun k51 hk51 => ?_
      simp (decide := true) only [go_sem, reduceIte, Nat.reduceAdd, Int.reduceToNat, Nat.reduceSub, Nat.reduceMul]
      refine r_cN hk51 (r_ret ?_)
      obtain rfl := Option.some.inj h
      refine r_eAR hQ rfl rfl ?_
      simp (decide := true) only [go_sem, reduceIte, Nat.reduceAdd, Int.reduceToNat, Nat.reduceSub, Nat.reduceMul]
      all_goals first | exact wkEnd_same ⟨rfl, rfl⟩ | exact True.intro
    · intro k53 hk53 J52
      refine sem_cut fun k54 hk54 => ?_
      simp (decide := true) only [go_sem, reduceIte, Nat.reduceAdd, Int.reduceToNat, Nat.reduceSub, Nat.reduceMul]
      refine r_cN hk54 (sem_blk fun k55 hk55 => ?_)
      obtain ⟨oq84, hLq84, hKq84⟩ := bind_some' h
      clear h
      refine sem_loopP [0, 4, 5] (fun (_ : Unit) (x : ((List Int) × Int)) => (⟨[(0, .sc (.string (v1))), (4, .sl 0 0 ((x.1).length)), (5, .sc (.int .i64 (x.2)))], [.arr true 1 (R e_u8 (x.1))]⟩ : St)) (fun (_ : Unit) (x : ((List Int) × Int)) => True) (spec_PicBytes_s17 v1) () ([], 0) hLq84 (by rfl) (by rfl) ⟨?_, trivial⟩ ?_
      · first | exact wkSt_same rfl | (simp (decide := true) only [go_sem, reduceIte, Nat.reduceAdd, Int.reduceToNat, Nat.reduceSub, Nat.reduceMul]; exact wkSt_same rfl)
      · rintro nq84 _ ⟨v15, v16⟩ xq84 kq84 hkq84 - h hIq84 hEq84
        simp only [spec_PicBytes_s17] at h
        refine sem_cut fun k85 hk85 => sem_cut fun k86 hk86 => ?_
        simp (decide := true) only [go_sem, reduceIte, Nat.reduceAdd, Int.reduceToNat, Nat.reduceSub, Nat.reduceMul]
        refine r_cN hk86 ?_
        refine sem_ifh rfl h ?_ ?_ <;> clear h <;> intro h
        · refine r_skip (r_cN hk85 ?_)
          refine sem_cut fun k87 hk87 => sem_blk fun k88 hk88 => sem_cut fun k89 hk89 => ?_
          obtain ⟨g90, h⟩ := gd_some h
          obtain ⟨g90A, g90B⟩ := dec_and g90
          obtain ⟨v21, c91H, h⟩ := bind_some' h
          repeat' (first | with_reducible refine And.intro ?_ ?_ | ((with_reducible refine i_call (n := 52) ?_); refine call_openF [] ?_) | ((with_reducible refine i_callW (n := 52) ?_); refine callW_use (con_spec_l17Digit (bat v1 v16) v21 c91H) ?_; rintro x σ' ⟨rfl, rfl⟩ <;> ((refine ⟨?_, ?_⟩; (focus simp (decide := true) only [go_sem, reduceIte, Nat.reduceAdd, Int.reduceToNat, Nat.reduceSub, Nat.reduceMul, g90A, g90B])); (with_reducible refine behind_go ?_))) | exact True.intro | with_reducible assumption | exact fun hf => False.elim hf | (intro hg; first | (simp +contextual [hg]; done) | grind) | omega | simp (decide := true) only [go_sem, reduceIte, Nat.reduceAdd, Int.reduceToNat, Nat.reduceSub, Nat.reduceMul, g90A, g90B])
          refine r_cN hk89 (sem_cut fun k92 hk92 => ?_)
          obtain ⟨g93, h⟩ := gd_some h
          obtain ⟨g93A, g93B⟩ := dec_and g93
          obtain ⟨v22, c94H, h⟩ := bind_some' h
          repeat' (first | with_reducible refine And.intro ?_ ?_ | ((with_reducible refine i_call (n := 52) ?_); refine call_openF [] ?_) | ((with_reducible refine i_callW (n := 52) ?_); refine callW_use (con_spec_l17Digit (bat v1 (IntKind.i64.wrap (v16 + 1))) v22 c94H) ?_; rintro x σ' ⟨rfl, rfl⟩ <;> ((refine ⟨?_, ?_⟩; (focus simp (decide := true) only [go_sem, reduceIte, Nat.reduceAdd, Int.reduceToNat, Nat.reduceSub, Nat.reduceMul, g93A, g93B])); (with_reducible refine behind_go ?_))) | exact True.intro | with_reducible assumption | exact fun hf => False.elim hf | (intro hg; first | (simp +contextual [hg]; done) | grind) | omega | simp (decide := true) only [go_sem, reduceIte, Nat.reduceAdd, Int.reduceToNat, Nat.reduceSub, Nat.reduceMul, g93A, g93B])
          refine r_cN hk92 (sem_cut fun k95 hk95 => ?_)
          refine sem_cut fun k96 hk96 => ?_
          repeat' (first | with_reducible refine And.intro ?_ ?_ | exact True.intro | with_reducible assumption | exact fun hf => False.elim hf | (intro hg; first | (simp +contextual [hg]; done) | grind) | omega | simp (decide := true) only [go_sem, reduceIte, Nat.reduceAdd, Int.reduceToNat, Nat.reduceSub, Nat.reduceMul])
          refine r_cN hk96 ?_
          refine sem_ifh rfl h ?_ ?_ <;> clear h <;> intro h
          · refine sem_cut fun k97 hk97 => ?_
            simp (decide := true) only [go_sem, reduceIte, Nat.reduceAdd, Int.reduceToNat, Nat.reduceSub, Nat.reduceMul]
            refine r_cN hk97 (r_ret ?_)
            refine r_cR hk95 (r_bR hk88 ?_)
            refine r_cR hk87 ?_
            obtain rfl := Option.some.inj h
            obtain rfl := hEq84 _ rfl
            have h := hKq84
            try simp only [Sum.elim_inl, Sum.elim_inr] at h
            refine r_kR hkq84 (r_bR hk55 ?_)
            refine r_jR hk53 ?_
            obtain rfl := Option.some.inj h
            refine r_eAR hQ rfl rfl ?_
            simp (decide := true) only [go_sem, reduceIte, Nat.reduceAdd, Int.reduceToNat, Nat.reduceSub, Nat.reduceMul]
            all_goals first | exact True.intro | (refine wkEnd_mk ?_ ?_ (⟨rfl, rfl⟩) <;> repeat' (first | exact wkE_nil | (with_reducible apply wkE_cons) | exact wkC_nil _ | exact wkV_nil _ | exact wkA_nil _ | (with_reducible apply wkV_agg) | (with_reducible apply wkV_tup) | (with_reducible apply wkA_agg) | exact wkA_refl _ | exact wkV_refl _ | exact wkS_nil | (with_reducible apply wkS_cons) | (with_reducible apply wkO_rc) | (with_reducible apply wkO_arr) | exact wkO_refl _ | exact wkL_nil | (with_reducible apply wkL_cons) | exact wkC_refl _ | exact wkT_nil | (with_reducible apply wkT_cons) | (with_reducible apply wkR_appR) | (with_reducible apply wkR_consR) | exact wkR_nilR _ | exact wkR_refl _))
          · refine r_skip (r_cN hk95 ?_)
            obtain ⟨g98, h⟩ := gd_some h
            have g98A := apOk_1 g98; have g98B := apOk_2 g98
            repeat' (first | with_reducible refine And.intro ?_ ?_ | exact True.intro | with_reducible assumption | exact fun hf => False.elim hf | (intro hg; first | (simp +contextual [hg]; done) | grind) | omega | simp (decide := true) only [go_sem, reduceIte, Nat.reduceAdd, Int.reduceToNat, Nat.reduceSub, Nat.reduceMul, g98A, g98B])
            refine r_bN hk88 (r_cN hk87 ?_)
            simp (decide := true) only [go_sem, reduceIte, Nat.reduceAdd, Int.reduceToNat, Nat.reduceSub, Nat.reduceMul]
            obtain rfl := Option.some.inj h
            subst hkq84
            refine r_backP () _ rfl rfl ⟨?_, trivial⟩ (hIq84 _ rfl)
            first | exact wkSt_same rfl | (simp (decide := true) only [go_sem, reduceIte, Nat.reduceAdd, Int.reduceToNat, Nat.reduceSub, Nat.reduceMul]; exact wkSt_same rfl)
        · refine r_exit (r_cE hk85 ?_)
          obtain rfl := Option.some.inj h
          obtain rfl := hEq84 _ rfl
          have h := hKq84
          try simp only [Sum.elim_inl, Sum.elim_inr] at h
          refine r_kE hkq84 (r_bE hk55 ?_)
          refine r_joinU J52 [4] () _ rfl rfl ⟨?_, h⟩
          first | exact wkSt_same rfl | (simp (decide := true) only [go_sem, reduceIte, Nat.reduceAdd, Int.reduceToNat, Nat.reduceSub, Nat.reduceMul]; exact wkSt_same rfl)
noncomputable def laws_FnPicHex (v1 : (List Int)) (v2 : (List Int)) : Option Bool :=
  (cond ((decide (((v1).length : Int) > 1048576)) || (decide (((v2).length : Int) > 1048576))) (some true) (Option.bind (spec_DrawPicHex v1) fun v3 => (Option.bind (impl_PicHex v3) fun v4 => (Option.bind (impl_PicBytes v4) fun v5 => (Option.bind (spec_PicHex v3) fun v6 => (cond (((!(v4.toList == v6.toList)) || (!v5.2)) || ((decide (((v3).length : Int) ≤ 20008)) && (!((bstr v5.1).toList == (bstr v3).toList)))) (some false) (Option.bind (spec_DrawPicBytes v2) fun v7 => (Option.bind (impl_PicBytes v7) fun v8 => (Option.bind (spec_PicBytes v7) fun v9 => (cond (v8.2 == v9.2) (cond v8.2 (Option.bind (impl_PicHex v8.1) fun v10 => (some (v10.toList == v7.toList))) (some true)) (some false)))))))))))
set_option maxRecDepth 10000 in
set_option maxHeartbeats 4000000 in
theorem con_laws_FnPicHex (v1 : (List Int)) (v2 : (List Int)) (res_ : Bool) (h : laws_FnPicHex v1 v2 = some res_) : Con Try.prog C0 6 [.fz 1 (R e_u8 (v1)), .fz 1 (R e_u8 (v2))] []
    (fun x σ' => x = .sc (.bool (res_)) ∧ σ' = []) := by
  refine con_of_sem hP [0, 1, 4, 5, 6, 7, 8, 9, 10, 11, 13, 21, 50] [.tmp 4] Try.func6 (by unfold Try.f6; rfl) rfl rfl (Nat.le_of_ble_eq_true rfl) rfl ?_
  simp only [enter_cons, enter_nil, List.length_cons, List.length_nil, Nat.reduceAdd]
  generalize hQ : endQ _ _ _ _ = Q
  unfold laws_FnPicHex at h
  refine sem_cut fun k1 hk1 => ?_
  simp (decide := true) only [go_sem, reduceIte, Nat.reduceAdd, Int.reduceToNat, Nat.reduceSub, Nat.reduceMul]
  refine r_cN hk1 (sem_cut fun k2 hk2 => ?_)
  refine sem_cut fun k3 hk3 => ?_
  repeat' (first | with_reducible refine And.intro ?_ ?_ | exact True.intro | with_reducible assumption | exact fun hf => False.elim hf | (intro hg; first | (simp +contextual [hg]; done) | grind) | omega | simp (decide := true) only [go_sem, reduceIte, Nat.reduceAdd, Int.reduceToNat, Nat.reduceSub, Nat.reduceMul])
  refine r_cN hk3 ?_
  refine sem_ifh rfl h ?_ ?_ <;> clear h <;> intro h
  · refine sem_cut fun k4 hk4 => ?_
    simp (decide := true) only [go_sem, reduceIte, Nat.reduceAdd, Int.reduceToNat, Nat.reduceSub, Nat.reduceMul]
    refine r_cN hk4 (r_ret ?_)
    refine r_cR hk2 ?_
    obtain rfl := Option.some.inj h
    refine r_eAR hQ rfl rfl ?_
    simp (decide := true) only [go_sem, reduceIte, Nat.reduceAdd, Int.reduceToNat, Nat.reduceSub, Nat.reduceMul]
    all_goals first | exact wkEnd_same ⟨rfl, rfl⟩ | exact True.intro
  · refine r_skip (r_cN hk2 ?_)
    refine sem_cut fun k5 hk5 => ?_
    obtain ⟨v3, c6H, h⟩ := bind_some' h
    repeat' (first | with_reducible refine And.intro ?_ ?_ | ((with_reducible refine i_call (n := 23) ?_); refine call_open [] ?_) | ((with_reducible refine i_callW (n := 23) ?_); refine callW_use (con_spec_DrawPicHex v1 v3 c6H) ?_; rintro x σ' ⟨rfl, rfl⟩ <;> ((with_reducible refine behind_go ?_))) | exact True.intro | with_reducible assumption | exact fun hf => False.elim hf | (intro hg; first | (simp +contextual [hg]; done) | grind) | omega | simp (decide := true) only [go_sem, reduceIte, Nat.reduceAdd, Int.reduceToNat, Nat.reduceSub, Nat.reduceMul])
    refine r_cN hk5 (sem_cut fun k7 hk7 => ?_)
    obtain ⟨v4, c8H, h⟩ := bind_some' h
    repeat' (first | with_reducible refine And.intro ?_ ?_ | ((with_reducible refine i_call (n := 24) ?_); refine call_openF [] ?_) | ((with_reducible refine i_callW (n := 24) ?_); refine callW_use (con_impl_PicHex v3 v4 c8H) ?_; rintro x σ' ⟨rfl, rfl⟩ <;> ((refine ⟨?_, ?_⟩; (focus simp (decide := true) only [go_sem, reduceIte, Nat.reduceAdd, Int.reduceToNat, Nat.reduceSub, Nat.reduceMul])); (with_reducible refine behind_go ?_))) | exact True.intro | with_reducible assumption | exact fun hf => False.elim hf | (intro hg; first | (simp +contextual [hg]; done) | grind) | omega | simp (decide := true) only [go_sem, reduceIte, Nat.reduceAdd, Int.reduceToNat, Nat.reduceSub, Nat.reduceMul])
    refine r_cN hk7 (sem_cut fun k9 hk9 => ?_)
    obtain ⟨v5, c10H, h⟩ := bind_some' h
    repeat' (first | with_reducible refine And.intro ?_ ?_ | ((with_reducible refine i_call (n := 25) ?_); refine call_open [] ?_) | ((with_reducible refine i_callW (n := 25) ?_); refine callW_use (con_impl_PicBytes v4 v5 c10H) ?_; rintro x σ' ⟨rfl, rfl⟩ <;> ((with_reducible refine behind_go ?_))) | exact True.intro | with_reducible assumption | exact fun hf => False.elim hf | (intro hg; first | (simp +contextual [hg]; done) | grind) | omega | simp (decide := true) only [go_sem, reduceIte, Nat.reduceAdd, Int.reduceToNat, Nat.reduceSub, Nat.reduceMul])
    refine r_cN hk9 (sem_cut fun k11 hk11 => ?_)
    refine sem_cut fun k12 hk12 => ?_
    obtain ⟨v6, c13H, h⟩ := bind_some' h
    repeat' (first | with_reducible refine And.intro ?_ ?_ | ((with_reducible refine i_call (n := 26) ?_); refine call_openF [] ?_) | ((with_reducible refine i_callW (n := 26) ?_); refine callW_use (con_spec_PicHex v3 v6 c13H) ?_; rintro x σ' ⟨rfl, rfl⟩ <;> ((refine ⟨?_, ?_⟩; (focus simp (decide := true) only [go_sem, reduceIte, Nat.reduceAdd, Int.reduceToNat, Nat.reduceSub, Nat.reduceMul])); (with_reducible refine behind_go ?_))) | exact True.intro | with_reducible assumption | exact fun hf => False.elim hf | (intro hg; first | (simp +contextual [hg]; done) | grind) | omega | simp (decide := true) only [go_sem, reduceIte, Nat.reduceAdd, Int.reduceToNat, Nat.reduceSub, Nat.reduceMul])
    refine r_cN hk12 ?_
    refine sem_ifh rfl h ?_ ?_ <;> clear h <;> intro h
    · refine sem_cut fun k14 hk14 => ?_
      simp (decide := true) only [go_sem, reduceIte, Nat.reduceAdd, Int.reduceToNat, Nat.reduceSub, Nat.reduceMul]
      refine r_cN hk14 (r_ret ?_)
      refine r_cR hk11 ?_
      obtain rfl := Option.some.inj h
      refine r_eAR hQ rfl rfl ?_
      simp (decide := true) only [go_sem, reduceIte, Nat.reduceAdd, Int.reduceToNat, Nat.reduceSub, Nat.reduceMul]
      all_goals first | exact wkEnd_same ⟨rfl, rfl⟩ | exact True.intro
    · refine r_skip (r_cN hk11 ?_)
      refine sem_cut fun k15 hk15 => ?_
      obtain ⟨v7, c16H, h⟩ := bind_some' h
      repeat' (first | with_reducible refine And.intro ?_ ?_ | ((with_reducible refine i_call (n := 27) ?_); refine call_openF [] ?_) | ((with_reducible refine i_callW (n := 27) ?_); refine callW_use (con_spec_DrawPicBytes v2 v7 c16H) ?_; rintro x σ' ⟨rfl, rfl⟩ <;> ((refine ⟨?_, ?_⟩; (focus simp (decide := true) only [go_sem, reduceIte, Nat.reduceAdd, Int.reduceToNat, Nat.reduceSub, Nat.reduceMul])); (with_reducible refine behind_go ?_))) | exact True.intro | with_reducible assumption | exact fun hf => False.elim hf | (intro hg; first | (simp +contextual [hg]; done) | grind) | omega | simp (decide := true) only [go_sem, reduceIte, Nat.reduceAdd, Int.reduceToNat, Nat.reduceSub, Nat.reduceMul])
      refine r_cN hk15 (sem_cut fun k17 hk17 => ?_)
      obtain ⟨v8, c18H, h⟩ := bind_some' h
      repeat' (first | with_reducible refine And.intro ?_ ?_ | ((with_reducible refine i_call (n := 25) ?_); refine call_open [] ?_) | ((with_reducible refine i_callW (n := 25) ?_); refine callW_use (con_impl_PicBytes v7 v8 c18H) ?_; rintro x σ' ⟨rfl, rfl⟩ <;> ((with_reducible refine behind_go ?_))) | exact True.intro | with_reducible assumption | exact fun hf => False.elim hf | (intro hg; first | (simp +contextual [hg]; done) | grind) | omega | simp (decide := true) only [go_sem, reduceIte, Nat.reduceAdd, Int.reduceToNat, Nat.reduceSub, Nat.reduceMul])
      refine r_cN hk17 (sem_cut fun k19 hk19 => ?_)
      obtain ⟨v9, c20H, h⟩ := bind_some' h
      repeat' (first | with_reducible refine And.intro ?_ ?_ | ((with_reducible refine i_call (n := 28) ?_); refine call_open [] ?_) | ((with_reducible refine i_callW (n := 28) ?_); refine callW_use (con_spec_PicBytes v7 v9 c20H) ?_; rintro x σ' ⟨rfl, rfl⟩ <;> ((with_reducible refine behind_go ?_))) | exact True.intro | with_reducible assumption | exact fun hf => False.elim hf | (intro hg; first | (simp +contextual [hg]; done) | grind) | omega | simp (decide := true) only [go_sem, reduceIte, Nat.reduceAdd, Int.reduceToNat, Nat.reduceSub, Nat.reduceMul])
      refine r_cN hk19 (sem_cut fun k21 hk21 => ?_)
      rcases Bool.eq_false_or_eq_true (v8.2 == v9.2) with g22 | g22
      · replace h := cond_t h g22
        rcases Bool.eq_false_or_eq_true v8.2 with g23 | g23
        · replace h := cond_t h g23
          have g24 := g22; rw [g23] at g24
          obtain ⟨v10, c25H, h⟩ := bind_some' h
          repeat' (first | with_reducible refine And.intro ?_ ?_ | ((with_reducible refine i_call (n := 24) ?_); refine call_openF [] ?_) | ((with_reducible refine i_callW (n := 24) ?_); refine callW_use (con_impl_PicHex v8.1 v10 c25H) ?_; rintro x σ' ⟨rfl, rfl⟩ <;> ((refine ⟨?_, ?_⟩; (focus simp (decide := true) only [go_sem, reduceIte, Nat.reduceAdd, Int.reduceToNat, Nat.reduceSub, Nat.reduceMul, g22, g23, g24])); (with_reducible refine behind_go ?_))) | exact True.intro | with_reducible assumption | exact fun hf => False.elim hf | (intro hg; first | (simp +contextual [hg]; done) | grind) | omega | simp (decide := true) only [go_sem, reduceIte, Nat.reduceAdd, Int.reduceToNat, Nat.reduceSub, Nat.reduceMul, g22, g23, g24])
          refine r_cN hk21 (r_ret ?_)
          obtain rfl := Option.some.inj h
          refine r_eAR hQ rfl rfl ?_
          simp (decide := true) only [go_sem, reduceIte, Nat.reduceAdd, Int.reduceToNat, Nat.reduceSub, Nat.reduceMul]
          all_goals first | exact wkEnd_same ⟨rfl, rfl⟩ | exact True.intro
        · replace h := cond_f h g23
          have g24 := g22; rw [g23] at g24
          repeat' (first | with_reducible refine And.intro ?_ ?_ | exact True.intro | with_reducible assumption | exact fun hf => False.elim hf | (intro hg; first | (simp +contextual [hg]; done) | grind) | omega | simp (decide := true) only [go_sem, reduceIte, Nat.reduceAdd, Int.reduceToNat, Nat.reduceSub, Nat.reduceMul, g22, g23, g24])
          refine r_cN hk21 (r_ret ?_)
          obtain rfl := Option.some.inj h
          refine r_eAR hQ rfl rfl ?_
          simp (decide := true) only [go_sem, reduceIte, Nat.reduceAdd, Int.reduceToNat, Nat.reduceSub, Nat.reduceMul]
          all_goals first | exact wkEnd_same ⟨rfl, rfl⟩ | exact True.intro
      · replace h := cond_f h g22
        repeat' (first | with_reducible refine And.intro ?_ ?_ | exact True.intro | with_reducible assumption | exact fun hf => False.elim hf | (intro hg; first | (simp +contextual [hg]; done) | grind) | omega | simp (decide := true) only [go_sem, reduceIte, Nat.reduceAdd, Int.reduceToNat, Nat.reduceSub, Nat.reduceMul, g22])
        refine r_cN hk21 (r_ret ?_)
        obtain rfl := Option.some.inj h
        refine r_eAR hQ rfl rfl ?_
        simp (decide := true) only [go_sem, reduceIte, Nat.reduceAdd, Int.reduceToNat, Nat.reduceSub, Nat.reduceMul]
        all_goals first | exact wkEnd_same ⟨rfl, rfl⟩ | exact True.intro

end Go.AM
