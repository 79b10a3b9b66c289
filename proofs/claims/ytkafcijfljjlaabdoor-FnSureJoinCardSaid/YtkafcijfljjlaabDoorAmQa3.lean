/- Pure functions and their contracts. Conditions: none. -/
import Derived.Test.YtkafcijfljjlaabDoorAmQa2
set_option linter.unusedSimpArgs false
set_option linter.unusedVariables false
namespace Go.AM
open Go Go.Proofs
noncomputable def spec_l11Sure_j28 : ((List Int) × Int × (List Inst) × Int × Int × Bool × Bool) → Option ((List Inst) × l26Rd)
  | (v45, v46, v47, v48, v49, v50, v51) => (some (v47, (⟨v45, v46⟩ : l26Rd)))
noncomputable def spec_l11Sure_s33 : ((List Int) × Int × (List Inst) × Int × Int × Bool × Bool) → Option (((List Int) × Int × (List Inst) × Int × Int × Bool × Bool) ⊕ ((List Int) × Int × (List Inst) × Int × Int × Bool × Bool))
  | (v55, v56, v57, v58, v59, v60, v61) => (cond (decide ((((v57).length : Nat) : Int) < 60)) (Option.bind (spec_l26Rd_pick (⟨v55, v56⟩ : l26Rd) 40) fun v65 => (Option.bind (spec_l11Play_rung (⟨v65.2, v57, v58, v59, v60, v61⟩ : l11Play) v65.1) fun v66 => (some (.inl (v66.r.b, v66.r.p, v66.out, v66.bits, v66.forks, v66.base, v66.fresh))))) (some (.inr (v55, v56, v57, v58, v59, v60, v61))))
noncomputable def spec_l11Sure_j13 : ((List Int) × Int × (List Inst) × Int × Int × Bool × Bool) → Option ((List Inst) × l26Rd)
  | (v23, v24, v25, v26, v27, v28, v29) => (Option.bind (spec_l26Rd_pick (⟨v23, v24⟩ : l26Rd) 16) fun v52 => (cond (v52.1 == 0) ((loop spec_l11Sure_s33 (v52.2.b, v52.2.p, v25, v26, v27, v28, v29)).bind (fun v64 => (spec_l11Sure_j28 (v64.1, v64.2.1, v64.2.2.1, v64.2.2.2.1, v64.2.2.2.2.1, v64.2.2.2.2.2.1, v64.2.2.2.2.2.2)))) (spec_l11Sure_j28 (v52.2.b, v52.2.p, v25, v26, v27, v28, v29))))
noncomputable def spec_l11Sure_s17 : ((List Int) × Int × (List Inst) × Int × Int × Bool × Bool × Int) → Option (((List Int) × Int × (List Inst) × Int × Int × Bool × Bool × Int) ⊕ ((List Int) × Int × (List Inst) × Int × Int × Bool × Bool))
  | (v115, v116, v117, v118, v119, v120, v121, v122) => (cond (decide (v122 > 0)) (Option.bind (spec_l26Rd_pick (⟨v115, v116⟩ : l26Rd) 14) fun v128 => (Option.bind (spec_l11Play_rung (⟨v128.2, v117, v118, v119, v120, v121⟩ : l11Play) v128.1) fun v129 => (some (.inl (v129.r.b, v129.r.p, v129.out, v129.bits, v129.forks, v129.base, v129.fresh, (IntKind.i64.wrap (v122 - 1))))))) (some (.inr (v115, v116, v117, v118, v119, v120, v121))))
noncomputable def spec_l11Sure (v1 : l26Rd) : Option ((List Inst) × l26Rd) :=
  (Option.bind (spec_l26Rd_pick v1 30) fun v2 => (cond (v2.1 == 0) (some ([], v2.2)) (Option.bind (spec_l26Rd_pick v2.2 3) fun v112 => ((loop spec_l11Sure_s17 (v112.2.b, v112.2.p, [], 0, 0, false, false, (IntKind.i64.wrap (1 + v112.1)))).bind (fun v127 => (spec_l11Sure_j13 (v127.1, v127.2.1, v127.2.2.1, v127.2.2.2.1, v127.2.2.2.2.1, v127.2.2.2.2.2.1, v127.2.2.2.2.2.2)))))))
set_option maxRecDepth 10000 in
set_option maxHeartbeats 4000000 in
theorem con_spec_l11Sure (v1 : l26Rd) (res_ : ((List Inst) × l26Rd)) (h : spec_l11Sure v1 = some res_) : Con Tryd.prog C0 40 [.pt 0 0] [.rc [.fz 1 (R e_u8 (v1.b)), .sc (.int .i64 (v1.p))]]
    (fun x σ' => x = .fz 3 (R e_Inst (res_.1)) ∧ σ' = [.rc [.fz 1 (R e_u8 (res_.2.b)), .sc (.int .i64 (res_.2.p))]]) := by
  refine con_of_sem hP [0, 2, 3, 4, 10, 19, 28, 34] [.tmp 2] Tryd.func40 (by unfold Tryd.f40; rfl) rfl rfl (Nat.le_of_ble_eq_true rfl) rfl ?_
  simp only [enter_cons, enter_nil, List.length_cons, List.length_nil, Nat.reduceAdd]
  generalize hQ : endQ _ _ _ _ = Q
  unfold spec_l11Sure at h
  refine sem_cut fun k1 hk1 => ?_
  simp (decide := true) only [go_sem, reduceIte, Nat.reduceAdd, Int.reduceToNat, Nat.reduceSub, Nat.reduceMul]
  refine r_cN hk1 (sem_cut fun k2 hk2 => ?_)
  simp (decide := true) only [go_sem, reduceIte, Nat.reduceAdd, Int.reduceToNat, Nat.reduceSub, Nat.reduceMul]
  refine r_cN hk2 (sem_cut fun k3 hk3 => ?_)
  refine sem_cut fun k4 hk4 => ?_
  obtain ⟨v2, c5H, h⟩ := bind_some' h
  repeat' (first | with_reducible refine And.intro ?_ ?_ | ((with_reducible refine i_call (n := 37) ?_); refine call_open [[0]] ?_) | ((with_reducible refine i_callW (n := 37) ?_); refine callW_use (con_spec_l26Rd_pick v1 30 v2 c5H) ?_; rintro x σ' ⟨rfl, rfl⟩ <;> ((with_reducible refine behind_go ?_))) | exact True.intro | with_reducible assumption | exact fun hf => False.elim hf | (intro hg; first | (simp +contextual [hg]; done) | grind) | omega | simp (decide := true) only [go_sem, reduceIte, Nat.reduceAdd, Int.reduceToNat, Nat.reduceSub, Nat.reduceMul])
  refine r_cN hk4 ?_
  refine sem_ifh rfl h ?_ ?_ <;> clear h <;> intro h
  · refine sem_cut fun k6 hk6 => ?_
    simp (decide := true) only [go_sem, reduceIte, Nat.reduceAdd, Int.reduceToNat, Nat.reduceSub, Nat.reduceMul]
    refine r_cN hk6 (r_ret ?_)
    refine r_cR hk3 ?_
    obtain rfl := Option.some.inj h
    refine r_eAR hQ rfl rfl ?_
    simp (decide := true) only [go_sem, reduceIte, Nat.reduceAdd, Int.reduceToNat, Nat.reduceSub, Nat.reduceMul]
    all_goals first | exact True.intro | (refine wkEnd_mk ?_ ?_ (⟨rfl, rfl⟩) <;> repeat' (first | exact wkE_nil | (with_reducible apply wkE_cons) | exact wkC_nil _ | exact wkV_nil _ | exact wkA_nil _ | (with_reducible apply wkV_agg) | (with_reducible apply wkV_tup) | (with_reducible apply wkA_agg) | exact wkA_refl _ | exact wkV_refl _ | exact wkS_nil | (with_reducible apply wkS_cons) | (with_reducible apply wkO_rc) | (with_reducible apply wkO_arr) | exact wkO_refl _ | exact wkL_nil | (with_reducible apply wkL_cons) | exact wkC_refl _ | exact wkT_nil | (with_reducible apply wkT_cons) | (with_reducible apply wkR_appR) | (with_reducible apply wkR_consR) | exact wkR_nilR _ | exact wkR_refl _))
  · refine r_skip (r_cN hk3 ?_)
    refine sem_cutJ (fun (i : P2) (x : ((List Int) × Int × (List Inst) × Int × Int × Bool × Bool)) => match i with | .a => (⟨[(0, .pt 0 0), (3, .pt 1 0)], [.rc [.fz 1 (R e_u8 (x.1)), .sc (.int .i64 (x.2.1))], .rc [.pt 0 0, .sl 2 0 ((x.2.2.1).length), .sc (.int .i64 (x.2.2.2.1)), .sc (.int .i64 (x.2.2.2.2.1)), .sc (.bool (x.2.2.2.2.2.1)), .sc (.bool (x.2.2.2.2.2.2))], .arr true 3 (R e_Inst (x.2.2.1))]⟩ : St) | .b => (⟨[(0, .pt 0 0), (3, .pt 1 0)], [.rc [.fz 1 (R e_u8 (x.1)), .sc (.int .i64 (x.2.1))], .rc [.pt 0 0, .sc (.slice none 0 0), .sc (.int .i64 (x.2.2.2.1)), .sc (.int .i64 (x.2.2.2.2.1)), .sc (.bool (x.2.2.2.2.2.1)), .sc (.bool (x.2.2.2.2.2.2))]]⟩ : St)) (fun (i : P2) (x : ((List Int) × Int × (List Inst) × Int × Int × Bool × Bool)) => (match i with | .a => True | .b => x.2.2.1 = []) ∧ spec_l11Sure_j13 x = some res_) ?_ ?_
    · rintro (_ | _) ⟨v23, v24, v25, v26, v27, v28, v29⟩ ⟨hp, h⟩
      · simp only [spec_l11Sure_j13] at h
        refine sem_cutJ (fun (_ : Unit) (x : ((List Int) × Int × (List Inst) × Int × Int × Bool × Bool)) => (⟨[(3, .pt 1 0)], [.rc [.fz 1 (R e_u8 (x.1)), .sc (.int .i64 (x.2.1))], .rc [.pt 0 0, .sl 2 0 ((x.2.2.1).length), .sc (.int .i64 (x.2.2.2.1)), .sc (.int .i64 (x.2.2.2.2.1)), .sc (.bool (x.2.2.2.2.2.1)), .sc (.bool (x.2.2.2.2.2.2))], .arr true 3 (R e_Inst (x.2.2.1))]⟩ : St)) (fun (_ : Unit) (x : ((List Int) × Int × (List Inst) × Int × Int × Bool × Bool)) => spec_l11Sure_j28 x = some res_) ?_ ?_
        · rintro _ ⟨v45, v46, v47, v48, v49, v50, v51⟩ h
          simp only [spec_l11Sure_j28] at h
          refine sem_cut fun k60 hk60 => ?_
          simp (decide := true) only [go_sem, reduceIte, Nat.reduceAdd, Int.reduceToNat, Nat.reduceSub, Nat.reduceMul]
          refine r_cN hk60 (r_ret ?_)
          obtain rfl := Option.some.inj h
          refine r_eAR hQ rfl rfl ?_
          simp (decide := true) only [go_sem, reduceIte, Nat.reduceAdd, Int.reduceToNat, Nat.reduceSub, Nat.reduceMul]
          all_goals first | exact wkEnd_same ⟨rfl, rfl⟩ | exact True.intro
        · intro k62 hk62 J61
          refine sem_cut fun k63 hk63 => ?_
          obtain ⟨v52, c64H, h⟩ := bind_some' h
          repeat' (first | with_reducible refine And.intro ?_ ?_ | ((with_reducible refine i_call (n := 37) ?_); refine call_open [[0]] ?_) | ((with_reducible refine i_callW (n := 37) ?_); refine callW_use (con_spec_l26Rd_pick (⟨v23, v24⟩ : l26Rd) 16 v52 c64H) ?_; rintro x σ' ⟨rfl, rfl⟩ <;> ((with_reducible refine behind_go ?_))) | exact True.intro | with_reducible assumption | exact fun hf => False.elim hf | (intro hg; first | (simp +contextual [hg]; done) | grind) | omega | simp (decide := true) only [go_sem, reduceIte, Nat.reduceAdd, Int.reduceToNat, Nat.reduceSub, Nat.reduceMul])
          refine r_cN hk63 ?_
          refine sem_ifh rfl h ?_ ?_ <;> clear h <;> intro h
          · refine sem_blk fun k65 hk65 => ?_
            obtain ⟨oq76, hLq76, hKq76⟩ := bind_some' h
            clear h
            refine sem_loopP [0, 3] (fun (_ : Unit) (x : ((List Int) × Int × (List Inst) × Int × Int × Bool × Bool)) => (⟨[(0, .pt 0 0), (3, .pt 1 0)], [.rc [.fz 1 (R e_u8 (x.1)), .sc (.int .i64 (x.2.1))], .rc [.pt 0 0, .sl 2 0 ((x.2.2.1).length), .sc (.int .i64 (x.2.2.2.1)), .sc (.int .i64 (x.2.2.2.2.1)), .sc (.bool (x.2.2.2.2.2.1)), .sc (.bool (x.2.2.2.2.2.2))], .arr true 3 (R e_Inst (x.2.2.1))]⟩ : St)) (fun (_ : Unit) (x : ((List Int) × Int × (List Inst) × Int × Int × Bool × Bool)) => True) spec_l11Sure_s33 () (v52.2.b, v52.2.p, v25, v26, v27, v28, v29) hLq76 (by rfl) (by rfl) ⟨?_, trivial⟩ ?_
            · first | exact wkSt_same rfl | (simp (decide := true) only [go_sem, reduceIte, Nat.reduceAdd, Int.reduceToNat, Nat.reduceSub, Nat.reduceMul]; exact wkSt_same rfl)
            · rintro nq76 _ ⟨v55, v56, v57, v58, v59, v60, v61⟩ xq76 kq76 hkq76 - h hIq76 hEq76
              simp only [spec_l11Sure_s33] at h
              refine sem_cut fun k77 hk77 => sem_cut fun k78 hk78 => ?_
              simp (decide := true) only [go_sem, reduceIte, Nat.reduceAdd, Int.reduceToNat, Nat.reduceSub, Nat.reduceMul]
              refine r_cN hk78 ?_
              refine sem_ifh rfl h ?_ ?_ <;> clear h <;> intro h
              · refine r_skip (r_cN hk77 ?_)
                refine sem_blk fun k79 hk79 => ?_
                obtain ⟨v65, c80H, h⟩ := bind_some' h
                obtain ⟨v66, c81H, h⟩ := bind_some' h
                repeat' (first | with_reducible refine And.intro ?_ ?_ | ((with_reducible refine i_call (n := 37) ?_); refine call_open [[0]] ?_) | ((with_reducible refine i_callW (n := 37) ?_); refine callW_use (con_spec_l26Rd_pick (⟨v55, v56⟩ : l26Rd) 40 v65 c80H) ?_; rintro x σ' ⟨rfl, rfl⟩ <;> ((with_reducible refine behind_go ?_))) | ((with_reducible refine i_call (n := 58) ?_); refine call_open [[0], [0, 0], [0, 1]] ?_) | ((with_reducible refine i_callW (n := 58) ?_); refine callW_use (con_spec_l11Play_rung_1 (⟨v65.2, v57, v58, v59, v60, v61⟩ : l11Play) v65.1 v66 c81H) ?_; rintro x σ' ⟨rfl, rfl⟩ <;> ((with_reducible refine behind_go ?_))) | exact True.intro | with_reducible assumption | exact fun hf => False.elim hf | (intro hg; first | (simp +contextual [hg]; done) | grind) | omega | simp (decide := true) only [go_sem, reduceIte, Nat.reduceAdd, Int.reduceToNat, Nat.reduceSub, Nat.reduceMul])
                refine r_bN hk79 ?_
                obtain rfl := Option.some.inj h
                subst hkq76
                refine r_backP () _ rfl rfl ⟨?_, trivial⟩ (hIq76 _ rfl)
                first | exact wkSt_same rfl | (simp (decide := true) only [go_sem, reduceIte, Nat.reduceAdd, Int.reduceToNat, Nat.reduceSub, Nat.reduceMul]; exact wkSt_same rfl)
              · refine r_exit (r_cE hk77 ?_)
                obtain rfl := Option.some.inj h
                obtain rfl := hEq76 _ rfl
                have h := hKq76
                try simp only [Sum.elim_inl, Sum.elim_inr] at h
                refine r_kE hkq76 (r_bE hk65 ?_)
                refine r_joinU J61 [3] () _ rfl rfl ⟨?_, h⟩
                first | exact wkSt_same rfl | (simp (decide := true) only [go_sem, reduceIte, Nat.reduceAdd, Int.reduceToNat, Nat.reduceSub, Nat.reduceMul]; exact wkSt_same rfl)
          · refine r_skip (r_joinU J61 [3] () _ rfl rfl ⟨?_, h⟩)
            first | exact wkSt_same rfl | (simp (decide := true) only [go_sem, reduceIte, Nat.reduceAdd, Int.reduceToNat, Nat.reduceSub, Nat.reduceMul]; exact wkSt_same rfl)
      · replace hp : v25 = [] := hp
        subst hp
        simp only [spec_l11Sure_j13] at h
        try simp only [List.nil_append, List.length_nil, Int.natCast_zero] at h
        refine sem_cutJ (fun (i : P2) (x : ((List Int) × Int × (List Inst) × Int × Int × Bool × Bool)) => match i with | .a => (⟨[(3, .pt 1 0)], [.rc [.fz 1 (R e_u8 (x.1)), .sc (.int .i64 (x.2.1))], .rc [.pt 0 0, .sl 2 0 ((x.2.2.1).length), .sc (.int .i64 (x.2.2.2.1)), .sc (.int .i64 (x.2.2.2.2.1)), .sc (.bool (x.2.2.2.2.2.1)), .sc (.bool (x.2.2.2.2.2.2))], .arr true 3 (R e_Inst (x.2.2.1))]⟩ : St) | .b => (⟨[(3, .pt 1 0)], [.rc [.fz 1 (R e_u8 (x.1)), .sc (.int .i64 (x.2.1))], .rc [.pt 0 0, .sc (.slice none 0 0), .sc (.int .i64 (x.2.2.2.1)), .sc (.int .i64 (x.2.2.2.2.1)), .sc (.bool (x.2.2.2.2.2.1)), .sc (.bool (x.2.2.2.2.2.2))]]⟩ : St)) (fun (i : P2) (x : ((List Int) × Int × (List Inst) × Int × Int × Bool × Bool)) => (match i with | .a => True | .b => x.2.2.1 = []) ∧ spec_l11Sure_j28 x = some res_) ?_ ?_
        · rintro (_ | _) ⟨v86, v87, v88, v89, v90, v91, v92⟩ ⟨hp, h⟩
          · simp only [spec_l11Sure_j28] at h
            refine sem_cut fun k111 hk111 => ?_
            simp (decide := true) only [go_sem, reduceIte, Nat.reduceAdd, Int.reduceToNat, Nat.reduceSub, Nat.reduceMul]
            refine r_cN hk111 (r_ret ?_)
            obtain rfl := Option.some.inj h
            refine r_eAR hQ rfl rfl ?_
            simp (decide := true) only [go_sem, reduceIte, Nat.reduceAdd, Int.reduceToNat, Nat.reduceSub, Nat.reduceMul]
            all_goals first | exact wkEnd_same ⟨rfl, rfl⟩ | exact True.intro
          · replace hp : v88 = [] := hp
            subst hp
            simp only [spec_l11Sure_j28] at h
            try simp only [List.nil_append, List.length_nil, Int.natCast_zero] at h
            refine sem_cut fun k112 hk112 => ?_
            simp (decide := true) only [go_sem, reduceIte, Nat.reduceAdd, Int.reduceToNat, Nat.reduceSub, Nat.reduceMul]
            refine r_cN hk112 (r_ret ?_)
            obtain rfl := Option.some.inj h
            refine r_eAR hQ rfl rfl ?_
            simp (decide := true) only [go_sem, reduceIte, Nat.reduceAdd, Int.reduceToNat, Nat.reduceSub, Nat.reduceMul]
            all_goals first | exact True.intro | (refine wkEnd_mk ?_ ?_ (⟨rfl, rfl⟩) <;> repeat' (first | exact wkE_nil | (with_reducible apply wkE_cons) | exact wkC_nil _ | exact wkV_nil _ | exact wkA_nil _ | (with_reducible apply wkV_agg) | (with_reducible apply wkV_tup) | (with_reducible apply wkA_agg) | exact wkA_refl _ | exact wkV_refl _ | exact wkS_nil | (with_reducible apply wkS_cons) | (with_reducible apply wkO_rc) | (with_reducible apply wkO_arr) | exact wkO_refl _ | exact wkL_nil | (with_reducible apply wkL_cons) | exact wkC_refl _ | exact wkT_nil | (with_reducible apply wkT_cons) | (with_reducible apply wkR_appR) | (with_reducible apply wkR_consR) | exact wkR_nilR _ | exact wkR_refl _))
        · intro k114 hk114 J113
          refine sem_cut fun k115 hk115 => ?_
          obtain ⟨v93, c116H, h⟩ := bind_some' h
          repeat' (first | with_reducible refine And.intro ?_ ?_ | ((with_reducible refine i_call (n := 37) ?_); refine call_open [[0]] ?_) | ((with_reducible refine i_callW (n := 37) ?_); refine callW_use (con_spec_l26Rd_pick (⟨v23, v24⟩ : l26Rd) 16 v93 c116H) ?_; rintro x σ' ⟨rfl, rfl⟩ <;> ((with_reducible refine behind_go ?_))) | exact True.intro | with_reducible assumption | exact fun hf => False.elim hf | (intro hg; first | (simp +contextual [hg]; done) | grind) | omega | simp (decide := true) only [go_sem, reduceIte, Nat.reduceAdd, Int.reduceToNat, Nat.reduceSub, Nat.reduceMul])
          refine r_cN hk115 ?_
          refine sem_ifh rfl h ?_ ?_ <;> clear h <;> intro h
          · refine sem_blk fun k117 hk117 => ?_
            obtain ⟨oq133, hLq133, hKq133⟩ := bind_some' h
            clear h
            refine sem_loopP [0, 3] (fun (i : P2) (x : ((List Int) × Int × (List Inst) × Int × Int × Bool × Bool)) => match i with | .a => (⟨[(0, .pt 0 0), (3, .pt 1 0)], [.rc [.fz 1 (R e_u8 (x.1)), .sc (.int .i64 (x.2.1))], .rc [.pt 0 0, .sl 2 0 ((x.2.2.1).length), .sc (.int .i64 (x.2.2.2.1)), .sc (.int .i64 (x.2.2.2.2.1)), .sc (.bool (x.2.2.2.2.2.1)), .sc (.bool (x.2.2.2.2.2.2))], .arr true 3 (R e_Inst (x.2.2.1))]⟩ : St) | .b => (⟨[(0, .pt 0 0), (3, .pt 1 0)], [.rc [.fz 1 (R e_u8 (x.1)), .sc (.int .i64 (x.2.1))], .rc [.pt 0 0, .sc (.slice none 0 0), .sc (.int .i64 (x.2.2.2.1)), .sc (.int .i64 (x.2.2.2.2.1)), .sc (.bool (x.2.2.2.2.2.1)), .sc (.bool (x.2.2.2.2.2.2))]]⟩ : St)) (fun (i : P2) (x : ((List Int) × Int × (List Inst) × Int × Int × Bool × Bool)) => (match i with | .a => True | .b => x.2.2.1 = [])) spec_l11Sure_s33 (.b) (v93.2.b, v93.2.p, [], v26, v27, v28, v29) hLq133 (by rfl) (by rfl) ⟨?_, rfl⟩ ?_
            · first | exact wkSt_same rfl | (simp (decide := true) only [go_sem, reduceIte, Nat.reduceAdd, Int.reduceToNat, Nat.reduceSub, Nat.reduceMul]; exact wkSt_same rfl)
            · rintro nq133 (_ | _) ⟨v96, v97, v98, v99, v100, v101, v102⟩ xq133 kq133 hkq133 hp h hIq133 hEq133
              · simp only [spec_l11Sure_s33] at h
                refine sem_cut fun k134 hk134 => sem_cut fun k135 hk135 => ?_
                simp (decide := true) only [go_sem, reduceIte, Nat.reduceAdd, Int.reduceToNat, Nat.reduceSub, Nat.reduceMul]
                refine r_cN hk135 ?_
                refine sem_ifh rfl h ?_ ?_ <;> clear h <;> intro h
                · refine r_skip (r_cN hk134 ?_)
                  refine sem_blk fun k136 hk136 => ?_
                  obtain ⟨v108, c137H, h⟩ := bind_some' h
                  obtain ⟨v109, c138H, h⟩ := bind_some' h
                  repeat' (first | with_reducible refine And.intro ?_ ?_ | ((with_reducible refine i_call (n := 37) ?_); refine call_open [[0]] ?_) | ((with_reducible refine i_callW (n := 37) ?_); refine callW_use (con_spec_l26Rd_pick (⟨v96, v97⟩ : l26Rd) 40 v108 c137H) ?_; rintro x σ' ⟨rfl, rfl⟩ <;> ((with_reducible refine behind_go ?_))) | ((with_reducible refine i_call (n := 58) ?_); refine call_open [[0], [0, 0], [0, 1]] ?_) | ((with_reducible refine i_callW (n := 58) ?_); refine callW_use (con_spec_l11Play_rung_1 (⟨v108.2, v98, v99, v100, v101, v102⟩ : l11Play) v108.1 v109 c138H) ?_; rintro x σ' ⟨rfl, rfl⟩ <;> ((with_reducible refine behind_go ?_))) | exact True.intro | with_reducible assumption | exact fun hf => False.elim hf | (intro hg; first | (simp +contextual [hg]; done) | grind) | omega | simp (decide := true) only [go_sem, reduceIte, Nat.reduceAdd, Int.reduceToNat, Nat.reduceSub, Nat.reduceMul])
                  refine r_bN hk136 ?_
                  obtain rfl := Option.some.inj h
                  subst hkq133
                  refine r_backP (.a) (v109.r.b, v109.r.p, v109.out, v109.bits, v109.forks, v109.base, v109.fresh) rfl rfl ⟨?_, trivial⟩ (hIq133 _ rfl)
                  first | exact wkSt_same rfl | (simp (decide := true) only [go_sem, reduceIte, Nat.reduceAdd, Int.reduceToNat, Nat.reduceSub, Nat.reduceMul]; exact wkSt_same rfl)
                · refine r_exit (r_cE hk134 ?_)
                  obtain rfl := Option.some.inj h
                  obtain rfl := hEq133 _ rfl
                  have h := hKq133
                  try simp only [Sum.elim_inl, Sum.elim_inr] at h
                  refine r_kE hkq133 (r_bE hk117 ?_)
                  refine r_joinU J113 [3] (.a) (v96, v97, v98, v99, v100, v101, v102) rfl rfl ⟨?_, ⟨trivial, h⟩⟩
                  first | exact wkSt_same rfl | (simp (decide := true) only [go_sem, reduceIte, Nat.reduceAdd, Int.reduceToNat, Nat.reduceSub, Nat.reduceMul]; exact wkSt_same rfl)
              · replace hp : v98 = [] := hp
                subst hp
                simp only [spec_l11Sure_s33] at h
                try simp only [List.nil_append, List.length_nil, Int.natCast_zero] at h
                refine sem_cut fun k139 hk139 => sem_cut fun k140 hk140 => ?_
                simp (decide := true) only [go_sem, reduceIte, Nat.reduceAdd, Int.reduceToNat, Nat.reduceSub, Nat.reduceMul]
                refine r_cN hk140 (sem_ifT rfl ?_)
                try replace h := cond_t h rfl
                refine r_skip (r_cN hk139 ?_)
                refine sem_blk fun k141 hk141 => ?_
                obtain ⟨v110, c142H, h⟩ := bind_some' h
                obtain ⟨v111, c143H, h⟩ := bind_some' h
                repeat' (first | with_reducible refine And.intro ?_ ?_ | ((with_reducible refine i_call (n := 37) ?_); refine call_open [[0]] ?_) | ((with_reducible refine i_callW (n := 37) ?_); refine callW_use (con_spec_l26Rd_pick (⟨v96, v97⟩ : l26Rd) 40 v110 c142H) ?_; rintro x σ' ⟨rfl, rfl⟩ <;> ((with_reducible refine behind_go ?_))) | ((with_reducible refine i_call (n := 58) ?_); refine call_open [[0], [0, 0]] ?_) | ((with_reducible refine i_callW (n := 58) ?_); refine callW_use (con_spec_l11Play_rung (⟨v110.2, [], v99, v100, v101, v102⟩ : l11Play) v110.1 v111 c143H rfl) ?_; rintro x σ' ⟨rfl, rfl⟩ <;> ((with_reducible refine behind_go ?_))) | exact True.intro | with_reducible assumption | exact fun hf => False.elim hf | (intro hg; first | (simp +contextual [hg]; done) | grind) | omega | simp (decide := true) only [go_sem, reduceIte, Nat.reduceAdd, Int.reduceToNat, Nat.reduceSub, Nat.reduceMul])
                refine r_bN hk141 ?_
                obtain rfl := Option.some.inj h
                subst hkq133
                refine r_backP (.a) (v111.r.b, v111.r.p, v111.out, v111.bits, v111.forks, v111.base, v111.fresh) rfl rfl ⟨?_, trivial⟩ (hIq133 _ rfl)
                first | exact wkSt_same rfl | (simp (decide := true) only [go_sem, reduceIte, Nat.reduceAdd, Int.reduceToNat, Nat.reduceSub, Nat.reduceMul]; exact wkSt_same rfl)
          · refine r_skip (r_joinU J113 [3] (.b) (v93.2.b, v93.2.p, [], v26, v27, v28, v29) rfl rfl ⟨?_, ⟨rfl, h⟩⟩)
            first | exact wkSt_same rfl | (simp (decide := true) only [go_sem, reduceIte, Nat.reduceAdd, Int.reduceToNat, Nat.reduceSub, Nat.reduceMul]; exact wkSt_same rfl)
    · intro k145 hk145 J144
      refine sem_cut fun k146 hk146 => ?_
      obtain ⟨v112, c147H, h⟩ := bind_some' h
      repeat' (first | with_reducible refine And.intro ?_ ?_ | ((with_reducible refine i_call (n := 37) ?_); refine call_open [[0]] ?_) | ((with_reducible refine i_callW (n := 37) ?_); refine callW_use (con_spec_l26Rd_pick v2.2 3 v112 c147H) ?_; rintro x σ' ⟨rfl, rfl⟩ <;> ((with_reducible refine behind_go ?_))) | exact True.intro | with_reducible assumption | exact fun hf => False.elim hf | (intro hg; first | (simp +contextual [hg]; done) | grind) | omega | simp (decide := true) only [go_sem, reduceIte, Nat.reduceAdd, Int.reduceToNat, Nat.reduceSub, Nat.reduceMul])
      refine r_cN hk146 (sem_blk fun k148 hk148 => ?_)
      obtain ⟨oq167, hLq167, hKq167⟩ := bind_some' h
      clear h
      refine sem_loopP [0, 3, 4] (fun (i : P2) (x : ((List Int) × Int × (List Inst) × Int × Int × Bool × Bool × Int)) => match i with | .a => (⟨[(0, .pt 0 0), (3, .pt 1 0), (4, .sc (.int .i64 (x.2.2.2.2.2.2.2)))], [.rc [.fz 1 (R e_u8 (x.1)), .sc (.int .i64 (x.2.1))], .rc [.pt 0 0, .sl 2 0 ((x.2.2.1).length), .sc (.int .i64 (x.2.2.2.1)), .sc (.int .i64 (x.2.2.2.2.1)), .sc (.bool (x.2.2.2.2.2.1)), .sc (.bool (x.2.2.2.2.2.2.1))], .arr true 3 (R e_Inst (x.2.2.1))]⟩ : St) | .b => (⟨[(0, .pt 0 0), (3, .pt 1 0), (4, .sc (.int .i64 (x.2.2.2.2.2.2.2)))], [.rc [.fz 1 (R e_u8 (x.1)), .sc (.int .i64 (x.2.1))], .rc [.pt 0 0, .sc (.slice none 0 0), .sc (.int .i64 (x.2.2.2.1)), .sc (.int .i64 (x.2.2.2.2.1)), .sc (.bool (x.2.2.2.2.2.1)), .sc (.bool (x.2.2.2.2.2.2.1))]]⟩ : St)) (fun (i : P2) (x : ((List Int) × Int × (List Inst) × Int × Int × Bool × Bool × Int)) => (match i with | .a => True | .b => x.2.2.1 = [])) spec_l11Sure_s17 (.b) (v112.2.b, v112.2.p, [], 0, 0, false, false, (IntKind.i64.wrap (1 + v112.1))) hLq167 (by rfl) (by rfl) ⟨?_, rfl⟩ ?_
      · first | exact wkSt_same rfl | (simp (decide := true) only [go_sem, reduceIte, Nat.reduceAdd, Int.reduceToNat, Nat.reduceSub, Nat.reduceMul]; exact wkSt_same rfl)
      · rintro nq167 (_ | _) ⟨v115, v116, v117, v118, v119, v120, v121, v122⟩ xq167 kq167 hkq167 hp h hIq167 hEq167
        · simp only [spec_l11Sure_s17] at h
          refine sem_cut fun k168 hk168 => sem_cut fun k169 hk169 => ?_
          simp (decide := true) only [go_sem, reduceIte, Nat.reduceAdd, Int.reduceToNat, Nat.reduceSub, Nat.reduceMul]
          refine r_cN hk169 ?_
          refine sem_ifh rfl h ?_ ?_ <;> clear h <;> intro h
          · refine r_skip (r_cN hk168 ?_)
            refine sem_cut fun k170 hk170 => sem_blk fun k171 hk171 => ?_
            obtain ⟨v128, c172H, h⟩ := bind_some' h
            obtain ⟨v129, c173H, h⟩ := bind_some' h
            repeat' (first | with_reducible refine And.intro ?_ ?_ | ((with_reducible refine i_call (n := 37) ?_); refine call_open [[0]] ?_) | ((with_reducible refine i_callW (n := 37) ?_); refine callW_use (con_spec_l26Rd_pick (⟨v115, v116⟩ : l26Rd) 14 v128 c172H) ?_; rintro x σ' ⟨rfl, rfl⟩ <;> ((with_reducible refine behind_go ?_))) | ((with_reducible refine i_call (n := 58) ?_); refine call_open [[0], [0, 0], [0, 1]] ?_) | ((with_reducible refine i_callW (n := 58) ?_); refine callW_use (con_spec_l11Play_rung_1 (⟨v128.2, v117, v118, v119, v120, v121⟩ : l11Play) v128.1 v129 c173H) ?_; rintro x σ' ⟨rfl, rfl⟩ <;> ((with_reducible refine behind_go ?_))) | exact True.intro | with_reducible assumption | exact fun hf => False.elim hf | (intro hg; first | (simp +contextual [hg]; done) | grind) | omega | simp (decide := true) only [go_sem, reduceIte, Nat.reduceAdd, Int.reduceToNat, Nat.reduceSub, Nat.reduceMul])
            refine r_bN hk171 (r_cN hk170 ?_)
            simp (decide := true) only [go_sem, reduceIte, Nat.reduceAdd, Int.reduceToNat, Nat.reduceSub, Nat.reduceMul]
            obtain rfl := Option.some.inj h
            subst hkq167
            refine r_backP (.a) (v129.r.b, v129.r.p, v129.out, v129.bits, v129.forks, v129.base, v129.fresh, (IntKind.i64.wrap (v122 - 1))) rfl rfl ⟨?_, trivial⟩ (hIq167 _ rfl)
            first | exact wkSt_same rfl | (simp (decide := true) only [go_sem, reduceIte, Nat.reduceAdd, Int.reduceToNat, Nat.reduceSub, Nat.reduceMul]; exact wkSt_same rfl)
          · refine r_exit (r_cE hk168 ?_)
            obtain rfl := Option.some.inj h
            obtain rfl := hEq167 _ rfl
            have h := hKq167
            try simp only [Sum.elim_inl, Sum.elim_inr] at h
            refine r_kE hkq167 (r_bE hk148 ?_)
            refine r_joinU J144 [0, 3] (.a) (v115, v116, v117, v118, v119, v120, v121) rfl rfl ⟨?_, ⟨trivial, h⟩⟩
            first | exact wkSt_same rfl | (simp (decide := true) only [go_sem, reduceIte, Nat.reduceAdd, Int.reduceToNat, Nat.reduceSub, Nat.reduceMul]; exact wkSt_same rfl)
        · replace hp : v117 = [] := hp
          subst hp
          simp only [spec_l11Sure_s17] at h
          try simp only [List.nil_append, List.length_nil, Int.natCast_zero] at h
          refine sem_cut fun k174 hk174 => sem_cut fun k175 hk175 => ?_
          simp (decide := true) only [go_sem, reduceIte, Nat.reduceAdd, Int.reduceToNat, Nat.reduceSub, Nat.reduceMul]
          refine r_cN hk175 ?_
          refine sem_ifh rfl h ?_ ?_ <;> clear h <;> intro h
          · refine r_skip (r_cN hk174 ?_)
            refine sem_cut fun k176 hk176 => sem_blk fun k177 hk177 => ?_
            obtain ⟨v130, c178H, h⟩ := bind_some' h
            obtain ⟨v131, c179H, h⟩ := bind_some' h
            repeat' (first | with_reducible refine And.intro ?_ ?_ | ((with_reducible refine i_call (n := 37) ?_); refine call_open [[0]] ?_) | ((with_reducible refine i_callW (n := 37) ?_); refine callW_use (con_spec_l26Rd_pick (⟨v115, v116⟩ : l26Rd) 14 v130 c178H) ?_; rintro x σ' ⟨rfl, rfl⟩ <;> ((with_reducible refine behind_go ?_))) | ((with_reducible refine i_call (n := 58) ?_); refine call_open [[0], [0, 0]] ?_) | ((with_reducible refine i_callW (n := 58) ?_); refine callW_use (con_spec_l11Play_rung (⟨v130.2, [], v118, v119, v120, v121⟩ : l11Play) v130.1 v131 c179H rfl) ?_; rintro x σ' ⟨rfl, rfl⟩ <;> ((with_reducible refine behind_go ?_))) | exact True.intro | with_reducible assumption | exact fun hf => False.elim hf | (intro hg; first | (simp +contextual [hg]; done) | grind) | omega | simp (decide := true) only [go_sem, reduceIte, Nat.reduceAdd, Int.reduceToNat, Nat.reduceSub, Nat.reduceMul])
            refine r_bN hk177 (r_cN hk176 ?_)
            simp (decide := true) only [go_sem, reduceIte, Nat.reduceAdd, Int.reduceToNat, Nat.reduceSub, Nat.reduceMul]
            obtain rfl := Option.some.inj h
            subst hkq167
            refine r_backP (.a) (v131.r.b, v131.r.p, v131.out, v131.bits, v131.forks, v131.base, v131.fresh, (IntKind.i64.wrap (v122 - 1))) rfl rfl ⟨?_, trivial⟩ (hIq167 _ rfl)
            first | exact wkSt_same rfl | (simp (decide := true) only [go_sem, reduceIte, Nat.reduceAdd, Int.reduceToNat, Nat.reduceSub, Nat.reduceMul]; exact wkSt_same rfl)
          · refine r_exit (r_cE hk174 ?_)
            obtain rfl := Option.some.inj h
            obtain rfl := hEq167 _ rfl
            have h := hKq167
            try simp only [Sum.elim_inl, Sum.elim_inr] at h
            refine r_kE hkq167 (r_bE hk148 ?_)
            refine r_joinU J144 [0, 3] (.b) (v115, v116, [], v118, v119, v120, v121) rfl rfl ⟨?_, ⟨rfl, h⟩⟩
            first | exact wkSt_same rfl | (simp (decide := true) only [go_sem, reduceIte, Nat.reduceAdd, Int.reduceToNat, Nat.reduceSub, Nat.reduceMul]; exact wkSt_same rfl)
noncomputable def spec_l11Inst (v1 : l26Rd) : Option (Inst × l26Rd) :=
  (Option.bind (spec_l26Rd_num v1 [1, 1, 1, 2, 2, 2, 3, 3, 4, 5, 6, 7, 8, 9, 10, 10, 10, 11]) fun v2 => (cond (decide (v2.1 ≤ 3)) (Option.bind (spec_l4Contact v2.2) fun v3 => (some ((⟨v2.1, v3.1.Op, v3.1.Args⟩ : Inst), v3.2))) (cond (v2.1 == 10) (Option.bind (spec_l4Coil v2.2) fun v4 => (some ((⟨v2.1, v4.1.Op, v4.1.Args⟩ : Inst), v4.2))) (some ((⟨v2.1, 0, []⟩ : Inst), v2.2)))))
set_option maxRecDepth 10000 in
set_option maxHeartbeats 4000000 in
theorem con_spec_l11Inst (v1 : l26Rd) (res_ : (Inst × l26Rd)) (h : spec_l11Inst v1 = some res_) : Con Tryd.prog C0 41 [.pt 0 0] [.rc [.fz 1 (R e_u8 (v1.b)), .sc (.int .i64 (v1.p))]]
    (fun x σ' => x = .agg [.sc (.int .i64 (res_.1.Code)), .sc (.int .i64 (res_.1.One_Op)), .fz 3 (R e_DevArg (res_.1.One_Args))] ∧ σ' = [.rc [.fz 1 (R e_u8 (res_.2.b)), .sc (.int .i64 (res_.2.p))]]) := by
  refine con_of_sem hP [0, 2, 3, 7, 14] [.cell 2 46] Tryd.func41 (by unfold Tryd.f41; rfl) rfl rfl (Nat.le_of_ble_eq_true rfl) rfl ?_
  simp only [enter_cons, enter_nil, List.length_cons, List.length_nil, Nat.reduceAdd]
  generalize hQ : endQ _ _ _ _ = Q
  unfold spec_l11Inst at h
  refine sem_cut fun k1 hk1 => ?_
  simp (decide := true) only [go_sem, reduceIte, Nat.reduceAdd, Int.reduceToNat, Nat.reduceSub, Nat.reduceMul]
  refine r_cN hk1 (sem_cut fun k2 hk2 => ?_)
  obtain ⟨v2, c3H, h⟩ := bind_some' h
  repeat' (first | with_reducible refine And.intro ?_ ?_ | ((with_reducible refine i_call (n := 55) ?_); refine call_open [[0]] ?_) | ((with_reducible refine i_callW (n := 55) ?_); refine callW_use (con_spec_l26Rd_num v1 [1, 1, 1, 2, 2, 2, 3, 3, 4, 5, 6, 7, 8, 9, 10, 10, 10, 11] v2 c3H) ?_; rintro x σ' ⟨rfl, rfl⟩ <;> ((with_reducible refine behind_go ?_))) | exact True.intro | with_reducible assumption | exact fun hf => False.elim hf | (intro hg; first | (simp +contextual [hg]; done) | grind) | omega | simp (decide := true) only [go_sem, reduceIte, Nat.reduceAdd, Int.reduceToNat, Nat.reduceSub, Nat.reduceMul])
  refine r_cN hk2 (sem_cut fun k4 hk4 => ?_)
  refine sem_blk fun k5 hk5 => sem_cut fun k6 hk6 => ?_
  simp (decide := true) only [go_sem, reduceIte, Nat.reduceAdd, Int.reduceToNat, Nat.reduceSub, Nat.reduceMul]
  refine r_cN hk6 ?_
  refine sem_ifh rfl h ?_ ?_ <;> clear h <;> intro h
  · refine sem_cut fun k7 hk7 => ?_
    obtain ⟨v3, c8H, h⟩ := bind_some' h
    repeat' (first | with_reducible refine And.intro ?_ ?_ | ((with_reducible refine i_call (n := 53) ?_); refine call_open [[0]] ?_) | ((with_reducible refine i_callW (n := 53) ?_); refine callW_use (con_spec_l4Contact v2.2 v3 c8H) ?_; rintro x σ' ⟨rfl, rfl⟩ <;> ((with_reducible refine behind_go ?_))) | exact True.intro | with_reducible assumption | exact fun hf => False.elim hf | (intro hg; first | (simp +contextual [hg]; done) | grind) | omega | simp (decide := true) only [go_sem, reduceIte, Nat.reduceAdd, Int.reduceToNat, Nat.reduceSub, Nat.reduceMul])
    refine r_cN hk7 (r_ret ?_)
    refine r_bR hk5 (r_cR hk4 ?_)
    obtain rfl := Option.some.inj h
    refine r_eAR hQ rfl rfl ?_
    simp (decide := true) only [go_sem, reduceIte, Nat.reduceAdd, Int.reduceToNat, Nat.reduceSub, Nat.reduceMul]
    repeat' (with_reducible refine And.intro ?_ ?_)
    all_goals first | exact wkEnd_same ⟨rfl, rfl⟩ | exact True.intro
  · refine sem_cut fun k9 hk9 => ?_
    simp (decide := true) only [go_sem, reduceIte, Nat.reduceAdd, Int.reduceToNat, Nat.reduceSub, Nat.reduceMul]
    refine r_cN hk9 ?_
    refine sem_ifh rfl h ?_ ?_ <;> clear h <;> intro h
    · refine sem_cut fun k10 hk10 => ?_
      obtain ⟨v4, c11H, h⟩ := bind_some' h
      repeat' (first | with_reducible refine And.intro ?_ ?_ | ((with_reducible refine i_call (n := 54) ?_); refine call_open [[0]] ?_) | ((with_reducible refine i_callW (n := 54) ?_); refine callW_use (con_spec_l4Coil v2.2 v4 c11H) ?_; rintro x σ' ⟨rfl, rfl⟩ <;> ((with_reducible refine behind_go ?_))) | exact True.intro | with_reducible assumption | exact fun hf => False.elim hf | (intro hg; first | (simp +contextual [hg]; done) | grind) | omega | simp (decide := true) only [go_sem, reduceIte, Nat.reduceAdd, Int.reduceToNat, Nat.reduceSub, Nat.reduceMul])
      refine r_cN hk10 (r_ret ?_)
      refine r_bR hk5 (r_cR hk4 ?_)
      obtain rfl := Option.some.inj h
      refine r_eAR hQ rfl rfl ?_
      simp (decide := true) only [go_sem, reduceIte, Nat.reduceAdd, Int.reduceToNat, Nat.reduceSub, Nat.reduceMul]
      repeat' (with_reducible refine And.intro ?_ ?_)
      all_goals first | exact wkEnd_same ⟨rfl, rfl⟩ | exact True.intro
    · refine r_skip (r_bN hk5 ?_)
      refine r_cN hk4 (sem_cut fun k12 hk12 => ?_)
      simp (decide := true) only [go_sem, reduceIte, Nat.reduceAdd, Int.reduceToNat, Nat.reduceSub, Nat.reduceMul]
      refine r_cN hk12 (r_ret ?_)
      obtain rfl := Option.some.inj h
      refine r_eAR hQ rfl rfl ?_
      simp (decide := true) only [go_sem, reduceIte, Nat.reduceAdd, Int.reduceToNat, Nat.reduceSub, Nat.reduceMul]
      repeat' (with_reducible refine And.intro ?_ ?_)
      all_goals first | exact True.intro | (refine wkEnd_mk ?_ ?_ (⟨rfl, rfl⟩) <;> repeat' (first | exact wkE_nil | (with_reducible apply wkE_cons) | exact wkC_nil _ | exact wkV_nil _ | exact wkA_nil _ | (with_reducible apply wkV_agg) | (with_reducible apply wkV_tup) | (with_reducible apply wkA_agg) | exact wkA_refl _ | exact wkV_refl _ | exact wkS_nil | (with_reducible apply wkS_cons) | (with_reducible apply wkO_rc) | (with_reducible apply wkO_arr) | exact wkO_refl _ | exact wkL_nil | (with_reducible apply wkL_cons) | exact wkC_refl _ | exact wkT_nil | (with_reducible apply wkT_cons) | (with_reducible apply wkR_appR) | (with_reducible apply wkR_consR) | exact wkR_nilR _ | exact wkR_refl _))
noncomputable def spec_l2Spoilt_j3 : ((List Int) × Int × Int × Int × Int) → Option (DevArg × l26Rd)
  | (v9, v10, v11, v12, v13) => (some ((⟨v11, v12, v13⟩ : DevArg), (⟨v9, v10⟩ : l26Rd)))
noncomputable def spec_l2Spoilt (v1 : l26Rd) (v2 : DevArg) : Option (DevArg × l26Rd) :=
  (Option.bind (spec_l26Rd_pick v1 6) fun v14 => (cond (v14.1 == 0) (Option.bind (spec_l26Rd_pick v14.2 16) fun v15 => (spec_l2Spoilt_j3 (v15.2.b, v15.2.p, (IntKind.i64.wrap (v15.1 - 1)), v2.N, v2.P))) (cond (v14.1 == 1) (Option.bind (spec_l26Rd_num v14.2 [(-1), 4, 5, 15, 16, 31, 32, 63, 64, 255, 32768, (-32769), 1000000000, (-1000000000), 20, 10]) fun v16 => (spec_l2Spoilt_j3 (v16.2.b, v16.2.p, v2.Kind, v16.1, v2.P))) (cond (v14.1 == 2) (Option.bind (spec_l26Rd_num v14.2 [(-1), 0, 1, 6, 7]) fun v17 => (spec_l2Spoilt_j3 (v17.2.b, v17.2.p, v2.Kind, v2.N, v17.1))) (cond (v14.1 == 3) (Option.bind (spec_DevSize v2.Kind) fun v18 => (spec_l2Spoilt_j3 (v14.2.b, v14.2.p, v2.Kind, v18, v2.P))) (cond (v14.1 == 4) (Option.bind (spec_DevSize v2.Kind) fun v19 => (spec_l2Spoilt_j3 (v14.2.b, v14.2.p, v2.Kind, (IntKind.i64.wrap (v19 - 1)), v2.P))) (spec_l2Spoilt_j3 (v14.2.b, v14.2.p, v2.Kind, (IntKind.i64.wrap (0 - v2.N)), v2.P))))))))
set_option maxRecDepth 10000 in
set_option maxHeartbeats 4000000 in
theorem con_spec_l2Spoilt (v1 : l26Rd) (v2 : DevArg) (res_ : (DevArg × l26Rd)) (h : spec_l2Spoilt v1 v2 = some res_) : Con Tryd.prog C0 77 [.pt 0 0, .agg [.sc (.int .i64 (v2.Kind)), .sc (.int .i64 (v2.N)), .sc (.int .i64 (v2.P))]] [.rc [.fz 1 (R e_u8 (v1.b)), .sc (.int .i64 (v1.p))]]
    (fun x σ' => x = .agg [.sc (.int .i64 (res_.1.Kind)), .sc (.int .i64 (res_.1.N)), .sc (.int .i64 (res_.1.P))] ∧ σ' = [.rc [.fz 1 (R e_u8 (res_.2.b)), .sc (.int .i64 (res_.2.p))]]) := by
  refine con_of_sem hP [0, 1, 3, 4, 6, 11, 17, 23, 29, 35] [.cell 4 71] Tryd.func77 (by unfold Tryd.f77; rfl) rfl rfl (Nat.le_of_ble_eq_true rfl) rfl ?_
  simp only [enter_cons, enter_nil, List.length_cons, List.length_nil, Nat.reduceAdd]
  generalize hQ : endQ _ _ _ _ = Q
  unfold spec_l2Spoilt at h
  refine sem_cut fun k1 hk1 => ?_
  simp (decide := true) only [go_sem, reduceIte, Nat.reduceAdd, Int.reduceToNat, Nat.reduceSub, Nat.reduceMul]
  refine r_cN hk1 (sem_cutJ (fun (_ : Unit) (x : ((List Int) × Int × Int × Int × Int)) => (⟨[(3, .pt 1 0), (4, .pt 2 0)], [.rc [.fz 1 (R e_u8 (x.1)), .sc (.int .i64 (x.2.1))], .rc [.sc (.int .i64 (x.2.2.1)), .sc (.int .i64 (x.2.2.2.1)), .sc (.int .i64 (x.2.2.2.2))], .rc [.sc (.int .i64 (0)), .sc (.int .i64 (0)), .sc (.int .i64 (0))]]⟩ : St)) (fun (_ : Unit) (x : ((List Int) × Int × Int × Int × Int)) => spec_l2Spoilt_j3 x = some res_) ?_ ?_)
  · rintro _ ⟨v9, v10, v11, v12, v13⟩ h
    simp only [spec_l2Spoilt_j3] at h
    refine sem_cut fun k15 hk15 => ?_
    simp (decide := true) only [go_sem, reduceIte, Nat.reduceAdd, Int.reduceToNat, Nat.reduceSub, Nat.reduceMul]
    refine r_cN hk15 (r_ret ?_)
    obtain rfl := Option.some.inj h
    refine r_eAR hQ rfl rfl ?_
    simp (decide := true) only [go_sem, reduceIte, Nat.reduceAdd, Int.reduceToNat, Nat.reduceSub, Nat.reduceMul]
    repeat' (with_reducible refine And.intro ?_ ?_)
    all_goals first | exact wkEnd_same ⟨rfl, rfl⟩ | exact True.intro
  · intro k17 hk17 J16
    refine sem_cut fun k18 hk18 => ?_
    obtain ⟨v14, c19H, h⟩ := bind_some' h
    repeat' (first | with_reducible refine And.intro ?_ ?_ | ((with_reducible refine i_call (n := 37) ?_); refine call_open [[0]] ?_) | ((with_reducible refine i_callW (n := 37) ?_); refine callW_use (con_spec_l26Rd_pick v1 6 v14 c19H) ?_; rintro x σ' ⟨rfl, rfl⟩ <;> ((with_reducible refine behind_go ?_))) | exact True.intro | with_reducible assumption | exact fun hf => False.elim hf | (intro hg; first | (simp +contextual [hg]; done) | grind) | omega | simp (decide := true) only [go_sem, reduceIte, Nat.reduceAdd, Int.reduceToNat, Nat.reduceSub, Nat.reduceMul])
    refine r_cN hk18 (sem_blk fun k20 hk20 => ?_)
    refine sem_cut fun k21 hk21 => ?_
    simp (decide := true) only [go_sem, reduceIte, Nat.reduceAdd, Int.reduceToNat, Nat.reduceSub, Nat.reduceMul]
    refine r_cN hk21 ?_
    refine sem_ifh rfl h ?_ ?_ <;> clear h <;> intro h
    · obtain ⟨v15, c22H, h⟩ := bind_some' h
      repeat' (first | with_reducible refine And.intro ?_ ?_ | ((with_reducible refine i_call (n := 37) ?_); refine call_open [[0]] ?_) | ((with_reducible refine i_callW (n := 37) ?_); refine callW_use (con_spec_l26Rd_pick v14.2 16 v15 c22H) ?_; rintro x σ' ⟨rfl, rfl⟩ <;> ((with_reducible refine behind_go ?_))) | exact True.intro | with_reducible assumption | exact fun hf => False.elim hf | (intro hg; first | (simp +contextual [hg]; done) | grind) | omega | simp (decide := true) only [go_sem, reduceIte, Nat.reduceAdd, Int.reduceToNat, Nat.reduceSub, Nat.reduceMul])
      refine r_bN hk20 (r_joinU J16 [3, 4] () _ rfl rfl ⟨?_, h⟩)
      first | exact wkSt_same rfl | (simp (decide := true) only [go_sem, reduceIte, Nat.reduceAdd, Int.reduceToNat, Nat.reduceSub, Nat.reduceMul]; exact wkSt_same rfl)
    · refine sem_cut fun k23 hk23 => ?_
      simp (decide := true) only [go_sem, reduceIte, Nat.reduceAdd, Int.reduceToNat, Nat.reduceSub, Nat.reduceMul]
      refine r_cN hk23 ?_
      refine sem_ifh rfl h ?_ ?_ <;> clear h <;> intro h
      · obtain ⟨v16, c24H, h⟩ := bind_some' h
        repeat' (first | with_reducible refine And.intro ?_ ?_ | ((with_reducible refine i_call (n := 55) ?_); refine call_open [[0]] ?_) | ((with_reducible refine i_callW (n := 55) ?_); refine callW_use (con_spec_l26Rd_num v14.2 [(-1), 4, 5, 15, 16, 31, 32, 63, 64, 255, 32768, (-32769), 1000000000, (-1000000000), 20, 10] v16 c24H) ?_; rintro x σ' ⟨rfl, rfl⟩ <;> ((with_reducible refine behind_go ?_))) | exact True.intro | with_reducible assumption | exact fun hf => False.elim hf | (intro hg; first | (simp +contextual [hg]; done) | grind) | omega | simp (decide := true) only [go_sem, reduceIte, Nat.reduceAdd, Int.reduceToNat, Nat.reduceSub, Nat.reduceMul])
        refine r_bN hk20 (r_joinU J16 [3, 4] () _ rfl rfl ⟨?_, h⟩)
        first | exact wkSt_same rfl | (simp (decide := true) only [go_sem, reduceIte, Nat.reduceAdd, Int.reduceToNat, Nat.reduceSub, Nat.reduceMul]; exact wkSt_same rfl)
      · refine sem_cut fun k25 hk25 => ?_
        simp (decide := true) only [go_sem, reduceIte, Nat.reduceAdd, Int.reduceToNat, Nat.reduceSub, Nat.reduceMul]
        refine r_cN hk25 ?_
        refine sem_ifh rfl h ?_ ?_ <;> clear h <;> intro h
        · obtain ⟨v17, c26H, h⟩ := bind_some' h
          repeat' (first | with_reducible refine And.intro ?_ ?_ | ((with_reducible refine i_call (n := 55) ?_); refine call_open [[0]] ?_) | ((with_reducible refine i_callW (n := 55) ?_); refine callW_use (con_spec_l26Rd_num v14.2 [(-1), 0, 1, 6, 7] v17 c26H) ?_; rintro x σ' ⟨rfl, rfl⟩ <;> ((with_reducible refine behind_go ?_))) | exact True.intro | with_reducible assumption | exact fun hf => False.elim hf | (intro hg; first | (simp +contextual [hg]; done) | grind) | omega | simp (decide := true) only [go_sem, reduceIte, Nat.reduceAdd, Int.reduceToNat, Nat.reduceSub, Nat.reduceMul])
          refine r_bN hk20 (r_joinU J16 [3, 4] () _ rfl rfl ⟨?_, h⟩)
          first | exact wkSt_same rfl | (simp (decide := true) only [go_sem, reduceIte, Nat.reduceAdd, Int.reduceToNat, Nat.reduceSub, Nat.reduceMul]; exact wkSt_same rfl)
        · refine sem_cut fun k27 hk27 => ?_
          simp (decide := true) only [go_sem, reduceIte, Nat.reduceAdd, Int.reduceToNat, Nat.reduceSub, Nat.reduceMul]
          refine r_cN hk27 ?_
          refine sem_ifh rfl h ?_ ?_ <;> clear h <;> intro h
          · obtain ⟨v18, c28H, h⟩ := bind_some' h
            repeat' (first | with_reducible refine And.intro ?_ ?_ | ((with_reducible refine i_call (n := 107) ?_); refine call_openF [] ?_) | ((with_reducible refine i_callW (n := 107) ?_); refine callW_use (con_spec_DevSize v2.Kind v18 c28H) ?_; rintro x σ' ⟨rfl, rfl⟩ <;> ((refine ⟨?_, ?_⟩; (focus simp (decide := true) only [go_sem, reduceIte, Nat.reduceAdd, Int.reduceToNat, Nat.reduceSub, Nat.reduceMul])); (with_reducible refine behind_go ?_))) | exact True.intro | with_reducible assumption | exact fun hf => False.elim hf | (intro hg; first | (simp +contextual [hg]; done) | grind) | omega | simp (decide := true) only [go_sem, reduceIte, Nat.reduceAdd, Int.reduceToNat, Nat.reduceSub, Nat.reduceMul])
            refine r_bN hk20 (r_joinU J16 [3, 4] () _ rfl rfl ⟨?_, h⟩)
            first | exact wkSt_same rfl | (simp (decide := true) only [go_sem, reduceIte, Nat.reduceAdd, Int.reduceToNat, Nat.reduceSub, Nat.reduceMul]; exact wkSt_same rfl)
          · refine sem_cut fun k29 hk29 => ?_
            simp (decide := true) only [go_sem, reduceIte, Nat.reduceAdd, Int.reduceToNat, Nat.reduceSub, Nat.reduceMul]
            refine r_cN hk29 ?_
            refine sem_ifh rfl h ?_ ?_ <;> clear h <;> intro h
            · obtain ⟨v19, c30H, h⟩ := bind_some' h
              repeat' (first | with_reducible refine And.intro ?_ ?_ | ((with_reducible refine i_call (n := 107) ?_); refine call_openF [] ?_) | ((with_reducible refine i_callW (n := 107) ?_); refine callW_use (con_spec_DevSize v2.Kind v19 c30H) ?_; rintro x σ' ⟨rfl, rfl⟩ <;> ((refine ⟨?_, ?_⟩; (focus simp (decide := true) only [go_sem, reduceIte, Nat.reduceAdd, Int.reduceToNat, Nat.reduceSub, Nat.reduceMul])); (with_reducible refine behind_go ?_))) | exact True.intro | with_reducible assumption | exact fun hf => False.elim hf | (intro hg; first | (simp +contextual [hg]; done) | grind) | omega | simp (decide := true) only [go_sem, reduceIte, Nat.reduceAdd, Int.reduceToNat, Nat.reduceSub, Nat.reduceMul])
              refine r_bN hk20 (r_joinU J16 [3, 4] () _ rfl rfl ⟨?_, h⟩)
              first | exact wkSt_same rfl | (simp (decide := true) only [go_sem, reduceIte, Nat.reduceAdd, Int.reduceToNat, Nat.reduceSub, Nat.reduceMul]; exact wkSt_same rfl)
            · simp (decide := true) only [go_sem, reduceIte, Nat.reduceAdd, Int.reduceToNat, Nat.reduceSub, Nat.reduceMul]
              refine r_bN hk20 (r_joinU J16 [3, 4] () _ rfl rfl ⟨?_, h⟩)
              first | exact wkSt_same rfl | (simp (decide := true) only [go_sem, reduceIte, Nat.reduceAdd, Int.reduceToNat, Nat.reduceSub, Nat.reduceMul]; exact wkSt_same rfl)
noncomputable def spec_l2Any (v1 : l26Rd) : Option (DevArg × l26Rd) :=
  (Option.bind (spec_l26Rd_pick v1 13) fun v2 => (Option.bind (spec_l2Arg v2.2 (IntKind.i64.wrap (1 + v2.1))) fun v3 => (Option.bind (spec_l26Rd_pick v3.2 20) fun v4 => (cond (v4.1 == 0) (Option.bind (spec_l2Spoilt v4.2 v3.1) fun v5 => (some (v5.1, v5.2))) (some (v3.1, v4.2))))))
set_option maxRecDepth 10000 in
set_option maxHeartbeats 4000000 in
theorem con_spec_l2Any (v1 : l26Rd) (res_ : (DevArg × l26Rd)) (h : spec_l2Any v1 = some res_) : Con Tryd.prog C0 76 [.pt 0 0] [.rc [.fz 1 (R e_u8 (v1.b)), .sc (.int .i64 (v1.p))]]
    (fun x σ' => x = .agg [.sc (.int .i64 (res_.1.Kind)), .sc (.int .i64 (res_.1.N)), .sc (.int .i64 (res_.1.P))] ∧ σ' = [.rc [.fz 1 (R e_u8 (res_.2.b)), .sc (.int .i64 (res_.2.p))]]) := by
  refine con_of_sem hP [0, 2, 3, 11] [.cell 2 71] Tryd.func76 (by unfold Tryd.f76; rfl) rfl rfl (Nat.le_of_ble_eq_true rfl) rfl ?_
  simp only [enter_cons, enter_nil, List.length_cons, List.length_nil, Nat.reduceAdd]
  generalize hQ : endQ _ _ _ _ = Q
  unfold spec_l2Any at h
  refine sem_cut fun k1 hk1 => ?_
  simp (decide := true) only [go_sem, reduceIte, Nat.reduceAdd, Int.reduceToNat, Nat.reduceSub, Nat.reduceMul]
  refine r_cN hk1 (sem_cut fun k2 hk2 => ?_)
  obtain ⟨v2, c3H, h⟩ := bind_some' h
  obtain ⟨v3, c4H, h⟩ := bind_some' h
  repeat' (first | with_reducible refine And.intro ?_ ?_ | ((with_reducible refine i_call (n := 37) ?_); refine call_open [[0]] ?_) | ((with_reducible refine i_callW (n := 37) ?_); refine callW_use (con_spec_l26Rd_pick v1 13 v2 c3H) ?_; rintro x σ' ⟨rfl, rfl⟩ <;> ((with_reducible refine behind_go ?_))) | ((with_reducible refine i_call (n := 72) ?_); refine call_open [[0]] ?_) | ((with_reducible refine i_callW (n := 72) ?_); refine callW_use (con_spec_l2Arg v2.2 (IntKind.i64.wrap (1 + v2.1)) v3 c4H) ?_; rintro x σ' ⟨rfl, rfl⟩ <;> ((with_reducible refine behind_go ?_))) | exact True.intro | with_reducible assumption | exact fun hf => False.elim hf | (intro hg; first | (simp +contextual [hg]; done) | grind) | omega | simp (decide := true) only [go_sem, reduceIte, Nat.reduceAdd, Int.reduceToNat, Nat.reduceSub, Nat.reduceMul])
  refine r_cN hk2 (sem_cut fun k5 hk5 => ?_)
  refine sem_cut fun k6 hk6 => ?_
  obtain ⟨v4, c7H, h⟩ := bind_some' h
  repeat' (first | with_reducible refine And.intro ?_ ?_ | ((with_reducible refine i_call (n := 37) ?_); refine call_open [[0]] ?_) | ((with_reducible refine i_callW (n := 37) ?_); refine callW_use (con_spec_l26Rd_pick v3.2 20 v4 c7H) ?_; rintro x σ' ⟨rfl, rfl⟩ <;> ((with_reducible refine behind_go ?_))) | exact True.intro | with_reducible assumption | exact fun hf => False.elim hf | (intro hg; first | (simp +contextual [hg]; done) | grind) | omega | simp (decide := true) only [go_sem, reduceIte, Nat.reduceAdd, Int.reduceToNat, Nat.reduceSub, Nat.reduceMul])
  refine r_cN hk6 ?_
  refine sem_ifh rfl h ?_ ?_ <;> clear h <;> intro h
  · refine sem_cut fun k8 hk8 => ?_
    obtain ⟨v5, c9H, h⟩ := bind_some' h
    repeat' (first | with_reducible refine And.intro ?_ ?_ | ((with_reducible refine i_call (n := 77) ?_); refine call_open [[0]] ?_) | ((with_reducible refine i_callW (n := 77) ?_); refine callW_use (con_spec_l2Spoilt v4.2 v3.1 v5 c9H) ?_; rintro x σ' ⟨rfl, rfl⟩ <;> ((with_reducible refine behind_go ?_))) | exact True.intro | with_reducible assumption | exact fun hf => False.elim hf | (intro hg; first | (simp +contextual [hg]; done) | grind) | omega | simp (decide := true) only [go_sem, reduceIte, Nat.reduceAdd, Int.reduceToNat, Nat.reduceSub, Nat.reduceMul])
    refine r_cN hk8 (r_ret ?_)
    refine r_cR hk5 ?_
    obtain rfl := Option.some.inj h
    refine r_eAR hQ rfl rfl ?_
    simp (decide := true) only [go_sem, reduceIte, Nat.reduceAdd, Int.reduceToNat, Nat.reduceSub, Nat.reduceMul]
    repeat' (with_reducible refine And.intro ?_ ?_)
    all_goals first | exact wkEnd_same ⟨rfl, rfl⟩ | exact True.intro
  · refine r_skip (r_cN hk5 ?_)
    refine sem_cut fun k10 hk10 => ?_
    simp (decide := true) only [go_sem, reduceIte, Nat.reduceAdd, Int.reduceToNat, Nat.reduceSub, Nat.reduceMul]
    refine r_cN hk10 (r_ret ?_)
    obtain rfl := Option.some.inj h
    refine r_eAR hQ rfl rfl ?_
    simp (decide := true) only [go_sem, reduceIte, Nat.reduceAdd, Int.reduceToNat, Nat.reduceSub, Nat.reduceMul]
    repeat' (with_reducible refine And.intro ?_ ?_)
    all_goals first | exact wkEnd_same ⟨rfl, rfl⟩ | exact True.intro
noncomputable def spec_l4Spoil_j28 (v2 : Elem) : ((List Int) × Int × (List DevArg)) → Option (Elem × l26Rd)
  | (v12, v13, v14) => (some ((⟨v2.Op, v14⟩ : Elem), (⟨v12, v13⟩ : l26Rd)))
noncomputable def spec_l4Spoil (v1 : l26Rd) (v2 : Elem) : Option (Elem × l26Rd) :=
  (gd (apOk (v2.Args).length 24) (Option.bind (spec_l26Rd_pick v1 6) fun v3 => (cond (v3.1 == 0) (Option.bind (spec_l26Rd_num v3.2 [(-1), 0, 1, 5, 11, 20, 21, 26, 37, 38]) fun v4 => (some ((⟨v4.1, v2.Args⟩ : Elem), v4.2))) (cond (v3.1 == 1) (Option.bind (spec_l2Any v3.2) fun v5 => (gd (apOk ((v2.Args ++ [v5.1])).length 24) (some ((⟨v2.Op, (v2.Args ++ [v5.1])⟩ : Elem), v5.2)))) (cond (v3.1 == 2) (some ((⟨v2.Op, []⟩ : Elem), v3.2)) (cond (decide ((((v2.Args).length : Nat) : Int) > 0)) (Option.bind (spec_l26Rd_pick v3.2 (((v2.Args).length : Nat) : Int)) fun v15 => (Option.bind (idx v2.Args (v15.1)) fun v16 => (Option.bind (spec_l2Spoilt v15.2 v16) fun v17 => (Option.bind (spec_l26Rd_pick v17.2 2) fun v18 => (cond (v18.1 == 0) (Option.bind (spec_l2Any v18.2) fun v19 => (Option.bind (idx ((v2.Args).set (v15.1).toNat v17.1) (v15.1)) fun v20 => (spec_l4Spoil_j28 v2 (v19.2.b, v19.2.p, ((((v2.Args).set (v15.1).toNat v17.1)).set (v15.1).toNat v19.1))))) (spec_l4Spoil_j28 v2 (v18.2.b, v18.2.p, ((v2.Args).set (v15.1).toNat v17.1)))))))) (spec_l4Spoil_j28 v2 (v3.2.b, v3.2.p, v2.Args))))))))
set_option maxRecDepth 10000 in
set_option maxHeartbeats 4000000 in
theorem con_spec_l4Spoil (v1 : l26Rd) (v2 : Elem) (res_ : (Elem × l26Rd)) (h : spec_l4Spoil v1 v2 = some res_) : Con Tryd.prog C0 56 [.pt 0 0, .agg [.sc (.int .i64 (v2.Op)), .fz 3 (R e_DevArg (v2.Args))]] [.rc [.fz 1 (R e_u8 (v1.b)), .sc (.int .i64 (v1.p))]]
    (fun x σ' => x = .agg [.sc (.int .i64 (res_.1.Op)), .fz 3 (R e_DevArg (res_.1.Args))] ∧ σ' = [.rc [.fz 1 (R e_u8 (res_.2.b)), .sc (.int .i64 (res_.2.p))]]) := by
  refine con_of_sem hP [0, 1, 3, 4, 5, 6, 12, 13, 20, 30, 37, 53] [.cell 4 44] Tryd.func56 (by unfold Tryd.f56; rfl) rfl rfl (Nat.le_of_ble_eq_true rfl) rfl ?_
  simp only [enter_cons, enter_nil, List.length_cons, List.length_nil, Nat.reduceAdd]
  generalize hQ : endQ _ _ _ _ = Q
  unfold spec_l4Spoil at h
  refine sem_cut fun k1 hk1 => ?_
  simp (decide := true) only [go_sem, reduceIte, Nat.reduceAdd, Int.reduceToNat, Nat.reduceSub, Nat.reduceMul]
  refine r_cN hk1 (sem_cut fun k2 hk2 => ?_)
  obtain ⟨g3, h⟩ := gd_some h
  have g3A := apOk_1 g3; have g3B := apOk_2 g3
  repeat' (first | with_reducible refine And.intro ?_ ?_ | exact True.intro | with_reducible assumption | exact fun hf => False.elim hf | (intro hg; first | (simp +contextual [hg]; done) | grind) | omega | simp (decide := true) only [go_sem, reduceIte, Nat.reduceAdd, Int.reduceToNat, Nat.reduceSub, Nat.reduceMul, g3A, g3B])
  refine r_cN hk2 (sem_cut fun k4 hk4 => ?_)
  refine sem_cut fun k5 hk5 => ?_
  obtain ⟨v3, c6H, h⟩ := bind_some' h
  repeat' (first | with_reducible refine And.intro ?_ ?_ | ((with_reducible refine i_call (n := 37) ?_); refine call_open [[0]] ?_) | ((with_reducible refine i_callW (n := 37) ?_); refine callW_use (con_spec_l26Rd_pick v1 6 v3 c6H) ?_; rintro x σ' ⟨rfl, rfl⟩ <;> ((with_reducible refine behind_go ?_))) | exact True.intro | with_reducible assumption | exact fun hf => False.elim hf | (intro hg; first | (simp +contextual [hg]; done) | grind) | omega | simp (decide := true) only [go_sem, reduceIte, Nat.reduceAdd, Int.reduceToNat, Nat.reduceSub, Nat.reduceMul])
  refine r_cN hk5 (sem_blk fun k7 hk7 => ?_)
  refine sem_cut fun k8 hk8 => ?_
  simp (decide := true) only [go_sem, reduceIte, Nat.reduceAdd, Int.reduceToNat, Nat.reduceSub, Nat.reduceMul]
  refine r_cN hk8 ?_
  refine sem_ifh rfl h ?_ ?_ <;> clear h <;> intro h
  · refine sem_cut fun k9 hk9 => ?_
    obtain ⟨v4, c10H, h⟩ := bind_some' h
    repeat' (first | with_reducible refine And.intro ?_ ?_ | ((with_reducible refine i_call (n := 55) ?_); refine call_open [[0]] ?_) | ((with_reducible refine i_callW (n := 55) ?_); refine callW_use (con_spec_l26Rd_num v3.2 [(-1), 0, 1, 5, 11, 20, 21, 26, 37, 38] v4 c10H) ?_; rintro x σ' ⟨rfl, rfl⟩ <;> ((with_reducible refine behind_go ?_))) | exact True.intro | with_reducible assumption | exact fun hf => False.elim hf | (intro hg; first | (simp +contextual [hg]; done) | grind) | omega | simp (decide := true) only [go_sem, reduceIte, Nat.reduceAdd, Int.reduceToNat, Nat.reduceSub, Nat.reduceMul])
    refine r_cN hk9 (r_ret ?_)
    refine r_bR hk7 (r_cR hk4 ?_)
    obtain rfl := Option.some.inj h
    refine r_eAR hQ rfl rfl ?_
    simp (decide := true) only [go_sem, reduceIte, Nat.reduceAdd, Int.reduceToNat, Nat.reduceSub, Nat.reduceMul]
    repeat' (with_reducible refine And.intro ?_ ?_)
    all_goals first | exact wkEnd_same ⟨rfl, rfl⟩ | exact True.intro
  · refine sem_cut fun k11 hk11 => ?_
    simp (decide := true) only [go_sem, reduceIte, Nat.reduceAdd, Int.reduceToNat, Nat.reduceSub, Nat.reduceMul]
    refine r_cN hk11 ?_
    refine sem_ifh rfl h ?_ ?_ <;> clear h <;> intro h
    · refine sem_cut fun k12 hk12 => ?_
      obtain ⟨v5, c13H, h⟩ := bind_some' h
      obtain ⟨g14, h⟩ := gd_some h
      have g14A := apOk_1 g14; have g14B := apOk_2 g14
      with_reducible refine sem_plan (id := 6) (.take 0 (.take 1 (.take 2 (.take 3 (.one 4 (.one 5 (.one 6 (.take 7 (.last 8 .done))))))))) [1] ?_ ?_
      focus kernel_rfl
      repeat' (first | with_reducible refine And.intro ?_ ?_ | ((with_reducible refine i_call (n := 76) ?_); refine call_open [[0]] ?_) | ((with_reducible refine i_callW (n := 76) ?_); refine callW_use (con_spec_l2Any v3.2 v5 c13H) ?_; rintro x σ' ⟨rfl, rfl⟩ <;> ((with_reducible refine behind_go ?_))) | exact True.intro | with_reducible assumption | exact fun hf => False.elim hf | (intro hg; first | (simp +contextual [hg]; done) | grind) | omega | simp (decide := true) only [go_sem, reduceIte, Nat.reduceAdd, Int.reduceToNat, Nat.reduceSub, Nat.reduceMul, g14A, g14B])
      refine r_cN hk12 (r_ret ?_)
      refine r_bR hk7 (r_cR hk4 ?_)
      obtain rfl := Option.some.inj h
      refine r_eAR hQ rfl rfl ?_
      simp (decide := true) only [go_sem, reduceIte, Nat.reduceAdd, Int.reduceToNat, Nat.reduceSub, Nat.reduceMul]
      repeat' (with_reducible refine And.intro ?_ ?_)
      all_goals first | exact wkEnd_same ⟨rfl, rfl⟩ | exact True.intro
    · refine sem_cut fun k15 hk15 => ?_
      simp (decide := true) only [go_sem, reduceIte, Nat.reduceAdd, Int.reduceToNat, Nat.reduceSub, Nat.reduceMul]
      refine r_cN hk15 ?_
      refine sem_ifh rfl h ?_ ?_ <;> clear h <;> intro h
      · refine sem_cut fun k16 hk16 => ?_
        simp (decide := true) only [go_sem, reduceIte, Nat.reduceAdd, Int.reduceToNat, Nat.reduceSub, Nat.reduceMul]
        refine r_cN hk16 (r_ret ?_)
        refine r_bR hk7 (r_cR hk4 ?_)
        obtain rfl := Option.some.inj h
        refine r_eAR hQ rfl rfl ?_
        simp (decide := true) only [go_sem, reduceIte, Nat.reduceAdd, Int.reduceToNat, Nat.reduceSub, Nat.reduceMul]
        repeat' (with_reducible refine And.intro ?_ ?_)
        all_goals first | exact True.intro | (refine wkEnd_mk ?_ ?_ (⟨rfl, rfl⟩) <;> repeat' (first | exact wkE_nil | (with_reducible apply wkE_cons) | exact wkC_nil _ | exact wkV_nil _ | exact wkA_nil _ | (with_reducible apply wkV_agg) | (with_reducible apply wkV_tup) | (with_reducible apply wkA_agg) | exact wkA_refl _ | exact wkV_refl _ | exact wkS_nil | (with_reducible apply wkS_cons) | (with_reducible apply wkO_rc) | (with_reducible apply wkO_arr) | exact wkO_refl _ | exact wkL_nil | (with_reducible apply wkL_cons) | exact wkC_refl _ | exact wkT_nil | (with_reducible apply wkT_cons) | (with_reducible apply wkR_appR) | (with_reducible apply wkR_consR) | exact wkR_nilR _ | exact wkR_refl _))
      · refine r_skip (r_bN hk7 ?_)
        refine r_cN hk4 (sem_cutJ (fun (_ : Unit) (x : ((List Int) × Int × (List DevArg))) => (⟨[(3, .pt 1 0), (4, .pt 2 0), (5, .sl 3 0 ((x.2.2).length))], [.rc [.fz 1 (R e_u8 (x.1)), .sc (.int .i64 (x.2.1))], .rc [.sc (.int .i64 (v2.Op)), .fz 3 (R e_DevArg (v2.Args))], .rc [.sc (.int .i64 (0)), .sc (.slice none 0 0)], .arr true 3 (R e_DevArg (x.2.2))]⟩ : St)) (fun (_ : Unit) (x : ((List Int) × Int × (List DevArg))) => spec_l4Spoil_j28 v2 x = some res_) ?_ ?_)
        · rintro _ ⟨v12, v13, v14⟩ h
          simp only [spec_l4Spoil_j28] at h
          refine sem_cut fun k27 hk27 => ?_
          simp (decide := true) only [go_sem, reduceIte, Nat.reduceAdd, Int.reduceToNat, Nat.reduceSub, Nat.reduceMul]
          refine r_cN hk27 (r_ret ?_)
          obtain rfl := Option.some.inj h
          refine r_eAR hQ rfl rfl ?_
          simp (decide := true) only [go_sem, reduceIte, Nat.reduceAdd, Int.reduceToNat, Nat.reduceSub, Nat.reduceMul]
          repeat' (with_reducible refine And.intro ?_ ?_)
          all_goals first | exact wkEnd_same ⟨rfl, rfl⟩ | exact True.intro
        · intro k29 hk29 J28
          refine sem_cut fun k30 hk30 => ?_
          simp (decide := true) only [go_sem, reduceIte, Nat.reduceAdd, Int.reduceToNat, Nat.reduceSub, Nat.reduceMul]
          refine r_cN hk30 ?_
          refine sem_ifh rfl h ?_ ?_ <;> clear h <;> intro h
          · refine sem_cut fun k31 hk31 => ?_
            obtain ⟨v15, c32H, h⟩ := bind_some' h
            repeat' (first | with_reducible refine And.intro ?_ ?_ | ((with_reducible refine i_call (n := 37) ?_); refine call_open [[0]] ?_) | ((with_reducible refine i_callW (n := 37) ?_); refine callW_use (con_spec_l26Rd_pick v3.2 (((v2.Args).length : Nat) : Int) v15 c32H) ?_; rintro x σ' ⟨rfl, rfl⟩ <;> ((with_reducible refine behind_go ?_))) | exact True.intro | with_reducible assumption | exact fun hf => False.elim hf | (intro hg; first | (simp +contextual [hg]; done) | grind) | omega | simp (decide := true) only [go_sem, reduceIte, Nat.reduceAdd, Int.reduceToNat, Nat.reduceSub, Nat.reduceMul])
            refine r_cN hk31 (sem_cut fun k33 hk33 => ?_)
            obtain ⟨v16, c34H, h⟩ := bind_some' h
            obtain ⟨c34A, c34B, c34C, -⟩ := idx_some c34H
            obtain ⟨v17, c35H, h⟩ := bind_some' h
            repeat' (first | with_reducible refine And.intro ?_ ?_ | ((with_reducible refine i_call (n := 77) ?_); refine call_open [[0]] ?_) | ((with_reducible refine i_callW (n := 77) ?_); refine callW_use (con_spec_l2Spoilt v15.2 v16 v17 c35H) ?_; rintro x σ' ⟨rfl, rfl⟩ <;> ((with_reducible refine behind_go ?_))) | exact True.intro | with_reducible assumption | exact fun hf => False.elim hf | (intro hg; first | (simp +contextual [hg]; done) | grind) | omega | simp (decide := true) only [go_sem, reduceIte, Nat.reduceAdd, Int.reduceToNat, Nat.reduceSub, Nat.reduceMul, c34A, c34B, c34C])
            refine r_cN hk33 (sem_cut fun k36 hk36 => ?_)
            obtain ⟨v18, c37H, h⟩ := bind_some' h
            repeat' (first | with_reducible refine And.intro ?_ ?_ | ((with_reducible refine i_call (n := 37) ?_); refine call_open [[0]] ?_) | ((with_reducible refine i_callW (n := 37) ?_); refine callW_use (con_spec_l26Rd_pick v17.2 2 v18 c37H) ?_; rintro x σ' ⟨rfl, rfl⟩ <;> ((with_reducible refine behind_go ?_))) | exact True.intro | with_reducible assumption | exact fun hf => False.elim hf | (intro hg; first | (simp +contextual [hg]; done) | grind) | omega | simp (decide := true) only [go_sem, reduceIte, Nat.reduceAdd, Int.reduceToNat, Nat.reduceSub, Nat.reduceMul])
            refine r_cN hk36 ?_
            refine sem_ifh rfl h ?_ ?_ <;> clear h <;> intro h
            · obtain ⟨v19, c38H, h⟩ := bind_some' h
              obtain ⟨v20, c39H, h⟩ := bind_some' h
              obtain ⟨c39A, c39B, c39C, -⟩ := idx_some c39H
              repeat' (first | with_reducible refine And.intro ?_ ?_ | ((with_reducible refine i_call (n := 76) ?_); refine call_open [[0]] ?_) | ((with_reducible refine i_callW (n := 76) ?_); refine callW_use (con_spec_l2Any v18.2 v19 c38H) ?_; rintro x σ' ⟨rfl, rfl⟩ <;> ((with_reducible refine behind_go ?_))) | exact True.intro | with_reducible assumption | exact fun hf => False.elim hf | (intro hg; first | (simp +contextual [hg]; done) | grind) | omega | simp (decide := true) only [go_sem, reduceIte, Nat.reduceAdd, Int.reduceToNat, Nat.reduceSub, Nat.reduceMul, c39A, c39B, c39C])
              refine r_joinU J28 [3, 4, 5] () _ rfl rfl ⟨?_, h⟩
              first | exact wkSt_same rfl | (simp (decide := true) only [go_sem, reduceIte, Nat.reduceAdd, Int.reduceToNat, Nat.reduceSub, Nat.reduceMul]; exact wkSt_same rfl)
            · refine r_skip (r_joinU J28 [3, 4, 5] () _ rfl rfl ⟨?_, h⟩)
              first | exact wkSt_same rfl | (simp (decide := true) only [go_sem, reduceIte, Nat.reduceAdd, Int.reduceToNat, Nat.reduceSub, Nat.reduceMul]; exact wkSt_same rfl)
          · refine r_skip (r_joinU J28 [3, 4, 5] () _ rfl rfl ⟨?_, h⟩)
            first | exact wkSt_same rfl | (simp (decide := true) only [go_sem, reduceIte, Nat.reduceAdd, Int.reduceToNat, Nat.reduceSub, Nat.reduceMul]; exact wkSt_same rfl)
noncomputable def spec_l4Any_j5 : ((List Int) × Int × Int × (List DevArg)) → Option (Elem × l26Rd)
  | (v5, v6, v7, v8) => (Option.bind (spec_l26Rd_pick (⟨v5, v6⟩ : l26Rd) 16) fun v9 => (cond (v9.1 == 0) (Option.bind (spec_l4Spoil v9.2 (⟨v7, v8⟩ : Elem)) fun v10 => (some (v10.1, v10.2))) (some ((⟨v7, v8⟩ : Elem), v9.2))))
noncomputable def spec_l4Any (v1 : l26Rd) : Option (Elem × l26Rd) :=
  (Option.bind (spec_l4Coil v1) fun v2 => (Option.bind (spec_l26Rd_pick v2.2 2) fun v13 => (cond (v13.1 == 0) (Option.bind (spec_l4Contact v13.2) fun v14 => (spec_l4Any_j5 (v14.2.b, v14.2.p, v14.1.Op, v14.1.Args))) (spec_l4Any_j5 (v13.2.b, v13.2.p, v2.1.Op, v2.1.Args)))))
set_option maxRecDepth 10000 in
set_option maxHeartbeats 4000000 in
theorem con_spec_l4Any (v1 : l26Rd) (res_ : (Elem × l26Rd)) (h : spec_l4Any v1 = some res_) : Con Tryd.prog C0 57 [.pt 0 0] [.rc [.fz 1 (R e_u8 (v1.b)), .sc (.int .i64 (v1.p))]]
    (fun x σ' => x = .agg [.sc (.int .i64 (res_.1.Op)), .fz 3 (R e_DevArg (res_.1.Args))] ∧ σ' = [.rc [.fz 1 (R e_u8 (res_.2.b)), .sc (.int .i64 (res_.2.p))]]) := by
  refine con_of_sem hP [0, 2, 3, 8, 13] [.cell 2 44] Tryd.func57 (by unfold Tryd.f57; rfl) rfl rfl (Nat.le_of_ble_eq_true rfl) rfl ?_
  simp only [enter_cons, enter_nil, List.length_cons, List.length_nil, Nat.reduceAdd]
  generalize hQ : endQ _ _ _ _ = Q
  unfold spec_l4Any at h
  refine sem_cut fun k1 hk1 => ?_
  simp (decide := true) only [go_sem, reduceIte, Nat.reduceAdd, Int.reduceToNat, Nat.reduceSub, Nat.reduceMul]
  refine r_cN hk1 (sem_cut fun k2 hk2 => ?_)
  obtain ⟨v2, c3H, h⟩ := bind_some' h
  repeat' (first | with_reducible refine And.intro ?_ ?_ | ((with_reducible refine i_call (n := 54) ?_); refine call_open [[0]] ?_) | ((with_reducible refine i_callW (n := 54) ?_); refine callW_use (con_spec_l4Coil v1 v2 c3H) ?_; rintro x σ' ⟨rfl, rfl⟩ <;> ((with_reducible refine behind_go ?_))) | exact True.intro | with_reducible assumption | exact fun hf => False.elim hf | (intro hg; first | (simp +contextual [hg]; done) | grind) | omega | simp (decide := true) only [go_sem, reduceIte, Nat.reduceAdd, Int.reduceToNat, Nat.reduceSub, Nat.reduceMul])
  refine r_cN hk2 (sem_cutJ (fun (i : P2) (x : ((List Int) × Int × Int × (List DevArg))) => match i with | .a => (⟨[(0, .pt 0 0), (2, .pt 1 0), (3, .pt 2 0)], [.rc [.fz 1 (R e_u8 (x.1)), .sc (.int .i64 (x.2.1))], .rc [.sc (.int .i64 (0)), .sc (.slice none 0 0)], .rc [.sc (.int .i64 (x.2.2.1)), .sl 3 0 ((x.2.2.2).length)], .arr true 3 (R e_DevArg (x.2.2.2))]⟩ : St) | .b => (⟨[(0, .pt 0 0), (2, .pt 1 0), (3, .pt 2 0)], [.rc [.fz 1 (R e_u8 (x.1)), .sc (.int .i64 (x.2.1))], .rc [.sc (.int .i64 (0)), .sc (.slice none 0 0)], .rc [.sc (.int .i64 (x.2.2.1)), .fz 3 (R e_DevArg (x.2.2.2))]]⟩ : St)) (fun (i : P2) (x : ((List Int) × Int × Int × (List DevArg))) => (match i with | .a => True | .b => True) ∧ spec_l4Any_j5 x = some res_) ?_ ?_)
  · rintro (_ | _) ⟨v5, v6, v7, v8⟩ ⟨hp, h⟩
    · simp only [spec_l4Any_j5] at h
      refine sem_cut fun k7 hk7 => sem_cut fun k8 hk8 => ?_
      obtain ⟨v9, c9H, h⟩ := bind_some' h
      repeat' (first | with_reducible refine And.intro ?_ ?_ | ((with_reducible refine i_call (n := 37) ?_); refine call_open [[0]] ?_) | ((with_reducible refine i_callW (n := 37) ?_); refine callW_use (con_spec_l26Rd_pick (⟨v5, v6⟩ : l26Rd) 16 v9 c9H) ?_; rintro x σ' ⟨rfl, rfl⟩ <;> ((with_reducible refine behind_go ?_))) | exact True.intro | with_reducible assumption | exact fun hf => False.elim hf | (intro hg; first | (simp +contextual [hg]; done) | grind) | omega | simp (decide := true) only [go_sem, reduceIte, Nat.reduceAdd, Int.reduceToNat, Nat.reduceSub, Nat.reduceMul])
      refine r_cN hk8 ?_
      refine sem_ifh rfl h ?_ ?_ <;> clear h <;> intro h
      · refine sem_cut fun k10 hk10 => ?_
        obtain ⟨v10, c11H, h⟩ := bind_some' h
        repeat' (first | with_reducible refine And.intro ?_ ?_ | ((with_reducible refine i_call (n := 56) ?_); refine call_open [[0]] ?_) | ((with_reducible refine i_callW (n := 56) ?_); refine callW_use (con_spec_l4Spoil v9.2 (⟨v7, v8⟩ : Elem) v10 c11H) ?_; rintro x σ' ⟨rfl, rfl⟩ <;> ((with_reducible refine behind_go ?_))) | exact True.intro | with_reducible assumption | exact fun hf => False.elim hf | (intro hg; first | (simp +contextual [hg]; done) | grind) | omega | simp (decide := true) only [go_sem, reduceIte, Nat.reduceAdd, Int.reduceToNat, Nat.reduceSub, Nat.reduceMul])
        refine r_cN hk10 (r_ret ?_)
        refine r_cR hk7 ?_
        obtain rfl := Option.some.inj h
        refine r_eAR hQ rfl rfl ?_
        simp (decide := true) only [go_sem, reduceIte, Nat.reduceAdd, Int.reduceToNat, Nat.reduceSub, Nat.reduceMul]
        repeat' (with_reducible refine And.intro ?_ ?_)
        all_goals first | exact wkEnd_same ⟨rfl, rfl⟩ | exact True.intro
      · refine r_skip (r_cN hk7 ?_)
        refine sem_cut fun k12 hk12 => ?_
        simp (decide := true) only [go_sem, reduceIte, Nat.reduceAdd, Int.reduceToNat, Nat.reduceSub, Nat.reduceMul]
        refine r_cN hk12 (r_ret ?_)
        obtain rfl := Option.some.inj h
        refine r_eAR hQ rfl rfl ?_
        simp (decide := true) only [go_sem, reduceIte, Nat.reduceAdd, Int.reduceToNat, Nat.reduceSub, Nat.reduceMul]
        repeat' (with_reducible refine And.intro ?_ ?_)
        all_goals first | exact wkEnd_same ⟨rfl, rfl⟩ | exact True.intro
    · simp only [spec_l4Any_j5] at h
      refine sem_cut fun k13 hk13 => sem_cut fun k14 hk14 => ?_
      obtain ⟨v11, c15H, h⟩ := bind_some' h
      repeat' (first | with_reducible refine And.intro ?_ ?_ | ((with_reducible refine i_call (n := 37) ?_); refine call_open [[0]] ?_) | ((with_reducible refine i_callW (n := 37) ?_); refine callW_use (con_spec_l26Rd_pick (⟨v5, v6⟩ : l26Rd) 16 v11 c15H) ?_; rintro x σ' ⟨rfl, rfl⟩ <;> ((with_reducible refine behind_go ?_))) | exact True.intro | with_reducible assumption | exact fun hf => False.elim hf | (intro hg; first | (simp +contextual [hg]; done) | grind) | omega | simp (decide := true) only [go_sem, reduceIte, Nat.reduceAdd, Int.reduceToNat, Nat.reduceSub, Nat.reduceMul])
      refine r_cN hk14 ?_
      refine sem_ifh rfl h ?_ ?_ <;> clear h <;> intro h
      · refine sem_cut fun k16 hk16 => ?_
        obtain ⟨v12, c17H, h⟩ := bind_some' h
        repeat' (first | with_reducible refine And.intro ?_ ?_ | ((with_reducible refine i_call (n := 56) ?_); refine call_open [[0]] ?_) | ((with_reducible refine i_callW (n := 56) ?_); refine callW_use (con_spec_l4Spoil v11.2 (⟨v7, v8⟩ : Elem) v12 c17H) ?_; rintro x σ' ⟨rfl, rfl⟩ <;> ((with_reducible refine behind_go ?_))) | exact True.intro | with_reducible assumption | exact fun hf => False.elim hf | (intro hg; first | (simp +contextual [hg]; done) | grind) | omega | simp (decide := true) only [go_sem, reduceIte, Nat.reduceAdd, Int.reduceToNat, Nat.reduceSub, Nat.reduceMul])
        refine r_cN hk16 (r_ret ?_)
        refine r_cR hk13 ?_
        obtain rfl := Option.some.inj h
        refine r_eAR hQ rfl rfl ?_
        simp (decide := true) only [go_sem, reduceIte, Nat.reduceAdd, Int.reduceToNat, Nat.reduceSub, Nat.reduceMul]
        repeat' (with_reducible refine And.intro ?_ ?_)
        all_goals first | exact wkEnd_same ⟨rfl, rfl⟩ | exact True.intro
      · refine r_skip (r_cN hk13 ?_)
        refine sem_cut fun k18 hk18 => ?_
        simp (decide := true) only [go_sem, reduceIte, Nat.reduceAdd, Int.reduceToNat, Nat.reduceSub, Nat.reduceMul]
        refine r_cN hk18 (r_ret ?_)
        obtain rfl := Option.some.inj h
        refine r_eAR hQ rfl rfl ?_
        simp (decide := true) only [go_sem, reduceIte, Nat.reduceAdd, Int.reduceToNat, Nat.reduceSub, Nat.reduceMul]
        repeat' (with_reducible refine And.intro ?_ ?_)
        all_goals first | exact wkEnd_same ⟨rfl, rfl⟩ | exact True.intro
  · intro k20 hk20 J19
    refine sem_cut fun k21 hk21 => ?_
    obtain ⟨v13, c22H, h⟩ := bind_some' h
    repeat' (first | with_reducible refine And.intro ?_ ?_ | ((with_reducible refine i_call (n := 37) ?_); refine call_open [[0]] ?_) | ((with_reducible refine i_callW (n := 37) ?_); refine callW_use (con_spec_l26Rd_pick v2.2 2 v13 c22H) ?_; rintro x σ' ⟨rfl, rfl⟩ <;> ((with_reducible refine behind_go ?_))) | exact True.intro | with_reducible assumption | exact fun hf => False.elim hf | (intro hg; first | (simp +contextual [hg]; done) | grind) | omega | simp (decide := true) only [go_sem, reduceIte, Nat.reduceAdd, Int.reduceToNat, Nat.reduceSub, Nat.reduceMul])
    refine r_cN hk21 ?_
    refine sem_ifh rfl h ?_ ?_ <;> clear h <;> intro h
    · obtain ⟨v14, c23H, h⟩ := bind_some' h
      repeat' (first | with_reducible refine And.intro ?_ ?_ | ((with_reducible refine i_call (n := 53) ?_); refine call_open [[0]] ?_) | ((with_reducible refine i_callW (n := 53) ?_); refine callW_use (con_spec_l4Contact v13.2 v14 c23H) ?_; rintro x σ' ⟨rfl, rfl⟩ <;> ((with_reducible refine behind_go ?_))) | exact True.intro | with_reducible assumption | exact fun hf => False.elim hf | (intro hg; first | (simp +contextual [hg]; done) | grind) | omega | simp (decide := true) only [go_sem, reduceIte, Nat.reduceAdd, Int.reduceToNat, Nat.reduceSub, Nat.reduceMul])
      refine r_joinU J19 [0, 2, 3] (.a) (v14.2.b, v14.2.p, v14.1.Op, v14.1.Args) rfl rfl ⟨?_, ⟨trivial, h⟩⟩
      first | exact wkSt_same rfl | (simp (decide := true) only [go_sem, reduceIte, Nat.reduceAdd, Int.reduceToNat, Nat.reduceSub, Nat.reduceMul]; exact wkSt_same rfl)
    · refine r_skip (r_joinU J19 [0, 2, 3] (.b) (v13.2.b, v13.2.p, v2.1.Op, v2.1.Args) rfl rfl ⟨?_, ⟨trivial, h⟩⟩)
      first | exact wkSt_same rfl | (simp (decide := true) only [go_sem, reduceIte, Nat.reduceAdd, Int.reduceToNat, Nat.reduceSub, Nat.reduceMul]; exact wkSt_same rfl)
noncomputable def spec_l11Spoil_j15 : ((List Int) × Int × (List Inst)) → Option ((List Inst) × l26Rd)
  | (v28, v29, v30) => (some (v30, (⟨v28, v29⟩ : l26Rd)))
noncomputable def spec_l11Spoil_s55 (v39 : Inst) : ((List Int) × Int × (List Inst)) → Option (((List Int) × Int × (List Inst)) ⊕ ((List Int) × Int × (List Inst)))
  | (v41, v42, v43) => (Option.bind (spec_l26Rd_pick (⟨v41, v42⟩ : l26Rd) 2) fun v46 => (cond (decide ((((v43).length : Nat) : Int) < (IntKind.i64.wrap (1000 + v46.1)))) (gd (apOk ((v43 ++ [v39])).length 40) (some (.inl (v46.2.b, v46.2.p, (v43 ++ [v39]))))) (some (.inr (v46.2.b, v46.2.p, v43)))))
noncomputable def spec_l11Spoil (v1 : l26Rd) (v2 : (List Inst)) : Option ((List Inst) × l26Rd) :=
  (gd (apOk (v2).length 40) (cond ((((v2).length : Nat) : Int) == 0) (Option.bind (spec_l11Inst v1) fun v3 => (gd (apOk ((v2 ++ [v3.1])).length 40) (some ((v2 ++ [v3.1]), v3.2)))) (Option.bind (spec_l26Rd_pick v1 (((v2).length : Nat) : Int)) fun v4 => (Option.bind (spec_l26Rd_pick v4.2 9) fun v31 => (cond (v31.1 == 0) (gd (decide (0 ≤ v4.1) && decide (v4.1 ≤ (((v2).length : Nat) : Int))) (gd (decide (0 ≤ (IntKind.i64.wrap (v4.1 + 1))) && decide ((IntKind.i64.wrap (v4.1 + 1)) ≤ (((v2).length : Nat) : Int)) && decide ((((v2).length : Nat) : Int) ≤ (((v2).length : Nat) : Int))) (gd (apOk (((v2).take ((v4.1).toNat) ++ ((v2).drop (((IntKind.i64.wrap (v4.1 + 1))).toNat)).take ((((v2).length) - ((IntKind.i64.wrap (v4.1 + 1))).toNat)))).length 40) (some (((v2).take ((v4.1).toNat) ++ ((v2).drop (((IntKind.i64.wrap (v4.1 + 1))).toNat)).take ((((v2).length) - ((IntKind.i64.wrap (v4.1 + 1))).toNat))), v31.2))))) (cond (v31.1 == 1) (gd (decide (0 ≤ v4.1) && decide (v4.1 ≤ (((v2).length : Nat) : Int))) (gd (decide (0 ≤ v4.1) && decide (v4.1 ≤ (((v2).length : Nat) : Int)) && decide ((((v2).length : Nat) : Int) ≤ (((v2).length : Nat) : Int))) (gd (apOk ((v2).take ((v4.1).toNat)).length 40) (Option.bind (spec_l11Inst v31.2) fun v32 => (gd (apOk (((v2).take ((v4.1).toNat) ++ [v32.1])).length 40) (gd (apOk ((((v2).take ((v4.1).toNat) ++ [v32.1]) ++ ((v2).drop ((v4.1).toNat)).take ((((v2).length) - (v4.1).toNat)))).length 40) (some ((((v2).take ((v4.1).toNat) ++ [v32.1]) ++ ((v2).drop ((v4.1).toNat)).take ((((v2).length) - (v4.1).toNat))), v32.2)))))))) (cond (v31.1 == 2) (Option.bind (spec_l11Inst v31.2) fun v33 => (Option.bind (idx v2 (v4.1)) fun v34 => (spec_l11Spoil_j15 (v33.2.b, v33.2.p, ((v2).set (v4.1).toNat v33.1))))) (cond (v31.1 == 3) (Option.bind (spec_l26Rd_pick v31.2 14) fun v35 => (Option.bind (idx v2 (v4.1)) fun v36 => (spec_l11Spoil_j15 (v35.2.b, v35.2.p, ((v2).set (v4.1).toNat (⟨(IntKind.i64.wrap (v35.1 - 1)), v36.One_Op, v36.One_Args⟩ : Inst)))))) (cond (v31.1 == 4) (Option.bind (idx v2 (v4.1)) fun v37 => (Option.bind (spec_l4Spoil v31.2 (⟨v37.One_Op, v37.One_Args⟩ : Elem)) fun v38 => (spec_l11Spoil_j15 (v38.2.b, v38.2.p, ((v2).set (v4.1).toNat (⟨v37.Code, v38.1.Op, v38.1.Args⟩ : Inst)))))) (cond (v31.1 == 5) (gd (decide (0 ≤ v4.1) && decide (v4.1 ≤ (((v2).length : Nat) : Int))) (some ((v2).take ((v4.1).toNat), v31.2))) (cond (v31.1 == 6) (Option.bind (idx v2 (v4.1)) fun v39 => ((loop (spec_l11Spoil_s55 v39) (v31.2.b, v31.2.p, v2)).bind (fun v45 => (spec_l11Spoil_j15 (v45.1, v45.2.1, v45.2.2))))) (cond (v31.1 == 7) (Option.bind (spec_l26Rd_pick v31.2 (((v2).length : Nat) : Int)) fun v47 => (Option.bind (idx v2 (v4.1)) fun v48 => (Option.bind (idx v2 (v47.1)) fun v49 => (Option.bind (idx v2 (v4.1)) fun v50 => (Option.bind (idx ((v2).set (v4.1).toNat v49) (v47.1)) fun v51 => (spec_l11Spoil_j15 (v47.2.b, v47.2.p, ((((v2).set (v4.1).toNat v49)).set (v47.1).toNat v48)))))))) (Option.bind (spec_l4Any v31.2) fun v52 => (Option.bind (idx v2 (v4.1)) fun v53 => (spec_l11Spoil_j15 (v52.2.b, v52.2.p, ((v2).set (v4.1).toNat (⟨v53.Code, v52.1.Op, v52.1.Args⟩ : Inst))))))))))))))))))
set_option maxRecDepth 10000 in
set_option maxHeartbeats 4000000 in
theorem con_spec_l11Spoil (v1 : l26Rd) (v2 : (List Inst)) (res_ : ((List Inst) × l26Rd)) (h : spec_l11Spoil v1 v2 = some res_) : Con Tryd.prog C0 39 [.pt 0 0, .fz 3 (R e_Inst (v2))] [.rc [.fz 1 (R e_u8 (v1.b)), .sc (.int .i64 (v1.p))]]
    (fun x σ' => x = .fz 3 (R e_Inst (res_.1)) ∧ σ' = [.rc [.fz 1 (R e_u8 (res_.2.b)), .sc (.int .i64 (res_.2.p))]]) := by
  refine con_of_sem hP [0, 1, 4, 5, 6, 7, 8, 9, 15, 26, 33, 43, 58, 65, 74, 87, 92, 103, 108] [.tmp 4] Tryd.func39 (by unfold Tryd.f39; rfl) rfl rfl (Nat.le_of_ble_eq_true rfl) rfl ?_
  simp only [enter_cons, enter_nil, List.length_cons, List.length_nil, Nat.reduceAdd]
  generalize hQ : endQ _ _ _ _ = Q
  unfold spec_l11Spoil at h
  refine sem_cut fun k1 hk1 => ?_
  simp (decide := true) only [go_sem, reduceIte, Nat.reduceAdd, Int.reduceToNat, Nat.reduceSub, Nat.reduceMul]
  refine r_cN hk1 (sem_cut fun k2 hk2 => ?_)
  obtain ⟨g3, h⟩ := gd_some h
  have g3A := apOk_1 g3; have g3B := apOk_2 g3
  repeat' (first | with_reducible refine And.intro ?_ ?_ | exact True.intro | with_reducible assumption | exact fun hf => False.elim hf | (intro hg; first | (simp +contextual [hg]; done) | grind) | omega | simp (decide := true) only [go_sem, reduceIte, Nat.reduceAdd, Int.reduceToNat, Nat.reduceSub, Nat.reduceMul, g3A, g3B])
  refine r_cN hk2 (sem_cut fun k4 hk4 => ?_)
  refine sem_cut fun k5 hk5 => ?_
  simp (decide := true) only [go_sem, reduceIte, Nat.reduceAdd, Int.reduceToNat, Nat.reduceSub, Nat.reduceMul]
  refine r_cN hk5 ?_
  refine sem_ifh rfl h ?_ ?_ <;> clear h <;> intro h
  · refine sem_cut fun k6 hk6 => ?_
    obtain ⟨v3, c7H, h⟩ := bind_some' h
    obtain ⟨g8, h⟩ := gd_some h
    have g8A := apOk_1 g8; have g8B := apOk_2 g8
    repeat' (first | with_reducible refine And.intro ?_ ?_ | ((with_reducible refine i_call (n := 41) ?_); refine call_open [[0]] ?_) | ((with_reducible refine i_callW (n := 41) ?_); refine callW_use (con_spec_l11Inst v1 v3 c7H) ?_; rintro x σ' ⟨rfl, rfl⟩ <;> ((with_reducible refine behind_go ?_))) | exact True.intro | with_reducible assumption | exact fun hf => False.elim hf | (intro hg; first | (simp +contextual [hg]; done) | grind) | omega | simp (decide := true) only [go_sem, reduceIte, Nat.reduceAdd, Int.reduceToNat, Nat.reduceSub, Nat.reduceMul, g8A, g8B])
    refine r_cN hk6 (r_ret ?_)
    refine r_cR hk4 ?_
    obtain rfl := Option.some.inj h
    refine r_eAR hQ rfl rfl ?_
    simp (decide := true) only [go_sem, reduceIte, Nat.reduceAdd, Int.reduceToNat, Nat.reduceSub, Nat.reduceMul]
    all_goals first | exact wkEnd_same ⟨rfl, rfl⟩ | exact True.intro
  · refine r_skip (r_cN hk4 ?_)
    refine sem_cut fun k9 hk9 => ?_
    obtain ⟨v4, c10H, h⟩ := bind_some' h
    repeat' (first | with_reducible refine And.intro ?_ ?_ | ((with_reducible refine i_call (n := 37) ?_); refine call_open [[0]] ?_) | ((with_reducible refine i_callW (n := 37) ?_); refine callW_use (con_spec_l26Rd_pick v1 (((v2).length : Nat) : Int) v4 c10H) ?_; rintro x σ' ⟨rfl, rfl⟩ <;> ((with_reducible refine behind_go ?_))) | exact True.intro | with_reducible assumption | exact fun hf => False.elim hf | (intro hg; first | (simp +contextual [hg]; done) | grind) | omega | simp (decide := true) only [go_sem, reduceIte, Nat.reduceAdd, Int.reduceToNat, Nat.reduceSub, Nat.reduceMul])
    refine r_cN hk9 (sem_cutJ (fun (_ : Unit) (x : ((List Int) × Int × (List Inst))) => (⟨[(5, .sl 1 0 ((x.2.2).length))], [.rc [.fz 1 (R e_u8 (x.1)), .sc (.int .i64 (x.2.1))], .arr true 3 (R e_Inst (x.2.2))]⟩ : St)) (fun (_ : Unit) (x : ((List Int) × Int × (List Inst))) => spec_l11Spoil_j15 x = some res_) ?_ ?_)
    · rintro _ ⟨v28, v29, v30⟩ h
      simp only [spec_l11Spoil_j15] at h
      refine sem_cut fun k70 hk70 => ?_
      simp (decide := true) only [go_sem, reduceIte, Nat.reduceAdd, Int.reduceToNat, Nat.reduceSub, Nat.reduceMul]
      refine r_cN hk70 (r_ret ?_)
      obtain rfl := Option.some.inj h
      refine r_eAR hQ rfl rfl ?_
      simp (decide := true) only [go_sem, reduceIte, Nat.reduceAdd, Int.reduceToNat, Nat.reduceSub, Nat.reduceMul]
      all_goals first | exact wkEnd_same ⟨rfl, rfl⟩ | exact True.intro
    · intro k72 hk72 J71
      refine sem_cut fun k73 hk73 => ?_
      obtain ⟨v31, c74H, h⟩ := bind_some' h
      repeat' (first | with_reducible refine And.intro ?_ ?_ | ((with_reducible refine i_call (n := 37) ?_); refine call_open [[0]] ?_) | ((with_reducible refine i_callW (n := 37) ?_); refine callW_use (con_spec_l26Rd_pick v4.2 9 v31 c74H) ?_; rintro x σ' ⟨rfl, rfl⟩ <;> ((with_reducible refine behind_go ?_))) | exact True.intro | with_reducible assumption | exact fun hf => False.elim hf | (intro hg; first | (simp +contextual [hg]; done) | grind) | omega | simp (decide := true) only [go_sem, reduceIte, Nat.reduceAdd, Int.reduceToNat, Nat.reduceSub, Nat.reduceMul])
      refine r_cN hk73 (sem_blk fun k75 hk75 => ?_)
      refine sem_cut fun k76 hk76 => ?_
      simp (decide := true) only [go_sem, reduceIte, Nat.reduceAdd, Int.reduceToNat, Nat.reduceSub, Nat.reduceMul]
      refine r_cN hk76 ?_
      refine sem_ifh rfl h ?_ ?_ <;> clear h <;> intro h
      · refine sem_cut fun k77 hk77 => ?_
        obtain ⟨g78, h⟩ := gd_some h
        obtain ⟨g78A, g78B⟩ := dec_and g78
        obtain ⟨g79, h⟩ := gd_some h
        obtain ⟨g79A, g79B, g79C⟩ := dec_and3 g79
        obtain ⟨g80, h⟩ := gd_some h
        have g80A := apOk_1 g80; have g80B := apOk_2 g80
        with_reducible refine sem_plan (id := 8) (.take 0 (.take 1 (.take 2 (.take 3 (.take 4 (.take 5 (.take 6 (.last 7 (.take 8 .done))))))))) [] ?_ ?_
        focus kernel_rfl
        repeat' (first | with_reducible refine And.intro ?_ ?_ | exact True.intro | with_reducible assumption | exact fun hf => False.elim hf | (intro hg; first | (simp +contextual [hg]; done) | grind) | omega | simp (decide := true) only [go_sem, reduceIte, Nat.reduceAdd, Int.reduceToNat, Nat.reduceSub, Nat.reduceMul, g78A, g78B, g79A, g79B, g79C, g80A, g80B])
        refine r_cN hk77 (r_ret ?_)
        refine r_bR hk75 (r_jR hk72 ?_)
        obtain rfl := Option.some.inj h
        refine r_eAR hQ rfl rfl ?_
        simp (decide := true) only [go_sem, reduceIte, Nat.reduceAdd, Int.reduceToNat, Nat.reduceSub, Nat.reduceMul]
        all_goals first | exact wkEnd_same ⟨rfl, rfl⟩ | exact True.intro
      · refine sem_cut fun k81 hk81 => ?_
        simp (decide := true) only [go_sem, reduceIte, Nat.reduceAdd, Int.reduceToNat, Nat.reduceSub, Nat.reduceMul]
        refine r_cN hk81 ?_
        refine sem_ifh rfl h ?_ ?_ <;> clear h <;> intro h
        · refine sem_cut fun k82 hk82 => ?_
          obtain ⟨g83, h⟩ := gd_some h
          obtain ⟨g83A, g83B⟩ := dec_and g83
          obtain ⟨g84, h⟩ := gd_some h
          obtain ⟨g84A, g84B, g84C⟩ := dec_and3 g84
          obtain ⟨g85, h⟩ := gd_some h
          have g85A := apOk_1 g85; have g85B := apOk_2 g85
          obtain ⟨v32, c86H, h⟩ := bind_some' h
          obtain ⟨g87, h⟩ := gd_some h
          have g87A := apOk_1 g87; have g87B := apOk_2 g87
          obtain ⟨g88, h⟩ := gd_some h
          have g88A := apOk_1 g88; have g88B := apOk_2 g88
          with_reducible refine sem_plan (id := 10) (.take 1 (.take 2 (.take 3 (.take 5 (.take 9 (.take 10 (.take 11 (.last 0 (.last 4 (.last 6 (.last 7 (.last 8 (.last 12 (.take 13 .done)))))))))))))) [] ?_ ?_
          focus kernel_rfl
          repeat' (first | with_reducible refine And.intro ?_ ?_ | ((with_reducible refine i_call (n := 41) ?_); refine call_open [[0]] ?_) | ((with_reducible refine i_callW (n := 41) ?_); refine callW_use (con_spec_l11Inst v31.2 v32 c86H) ?_; rintro x σ' ⟨rfl, rfl⟩ <;> ((with_reducible refine behind_go ?_))) | exact True.intro | with_reducible assumption | exact fun hf => False.elim hf | (intro hg; first | (simp +contextual [hg]; done) | grind) | omega | simp (decide := true) only [go_sem, reduceIte, Nat.reduceAdd, Int.reduceToNat, Nat.reduceSub, Nat.reduceMul, g83A, g83B, g84A, g84B, g84C, g85A, g85B, g87A, g87B, g88A, g88B])
          refine r_cN hk82 (r_ret ?_)
          refine r_bR hk75 (r_jR hk72 ?_)
          obtain rfl := Option.some.inj h
          refine r_eAR hQ rfl rfl ?_
          simp (decide := true) only [go_sem, reduceIte, Nat.reduceAdd, Int.reduceToNat, Nat.reduceSub, Nat.reduceMul]
          all_goals first | exact wkEnd_same ⟨rfl, rfl⟩ | exact True.intro
        · refine sem_cut fun k89 hk89 => ?_
          simp (decide := true) only [go_sem, reduceIte, Nat.reduceAdd, Int.reduceToNat, Nat.reduceSub, Nat.reduceMul]
          refine r_cN hk89 ?_
          refine sem_ifh rfl h ?_ ?_ <;> clear h <;> intro h
          · obtain ⟨v33, c90H, h⟩ := bind_some' h
            obtain ⟨v34, c91H, h⟩ := bind_some' h
            obtain ⟨c91A, c91B, c91C, -⟩ := idx_some c91H
            repeat' (first | with_reducible refine And.intro ?_ ?_ | ((with_reducible refine i_call (n := 41) ?_); refine call_open [[0]] ?_) | ((with_reducible refine i_callW (n := 41) ?_); refine callW_use (con_spec_l11Inst v31.2 v33 c90H) ?_; rintro x σ' ⟨rfl, rfl⟩ <;> ((with_reducible refine behind_go ?_))) | exact True.intro | with_reducible assumption | exact fun hf => False.elim hf | (intro hg; first | (simp +contextual [hg]; done) | grind) | omega | simp (decide := true) only [go_sem, reduceIte, Nat.reduceAdd, Int.reduceToNat, Nat.reduceSub, Nat.reduceMul, c91A, c91B, c91C])
            refine r_bN hk75 (r_joinU J71 [5] () _ rfl rfl ⟨?_, h⟩)
            first | exact wkSt_same rfl | (simp (decide := true) only [go_sem, reduceIte, Nat.reduceAdd, Int.reduceToNat, Nat.reduceSub, Nat.reduceMul]; exact wkSt_same rfl)
          · refine sem_cut fun k92 hk92 => ?_
            simp (decide := true) only [go_sem, reduceIte, Nat.reduceAdd, Int.reduceToNat, Nat.reduceSub, Nat.reduceMul]
            refine r_cN hk92 ?_
            refine sem_ifh rfl h ?_ ?_ <;> clear h <;> intro h
            · obtain ⟨v35, c93H, h⟩ := bind_some' h
              obtain ⟨v36, c94H, h⟩ := bind_some' h
              obtain ⟨c94A, c94B, c94C, -⟩ := idx_some c94H
              repeat' (first | with_reducible refine And.intro ?_ ?_ | ((with_reducible refine i_call (n := 37) ?_); refine call_open [[0]] ?_) | ((with_reducible refine i_callW (n := 37) ?_); refine callW_use (con_spec_l26Rd_pick v31.2 14 v35 c93H) ?_; rintro x σ' ⟨rfl, rfl⟩ <;> ((with_reducible refine behind_go ?_))) | exact True.intro | with_reducible assumption | exact fun hf => False.elim hf | (intro hg; first | (simp +contextual [hg]; done) | grind) | omega | simp (decide := true) only [go_sem, reduceIte, Nat.reduceAdd, Int.reduceToNat, Nat.reduceSub, Nat.reduceMul, c94A, c94B, c94C])
              refine r_bN hk75 (r_joinU J71 [5] () _ rfl rfl ⟨?_, h⟩)
              first | exact wkSt_same rfl | (simp (decide := true) only [go_sem, reduceIte, Nat.reduceAdd, Int.reduceToNat, Nat.reduceSub, Nat.reduceMul]; exact wkSt_same rfl)
            · refine sem_cut fun k95 hk95 => ?_
              simp (decide := true) only [go_sem, reduceIte, Nat.reduceAdd, Int.reduceToNat, Nat.reduceSub, Nat.reduceMul]
              refine r_cN hk95 ?_
              refine sem_ifh rfl h ?_ ?_ <;> clear h <;> intro h
              · obtain ⟨v37, c96H, h⟩ := bind_some' h
                obtain ⟨c96A, c96B, c96C, -⟩ := idx_some c96H
                obtain ⟨v38, c97H, h⟩ := bind_some' h
                repeat' (first | with_reducible refine And.intro ?_ ?_ | ((with_reducible refine i_call (n := 56) ?_); refine call_open [[0]] ?_) | ((with_reducible refine i_callW (n := 56) ?_); refine callW_use (con_spec_l4Spoil v31.2 (⟨v37.One_Op, v37.One_Args⟩ : Elem) v38 c97H) ?_; rintro x σ' ⟨rfl, rfl⟩ <;> ((with_reducible refine behind_go ?_))) | exact True.intro | with_reducible assumption | exact fun hf => False.elim hf | (intro hg; first | (simp +contextual [hg]; done) | grind) | omega | simp (decide := true) only [go_sem, reduceIte, Nat.reduceAdd, Int.reduceToNat, Nat.reduceSub, Nat.reduceMul, c96A, c96B, c96C])
                refine r_bN hk75 (r_joinU J71 [5] () _ rfl rfl ⟨?_, h⟩)
                first | exact wkSt_same rfl | (simp (decide := true) only [go_sem, reduceIte, Nat.reduceAdd, Int.reduceToNat, Nat.reduceSub, Nat.reduceMul]; exact wkSt_same rfl)
              · refine sem_cut fun k98 hk98 => ?_
                simp (decide := true) only [go_sem, reduceIte, Nat.reduceAdd, Int.reduceToNat, Nat.reduceSub, Nat.reduceMul]
                refine r_cN hk98 ?_
                refine sem_ifh rfl h ?_ ?_ <;> clear h <;> intro h
                · refine sem_cut fun k99 hk99 => ?_
                  obtain ⟨g100, h⟩ := gd_some h
                  obtain ⟨g100A, g100B⟩ := dec_and g100
                  repeat' (first | with_reducible refine And.intro ?_ ?_ | exact True.intro | with_reducible assumption | exact fun hf => False.elim hf | (intro hg; first | (simp +contextual [hg]; done) | grind) | omega | simp (decide := true) only [go_sem, reduceIte, Nat.reduceAdd, Int.reduceToNat, Nat.reduceSub, Nat.reduceMul, g100A, g100B])
                  refine r_cN hk99 (r_ret ?_)
                  refine r_bR hk75 (r_jR hk72 ?_)
                  obtain rfl := Option.some.inj h
                  refine r_eAR hQ rfl rfl ?_
                  simp (decide := true) only [go_sem, reduceIte, Nat.reduceAdd, Int.reduceToNat, Nat.reduceSub, Nat.reduceMul]
                  all_goals first | exact wkEnd_same ⟨rfl, rfl⟩ | exact True.intro
                · refine sem_cut fun k101 hk101 => ?_
                  simp (decide := true) only [go_sem, reduceIte, Nat.reduceAdd, Int.reduceToNat, Nat.reduceSub, Nat.reduceMul]
                  refine r_cN hk101 ?_
                  refine sem_ifh rfl h ?_ ?_ <;> clear h <;> intro h
                  · refine sem_cut fun k102 hk102 => ?_
                    obtain ⟨v39, c103H, h⟩ := bind_some' h
                    obtain ⟨c103A, c103B, c103C, -⟩ := idx_some c103H
                    repeat' (first | with_reducible refine And.intro ?_ ?_ | exact True.intro | with_reducible assumption | exact fun hf => False.elim hf | (intro hg; first | (simp +contextual [hg]; done) | grind) | omega | simp (decide := true) only [go_sem, reduceIte, Nat.reduceAdd, Int.reduceToNat, Nat.reduceSub, Nat.reduceMul, c103A, c103B, c103C])
                    refine r_cN hk102 (sem_blk fun k104 hk104 => ?_)
                    obtain ⟨oq115, hLq115, hKq115⟩ := bind_some' h
                    clear h
                    refine sem_loopP [0, 5, 7] (fun (_ : Unit) (x : ((List Int) × Int × (List Inst))) => (⟨[(0, .pt 0 0), (5, .sl 1 0 ((x.2.2).length)), (7, .pt 2 0)], [.rc [.fz 1 (R e_u8 (x.1)), .sc (.int .i64 (x.2.1))], .arr true 3 (R e_Inst (x.2.2)), .rc [.sc (.int .i64 (v39.Code)), .sc (.int .i64 (v39.One_Op)), .fz 3 (R e_DevArg (v39.One_Args))]]⟩ : St)) (fun (_ : Unit) (x : ((List Int) × Int × (List Inst))) => True) (spec_l11Spoil_s55 v39) () (v31.2.b, v31.2.p, v2) hLq115 (by rfl) (by rfl) ⟨?_, trivial⟩ ?_
                    · first | exact wkSt_same rfl | (simp (decide := true) only [go_sem, reduceIte, Nat.reduceAdd, Int.reduceToNat, Nat.reduceSub, Nat.reduceMul]; exact wkSt_same rfl)
                    · rintro nq115 _ ⟨v41, v42, v43⟩ xq115 kq115 hkq115 - h hIq115 hEq115
                      simp only [spec_l11Spoil_s55] at h
                      refine sem_cut fun k116 hk116 => sem_cut fun k117 hk117 => ?_
                      obtain ⟨v46, c118H, h⟩ := bind_some' h
                      repeat' (first | with_reducible refine And.intro ?_ ?_ | ((with_reducible refine i_call (n := 37) ?_); refine call_open [[0]] ?_) | ((with_reducible refine i_callW (n := 37) ?_); refine callW_use (con_spec_l26Rd_pick (⟨v41, v42⟩ : l26Rd) 2 v46 c118H) ?_; rintro x σ' ⟨rfl, rfl⟩ <;> ((with_reducible refine behind_go ?_))) | exact True.intro | with_reducible assumption | exact fun hf => False.elim hf | (intro hg; first | (simp +contextual [hg]; done) | grind) | omega | simp (decide := true) only [go_sem, reduceIte, Nat.reduceAdd, Int.reduceToNat, Nat.reduceSub, Nat.reduceMul])
                      refine r_cN hk117 ?_
                      refine sem_ifh rfl h ?_ ?_ <;> clear h <;> intro h
                      · refine r_skip (r_cN hk116 ?_)
                        refine sem_blk fun k119 hk119 => ?_
                        obtain ⟨g120, h⟩ := gd_some h
                        have g120A := apOk_1 g120; have g120B := apOk_2 g120
                        repeat' (first | with_reducible refine And.intro ?_ ?_ | exact True.intro | with_reducible assumption | exact fun hf => False.elim hf | (intro hg; first | (simp +contextual [hg]; done) | grind) | omega | simp (decide := true) only [go_sem, reduceIte, Nat.reduceAdd, Int.reduceToNat, Nat.reduceSub, Nat.reduceMul, g120A, g120B])
                        refine r_bN hk119 ?_
                        obtain rfl := Option.some.inj h
                        subst hkq115
                        refine r_backP () _ rfl rfl ⟨?_, trivial⟩ (hIq115 _ rfl)
                        first | exact wkSt_same rfl | (simp (decide := true) only [go_sem, reduceIte, Nat.reduceAdd, Int.reduceToNat, Nat.reduceSub, Nat.reduceMul]; exact wkSt_same rfl)
                      · refine r_exit (r_cE hk116 ?_)
                        obtain rfl := Option.some.inj h
                        obtain rfl := hEq115 _ rfl
                        have h := hKq115
                        try simp only [Sum.elim_inl, Sum.elim_inr] at h
                        refine r_kE hkq115 (r_bE hk104 ?_)
                        refine r_bN hk75 (r_joinU J71 [5] () _ rfl rfl ⟨?_, h⟩)
                        first | exact wkSt_same rfl | (simp (decide := true) only [go_sem, reduceIte, Nat.reduceAdd, Int.reduceToNat, Nat.reduceSub, Nat.reduceMul]; exact wkSt_same rfl)
                  · refine sem_cut fun k121 hk121 => ?_
                    simp (decide := true) only [go_sem, reduceIte, Nat.reduceAdd, Int.reduceToNat, Nat.reduceSub, Nat.reduceMul]
                    refine r_cN hk121 ?_
                    refine sem_ifh rfl h ?_ ?_ <;> clear h <;> intro h
                    · refine sem_cut fun k122 hk122 => ?_
                      obtain ⟨v47, c123H, h⟩ := bind_some' h
                      repeat' (first | with_reducible refine And.intro ?_ ?_ | ((with_reducible refine i_call (n := 37) ?_); refine call_open [[0]] ?_) | ((with_reducible refine i_callW (n := 37) ?_); refine callW_use (con_spec_l26Rd_pick v31.2 (((v2).length : Nat) : Int) v47 c123H) ?_; rintro x σ' ⟨rfl, rfl⟩ <;> ((with_reducible refine behind_go ?_))) | exact True.intro | with_reducible assumption | exact fun hf => False.elim hf | (intro hg; first | (simp +contextual [hg]; done) | grind) | omega | simp (decide := true) only [go_sem, reduceIte, Nat.reduceAdd, Int.reduceToNat, Nat.reduceSub, Nat.reduceMul])
                      refine r_cN hk122 (sem_cut fun k124 hk124 => ?_)
                      obtain ⟨v48, c125H, h⟩ := bind_some' h
                      obtain ⟨c125A, c125B, c125C, -⟩ := idx_some c125H
                      repeat' (first | with_reducible refine And.intro ?_ ?_ | exact True.intro | with_reducible assumption | exact fun hf => False.elim hf | (intro hg; first | (simp +contextual [hg]; done) | grind) | omega | simp (decide := true) only [go_sem, reduceIte, Nat.reduceAdd, Int.reduceToNat, Nat.reduceSub, Nat.reduceMul, c125A, c125B, c125C])
                      refine r_cN hk124 (sem_cut fun k126 hk126 => ?_)
                      obtain ⟨v49, c127H, h⟩ := bind_some' h
                      obtain ⟨c127A, c127B, c127C, -⟩ := idx_some c127H
                      obtain ⟨v50, c128H, h⟩ := bind_some' h
                      obtain ⟨c128A, c128B, c128C, -⟩ := idx_some c128H
                      repeat' (first | with_reducible refine And.intro ?_ ?_ | exact True.intro | with_reducible assumption | exact fun hf => False.elim hf | (intro hg; first | (simp +contextual [hg]; done) | grind) | omega | simp (decide := true) only [go_sem, reduceIte, Nat.reduceAdd, Int.reduceToNat, Nat.reduceSub, Nat.reduceMul, c127A, c127B, c127C, c128A, c128B, c128C])
                      refine r_cN hk126 ?_
                      obtain ⟨v51, c129H, h⟩ := bind_some' h
                      obtain ⟨c129A, c129B, c129C, -⟩ := idx_some c129H
                      repeat' (first | with_reducible refine And.intro ?_ ?_ | exact True.intro | with_reducible assumption | exact fun hf => False.elim hf | (intro hg; first | (simp +contextual [hg]; done) | grind) | omega | simp (decide := true) only [go_sem, reduceIte, Nat.reduceAdd, Int.reduceToNat, Nat.reduceSub, Nat.reduceMul, c129A, c129B, c129C])
                      refine r_bN hk75 (r_joinU J71 [5] () _ rfl rfl ⟨?_, h⟩)
                      first | exact wkSt_same rfl | (simp (decide := true) only [go_sem, reduceIte, Nat.reduceAdd, Int.reduceToNat, Nat.reduceSub, Nat.reduceMul]; exact wkSt_same rfl)
                    · obtain ⟨v52, c130H, h⟩ := bind_some' h
                      obtain ⟨v53, c131H, h⟩ := bind_some' h
                      obtain ⟨c131A, c131B, c131C, -⟩ := idx_some c131H
                      repeat' (first | with_reducible refine And.intro ?_ ?_ | ((with_reducible refine i_call (n := 57) ?_); refine call_open [[0]] ?_) | ((with_reducible refine i_callW (n := 57) ?_); refine callW_use (con_spec_l4Any v31.2 v52 c130H) ?_; rintro x σ' ⟨rfl, rfl⟩ <;> ((with_reducible refine behind_go ?_))) | exact True.intro | with_reducible assumption | exact fun hf => False.elim hf | (intro hg; first | (simp +contextual [hg]; done) | grind) | omega | simp (decide := true) only [go_sem, reduceIte, Nat.reduceAdd, Int.reduceToNat, Nat.reduceSub, Nat.reduceMul, c131A, c131B, c131C])
                      refine r_bN hk75 (r_joinU J71 [5] () _ rfl rfl ⟨?_, h⟩)
                      first | exact wkSt_same rfl | (simp (decide := true) only [go_sem, reduceIte, Nat.reduceAdd, Int.reduceToNat, Nat.reduceSub, Nat.reduceMul]; exact wkSt_same rfl)
noncomputable def spec_l12Half_j5 : ((List Int) × Int) → Option (List Inst)
  | (v27, v28) => (Option.bind (spec_l11Sure (⟨v27, v28⟩ : l26Rd)) fun v29 => (some v29.1))
noncomputable def spec_l12Half_j34 : (List Inst) → Option (List Inst)
  | v44 => (some v44)
noncomputable def spec_l12Half_s38 : ((List Int) × Int × (List Inst) × Int) → Option (((List Int) × Int × (List Inst) × Int) ⊕ (List Inst))
  | (v47, v48, v49, v50) => (cond (decide (v50 > 0)) (Option.bind (spec_l11Inst (⟨v47, v48⟩ : l26Rd)) fun v53 => (gd (apOk ((v49 ++ [v53.1])).length 40) (some (.inl (v53.2.b, v53.2.p, (v49 ++ [v53.1]), (IntKind.i64.wrap (v50 - 1))))))) (some (.inr v49)))
noncomputable def spec_l12Half_j15 (v30 : (Int × l26Rd)) : Bool → Option (List Inst)
  | v32 => (cond v32 (Option.bind (spec_l11Sure v30.2) fun v33 => (Option.bind (spec_l11Spoil v33.2 v33.1) fun v34 => (some v34.1))) (cond (v30.1 == 4) (Option.bind (spec_l26Rd_pick v30.2 12) fun v45 => ((loop spec_l12Half_s38 (v45.2.b, v45.2.p, [], v45.1)).bind (fun v52 => (spec_l12Half_j34 v52)))) (spec_l12Half_j5 (v30.2.b, v30.2.p))))
noncomputable def spec_l12Half (v1 : (List Int)) : Option (List Inst) :=
  (Option.bind (spec_l26Open v1) fun v2 => (Option.bind (spec_l26Rd_pick v2 8) fun v30 => (cond (v30.1 == 0) (Option.bind (spec_l12Deep v30.2) fun v31 => (some v31.1)) (cond (v30.1 == 1) (spec_l12Half_j15 v30 (v30.1 == 1)) (cond (v30.1 == 2) (spec_l12Half_j15 v30 (v30.1 == 2)) (spec_l12Half_j15 v30 (v30.1 == 3)))))))
set_option maxRecDepth 10000 in
set_option maxHeartbeats 4000000 in
theorem con_spec_l12Half (v1 : (List Int)) (res_ : (List Inst)) (h : spec_l12Half v1 = some res_) : Con Tryd.prog C0 18 [.fz 1 (R e_u8 (v1))] []
    (fun x σ' => x = .fz 3 (R e_Inst (res_)) ∧ σ' = []) := by
  refine con_of_sem hP [0, 2, 3, 4, 5, 9, 10, 14, 22, 28] [.tmp 2] Tryd.func18 (by unfold Tryd.f18; rfl) rfl rfl (Nat.le_of_ble_eq_true rfl) rfl ?_
  simp only [enter_cons, enter_nil, List.length_cons, List.length_nil, Nat.reduceAdd]
  generalize hQ : endQ _ _ _ _ = Q
  unfold spec_l12Half at h
  refine sem_cut fun k1 hk1 => ?_
  simp (decide := true) only [go_sem, reduceIte, Nat.reduceAdd, Int.reduceToNat, Nat.reduceSub, Nat.reduceMul]
  refine r_cN hk1 (sem_cut fun k2 hk2 => ?_)
  obtain ⟨v2, c3H, h⟩ := bind_some' h
  repeat' (first | with_reducible refine And.intro ?_ ?_ | ((with_reducible refine i_call (n := 36) ?_); refine call_open [] ?_) | ((with_reducible refine i_callW (n := 36) ?_); refine callW_use (con_spec_l26Open v1 v2 c3H) ?_; rintro x σ' ⟨rfl, rfl⟩ <;> ((with_reducible refine behind_go ?_))) | exact True.intro | with_reducible assumption | exact fun hf => False.elim hf | (intro hg; first | (simp +contextual [hg]; done) | grind) | omega | simp (decide := true) only [go_sem, reduceIte, Nat.reduceAdd, Int.reduceToNat, Nat.reduceSub, Nat.reduceMul])
  refine r_cN hk2 (sem_cutJ (fun (_ : Unit) (x : ((List Int) × Int)) => (⟨[(3, .pt 0 0)], [.rc [.fz 1 (R e_u8 (x.1)), .sc (.int .i64 (x.2))]]⟩ : St)) (fun (_ : Unit) (x : ((List Int) × Int)) => spec_l12Half_j5 x = some res_) ?_ ?_)
  · rintro _ ⟨v27, v28⟩ h
    simp only [spec_l12Half_j5] at h
    refine sem_cut fun k68 hk68 => ?_
    obtain ⟨v29, c69H, h⟩ := bind_some' h
    repeat' (first | with_reducible refine And.intro ?_ ?_ | ((with_reducible refine i_call (n := 40) ?_); refine call_open [[0]] ?_) | ((with_reducible refine i_callW (n := 40) ?_); refine callW_use (con_spec_l11Sure (⟨v27, v28⟩ : l26Rd) v29 c69H) ?_; rintro x σ' ⟨rfl, rfl⟩ <;> ((with_reducible refine behind_go ?_))) | exact True.intro | with_reducible assumption | exact fun hf => False.elim hf | (intro hg; first | (simp +contextual [hg]; done) | grind) | omega | simp (decide := true) only [go_sem, reduceIte, Nat.reduceAdd, Int.reduceToNat, Nat.reduceSub, Nat.reduceMul])
    refine r_cN hk68 (r_ret ?_)
    obtain rfl := Option.some.inj h
    refine r_eAR hQ rfl rfl ?_
    simp (decide := true) only [go_sem, reduceIte, Nat.reduceAdd, Int.reduceToNat, Nat.reduceSub, Nat.reduceMul]
    all_goals first | exact wkEnd_same ⟨rfl, rfl⟩ | exact True.intro
  · intro k71 hk71 J70
    refine sem_cut fun k72 hk72 => ?_
    obtain ⟨v30, c73H, h⟩ := bind_some' h
    repeat' (first | with_reducible refine And.intro ?_ ?_ | ((with_reducible refine i_call (n := 37) ?_); refine call_open [[0]] ?_) | ((with_reducible refine i_callW (n := 37) ?_); refine callW_use (con_spec_l26Rd_pick v2 8 v30 c73H) ?_; rintro x σ' ⟨rfl, rfl⟩ <;> ((with_reducible refine behind_go ?_))) | exact True.intro | with_reducible assumption | exact fun hf => False.elim hf | (intro hg; first | (simp +contextual [hg]; done) | grind) | omega | simp (decide := true) only [go_sem, reduceIte, Nat.reduceAdd, Int.reduceToNat, Nat.reduceSub, Nat.reduceMul])
    refine r_cN hk72 (sem_blk fun k74 hk74 => ?_)
    refine sem_cut fun k75 hk75 => ?_
    simp (decide := true) only [go_sem, reduceIte, Nat.reduceAdd, Int.reduceToNat, Nat.reduceSub, Nat.reduceMul]
    refine r_cN hk75 ?_
    refine sem_ifh rfl h ?_ ?_ <;> clear h <;> intro h
    · refine sem_cut fun k76 hk76 => ?_
      obtain ⟨v31, c77H, h⟩ := bind_some' h
      repeat' (first | with_reducible refine And.intro ?_ ?_ | ((with_reducible refine i_call (n := 38) ?_); refine call_open [[0]] ?_) | ((with_reducible refine i_callW (n := 38) ?_); refine callW_use (con_spec_l12Deep v30.2 v31 c77H) ?_; rintro x σ' ⟨rfl, rfl⟩ <;> ((with_reducible refine behind_go ?_))) | exact True.intro | with_reducible assumption | exact fun hf => False.elim hf | (intro hg; first | (simp +contextual [hg]; done) | grind) | omega | simp (decide := true) only [go_sem, reduceIte, Nat.reduceAdd, Int.reduceToNat, Nat.reduceSub, Nat.reduceMul])
      refine r_cN hk76 (r_ret ?_)
      refine r_bR hk74 (r_jR hk71 ?_)
      obtain rfl := Option.some.inj h
      refine r_eAR hQ rfl rfl ?_
      simp (decide := true) only [go_sem, reduceIte, Nat.reduceAdd, Int.reduceToNat, Nat.reduceSub, Nat.reduceMul]
      all_goals first | exact wkEnd_same ⟨rfl, rfl⟩ | exact True.intro
    · refine sem_cutJ (fun (_ : Unit) (x : Bool) => (⟨[(3, .pt 0 0), (9, .sc (.int .i64 (v30.1))), (14, .sc (.bool (x)))], [.rc [.fz 1 (R e_u8 (v30.2.b)), .sc (.int .i64 (v30.2.p))]]⟩ : St)) (fun (_ : Unit) (x : Bool) => spec_l12Half_j15 v30 x = some res_) ?_ ?_
      · rintro _ v32 h
        simp only [spec_l12Half_j15] at h
        refine sem_ifh rfl h ?_ ?_ <;> clear h <;> intro h
        · refine sem_cut fun k80 hk80 => ?_
          obtain ⟨v33, c81H, h⟩ := bind_some' h
          obtain ⟨v34, c82H, h⟩ := bind_some' h
          repeat' (first | with_reducible refine And.intro ?_ ?_ | ((with_reducible refine i_call (n := 40) ?_); refine call_open [[0]] ?_) | ((with_reducible refine i_callW (n := 40) ?_); refine callW_use (con_spec_l11Sure v30.2 v33 c81H) ?_; rintro x σ' ⟨rfl, rfl⟩ <;> ((with_reducible refine behind_go ?_))) | ((with_reducible refine i_call (n := 39) ?_); refine call_open [[0]] ?_) | ((with_reducible refine i_callW (n := 39) ?_); refine callW_use (con_spec_l11Spoil v33.2 v33.1 v34 c82H) ?_; rintro x σ' ⟨rfl, rfl⟩ <;> ((with_reducible refine behind_go ?_))) | exact True.intro | with_reducible assumption | exact fun hf => False.elim hf | (intro hg; first | (simp +contextual [hg]; done) | grind) | omega | simp (decide := true) only [go_sem, reduceIte, Nat.reduceAdd, Int.reduceToNat, Nat.reduceSub, Nat.reduceMul])
          refine r_cN hk80 (r_ret ?_)
          refine r_bR hk74 (r_jR hk71 ?_)
          obtain rfl := Option.some.inj h
          refine r_eAR hQ rfl rfl ?_
          simp (decide := true) only [go_sem, reduceIte, Nat.reduceAdd, Int.reduceToNat, Nat.reduceSub, Nat.reduceMul]
          all_goals first | exact wkEnd_same ⟨rfl, rfl⟩ | exact True.intro
        · refine sem_cut fun k83 hk83 => ?_
          simp (decide := true) only [go_sem, reduceIte, Nat.reduceAdd, Int.reduceToNat, Nat.reduceSub, Nat.reduceMul]
          refine r_cN hk83 ?_
          refine sem_ifh rfl h ?_ ?_ <;> clear h <;> intro h
          · refine sem_cut fun k84 hk84 => ?_
            simp (decide := true) only [go_sem, reduceIte, Nat.reduceAdd, Int.reduceToNat, Nat.reduceSub, Nat.reduceMul]
            refine r_cN hk84 (sem_cutJ (fun (_ : Unit) (x : (List Inst)) => (⟨[(4, .sl 0 0 ((x).length))], [.arr true 3 (R e_Inst (x))]⟩ : St)) (fun (_ : Unit) (x : (List Inst)) => spec_l12Half_j34 x = some res_) ?_ ?_)
            · rintro _ v44 h
              simp only [spec_l12Half_j34] at h
              refine sem_cut fun k107 hk107 => ?_
              simp (decide := true) only [go_sem, reduceIte, Nat.reduceAdd, Int.reduceToNat, Nat.reduceSub, Nat.reduceMul]
              refine r_cN hk107 (r_ret ?_)
              refine r_bR hk74 (r_jR hk71 ?_)
              obtain rfl := Option.some.inj h
              refine r_eAR hQ rfl rfl ?_
              simp (decide := true) only [go_sem, reduceIte, Nat.reduceAdd, Int.reduceToNat, Nat.reduceSub, Nat.reduceMul]
              all_goals first | exact wkEnd_same ⟨rfl, rfl⟩ | exact True.intro
            · intro k109 hk109 J108
              refine sem_cut fun k110 hk110 => ?_
              obtain ⟨v45, c111H, h⟩ := bind_some' h
              repeat' (first | with_reducible refine And.intro ?_ ?_ | ((with_reducible refine i_call (n := 37) ?_); refine call_open [[0]] ?_) | ((with_reducible refine i_callW (n := 37) ?_); refine callW_use (con_spec_l26Rd_pick v30.2 12 v45 c111H) ?_; rintro x σ' ⟨rfl, rfl⟩ <;> ((with_reducible refine behind_go ?_))) | exact True.intro | with_reducible assumption | exact fun hf => False.elim hf | (intro hg; first | (simp +contextual [hg]; done) | grind) | omega | simp (decide := true) only [go_sem, reduceIte, Nat.reduceAdd, Int.reduceToNat, Nat.reduceSub, Nat.reduceMul])
              refine r_cN hk110 (sem_blk fun k112 hk112 => ?_)
              obtain ⟨oq125, hLq125, hKq125⟩ := bind_some' h
              clear h
              refine sem_loopP [3, 4, 5] (fun (_ : Unit) (x : ((List Int) × Int × (List Inst) × Int)) => (⟨[(3, .pt 0 0), (4, .sl 1 0 ((x.2.2.1).length)), (5, .sc (.int .i64 (x.2.2.2)))], [.rc [.fz 1 (R e_u8 (x.1)), .sc (.int .i64 (x.2.1))], .arr true 3 (R e_Inst (x.2.2.1))]⟩ : St)) (fun (_ : Unit) (x : ((List Int) × Int × (List Inst) × Int)) => True) spec_l12Half_s38 () (v45.2.b, v45.2.p, [], v45.1) hLq125 (by rfl) (by rfl) ⟨?_, trivial⟩ ?_
              · first | exact wkSt_same rfl | (simp (decide := true) only [go_sem, reduceIte, Nat.reduceAdd, Int.reduceToNat, Nat.reduceSub, Nat.reduceMul]; exact wkSt_same rfl)
              · rintro nq125 _ ⟨v47, v48, v49, v50⟩ xq125 kq125 hkq125 - h hIq125 hEq125
                simp only [spec_l12Half_s38] at h
                refine sem_cut fun k126 hk126 => sem_cut fun k127 hk127 => ?_
                simp (decide := true) only [go_sem, reduceIte, Nat.reduceAdd, Int.reduceToNat, Nat.reduceSub, Nat.reduceMul]
                refine r_cN hk127 ?_
                refine sem_ifh rfl h ?_ ?_ <;> clear h <;> intro h
                · refine r_skip (r_cN hk126 ?_)
                  refine sem_cut fun k128 hk128 => sem_blk fun k129 hk129 => ?_
                  obtain ⟨v53, c130H, h⟩ := bind_some' h
                  obtain ⟨g131, h⟩ := gd_some h
                  have g131A := apOk_1 g131; have g131B := apOk_2 g131
                  repeat' (first | with_reducible refine And.intro ?_ ?_ | ((with_reducible refine i_call (n := 41) ?_); refine call_open [[0]] ?_) | ((with_reducible refine i_callW (n := 41) ?_); refine callW_use (con_spec_l11Inst (⟨v47, v48⟩ : l26Rd) v53 c130H) ?_; rintro x σ' ⟨rfl, rfl⟩ <;> ((with_reducible refine behind_go ?_))) | exact True.intro | with_reducible assumption | exact fun hf => False.elim hf | (intro hg; first | (simp +contextual [hg]; done) | grind) | omega | simp (decide := true) only [go_sem, reduceIte, Nat.reduceAdd, Int.reduceToNat, Nat.reduceSub, Nat.reduceMul, g131A, g131B])
                  refine r_bN hk129 (r_cN hk128 ?_)
                  simp (decide := true) only [go_sem, reduceIte, Nat.reduceAdd, Int.reduceToNat, Nat.reduceSub, Nat.reduceMul]
                  obtain rfl := Option.some.inj h
                  subst hkq125
                  refine r_backP () _ rfl rfl ⟨?_, trivial⟩ (hIq125 _ rfl)
                  first | exact wkSt_same rfl | (simp (decide := true) only [go_sem, reduceIte, Nat.reduceAdd, Int.reduceToNat, Nat.reduceSub, Nat.reduceMul]; exact wkSt_same rfl)
                · refine r_exit (r_cE hk126 ?_)
                  obtain rfl := Option.some.inj h
                  obtain rfl := hEq125 _ rfl
                  have h := hKq125
                  try simp only [Sum.elim_inl, Sum.elim_inr] at h
                  refine r_kE hkq125 (r_bE hk112 ?_)
                  refine r_joinU J108 [4] () _ rfl rfl ⟨?_, h⟩
                  first | exact wkSt_same rfl | (simp (decide := true) only [go_sem, reduceIte, Nat.reduceAdd, Int.reduceToNat, Nat.reduceSub, Nat.reduceMul]; exact wkSt_same rfl)
          · refine r_skip (r_bN hk74 ?_)
            refine r_joinU J70 [3] () _ rfl rfl ⟨?_, h⟩
            first | exact wkSt_same rfl | (simp (decide := true) only [go_sem, reduceIte, Nat.reduceAdd, Int.reduceToNat, Nat.reduceSub, Nat.reduceMul]; exact wkSt_same rfl)
      · intro k133 hk133 J132
        refine sem_cut fun k134 hk134 => ?_
        simp (decide := true) only [go_sem, reduceIte, Nat.reduceAdd, Int.reduceToNat, Nat.reduceSub, Nat.reduceMul]
        refine r_cN hk134 ?_
        refine sem_ifh rfl h ?_ ?_ <;> clear h <;> intro h
        · refine r_skip (r_joinU J132 [3, 9, 14] () _ rfl rfl ⟨?_, h⟩)
          first | exact wkSt_same rfl | (simp (decide := true) only [go_sem, reduceIte, Nat.reduceAdd, Int.reduceToNat, Nat.reduceSub, Nat.reduceMul]; exact wkSt_same rfl)
        · refine sem_cut fun k135 hk135 => ?_
          simp (decide := true) only [go_sem, reduceIte, Nat.reduceAdd, Int.reduceToNat, Nat.reduceSub, Nat.reduceMul]
          refine r_cN hk135 ?_
          refine sem_ifh rfl h ?_ ?_ <;> clear h <;> intro h
          · refine r_skip (r_joinU J132 [3, 9, 14] () _ rfl rfl ⟨?_, h⟩)
            first | exact wkSt_same rfl | (simp (decide := true) only [go_sem, reduceIte, Nat.reduceAdd, Int.reduceToNat, Nat.reduceSub, Nat.reduceMul]; exact wkSt_same rfl)
          · simp (decide := true) only [go_sem, reduceIte, Nat.reduceAdd, Int.reduceToNat, Nat.reduceSub, Nat.reduceMul]
            refine r_joinU J132 [3, 9, 14] () _ rfl rfl ⟨?_, h⟩
            first | exact wkSt_same rfl | (simp (decide := true) only [go_sem, reduceIte, Nat.reduceAdd, Int.reduceToNat, Nat.reduceSub, Nat.reduceMul]; exact wkSt_same rfl)
noncomputable def spec_DrawSureRungs (v1 : (List Int)) : Option (List Inst) :=
  (Option.bind (spec_l12Half v1) fun v2 => (some v2))
set_option maxRecDepth 10000 in
set_option maxHeartbeats 4000000 in
theorem con_spec_DrawSureRungs (v1 : (List Int)) (res_ : (List Inst)) (h : spec_DrawSureRungs v1 = some res_) : Con Tryd.prog C0 5 [.fz 1 (R e_u8 (v1))] []
    (fun x σ' => x = .fz 3 (R e_Inst (res_)) ∧ σ' = []) := by
  refine con_of_sem hP [0, 2] [.tmp 2] Tryd.func5 (by unfold Tryd.f5; rfl) rfl rfl (Nat.le_of_ble_eq_true rfl) rfl ?_
  simp only [enter_cons, enter_nil, List.length_cons, List.length_nil, Nat.reduceAdd]
  generalize hQ : endQ _ _ _ _ = Q
  unfold spec_DrawSureRungs at h
  refine sem_cut fun k1 hk1 => ?_
  simp (decide := true) only [go_sem, reduceIte, Nat.reduceAdd, Int.reduceToNat, Nat.reduceSub, Nat.reduceMul]
  refine r_cN hk1 (sem_cut fun k2 hk2 => ?_)
  obtain ⟨v2, c3H, h⟩ := bind_some' h
  repeat' (first | with_reducible refine And.intro ?_ ?_ | ((with_reducible refine i_call (n := 18) ?_); refine call_open [] ?_) | ((with_reducible refine i_callW (n := 18) ?_); refine callW_use (con_spec_l12Half v1 v2 c3H) ?_; rintro x σ' ⟨rfl, rfl⟩ <;> ((with_reducible refine behind_go ?_))) | exact True.intro | with_reducible assumption | exact fun hf => False.elim hf | (intro hg; first | (simp +contextual [hg]; done) | grind) | omega | simp (decide := true) only [go_sem, reduceIte, Nat.reduceAdd, Int.reduceToNat, Nat.reduceSub, Nat.reduceMul])
  refine r_cN hk2 (r_ret ?_)
  obtain rfl := Option.some.inj h
  refine r_eAR hQ rfl rfl ?_
  simp (decide := true) only [go_sem, reduceIte, Nat.reduceAdd, Int.reduceToNat, Nat.reduceSub, Nat.reduceMul]
  all_goals first | exact wkEnd_same ⟨rfl, rfl⟩ | exact True.intro
noncomputable def impl_in (v1 : Int) (v2 : Int) (v3 : Int) : Option Bool :=
  (some ((decide (v1 ≥ v2)) && (decide (v1 ≤ v3))))
set_option maxRecDepth 10000 in
set_option maxHeartbeats 4000000 in
theorem con_impl_in (v1 : Int) (v2 : Int) (v3 : Int) (res_ : Bool) (h : impl_in v1 v2 v3 = some res_) : Con Tryd.prog C0 51 [.sc (.int .i64 (v1)), .sc (.int .i64 (v2)), .sc (.int .i64 (v3))] []
    (fun x σ' => x = .sc (.bool (res_)) ∧ σ' = []) := by
  refine con_of_sem hP [0, 1, 2, 6] [.tmp 6] Tryd.func51 (by unfold Tryd.f51; rfl) rfl rfl (Nat.le_of_ble_eq_true rfl) rfl ?_
  simp only [enter_cons, enter_nil, List.length_cons, List.length_nil, Nat.reduceAdd]
  generalize hQ : endQ _ _ _ _ = Q
  unfold impl_in at h
  refine sem_cut fun k1 hk1 => ?_
  simp (decide := true) only [go_sem, reduceIte, Nat.reduceAdd, Int.reduceToNat, Nat.reduceSub, Nat.reduceMul]
  refine r_cN hk1 (sem_cut fun k2 hk2 => ?_)
  repeat' (first | with_reducible refine And.intro ?_ ?_ | exact True.intro | with_reducible assumption | exact fun hf => False.elim hf | (intro hg; first | (simp +contextual [hg]; done) | grind) | omega | simp (decide := true) only [go_sem, reduceIte, Nat.reduceAdd, Int.reduceToNat, Nat.reduceSub, Nat.reduceMul])
  refine r_cN hk2 (r_ret ?_)
  obtain rfl := Option.some.inj h
  refine r_eAR hQ rfl rfl ?_
  simp (decide := true) only [go_sem, reduceIte, Nat.reduceAdd, Int.reduceToNat, Nat.reduceSub, Nat.reduceMul]
  all_goals first | exact wkEnd_same ⟨rfl, rfl⟩ | exact True.intro
noncomputable def impl_ElemArity_j29 : Bool → Option Int
  | v7 => (cond v7 (some 2) (some 0))
noncomputable def impl_ElemArity_j5 (v1 : Int) : Bool → Option Int
  | v3 => (cond v3 (some 1) (Option.bind (impl_in v1 31 35) fun v4 => (cond v4 (some 3) (Option.bind (impl_in v1 3 10) fun v8 => (cond v8 (impl_ElemArity_j29 v8) (Option.bind (impl_in v1 24 37) fun v9 => (impl_ElemArity_j29 v9)))))))
noncomputable def impl_ElemArity (v1 : Int) : Option Int :=
  (cond (v1 == 1) (impl_ElemArity_j5 v1 (v1 == 1)) (cond (v1 == 2) (impl_ElemArity_j5 v1 (v1 == 2)) (Option.bind (impl_in v1 21 23) fun v10 => (cond v10 (impl_ElemArity_j5 v1 v10) (impl_ElemArity_j5 v1 (v1 == 25))))))
set_option maxRecDepth 10000 in
set_option maxHeartbeats 4000000 in
theorem con_impl_ElemArity (v1 : Int) (res_ : Int) (h : impl_ElemArity v1 = some res_) : Con Tryd.prog C0 88 [.sc (.int .i64 (v1))] []
    (fun x σ' => x = .sc (.int .i64 (res_)) ∧ σ' = []) := by
  refine con_of_sem hP [0, 2, 3, 12, 15] [.tmp 2] Tryd.func88 (by unfold Tryd.f88; rfl) rfl rfl (Nat.le_of_ble_eq_true rfl) rfl ?_
  simp only [enter_cons, enter_nil, List.length_cons, List.length_nil, Nat.reduceAdd]
  generalize hQ : endQ _ _ _ _ = Q
  unfold impl_ElemArity at h
  refine sem_cut fun k1 hk1 => ?_
  simp (decide := true) only [go_sem, reduceIte, Nat.reduceAdd, Int.reduceToNat, Nat.reduceSub, Nat.reduceMul]
  refine r_cN hk1 (sem_cut fun k2 hk2 => ?_)
  refine sem_blk fun k3 hk3 => sem_cutJ (fun (_ : Unit) (x : Bool) => (⟨[(0, .sc (.int .i64 (v1))), (3, .sc (.bool (x)))], []⟩ : St)) (fun (_ : Unit) (x : Bool) => impl_ElemArity_j5 v1 x = some res_) ?_ ?_
  · rintro _ v3 h
    simp only [impl_ElemArity_j5] at h
    refine sem_ifh rfl h ?_ ?_ <;> clear h <;> intro h
    · refine sem_cut fun k8 hk8 => ?_
      simp (decide := true) only [go_sem, reduceIte, Nat.reduceAdd, Int.reduceToNat, Nat.reduceSub, Nat.reduceMul]
      refine r_cN hk8 (r_ret ?_)
      refine r_bR hk3 (r_cR hk2 ?_)
      obtain rfl := Option.some.inj h
      refine r_eAR hQ rfl rfl ?_
      simp (decide := true) only [go_sem, reduceIte, Nat.reduceAdd, Int.reduceToNat, Nat.reduceSub, Nat.reduceMul]
      all_goals first | exact wkEnd_same ⟨rfl, rfl⟩ | exact True.intro
    · refine sem_cut fun k9 hk9 => ?_
      obtain ⟨v4, c10H, h⟩ := bind_some' h
      repeat' (first | with_reducible refine And.intro ?_ ?_ | ((with_reducible refine i_call (n := 51) ?_); refine call_openF [] ?_) | ((with_reducible refine i_callW (n := 51) ?_); refine callW_use (con_impl_in v1 31 35 v4 c10H) ?_; rintro x σ' ⟨rfl, rfl⟩ <;> ((refine ⟨?_, ?_⟩; (focus simp (decide := true) only [go_sem, reduceIte, Nat.reduceAdd, Int.reduceToNat, Nat.reduceSub, Nat.reduceMul])); (with_reducible refine behind_go ?_))) | exact True.intro | with_reducible assumption | exact fun hf => False.elim hf | (intro hg; first | (simp +contextual [hg]; done) | grind) | omega | simp (decide := true) only [go_sem, reduceIte, Nat.reduceAdd, Int.reduceToNat, Nat.reduceSub, Nat.reduceMul])
      refine r_cN hk9 ?_
      refine sem_ifh rfl h ?_ ?_ <;> clear h <;> intro h
      · refine sem_cut fun k11 hk11 => ?_
        simp (decide := true) only [go_sem, reduceIte, Nat.reduceAdd, Int.reduceToNat, Nat.reduceSub, Nat.reduceMul]
        refine r_cN hk11 (r_ret ?_)
        refine r_bR hk3 (r_cR hk2 ?_)
        obtain rfl := Option.some.inj h
        refine r_eAR hQ rfl rfl ?_
        simp (decide := true) only [go_sem, reduceIte, Nat.reduceAdd, Int.reduceToNat, Nat.reduceSub, Nat.reduceMul]
        all_goals first | exact wkEnd_same ⟨rfl, rfl⟩ | exact True.intro
      · refine sem_cutJ (fun (_ : Unit) (x : Bool) => (⟨[(15, .sc (.bool (x)))], []⟩ : St)) (fun (_ : Unit) (x : Bool) => impl_ElemArity_j29 x = some res_) ?_ ?_
        · rintro _ v7 h
          simp only [impl_ElemArity_j29] at h
          refine sem_ifh rfl h ?_ ?_ <;> clear h <;> intro h
          · refine sem_cut fun k15 hk15 => ?_
            simp (decide := true) only [go_sem, reduceIte, Nat.reduceAdd, Int.reduceToNat, Nat.reduceSub, Nat.reduceMul]
            refine r_cN hk15 (r_ret ?_)
            refine r_bR hk3 (r_cR hk2 ?_)
            obtain rfl := Option.some.inj h
            refine r_eAR hQ rfl rfl ?_
            simp (decide := true) only [go_sem, reduceIte, Nat.reduceAdd, Int.reduceToNat, Nat.reduceSub, Nat.reduceMul]
            all_goals first | exact wkEnd_same ⟨rfl, rfl⟩ | exact True.intro
          · refine r_skip (r_bN hk3 ?_)
            refine r_cN hk2 (sem_cut fun k16 hk16 => ?_)
            simp (decide := true) only [go_sem, reduceIte, Nat.reduceAdd, Int.reduceToNat, Nat.reduceSub, Nat.reduceMul]
            refine r_cN hk16 (r_ret ?_)
            obtain rfl := Option.some.inj h
            refine r_eAR hQ rfl rfl ?_
            simp (decide := true) only [go_sem, reduceIte, Nat.reduceAdd, Int.reduceToNat, Nat.reduceSub, Nat.reduceMul]
            all_goals first | exact wkEnd_same ⟨rfl, rfl⟩ | exact True.intro
        · intro k18 hk18 J17
          refine sem_cut fun k19 hk19 => ?_
          obtain ⟨v8, c20H, h⟩ := bind_some' h
          repeat' (first | with_reducible refine And.intro ?_ ?_ | ((with_reducible refine i_call (n := 51) ?_); refine call_openF [] ?_) | ((with_reducible refine i_callW (n := 51) ?_); refine callW_use (con_impl_in v1 3 10 v8 c20H) ?_; rintro x σ' ⟨rfl, rfl⟩ <;> ((refine ⟨?_, ?_⟩; (focus simp (decide := true) only [go_sem, reduceIte, Nat.reduceAdd, Int.reduceToNat, Nat.reduceSub, Nat.reduceMul])); (with_reducible refine behind_go ?_))) | exact True.intro | with_reducible assumption | exact fun hf => False.elim hf | (intro hg; first | (simp +contextual [hg]; done) | grind) | omega | simp (decide := true) only [go_sem, reduceIte, Nat.reduceAdd, Int.reduceToNat, Nat.reduceSub, Nat.reduceMul])
          refine r_cN hk19 ?_
          refine sem_ifh rfl h ?_ ?_ <;> clear h <;> intro h
          · refine r_skip (r_joinU J17 [15] () _ rfl rfl ⟨?_, h⟩)
            first | exact wkSt_same rfl | (simp (decide := true) only [go_sem, reduceIte, Nat.reduceAdd, Int.reduceToNat, Nat.reduceSub, Nat.reduceMul]; exact wkSt_same rfl)
          · obtain ⟨v9, c21H, h⟩ := bind_some' h
            repeat' (first | with_reducible refine And.intro ?_ ?_ | ((with_reducible refine i_call (n := 51) ?_); refine call_openF [] ?_) | ((with_reducible refine i_callW (n := 51) ?_); refine callW_use (con_impl_in v1 24 37 v9 c21H) ?_; rintro x σ' ⟨rfl, rfl⟩ <;> ((refine ⟨?_, ?_⟩; (focus simp (decide := true) only [go_sem, reduceIte, Nat.reduceAdd, Int.reduceToNat, Nat.reduceSub, Nat.reduceMul])); (with_reducible refine behind_go ?_))) | exact True.intro | with_reducible assumption | exact fun hf => False.elim hf | (intro hg; first | (simp +contextual [hg]; done) | grind) | omega | simp (decide := true) only [go_sem, reduceIte, Nat.reduceAdd, Int.reduceToNat, Nat.reduceSub, Nat.reduceMul])
            refine r_joinU J17 [15] () _ rfl rfl ⟨?_, h⟩
            first | exact wkSt_same rfl | (simp (decide := true) only [go_sem, reduceIte, Nat.reduceAdd, Int.reduceToNat, Nat.reduceSub, Nat.reduceMul]; exact wkSt_same rfl)
  · intro k23 hk23 J22
    refine sem_cut fun k24 hk24 => ?_
    simp (decide := true) only [go_sem, reduceIte, Nat.reduceAdd, Int.reduceToNat, Nat.reduceSub, Nat.reduceMul]
    refine r_cN hk24 ?_
    refine sem_ifh rfl h ?_ ?_ <;> clear h <;> intro h
    · refine r_skip (r_joinU J22 [0, 3] () _ rfl rfl ⟨?_, h⟩)
      first | exact wkSt_same rfl | (simp (decide := true) only [go_sem, reduceIte, Nat.reduceAdd, Int.reduceToNat, Nat.reduceSub, Nat.reduceMul]; exact wkSt_same rfl)
    · refine sem_cut fun k25 hk25 => ?_
      simp (decide := true) only [go_sem, reduceIte, Nat.reduceAdd, Int.reduceToNat, Nat.reduceSub, Nat.reduceMul]
      refine r_cN hk25 ?_
      refine sem_ifh rfl h ?_ ?_ <;> clear h <;> intro h
      · refine r_skip (r_joinU J22 [0, 3] () _ rfl rfl ⟨?_, h⟩)
        first | exact wkSt_same rfl | (simp (decide := true) only [go_sem, reduceIte, Nat.reduceAdd, Int.reduceToNat, Nat.reduceSub, Nat.reduceMul]; exact wkSt_same rfl)
      · refine sem_cut fun k26 hk26 => ?_
        obtain ⟨v10, c27H, h⟩ := bind_some' h
        repeat' (first | with_reducible refine And.intro ?_ ?_ | ((with_reducible refine i_call (n := 51) ?_); refine call_openF [] ?_) | ((with_reducible refine i_callW (n := 51) ?_); refine callW_use (con_impl_in v1 21 23 v10 c27H) ?_; rintro x σ' ⟨rfl, rfl⟩ <;> ((refine ⟨?_, ?_⟩; (focus simp (decide := true) only [go_sem, reduceIte, Nat.reduceAdd, Int.reduceToNat, Nat.reduceSub, Nat.reduceMul])); (with_reducible refine behind_go ?_))) | exact True.intro | with_reducible assumption | exact fun hf => False.elim hf | (intro hg; first | (simp +contextual [hg]; done) | grind) | omega | simp (decide := true) only [go_sem, reduceIte, Nat.reduceAdd, Int.reduceToNat, Nat.reduceSub, Nat.reduceMul])
        refine r_cN hk26 ?_
        refine sem_ifh rfl h ?_ ?_ <;> clear h <;> intro h
        · refine r_skip (r_joinU J22 [0, 3] () _ rfl rfl ⟨?_, h⟩)
          first | exact wkSt_same rfl | (simp (decide := true) only [go_sem, reduceIte, Nat.reduceAdd, Int.reduceToNat, Nat.reduceSub, Nat.reduceMul]; exact wkSt_same rfl)
        · simp (decide := true) only [go_sem, reduceIte, Nat.reduceAdd, Int.reduceToNat, Nat.reduceSub, Nat.reduceMul]
          refine r_joinU J22 [0, 3] () _ rfl rfl ⟨?_, h⟩
          first | exact wkSt_same rfl | (simp (decide := true) only [go_sem, reduceIte, Nat.reduceAdd, Int.reduceToNat, Nat.reduceSub, Nat.reduceMul]; exact wkSt_same rfl)
noncomputable def impl_DevSize (v1 : Int) : Option Int :=
  (Option.bind (impl_in v1 1 10) fun v2 => (cond (!v2) (some 0) (Option.bind (idx pt_devSizes (v1)) fun v3 => (some v3))))
set_option maxRecDepth 10000 in
set_option maxHeartbeats 4000000 in
theorem con_impl_DevSize (v1 : Int) (res_ : Int) (h : impl_DevSize v1 = some res_) : Con Tryd.prog C0 116 [.sc (.int .i64 (v1))] []
    (fun x σ' => x = .sc (.int .i64 (res_)) ∧ σ' = []) := by
  refine con_of_sem hP [0, 2, 5] [.tmp 2] Tryd.func116 (by unfold Tryd.f116; rfl) rfl rfl (Nat.le_of_ble_eq_true rfl) rfl ?_
  simp only [enter_cons, enter_nil, List.length_cons, List.length_nil, Nat.reduceAdd]
  generalize hQ : endQ _ _ _ _ = Q
  unfold impl_DevSize at h
  refine sem_cut fun k1 hk1 => ?_
  simp (decide := true) only [go_sem, reduceIte, Nat.reduceAdd, Int.reduceToNat, Nat.reduceSub, Nat.reduceMul, gl_devSizes_R]
  refine r_cN hk1 (sem_cut fun k2 hk2 => ?_)
  refine sem_cut fun k3 hk3 => ?_
  obtain ⟨v2, c4H, h⟩ := bind_some' h
  repeat' (first | with_reducible refine And.intro ?_ ?_ | ((with_reducible refine i_call (n := 51) ?_); refine call_openF [] ?_) | ((with_reducible refine i_callW (n := 51) ?_); refine callW_use (con_impl_in v1 1 10 v2 c4H) ?_; rintro x σ' ⟨rfl, rfl⟩ <;> ((refine ⟨?_, ?_⟩; (focus simp (decide := true) only [go_sem, reduceIte, Nat.reduceAdd, Int.reduceToNat, Nat.reduceSub, Nat.reduceMul, gl_devSizes_R])); (with_reducible refine behind_go ?_))) | exact True.intro | with_reducible assumption | exact fun hf => False.elim hf | (intro hg; first | (simp +contextual [hg]; done) | grind) | omega | simp (decide := true) only [go_sem, reduceIte, Nat.reduceAdd, Int.reduceToNat, Nat.reduceSub, Nat.reduceMul, gl_devSizes_R])
  refine r_cN hk3 ?_
  refine sem_ifh rfl h ?_ ?_ <;> clear h <;> intro h
  · refine sem_cut fun k5 hk5 => ?_
    simp (decide := true) only [go_sem, reduceIte, Nat.reduceAdd, Int.reduceToNat, Nat.reduceSub, Nat.reduceMul, gl_devSizes_R]
    refine r_cN hk5 (r_ret ?_)
    refine r_cR hk2 ?_
    obtain rfl := Option.some.inj h
    refine r_eAR hQ rfl rfl ?_
    simp (decide := true) only [go_sem, reduceIte, Nat.reduceAdd, Int.reduceToNat, Nat.reduceSub, Nat.reduceMul, gl_devSizes_R]
    all_goals first | exact wkEnd_same ⟨rfl, rfl⟩ | exact True.intro
  · refine r_skip (r_cN hk2 ?_)
    refine sem_cut fun k6 hk6 => ?_
    obtain ⟨v3, c7H, h⟩ := bind_some' h
    obtain ⟨c7A, c7B, c7C, -⟩ := idx_some c7H
    repeat' (first | with_reducible refine And.intro ?_ ?_ | exact True.intro | with_reducible assumption | exact fun hf => False.elim hf | (intro hg; first | (simp +contextual [hg]; done) | grind) | omega | simp (decide := true) only [go_sem, reduceIte, Nat.reduceAdd, Int.reduceToNat, Nat.reduceSub, Nat.reduceMul, gl_devSizes_R, c7A, c7B, c7C])
    refine r_cN hk6 (r_ret ?_)
    obtain rfl := Option.some.inj h
    refine r_eAR hQ rfl rfl ?_
    simp (decide := true) only [go_sem, reduceIte, Nat.reduceAdd, Int.reduceToNat, Nat.reduceSub, Nat.reduceMul, gl_devSizes_R]
    all_goals first | exact wkEnd_same ⟨rfl, rfl⟩ | exact True.intro
noncomputable def impl_DevOk (v1 : DevArg) : Option Bool :=
  (cond (v1.Kind == 11) (Option.bind (impl_in v1.N (-32768) 32767) fun v2 => (some (v2 && (v1.P == 0)))) (cond (v1.Kind == 12) (Option.bind (impl_in v1.N (-999999999) 999999999) fun v3 => (cond v3 (Option.bind (impl_in v1.P 1 6) fun v4 => (some (v4 && ((v1.P == 1) || (((v1.N).tmod 10) != 0))))) (some false))) (cond (v1.Kind == 13) (Option.bind (impl_in v1.N 0 (IntKind.i64.wrap (((pt_devWords).length : Int) - 1))) fun v5 => (some (v5 && (v1.P == 0)))) (cond (decide (v1.N ≥ 0)) (Option.bind (impl_DevSize v1.Kind) fun v6 => (some ((decide (v1.N < v6)) && (v1.P == 0)))) (some false)))))
set_option maxRecDepth 10000 in
set_option maxHeartbeats 4000000 in
theorem con_impl_DevOk (v1 : DevArg) (res_ : Bool) (h : impl_DevOk v1 = some res_) : Con Tryd.prog C0 110 [.agg [.sc (.int .i64 (v1.Kind)), .sc (.int .i64 (v1.N)), .sc (.int .i64 (v1.P))]] []
    (fun x σ' => x = .sc (.bool (res_)) ∧ σ' = []) := by
  refine con_of_sem hP [0, 1, 2, 4, 5, 15, 36] [.tmp 2] Tryd.func110 (by unfold Tryd.f110; rfl) rfl rfl (Nat.le_of_ble_eq_true rfl) rfl ?_
  simp only [enter_cons, enter_nil, List.length_cons, List.length_nil, Nat.reduceAdd]
  generalize hQ : endQ _ _ _ _ = Q
  unfold impl_DevOk at h
  refine sem_cut fun k1 hk1 => ?_
  simp (decide := true) only [go_sem, reduceIte, Nat.reduceAdd, Int.reduceToNat, Nat.reduceSub, Nat.reduceMul, gl_devWords_R]
  refine r_cN hk1 (sem_cut fun k2 hk2 => ?_)
  refine sem_cut fun k3 hk3 => ?_
  simp (decide := true) only [go_sem, reduceIte, Nat.reduceAdd, Int.reduceToNat, Nat.reduceSub, Nat.reduceMul, gl_devWords_R]
  refine r_cN hk3 (sem_blk fun k4 hk4 => ?_)
  refine sem_cut fun k5 hk5 => ?_
  simp (decide := true) only [go_sem, reduceIte, Nat.reduceAdd, Int.reduceToNat, Nat.reduceSub, Nat.reduceMul, gl_devWords_R]
  refine r_cN hk5 ?_
  refine sem_ifh rfl h ?_ ?_ <;> clear h <;> intro h
  · refine sem_cut fun k6 hk6 => ?_
    obtain ⟨v2, c7H, h⟩ := bind_some' h
    repeat' (first | with_reducible refine And.intro ?_ ?_ | ((with_reducible refine i_call (n := 51) ?_); refine call_openF [] ?_) | ((with_reducible refine i_callW (n := 51) ?_); refine callW_use (con_impl_in v1.N (-32768) 32767 v2 c7H) ?_; rintro x σ' ⟨rfl, rfl⟩ <;> ((refine ⟨?_, ?_⟩; (focus simp (decide := true) only [go_sem, reduceIte, Nat.reduceAdd, Int.reduceToNat, Nat.reduceSub, Nat.reduceMul, gl_devWords_R])); (with_reducible refine behind_go ?_))) | exact True.intro | with_reducible assumption | exact fun hf => False.elim hf | (intro hg; first | (simp +contextual [hg]; done) | grind) | omega | simp (decide := true) only [go_sem, reduceIte, Nat.reduceAdd, Int.reduceToNat, Nat.reduceSub, Nat.reduceMul, gl_devWords_R])
    refine r_cN hk6 (r_ret ?_)
    refine r_bR hk4 (r_cR hk2 ?_)
    obtain rfl := Option.some.inj h
    refine r_eAR hQ rfl rfl ?_
    simp (decide := true) only [go_sem, reduceIte, Nat.reduceAdd, Int.reduceToNat, Nat.reduceSub, Nat.reduceMul, gl_devWords_R]
    all_goals first | exact wkEnd_same ⟨rfl, rfl⟩ | exact True.intro
  · refine sem_cut fun k8 hk8 => ?_
    simp (decide := true) only [go_sem, reduceIte, Nat.reduceAdd, Int.reduceToNat, Nat.reduceSub, Nat.reduceMul, gl_devWords_R]
    refine r_cN hk8 ?_
    refine sem_ifh rfl h ?_ ?_ <;> clear h <;> intro h
    · refine sem_cut fun k9 hk9 => ?_
      obtain ⟨v3, c10H, h⟩ := bind_some' h
      rcases Bool.eq_false_or_eq_true v3 with g11 | g11
      · replace h := cond_t h g11
        obtain ⟨v4, c12H, h⟩ := bind_some' h
        repeat' (first | with_reducible refine And.intro ?_ ?_ | ((with_reducible refine i_call (n := 51) ?_); refine call_openF [] ?_) | ((with_reducible refine i_callW (n := 51) ?_); refine callW_use (con_impl_in v1.N (-999999999) 999999999 v3 c10H) ?_; rintro x σ' ⟨rfl, rfl⟩ <;> ((refine ⟨?_, ?_⟩; (focus simp (decide := true) only [go_sem, reduceIte, Nat.reduceAdd, Int.reduceToNat, Nat.reduceSub, Nat.reduceMul, gl_devWords_R, g11])); (with_reducible refine behind_go ?_))) | ((with_reducible refine i_callW (n := 51) ?_); refine callW_use (con_impl_in v1.P 1 6 v4 c12H) ?_; rintro x σ' ⟨rfl, rfl⟩ <;> ((refine ⟨?_, ?_⟩; (focus simp (decide := true) only [go_sem, reduceIte, Nat.reduceAdd, Int.reduceToNat, Nat.reduceSub, Nat.reduceMul, gl_devWords_R, g11])); (with_reducible refine behind_go ?_))) | exact True.intro | with_reducible assumption | exact fun hf => False.elim hf | (intro hg; first | (simp +contextual [hg]; done) | grind) | omega | simp (decide := true) only [go_sem, reduceIte, Nat.reduceAdd, Int.reduceToNat, Nat.reduceSub, Nat.reduceMul, gl_devWords_R, g11])
        refine r_cN hk9 (r_ret ?_)
        refine r_bR hk4 (r_cR hk2 ?_)
        obtain rfl := Option.some.inj h
        refine r_eAR hQ rfl rfl ?_
        simp (decide := true) only [go_sem, reduceIte, Nat.reduceAdd, Int.reduceToNat, Nat.reduceSub, Nat.reduceMul, gl_devWords_R]
        all_goals first | exact wkEnd_same ⟨rfl, rfl⟩ | exact True.intro
      · replace h := cond_f h g11
        repeat' (first | with_reducible refine And.intro ?_ ?_ | ((with_reducible refine i_call (n := 51) ?_); refine call_openF [] ?_) | ((with_reducible refine i_callW (n := 51) ?_); refine callW_use (con_impl_in v1.N (-999999999) 999999999 v3 c10H) ?_; rintro x σ' ⟨rfl, rfl⟩ <;> ((refine ⟨?_, ?_⟩; (focus simp (decide := true) only [go_sem, reduceIte, Nat.reduceAdd, Int.reduceToNat, Nat.reduceSub, Nat.reduceMul, gl_devWords_R, g11])); (with_reducible refine behind_go ?_))) | exact True.intro | with_reducible assumption | exact fun hf => False.elim hf | (intro hg; first | (simp +contextual [hg]; done) | grind) | omega | simp (decide := true) only [go_sem, reduceIte, Nat.reduceAdd, Int.reduceToNat, Nat.reduceSub, Nat.reduceMul, gl_devWords_R, g11])
        refine r_cN hk9 (r_ret ?_)
        refine r_bR hk4 (r_cR hk2 ?_)
        obtain rfl := Option.some.inj h
        refine r_eAR hQ rfl rfl ?_
        simp (decide := true) only [go_sem, reduceIte, Nat.reduceAdd, Int.reduceToNat, Nat.reduceSub, Nat.reduceMul, gl_devWords_R]
        all_goals first | exact wkEnd_same ⟨rfl, rfl⟩ | exact True.intro
    · refine sem_cut fun k13 hk13 => ?_
      simp (decide := true) only [go_sem, reduceIte, Nat.reduceAdd, Int.reduceToNat, Nat.reduceSub, Nat.reduceMul, gl_devWords_R]
      refine r_cN hk13 ?_
      refine sem_ifh rfl h ?_ ?_ <;> clear h <;> intro h
      · refine sem_cut fun k14 hk14 => ?_
        obtain ⟨v5, c15H, h⟩ := bind_some' h
        repeat' (first | with_reducible refine And.intro ?_ ?_ | ((with_reducible refine i_call (n := 51) ?_); refine call_openF [] ?_) | ((with_reducible refine i_callW (n := 51) ?_); refine callW_use (con_impl_in v1.N 0 (IntKind.i64.wrap (((pt_devWords).length : Int) - 1)) v5 c15H) ?_; rintro x σ' ⟨rfl, rfl⟩ <;> ((refine ⟨?_, ?_⟩; (focus simp (decide := true) only [go_sem, reduceIte, Nat.reduceAdd, Int.reduceToNat, Nat.reduceSub, Nat.reduceMul, gl_devWords_R])); (with_reducible refine behind_go ?_))) | exact True.intro | with_reducible assumption | exact fun hf => False.elim hf | (intro hg; first | (simp +contextual [hg]; done) | grind) | omega | simp (decide := true) only [go_sem, reduceIte, Nat.reduceAdd, Int.reduceToNat, Nat.reduceSub, Nat.reduceMul, gl_devWords_R])
        refine r_cN hk14 (r_ret ?_)
        refine r_bR hk4 (r_cR hk2 ?_)
        obtain rfl := Option.some.inj h
        refine r_eAR hQ rfl rfl ?_
        simp (decide := true) only [go_sem, reduceIte, Nat.reduceAdd, Int.reduceToNat, Nat.reduceSub, Nat.reduceMul, gl_devWords_R]
        all_goals first | exact wkEnd_same ⟨rfl, rfl⟩ | exact True.intro
      · refine r_skip (r_bN hk4 ?_)
        refine r_cN hk2 (sem_cut fun k16 hk16 => ?_)
        rcases Bool.eq_false_or_eq_true (decide (v1.N ≥ 0)) with g17 | g17
        · replace h := cond_t h g17
          obtain ⟨v6, c18H, h⟩ := bind_some' h
          with_reducible refine sem_plan (id := 8) (.take 0 (.take 1 (.take 2 (.take 3 (.take 4 (.take 5 (.take 6 (.take 7 (.one 8 (.take 9 (.take 10 (.take 11 (.take 12 (.take 13 (.take 14 (.take 15 (.take 16 .done))))))))))))))))) [0] ?_ ?_
          focus kernel_rfl
          repeat' (first | with_reducible refine And.intro ?_ ?_ | ((with_reducible refine i_call (n := 116) ?_); refine call_openF [] ?_) | ((with_reducible refine i_callW (n := 116) ?_); refine callW_use (con_impl_DevSize v1.Kind v6 c18H) ?_; rintro x σ' ⟨rfl, rfl⟩ <;> ((refine ⟨?_, ?_⟩; (focus simp (decide := true) only [go_sem, reduceIte, Nat.reduceAdd, Int.reduceToNat, Nat.reduceSub, Nat.reduceMul, gl_devWords_R, g17])); (with_reducible refine behind_go ?_))) | exact True.intro | with_reducible assumption | exact fun hf => False.elim hf | (intro hg; first | (simp +contextual [hg]; done) | grind) | omega | simp (decide := true) only [go_sem, reduceIte, Nat.reduceAdd, Int.reduceToNat, Nat.reduceSub, Nat.reduceMul, gl_devWords_R, g17])
          refine r_cN hk16 (r_ret ?_)
          obtain rfl := Option.some.inj h
          refine r_eAR hQ rfl rfl ?_
          simp (decide := true) only [go_sem, reduceIte, Nat.reduceAdd, Int.reduceToNat, Nat.reduceSub, Nat.reduceMul, gl_devWords_R]
          all_goals first | exact wkEnd_same ⟨rfl, rfl⟩ | exact True.intro
        · replace h := cond_f h g17
          with_reducible refine sem_plan (id := 8) (.take 0 (.take 1 (.take 2 (.take 3 (.take 4 (.take 5 (.take 6 (.take 7 (.one 8 (.take 9 (.take 10 (.take 11 (.take 12 (.take 13 (.take 14 (.take 15 (.take 16 .done))))))))))))))))) [0] ?_ ?_
          focus kernel_rfl
          repeat' (first | with_reducible refine And.intro ?_ ?_ | exact True.intro | with_reducible assumption | exact fun hf => False.elim hf | (intro hg; first | (simp +contextual [hg]; done) | grind) | omega | simp (decide := true) only [go_sem, reduceIte, Nat.reduceAdd, Int.reduceToNat, Nat.reduceSub, Nat.reduceMul, gl_devWords_R, g17])
          refine r_cN hk16 (r_ret ?_)
          obtain rfl := Option.some.inj h
          refine r_eAR hQ rfl rfl ?_
          simp (decide := true) only [go_sem, reduceIte, Nat.reduceAdd, Int.reduceToNat, Nat.reduceSub, Nat.reduceMul, gl_devWords_R]
          all_goals first | exact wkEnd_same ⟨rfl, rfl⟩ | exact True.intro
noncomputable def slices_Index_int_int_j3 : Unit → Option Int
  | () => (some (-1))
noncomputable def slices_Index_int_int_s7 (v1 : (List Int)) (v2 : Int) : Int → Option (Int ⊕ (Int ⊕ Unit))
  | v10 => (cond (decide (v10 < ((v1).length : Int))) (Option.bind (idx v1 (v10)) fun v14 => (cond (v2 == v14) (some (.inr (.inl v10))) (some (.inl (IntKind.i64.wrap (v10 + 1)))))) (some (.inr (.inr ()))))
noncomputable def slices_Index_int_int (v1 : (List Int)) (v2 : Int) : Option Int :=
  ((loop (slices_Index_int_int_s7 v1 v2) 0).bind (Sum.elim (fun v12 => (some v12)) (fun v13 => (slices_Index_int_int_j3 ()))))
set_option maxRecDepth 10000 in
set_option maxHeartbeats 4000000 in
theorem con_slices_Index_int_int (v1 : (List Int)) (v2 : Int) (res_ : Int) (h : slices_Index_int_int v1 v2 = some res_) : Con Tryd.prog C0 117 [.fz 1 (R e_i64 (v1)), .sc (.int .i64 (v2))] []
    (fun x σ' => x = .sc (.int .i64 (res_)) ∧ σ' = []) := by
  refine con_of_sem hP [0, 1, 4, 5, 7, 8, 9, 16] [.tmp 4] Tryd.func117 (by unfold Tryd.f117; rfl) rfl rfl (Nat.le_of_ble_eq_true rfl) rfl ?_
  simp only [enter_cons, enter_nil, List.length_cons, List.length_nil, Nat.reduceAdd]
  generalize hQ : endQ _ _ _ _ = Q
  unfold slices_Index_int_int at h
  refine sem_cut fun k1 hk1 => ?_
  simp (decide := true) only [go_sem, reduceIte, Nat.reduceAdd, Int.reduceToNat, Nat.reduceSub, Nat.reduceMul]
  refine r_cN hk1 (sem_cutJ (fun (_ : Unit) (x : Unit) => (⟨[], []⟩ : St)) (fun (_ : Unit) (x : Unit) => slices_Index_int_int_j3 x = some res_) ?_ ?_)
  · rintro _ _ h
    simp only [slices_Index_int_int_j3] at h
    refine sem_cut fun k29 hk29 => ?_
    simp (decide := true) only [go_sem, reduceIte, Nat.reduceAdd, Int.reduceToNat, Nat.reduceSub, Nat.reduceMul]
    refine r_cN hk29 (r_ret ?_)
    obtain rfl := Option.some.inj h
    refine r_eAR hQ rfl rfl ?_
    simp (decide := true) only [go_sem, reduceIte, Nat.reduceAdd, Int.reduceToNat, Nat.reduceSub, Nat.reduceMul]
    all_goals first | exact wkEnd_same ⟨rfl, rfl⟩ | exact True.intro
  · intro k31 hk31 J30
    refine sem_cut fun k32 hk32 => ?_
    simp (decide := true) only [go_sem, reduceIte, Nat.reduceAdd, Int.reduceToNat, Nat.reduceSub, Nat.reduceMul]
    refine r_cN hk32 (sem_blk fun k33 hk33 => ?_)
    obtain ⟨oq50, hLq50, hKq50⟩ := bind_some' h
    clear h
    refine sem_loopP [0, 1, 7, 8] (fun (_ : Unit) (x : Int) => (⟨[(0, .fz 1 (R e_i64 (v1))), (1, .sc (.int .i64 (v2))), (7, .sc (.int .i64 (((v1).length : Int)))), (8, .sc (.int .i64 (x)))], []⟩ : St)) (fun (_ : Unit) (x : Int) => True) (slices_Index_int_int_s7 v1 v2) () 0 hLq50 (by rfl) (by rfl) ⟨?_, trivial⟩ ?_
    · first | exact wkSt_same rfl | (simp (decide := true) only [go_sem, reduceIte, Nat.reduceAdd, Int.reduceToNat, Nat.reduceSub, Nat.reduceMul]; exact wkSt_same rfl)
    · rintro nq50 _ v10 xq50 kq50 hkq50 - h hIq50 hEq50
      simp only [slices_Index_int_int_s7] at h
      refine sem_cut fun k51 hk51 => ?_
      simp (decide := true) only [go_sem, reduceIte, Nat.reduceAdd, Int.reduceToNat, Nat.reduceSub, Nat.reduceMul]
      refine r_cN hk51 (sem_cut fun k52 hk52 => ?_)
      refine sem_ifh rfl h ?_ ?_ <;> clear h <;> intro h
      · refine r_skip (r_cN hk52 ?_)
        refine sem_cut fun k53 hk53 => sem_blk fun k54 hk54 => sem_cut fun k55 hk55 => ?_
        simp (decide := true) only [go_sem, reduceIte, Nat.reduceAdd, Int.reduceToNat, Nat.reduceSub, Nat.reduceMul]
        refine r_cN hk55 (sem_cut fun k56 hk56 => ?_)
        obtain ⟨v14, c57H, h⟩ := bind_some' h
        obtain ⟨c57A, c57B, c57C, -⟩ := idx_some c57H
        repeat' (first | with_reducible refine And.intro ?_ ?_ | exact True.intro | with_reducible assumption | exact fun hf => False.elim hf | (intro hg; first | (simp +contextual [hg]; done) | grind) | omega | simp (decide := true) only [go_sem, reduceIte, Nat.reduceAdd, Int.reduceToNat, Nat.reduceSub, Nat.reduceMul, c57A, c57B, c57C])
        refine r_cN hk56 ?_
        refine sem_ifh rfl h ?_ ?_ <;> clear h <;> intro h
        · refine sem_cut fun k58 hk58 => ?_
          simp (decide := true) only [go_sem, reduceIte, Nat.reduceAdd, Int.reduceToNat, Nat.reduceSub, Nat.reduceMul]
          refine r_cN hk58 (r_ret ?_)
          refine r_bR hk54 (r_cR hk53 ?_)
          obtain rfl := Option.some.inj h
          obtain rfl := hEq50 _ rfl
          have h := hKq50
          try simp only [Sum.elim_inl, Sum.elim_inr] at h
          refine r_kR hkq50 (r_bR hk33 ?_)
          refine r_jR hk31 ?_
          obtain rfl := Option.some.inj h
          refine r_eAR hQ rfl rfl ?_
          simp (decide := true) only [go_sem, reduceIte, Nat.reduceAdd, Int.reduceToNat, Nat.reduceSub, Nat.reduceMul]
          all_goals first | exact wkEnd_same ⟨rfl, rfl⟩ | exact True.intro
        · refine r_skip (r_bN hk54 ?_)
          refine r_cN hk53 ?_
          simp (decide := true) only [go_sem, reduceIte, Nat.reduceAdd, Int.reduceToNat, Nat.reduceSub, Nat.reduceMul]
          obtain rfl := Option.some.inj h
          subst hkq50
          refine r_backP () _ rfl rfl ⟨?_, trivial⟩ (hIq50 _ rfl)
          first | exact wkSt_same rfl | (simp (decide := true) only [go_sem, reduceIte, Nat.reduceAdd, Int.reduceToNat, Nat.reduceSub, Nat.reduceMul]; exact wkSt_same rfl)
      · refine r_exit (r_cE hk52 ?_)
        obtain rfl := Option.some.inj h
        obtain rfl := hEq50 _ rfl
        have h := hKq50
        try simp only [Sum.elim_inl, Sum.elim_inr] at h
        refine r_kE hkq50 (r_bE hk33 ?_)
        refine r_joinU J30 [] () _ rfl rfl ⟨?_, h⟩
        first | exact wkSt_same rfl | (simp (decide := true) only [go_sem, reduceIte, Nat.reduceAdd, Int.reduceToNat, Nat.reduceSub, Nat.reduceMul]; exact wkSt_same rfl)
noncomputable def slices_Contains_int_int (v1 : (List Int)) (v2 : Int) : Option Bool :=
  (Option.bind (slices_Index_int_int v1 v2) fun v3 => (some (decide (v3 ≥ 0))))
set_option maxRecDepth 10000 in
set_option maxHeartbeats 4000000 in
theorem con_slices_Contains_int_int (v1 : (List Int)) (v2 : Int) (res_ : Bool) (h : slices_Contains_int_int v1 v2 = some res_) : Con Tryd.prog C0 111 [.fz 1 (R e_i64 (v1)), .sc (.int .i64 (v2))] []
    (fun x σ' => x = .sc (.bool (res_)) ∧ σ' = []) := by
  refine con_of_sem hP [0, 1, 4] [.tmp 4] Tryd.func111 (by unfold Tryd.f111; rfl) rfl rfl (Nat.le_of_ble_eq_true rfl) rfl ?_
  simp only [enter_cons, enter_nil, List.length_cons, List.length_nil, Nat.reduceAdd]
  generalize hQ : endQ _ _ _ _ = Q
  unfold slices_Contains_int_int at h
  refine sem_cut fun k1 hk1 => ?_
  simp (decide := true) only [go_sem, reduceIte, Nat.reduceAdd, Int.reduceToNat, Nat.reduceSub, Nat.reduceMul]
  refine r_cN hk1 (sem_cut fun k2 hk2 => ?_)
  obtain ⟨v3, c3H, h⟩ := bind_some' h
  repeat' (first | with_reducible refine And.intro ?_ ?_ | ((with_reducible refine i_call (n := 117) ?_); refine call_openF [] ?_) | ((with_reducible refine i_callW (n := 117) ?_); refine callW_use (con_slices_Index_int_int v1 v2 v3 c3H) ?_; rintro x σ' ⟨rfl, rfl⟩ <;> ((refine ⟨?_, ?_⟩; (focus simp (decide := true) only [go_sem, reduceIte, Nat.reduceAdd, Int.reduceToNat, Nat.reduceSub, Nat.reduceMul])); (with_reducible refine behind_go ?_))) | exact True.intro | with_reducible assumption | exact fun hf => False.elim hf | (intro hg; first | (simp +contextual [hg]; done) | grind) | omega | simp (decide := true) only [go_sem, reduceIte, Nat.reduceAdd, Int.reduceToNat, Nat.reduceSub, Nat.reduceMul])
  refine r_cN hk2 (r_ret ?_)
  obtain rfl := Option.some.inj h
  refine r_eAR hQ rfl rfl ?_
  simp (decide := true) only [go_sem, reduceIte, Nat.reduceAdd, Int.reduceToNat, Nat.reduceSub, Nat.reduceMul]
  all_goals first | exact wkEnd_same ⟨rfl, rfl⟩ | exact True.intro
noncomputable def impl_DevArg_kindIs (v1 : DevArg) (v2 : (List Int)) : Option Bool :=
  (Option.bind (impl_DevOk v1) fun v3 => (cond v3 (Option.bind (slices_Contains_int_int v2 v1.Kind) fun v4 => (some v4)) (some false)))
set_option maxRecDepth 10000 in
set_option maxHeartbeats 4000000 in
theorem con_impl_DevArg_kindIs (v1 : DevArg) (v2 : (List Int)) (res_ : Bool) (h : impl_DevArg_kindIs v1 v2 = some res_) : Con Tryd.prog C0 90 [.agg [.sc (.int .i64 (v1.Kind)), .sc (.int .i64 (v1.N)), .sc (.int .i64 (v1.P))], .fz 1 (R e_i64 (v2))] []
    (fun x σ' => x = .sc (.bool (res_)) ∧ σ' = []) := by
  refine con_of_sem hP [0, 1, 2, 4] [.tmp 4] Tryd.func90 (by unfold Tryd.f90; rfl) rfl rfl (Nat.le_of_ble_eq_true rfl) rfl ?_
  simp only [enter_cons, enter_nil, List.length_cons, List.length_nil, Nat.reduceAdd]
  generalize hQ : endQ _ _ _ _ = Q
  unfold impl_DevArg_kindIs at h
  refine sem_cut fun k1 hk1 => ?_
  simp (decide := true) only [go_sem, reduceIte, Nat.reduceAdd, Int.reduceToNat, Nat.reduceSub, Nat.reduceMul]
  refine r_cN hk1 (sem_cut fun k2 hk2 => ?_)
  obtain ⟨v3, c3H, h⟩ := bind_some' h
  rcases Bool.eq_false_or_eq_true v3 with g4 | g4
  · replace h := cond_t h g4
    obtain ⟨v4, c5H, h⟩ := bind_some' h
    repeat' (first | with_reducible refine And.intro ?_ ?_ | ((with_reducible refine i_call (n := 110) ?_); refine call_openF [] ?_) | ((with_reducible refine i_callW (n := 110) ?_); refine callW_use (con_impl_DevOk v1 v3 c3H) ?_; rintro x σ' ⟨rfl, rfl⟩ <;> ((refine ⟨?_, ?_⟩; (focus simp (decide := true) only [go_sem, reduceIte, Nat.reduceAdd, Int.reduceToNat, Nat.reduceSub, Nat.reduceMul, g4])); (with_reducible refine behind_go ?_))) | ((with_reducible refine i_call (n := 111) ?_); refine call_openF [] ?_) | ((with_reducible refine i_callW (n := 111) ?_); refine callW_use (con_slices_Contains_int_int v2 v1.Kind v4 c5H) ?_; rintro x σ' ⟨rfl, rfl⟩ <;> ((refine ⟨?_, ?_⟩; (focus simp (decide := true) only [go_sem, reduceIte, Nat.reduceAdd, Int.reduceToNat, Nat.reduceSub, Nat.reduceMul, g4])); (with_reducible refine behind_go ?_))) | exact True.intro | with_reducible assumption | exact fun hf => False.elim hf | (intro hg; first | (simp +contextual [hg]; done) | grind) | omega | simp (decide := true) only [go_sem, reduceIte, Nat.reduceAdd, Int.reduceToNat, Nat.reduceSub, Nat.reduceMul, g4])
    refine r_cN hk2 (r_ret ?_)
    obtain rfl := Option.some.inj h
    refine r_eAR hQ rfl rfl ?_
    simp (decide := true) only [go_sem, reduceIte, Nat.reduceAdd, Int.reduceToNat, Nat.reduceSub, Nat.reduceMul]
    all_goals first | exact wkEnd_same ⟨rfl, rfl⟩ | exact True.intro
  · replace h := cond_f h g4
    repeat' (first | with_reducible refine And.intro ?_ ?_ | ((with_reducible refine i_call (n := 110) ?_); refine call_openF [] ?_) | ((with_reducible refine i_callW (n := 110) ?_); refine callW_use (con_impl_DevOk v1 v3 c3H) ?_; rintro x σ' ⟨rfl, rfl⟩ <;> ((refine ⟨?_, ?_⟩; (focus simp (decide := true) only [go_sem, reduceIte, Nat.reduceAdd, Int.reduceToNat, Nat.reduceSub, Nat.reduceMul, g4])); (with_reducible refine behind_go ?_))) | exact True.intro | with_reducible assumption | exact fun hf => False.elim hf | (intro hg; first | (simp +contextual [hg]; done) | grind) | omega | simp (decide := true) only [go_sem, reduceIte, Nat.reduceAdd, Int.reduceToNat, Nat.reduceSub, Nat.reduceMul, g4])
    refine r_cN hk2 (r_ret ?_)
    obtain rfl := Option.some.inj h
    refine r_eAR hQ rfl rfl ?_
    simp (decide := true) only [go_sem, reduceIte, Nat.reduceAdd, Int.reduceToNat, Nat.reduceSub, Nat.reduceMul]
    all_goals first | exact wkEnd_same ⟨rfl, rfl⟩ | exact True.intro

end Go.AM
