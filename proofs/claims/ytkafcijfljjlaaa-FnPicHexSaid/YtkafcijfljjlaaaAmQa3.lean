/- Pure functions and their contracts. Conditions: none. -/
import Derived.Test.YtkafcijfljjlaaaAmQa2
set_option linter.unusedSimpArgs false
set_option linter.unusedVariables false
namespace Go.AM
open Go Go.Proofs
noncomputable def spec_l11Sure_j28 : ((List Int) × Int × (List Inst) × Int × Int × Bool × Bool) → Option ((List Inst) × l26Rd)
  | (v45, v46, v47, v48, v49, v50, v51) => (some (v47, (⟨v45, v46⟩ : l26Rd)))
noncomputable def spec_l11Sure_s33 : ((List Int) × Int × (List Inst) × Int × Int × Bool × Bool) → Option (((List Int) × Int × (List Inst) × Int × Int × Bool × Bool) ⊕ ((List Int) × Int × (List Inst) × Int × Int × Bool × Bool))
  | (v55, v56, v57, v58, v59, v60, v61) => (cond (decide ((((v57).length : Nat) : Int) < 60)) (Option.bind (spec_l26Rd_pick (⟨v55, v56⟩ : l26Rd) 40) fun v65 => (Option.bind (spec_l11Play_rung (⟨v65.2, v57, v58, v59, v60, v61⟩ : l11Play) v65.1) fun v66 => (some (.inl (v66.r.b, v66.r.p, v66.out, v66.bits, v66.forks, v66.base, v66.fresh))))) (some (.inr (v55, v56, v57, v58, v59, v60, v61))))
noncomputable def spec_l11Sure_j13 : ((List Int) × Int × (List Inst) × Int × Int × Bool × Bool) → Option ((List Inst) × l26Rd)
  | (v23, v24, v25, v26, v27, v28, v29) => (Option.bind (spec_l26Rd_pick (⟨v23, v24⟩ : l26Rd) 16) fun v52 => (cond (v52.1 == 0) ((loop spec_l11Sure_s33 (v52.2.b, v52.2.p, v25, v26, v27, v28, v29)).bind (fun v64 => (spec_l11Sure_j28 (v64.1, v64.2.1, v64.2.2.1, v64.2.2.2.1, v64.2.2.2.2.1, v64.2.2.2.2.2.1, v64.2.2.2.2.2.2)))) (spec_l11Sure_j28 (v52.2.b, v52.2.p, v25, v26, v27, v28, v29))))
noncomputable def spec_l11Sure_s17 : ((List Int) × Int × (List Inst) × Int × Int × Bool × Bool × Int) → Option (((List Int) × Int × (List Inst) × Int × Int × Bool × Bool × Int) ⊕ ((List Int) × Int × (List Inst) × Int × Int × Bool × Bool))
  | (v115, v116, v117, v118, v119, v120, v121, v122) => (cond (decide (v122 > 0)) (Option.bind (spec_l26Rd_pick (⟨v115, v116⟩ : l26Rd) 14) fun v128 => (Option.bind (spec_l11Play_rung (⟨v128.2, v117, v118, v119, v120, v121⟩ : l11Play) v128.1) fun v129 => (some (.inl (v129.r.b, v129.r.p, v129.out, v129.bits, v129.forks, v129.base, v129.fresh, (IntKind.i64.wrap (v122 - 1))))))) (some (.inr (v115, v116, v117, v118, v119, v120, v121))))
noncomputable def spec_l11Sure (v1 : l26Rd) : Option ((List Inst) × l26Rd) :=
  (Option.bind (spec_l26Rd_pick v1 30) fun v2 => (cond (v2.1 == 0) (some ([], v2.2)) (Option.bind (spec_l26Rd_pick v2.2 3) fun v112 => ((loop spec_l11Sure_s17 (v112.2.b, v112.2.p, [], 0, 0, false, false, (IntKind.i64.wrap (1 + v112.1)))).bind (fun v127 => (spec_l11Sure_j13 (v127.1, v127.2.1, v127.2.2.1, v127.2.2.2.1, v127.2.2.2.2.1, v127.2.2.2.2.2.1, v127.2.2.2.2.2.2)))))))
set_option maxRecDepth 10000 in
set_option maxHeartbeats 4000000 in
theorem con_spec_l11Sure (v1 : l26Rd) (res_ : ((List Inst) × l26Rd)) (h : spec_l11Sure v1 = some res_) : Con Try.prog C0 69 [.pt 0 0] [.rc [.fz 1 (R e_u8 (v1.b)), .sc (.int .i64 (v1.p))]]
    (fun x σ' => x = .fz 3 (R e_Inst (res_.1)) ∧ σ' = [.rc [.fz 1 (R e_u8 (res_.2.b)), .sc (.int .i64 (res_.2.p))]]) := by
  refine con_of_sem hP [0, 2, 3, 4, 10, 19, 28, 34] [.tmp 2] Try.func69 (by unfold Try.f69; rfl) rfl rfl (Nat.le_of_ble_eq_true rfl) rfl ?_
  simp only [enter_cons, enter_nil, List.length_cons, List.length_nil, Nat.reduceAdd]
  generalize hQ : endQ _ _ _ _ = Q
  unfold spec_l11Sure at h
  refine sem_cut fun k1 hk1 => ?_
  simp (decide := true) only [go_sem, reduceIte, Nat.reduceAdd, Int.reduceToNat, Nat.reduceSub, Nat.reduceMul]
  refine r_cN hk1 (sem_cut fun k2 hk2 => ?_)
  simp (decide := true) only [go_sem, reduceIte, Nat.reduceAdd, Int.reduceToNat, Nat.reduceSub, Nat.reduceMul]
  refine r_cN hk2 (sem_cut fun k3 hk3 => ?_)
  refine sem_cut fun k4 hk4 => ?_
  obtain ⟨v2, c5H, h⟩ := bind_some' h
  repeat' (first | with_reducible refine And.intro ?_ ?_ | ((with_reducible refine i_call (n := 39) ?_); refine call_open [[0]] ?_) | ((with_reducible refine i_callW (n := 39) ?_); refine callW_use (con_spec_l26Rd_pick v1 30 v2 c5H) ?_; rintro x σ' ⟨rfl, rfl⟩ <;> ((with_reducible refine behind_go ?_))) | exact True.intro | with_reducible assumption | exact fun hf => False.elim hf | (intro hg; first | (simp +contextual [hg]; done) | grind) | omega | simp (decide := true) only [go_sem, reduceIte, Nat.reduceAdd, Int.reduceToNat, Nat.reduceSub, Nat.reduceMul])
  refine r_cN hk4 ?_
  refine sem_ifh rfl h ?_ ?_ <;> clear h <;> intro h
  · refine sem_cut fun k6 hk6 => ?_
    simp (decide := true) only [go_sem, reduceIte, Nat.reduceAdd, Int.reduceToNat, Nat.reduceSub, Nat.reduceMul]
    refine r_cN hk6 (r_ret ?_)
    refine r_cR hk3 ?_
    obtain rfl := Option.some.inj h
    refine r_eAR hQ rfl rfl ?_
    simp (decide := true) only [go_sem, reduceIte, Nat.reduceAdd, Int.reduceToNat, Nat.reduceSub, Nat.reduceMul]
    all_goals first | exact True.intro | (refine wkEnd_mk ?_ ?_ (⟨rfl, rfl⟩) <;> repeat' (first | exact wkE_nil | (with_reducible apply wkE_cons) | exact wkC_nil _ | exact wkV_nil _ | exact wkA_nil _ | (with_reducible apply wkV_agg) | (with_reducible apply wkV_tup) | (with_reducible apply wkA_agg) | exact wkA_refl _ | exact wkV_refl _ | exact wkS_nil | (with_reducible apply wkS_cons) | (with_reducible apply wkO_rc) | (with_reducible apply wkO_arr) | exact wkO_refl _ | exact wkL_nil | (with_reducible apply wkL_cons) | exact wkC_refl _ | exact wkT_nil | (with_reducible apply wkT_cons) | (with_reducible apply wkR_appR) | (with_reducible apply wkR_consR) | exact wkR_nilR _ | exact wkR_refl _))
  · refine r_skip (r_cN hk3 ?_)
    refine sem_cutJ (fun (i : P2) (x : ((List Int) × Int × (List Inst) × Int × Int × Bool × Bool)) => match i with | .a => (⟨[(0, .pt 0 0), (3, .pt 1 0)], [.rc [.fz 1 (R e_u8 (x.1)), .sc (.int .i64 (x.2.1))], .rc [.pt 0 0, .sl 2 0 ((x.2.2.1).length), .sc (.int .i64 (x.2.2.2.1)), .sc (.int .i64 (x.2.2.2.2.1)), .sc (.bool (x.2.2.2.2.2.1)), .sc (.bool (x.2.2.2.2.2.2))], .arr true 3 (R e_Inst (x.2.2.1))]⟩ : St) | .b => (⟨[(0, .pt 0 0), (3, .pt 1 0)], [.rc [.fz 1 (R e_u8 (x.1)), .sc (.int .i64 (x.2.1))], .rc [.pt 0 0, .sc (.slice none 0 0), .sc (.int .i64 (x.2.2.2.1)), .sc (.int .i64 (x.2.2.2.2.1)), .sc (.bool (x.2.2.2.2.2.1)), .sc (.bool (x.2.2.2.2.2.2))]]⟩ : St)) (fun (i : P2) (x : ((List Int) × Int × (List Inst) × Int × Int × Bool × Bool)) => (match i with | .a => True | .b => x.2.2.1 = []) ∧ spec_l11Sure_j13 x = some res_) ?_ ?_
    · rintro (_ | _) ⟨v23, v24, v25, v26, v27, v28, v29⟩ ⟨hp, h⟩
      · simp only [spec_l11Sure_j13] at h
        refine sem_cutJ (fun (_ : Unit) (x : ((List Int) × Int × (List Inst) × Int × Int × Bool × Bool)) => (⟨[(3, .pt 1 0)], [.rc [.fz 1 (R e_u8 (x.1)), .sc (.int .i64 (x.2.1))], .rc [.pt 0 0, .sl 2 0 ((x.2.2.1).length), .sc (.int .i64 (x.2.2.2.1)), .sc (.int .i64 (x.2.2.2.2.1)), .sc (.bool (x.2.2.2.2.2.1)), .sc (.bool (x.2.2.2.2.2.2))], .arr true 3 (R e_Inst (x.2.2.1))]⟩ : St)) (fun (_ : Unit) (x : ((List Int) × Int × (List Inst) × Int × Int × Bool × Bool)) => spec_l11Sure_j28 x = some res_) ?_ ?_
        · rintro _ ⟨v45, v46, v47, v48, v49, v50, v51⟩ h
          simp only [spec_l11Sure_j28] at h
          refine sem_cut fun k60 hk60 => ?_
          simp (decide := true) only [go_sem, reduceIte, Nat.reduceAdd, Int.reduceToNat, Nat.reduceSub, Nat.reduceMul]
          refine r_cN hk60 (r_ret ?_)
          obtain rfl := Option.some.inj h
          refine r_eAR hQ rfl rfl ?_
          simp (decide := true) only [go_sem, reduceIte, Nat.reduceAdd, Int.reduceToNat, Nat.reduceSub, Nat.reduceMul]
          all_goals first | exact wkEnd_same ⟨rfl, rfl⟩ | exact True.intro
        · intro k62 hk62 J61
          refine sem_cut fun k63 hk63 => ?_
          obtain ⟨v52, c64H, h⟩ := bind_some' h
          repeat' (first | with_reducible refine And.intro ?_ ?_ | ((with_reducible refine i_call (n := 39) ?_); refine call_open [[0]] ?_) | ((with_reducible refine i_callW (n := 39) ?_); refine callW_use (con_spec_l26Rd_pick (⟨v23, v24⟩ : l26Rd) 16 v52 c64H) ?_; rintro x σ' ⟨rfl, rfl⟩ <;> ((with_reducible refine behind_go ?_))) | exact True.intro | with_reducible assumption | exact fun hf => False.elim hf | (intro hg; first | (simp +contextual [hg]; done) | grind) | omega | simp (decide := true) only [go_sem, reduceIte, Nat.reduceAdd, Int.reduceToNat, Nat.reduceSub, Nat.reduceMul])
          refine r_cN hk63 ?_
          refine sem_ifh rfl h ?_ ?_ <;> clear h <;> intro h
          · refine sem_blk fun k65 hk65 => ?_
            obtain ⟨oq76, hLq76, hKq76⟩ := bind_some' h
            clear h
            refine sem_loopP [0, 3] (fun (_ : Unit) (x : ((List Int) × Int × (List Inst) × Int × Int × Bool × Bool)) => (⟨[(0, .pt 0 0), (3, .pt 1 0)], [.rc [.fz 1 (R e_u8 (x.1)), .sc (.int .i64 (x.2.1))], .rc [.pt 0 0, .sl 2 0 ((x.2.2.1).length), .sc (.int .i64 (x.2.2.2.1)), .sc (.int .i64 (x.2.2.2.2.1)), .sc (.bool (x.2.2.2.2.2.1)), .sc (.bool (x.2.2.2.2.2.2))], .arr true 3 (R e_Inst (x.2.2.1))]⟩ : St)) (fun (_ : Unit) (x : ((List Int) × Int × (List Inst) × Int × Int × Bool × Bool)) => True) spec_l11Sure_s33 () (v52.2.b, v52.2.p, v25, v26, v27, v28, v29) hLq76 (by rfl) (by rfl) ⟨?_, trivial⟩ ?_
            · first | exact wkSt_same rfl | (simp (decide := true) only [go_sem, reduceIte, Nat.reduceAdd, Int.reduceToNat, Nat.reduceSub, Nat.reduceMul]; exact wkSt_same rfl)
            · rintro nq76 _ ⟨v55, v56, v57, v58, v59, v60, v61⟩ xq76 kq76 hkq76 - h hIq76 hEq76
              simp only [spec_l11Sure_s33] at h
              refine sem_cut fun k77 hk77 => sem_cut fun k78 hk78 => ?_
              simp (decide := true) only [go_sem, reduceIte, Nat.reduceAdd, Int.reduceToNat, Nat.reduceSub, Nat.reduceMul]
              refine r_cN hk78 ?_
              refine sem_ifh rfl h ?_ ?_ <;> clear h <;> intro h
              · refine r_skip (r_cN hk77 ?_)
                refine sem_blk fun k79 hk79 => ?_
                obtain ⟨v65, c80H, h⟩ := bind_some' h
                obtain ⟨v66, c81H, h⟩ := bind_some' h
                repeat' (first | with_reducible refine And.intro ?_ ?_ | ((with_reducible refine i_call (n := 39) ?_); refine call_open [[0]] ?_) | ((with_reducible refine i_callW (n := 39) ?_); refine callW_use (con_spec_l26Rd_pick (⟨v55, v56⟩ : l26Rd) 40 v65 c80H) ?_; rintro x σ' ⟨rfl, rfl⟩ <;> ((with_reducible refine behind_go ?_))) | ((with_reducible refine i_call (n := 92) ?_); refine call_open [[0], [0, 0], [0, 1]] ?_) | ((with_reducible refine i_callW (n := 92) ?_); refine callW_use (con_spec_l11Play_rung_1 (⟨v65.2, v57, v58, v59, v60, v61⟩ : l11Play) v65.1 v66 c81H) ?_; rintro x σ' ⟨rfl, rfl⟩ <;> ((with_reducible refine behind_go ?_))) | exact True.intro | with_reducible assumption | exact fun hf => False.elim hf | (intro hg; first | (simp +contextual [hg]; done) | grind) | omega | simp (decide := true) only [go_sem, reduceIte, Nat.reduceAdd, Int.reduceToNat, Nat.reduceSub, Nat.reduceMul])
                refine r_bN hk79 ?_
                obtain rfl := Option.some.inj h
                subst hkq76
                refine r_backP () _ rfl rfl ⟨?_, trivial⟩ (hIq76 _ rfl)
                first | exact wkSt_same rfl | (simp (decide := true) only [go_sem, reduceIte, Nat.reduceAdd, Int.reduceToNat, Nat.reduceSub, Nat.reduceMul]; exact wkSt_same rfl)
              · refine r_exit (r_cE hk77 ?_)
                obtain rfl := Option.some.inj h
                obtain rfl := hEq76 _ rfl
                have h := hKq76
                try simp only [Sum.elim_inl, Sum.elim_inr] at h
                refine r_kE hkq76 (r_bE hk65 ?_)
                refine r_joinU J61 [3] () _ rfl rfl ⟨?_, h⟩
                first | exact wkSt_same rfl | (simp (decide := true) only [go_sem, reduceIte, Nat.reduceAdd, Int.reduceToNat, Nat.reduceSub, Nat.reduceMul]; exact wkSt_same rfl)
          · refine r_skip (r_joinU J61 [3] () _ rfl rfl ⟨?_, h⟩)
            first | exact wkSt_same rfl | (simp (decide := true) only [go_sem, reduceIte, Nat.reduceAdd, Int.reduceToNat, Nat.reduceSub, Nat.reduceMul]; exact wkSt_same rfl)
      · replace hp : v25 = [] := hp
        subst hp
        simp only [spec_l11Sure_j13] at h
        try simp only [List.nil_append, List.length_nil, Int.natCast_zero] at h
        refine sem_cutJ (fun (i : P2) (x : ((List Int) × Int × (List Inst) × Int × Int × Bool × Bool)) => match i with | .a => (⟨[(3, .pt 1 0)], [.rc [.fz 1 (R e_u8 (x.1)), .sc (.int .i64 (x.2.1))], .rc [.pt 0 0, .sl 2 0 ((x.2.2.1).length), .sc (.int .i64 (x.2.2.2.1)), .sc (.int .i64 (x.2.2.2.2.1)), .sc (.bool (x.2.2.2.2.2.1)), .sc (.bool (x.2.2.2.2.2.2))], .arr true 3 (R e_Inst (x.2.2.1))]⟩ : St) | .b => (⟨[(3, .pt 1 0)], [.rc [.fz 1 (R e_u8 (x.1)), .sc (.int .i64 (x.2.1))], .rc [.pt 0 0, .sc (.slice none 0 0), .sc (.int .i64 (x.2.2.2.1)), .sc (.int .i64 (x.2.2.2.2.1)), .sc (.bool (x.2.2.2.2.2.1)), .sc (.bool (x.2.2.2.2.2.2))]]⟩ : St)) (fun (i : P2) (x : ((List Int) × Int × (List Inst) × Int × Int × Bool × Bool)) => (match i with | .a => True | .b => x.2.2.1 = []) ∧ spec_l11Sure_j28 x = some res_) ?_ ?_
        · rintro (_ | _) ⟨v86, v87, v88, v89, v90, v91, v92⟩ ⟨hp, h⟩
          · simp only [spec_l11Sure_j28] at h
            refine sem_cut fun k111 hk111 => ?_
            simp (decide := true) only [go_sem, reduceIte, Nat.reduceAdd, Int.reduceToNat, Nat.reduceSub, Nat.reduceMul]
            refine r_cN hk111 (r_ret ?_)
            obtain rfl := Option.some.inj h
            refine r_eAR hQ rfl rfl ?_
            simp (decide := true) only [go_sem, reduceIte, Nat.reduceAdd, Int.reduceToNat, Nat.reduceSub, Nat.reduceMul]
            all_goals first | exact wkEnd_same ⟨rfl, rfl⟩ | exact True.intro
          · replace hp : v88 = [] := hp
            subst hp
            simp only [spec_l11Sure_j28] at h
            try simp only [List.nil_append, List.length_nil, Int.natCast_zero] at h
            refine sem_cut fun k112 hk112 => ?_
            simp (decide := true) only [go_sem, reduceIte, Nat.reduceAdd, Int.reduceToNat, Nat.reduceSub, Nat.reduceMul]
            refine r_cN hk112 (r_ret ?_)
            obtain rfl := Option.some.inj h
            refine r_eAR hQ rfl rfl ?_
            simp (decide := true) only [go_sem, reduceIte, Nat.reduceAdd, Int.reduceToNat, Nat.reduceSub, Nat.reduceMul]
            all_goals first | exact True.intro | (refine wkEnd_mk ?_ ?_ (⟨rfl, rfl⟩) <;> repeat' (first | exact wkE_nil | (with_reducible apply wkE_cons) | exact wkC_nil _ | exact wkV_nil _ | exact wkA_nil _ | (with_reducible apply wkV_agg) | (with_reducible apply wkV_tup) | (with_reducible apply wkA_agg) | exact wkA_refl _ | exact wkV_refl _ | exact wkS_nil | (with_reducible apply wkS_cons) | (with_reducible apply wkO_rc) | (with_reducible apply wkO_arr) | exact wkO_refl _ | exact wkL_nil | (with_reducible apply wkL_cons) | exact wkC_refl _ | exact wkT_nil | (with_reducible apply wkT_cons) | (with_reducible apply wkR_appR) | (with_reducible apply wkR_consR) | exact wkR_nilR _ | exact wkR_refl _))
        · intro k114 hk114 J113
          refine sem_cut fun k115 hk115 => ?_
          obtain ⟨v93, c116H, h⟩ := bind_some' h
          repeat' (first | with_reducible refine And.intro ?_ ?_ | ((with_reducible refine i_call (n := 39) ?_); refine call_open [[0]] ?_) | ((with_reducible refine i_callW (n := 39) ?_); refine callW_use (con_spec_l26Rd_pick (⟨v23, v24⟩ : l26Rd) 16 v93 c116H) ?_; rintro x σ' ⟨rfl, rfl⟩ <;> ((with_reducible refine behind_go ?_))) | exact True.intro | with_reducible assumption | exact fun hf => False.elim hf | (intro hg; first | (simp +contextual [hg]; done) | grind) | omega | simp (decide := true) only [go_sem, reduceIte, Nat.reduceAdd, Int.reduceToNat, Nat.reduceSub, Nat.reduceMul])
          refine r_cN hk115 ?_
          refine sem_ifh rfl h ?_ ?_ <;> clear h <;> intro h
          · refine sem_blk fun k117 hk117 => ?_
            obtain ⟨oq133, hLq133, hKq133⟩ := bind_some' h
            clear h
            refine sem_loopP [0, 3] (fun (i : P2) (x : ((List Int) × Int × (List Inst) × Int × Int × Bool × Bool)) => match i with | .a => (⟨[(0, .pt 0 0), (3, .pt 1 0)], [.rc [.fz 1 (R e_u8 (x.1)), .sc (.int .i64 (x.2.1))], .rc [.pt 0 0, .sl 2 0 ((x.2.2.1).length), .sc (.int .i64 (x.2.2.2.1)), .sc (.int .i64 (x.2.2.2.2.1)), .sc (.bool (x.2.2.2.2.2.1)), .sc (.bool (x.2.2.2.2.2.2))], .arr true 3 (R e_Inst (x.2.2.1))]⟩ : St) | .b => (⟨[(0, .pt 0 0), (3, .pt 1 0)], [.rc [.fz 1 (R e_u8 (x.1)), .sc (.int .i64 (x.2.1))], .rc [.pt 0 0, .sc (.slice none 0 0), .sc (.int .i64 (x.2.2.2.1)), .sc (.int .i64 (x.2.2.2.2.1)), .sc (.bool (x.2.2.2.2.2.1)), .sc (.bool (x.2.2.2.2.2.2))]]⟩ : St)) (fun (i : P2) (x : ((List Int) × Int × (List Inst) × Int × Int × Bool × Bool)) => (match i with | .a => True | .b => x.2.2.1 = [])) spec_l11Sure_s33 (.b) (v93.2.b, v93.2.p, [], v26, v27, v28, v29) hLq133 (by rfl) (by rfl) ⟨?_, rfl⟩ ?_
            · first | exact wkSt_same rfl | (simp (decide := true) only [go_sem, reduceIte, Nat.reduceAdd, Int.reduceToNat, Nat.reduceSub, Nat.reduceMul]; exact wkSt_same rfl)
            · rintro nq133 (_ | _) ⟨v96, v97, v98, v99, v100, v101, v102⟩ xq133 kq133 hkq133 hp h hIq133 hEq133
              · simp only [spec_l11Sure_s33] at h
                refine sem_cut fun k134 hk134 => sem_cut fun k135 hk135 => ?_
                simp (decide := true) only [go_sem, reduceIte, Nat.reduceAdd, Int.reduceToNat, Nat.reduceSub, Nat.reduceMul]
                refine r_cN hk135 ?_
                refine sem_ifh rfl h ?_ ?_ <;> clear h <;> intro h
                · refine r_skip (r_cN hk134 ?_)
                  refine sem_blk fun k136 hk136 => ?_
                  obtain ⟨v108, c137H, h⟩ := bind_some' h
                  obtain ⟨v109, c138H, h⟩ := bind_some' h
                  repeat' (first | with_reducible refine And.intro ?_ ?_ | ((with_reducible refine i_call (n := 39) ?_); refine call_open [[0]] ?_) | ((with_reducible refine i_callW (n := 39) ?_); refine callW_use (con_spec_l26Rd_pick (⟨v96, v97⟩ : l26Rd) 40 v108 c137H) ?_; rintro x σ' ⟨rfl, rfl⟩ <;> ((with_reducible refine behind_go ?_))) | ((with_reducible refine i_call (n := 92) ?_); refine call_open [[0], [0, 0], [0, 1]] ?_) | ((with_reducible refine i_callW (n := 92) ?_); refine callW_use (con_spec_l11Play_rung_1 (⟨v108.2, v98, v99, v100, v101, v102⟩ : l11Play) v108.1 v109 c138H) ?_; rintro x σ' ⟨rfl, rfl⟩ <;> ((with_reducible refine behind_go ?_))) | exact True.intro | with_reducible assumption | exact fun hf => False.elim hf | (intro hg; first | (simp +contextual [hg]; done) | grind) | omega | simp (decide := true) only [go_sem, reduceIte, Nat.reduceAdd, Int.reduceToNat, Nat.reduceSub, Nat.reduceMul])
                  refine r_bN hk136 ?_
                  obtain rfl := Option.some.inj h
                  subst hkq133
                  refine r_backP (.a) (v109.r.b, v109.r.p, v109.out, v109.bits, v109.forks, v109.base, v109.fresh) rfl rfl ⟨?_, trivial⟩ (hIq133 _ rfl)
                  first | exact wkSt_same rfl | (simp (decide := true) only [go_sem, reduceIte, Nat.reduceAdd, Int.reduceToNat, Nat.reduceSub, Nat.reduceMul]; exact wkSt_same rfl)
                · refine r_exit (r_cE hk134 ?_)
                  obtain rfl := Option.some.inj h
                  obtain rfl := hEq133 _ rfl
                  have h := hKq133
                  try simp only [Sum.elim_inl, Sum.elim_inr] at h
                  refine r_kE hkq133 (r_bE hk117 ?_)
                  refine r_joinU J113 [3] (.a) (v96, v97, v98, v99, v100, v101, v102) rfl rfl ⟨?_, ⟨trivial, h⟩⟩
                  first | exact wkSt_same rfl | (simp (decide := true) only [go_sem, reduceIte, Nat.reduceAdd, Int.reduceToNat, Nat.reduceSub, Nat.reduceMul]; exact wkSt_same rfl)
              · replace hp : v98 = [] := hp
                subst hp
                simp only [spec_l11Sure_s33] at h
                try simp only [List.nil_append, List.length_nil, Int.natCast_zero] at h
                refine sem_cut fun k139 hk139 => sem_cut fun k140 hk140 => ?_
                simp (decide := true) only [go_sem, reduceIte, Nat.reduceAdd, Int.reduceToNat, Nat.reduceSub, Nat.reduceMul]
                refine r_cN hk140 (sem_ifT rfl ?_)
                try replace h := cond_t h rfl
                refine r_skip (r_cN hk139 ?_)
                refine sem_blk fun k141 hk141 => ?_
                obtain ⟨v110, c142H, h⟩ := bind_some' h
                obtain ⟨v111, c143H, h⟩ := bind_some' h
                repeat' (first | with_reducible refine And.intro ?_ ?_ | ((with_reducible refine i_call (n := 39) ?_); refine call_open [[0]] ?_) | ((with_reducible refine i_callW (n := 39) ?_); refine callW_use (con_spec_l26Rd_pick (⟨v96, v97⟩ : l26Rd) 40 v110 c142H) ?_; rintro x σ' ⟨rfl, rfl⟩ <;> ((with_reducible refine behind_go ?_))) | ((with_reducible refine i_call (n := 92) ?_); refine call_open [[0], [0, 0]] ?_) | ((with_reducible refine i_callW (n := 92) ?_); refine callW_use (con_spec_l11Play_rung (⟨v110.2, [], v99, v100, v101, v102⟩ : l11Play) v110.1 v111 c143H rfl) ?_; rintro x σ' ⟨rfl, rfl⟩ <;> ((with_reducible refine behind_go ?_))) | exact True.intro | with_reducible assumption | exact fun hf => False.elim hf | (intro hg; first | (simp +contextual [hg]; done) | grind) | omega | simp (decide := true) only [go_sem, reduceIte, Nat.reduceAdd, Int.reduceToNat, Nat.reduceSub, Nat.reduceMul])
                refine r_bN hk141 ?_
                obtain rfl := Option.some.inj h
                subst hkq133
                refine r_backP (.a) (v111.r.b, v111.r.p, v111.out, v111.bits, v111.forks, v111.base, v111.fresh) rfl rfl ⟨?_, trivial⟩ (hIq133 _ rfl)
                first | exact wkSt_same rfl | (simp (decide := true) only [go_sem, reduceIte, Nat.reduceAdd, Int.reduceToNat, Nat.reduceSub, Nat.reduceMul]; exact wkSt_same rfl)
          · refine r_skip (r_joinU J113 [3] (.b) (v93.2.b, v93.2.p, [], v26, v27, v28, v29) rfl rfl ⟨?_, ⟨rfl, h⟩⟩)
            first | exact wkSt_same rfl | (simp (decide := true) only [go_sem, reduceIte, Nat.reduceAdd, Int.reduceToNat, Nat.reduceSub, Nat.reduceMul]; exact wkSt_same rfl)
    · intro k145 hk145 J144
      refine sem_cut fun k146 hk146 => ?_
      obtain ⟨v112, c147H, h⟩ := bind_some' h
      repeat' (first | with_reducible refine And.intro ?_ ?_ | ((with_reducible refine i_call (n := 39) ?_); refine call_open [[0]] ?_) | ((with_reducible refine i_callW (n := 39) ?_); refine callW_use (con_spec_l26Rd_pick v2.2 3 v112 c147H) ?_; rintro x σ' ⟨rfl, rfl⟩ <;> ((with_reducible refine behind_go ?_))) | exact True.intro | with_reducible assumption | exact fun hf => False.elim hf | (intro hg; first | (simp +contextual [hg]; done) | grind) | omega | simp (decide := true) only [go_sem, reduceIte, Nat.reduceAdd, Int.reduceToNat, Nat.reduceSub, Nat.reduceMul])
      refine r_cN hk146 (sem_blk fun k148 hk148 => ?_)
      obtain ⟨oq167, hLq167, hKq167⟩ := bind_some' h
      clear h
      refine sem_loopP [0, 3, 4] (fun (i : P2) (x : ((List Int) × Int × (List Inst) × Int × Int × Bool × Bool × Int)) => match i with | .a => (⟨[(0, .pt 0 0), (3, .pt 1 0), (4, .sc (.int .i64 (x.2.2.2.2.2.2.2)))], [.rc [.fz 1 (R e_u8 (x.1)), .sc (.int .i64 (x.2.1))], .rc [.pt 0 0, .sl 2 0 ((x.2.2.1).length), .sc (.int .i64 (x.2.2.2.1)), .sc (.int .i64 (x.2.2.2.2.1)), .sc (.bool (x.2.2.2.2.2.1)), .sc (.bool (x.2.2.2.2.2.2.1))], .arr true 3 (R e_Inst (x.2.2.1))]⟩ : St) | .b => (⟨[(0, .pt 0 0), (3, .pt 1 0), (4, .sc (.int .i64 (x.2.2.2.2.2.2.2)))], [.rc [.fz 1 (R e_u8 (x.1)), .sc (.int .i64 (x.2.1))], .rc [.pt 0 0, .sc (.slice none 0 0), .sc (.int .i64 (x.2.2.2.1)), .sc (.int .i64 (x.2.2.2.2.1)), .sc (.bool (x.2.2.2.2.2.1)), .sc (.bool (x.2.2.2.2.2.2.1))]]⟩ : St)) (fun (i : P2) (x : ((List Int) × Int × (List Inst) × Int × Int × Bool × Bool × Int)) => (match i with | .a => True | .b => x.2.2.1 = [])) spec_l11Sure_s17 (.b) (v112.2.b, v112.2.p, [], 0, 0, false, false, (IntKind.i64.wrap (1 + v112.1))) hLq167 (by rfl) (by rfl) ⟨?_, rfl⟩ ?_
      · first | exact wkSt_same rfl | (simp (decide := true) only [go_sem, reduceIte, Nat.reduceAdd, Int.reduceToNat, Nat.reduceSub, Nat.reduceMul]; exact wkSt_same rfl)
      · rintro nq167 (_ | _) ⟨v115, v116, v117, v118, v119, v120, v121, v122⟩ xq167 kq167 hkq167 hp h hIq167 hEq167
        · simp only [spec_l11Sure_s17] at h
          refine sem_cut fun k168 hk168 => sem_cut fun k169 hk169 => ?_
          simp (decide := true) only [go_sem, reduceIte, Nat.reduceAdd, Int.reduceToNat, Nat.reduceSub, Nat.reduceMul]
          refine r_cN hk169 ?_
          refine sem_ifh rfl h ?_ ?_ <;> clear h <;> intro h
          · refine r_skip (r_cN hk168 ?_)
            refine sem_cut fun k170 hk170 => sem_blk fun k171 hk171 => ?_
            obtain ⟨v128, c172H, h⟩ := bind_some' h
            obtain ⟨v129, c173H, h⟩ := bind_some' h
            repeat' (first | with_reducible refine And.intro ?_ ?_ | ((with_reducible refine i_call (n := 39) ?_); refine call_open [[0]] ?_) | ((with_reducible refine i_callW (n := 39) ?_); refine callW_use (con_spec_l26Rd_pick (⟨v115, v116⟩ : l26Rd) 14 v128 c172H) ?_; rintro x σ' ⟨rfl, rfl⟩ <;> ((with_reducible refine behind_go ?_))) | ((with_reducible refine i_call (n := 92) ?_); refine call_open [[0], [0, 0], [0, 1]] ?_) | ((with_reducible refine i_callW (n := 92) ?_); refine callW_use (con_spec_l11Play_rung_1 (⟨v128.2, v117, v118, v119, v120, v121⟩ : l11Play) v128.1 v129 c173H) ?_; rintro x σ' ⟨rfl, rfl⟩ <;> ((with_reducible refine behind_go ?_))) | exact True.intro | with_reducible assumption | exact fun hf => False.elim hf | (intro hg; first | (simp +contextual [hg]; done) | grind) | omega | simp (decide := true) only [go_sem, reduceIte, Nat.reduceAdd, Int.reduceToNat, Nat.reduceSub, Nat.reduceMul])
            refine r_bN hk171 (r_cN hk170 ?_)
            simp (decide := true) only [go_sem, reduceIte, Nat.reduceAdd, Int.reduceToNat, Nat.reduceSub, Nat.reduceMul]
            obtain rfl := Option.some.inj h
            subst hkq167
            refine r_backP (.a) (v129.r.b, v129.r.p, v129.out, v129.bits, v129.forks, v129.base, v129.fresh, (IntKind.i64.wrap (v122 - 1))) rfl rfl ⟨?_, trivial⟩ (hIq167 _ rfl)
            first | exact wkSt_same rfl | (simp (decide := true) only [go_sem, reduceIte, Nat.reduceAdd, Int.reduceToNat, Nat.reduceSub, Nat.reduceMul]; exact wkSt_same rfl)
          · refine r_exit (r_cE hk168 ?_)
            obtain rfl := Option.some.inj h
            obtain rfl := hEq167 _ rfl
            have h := hKq167
            try simp only [Sum.elim_inl, Sum.elim_inr] at h
            refine r_kE hkq167 (r_bE hk148 ?_)
            refine r_joinU J144 [0, 3] (.a) (v115, v116, v117, v118, v119, v120, v121) rfl rfl ⟨?_, ⟨trivial, h⟩⟩
            first | exact wkSt_same rfl | (simp (decide := true) only [go_sem, reduceIte, Nat.reduceAdd, Int.reduceToNat, Nat.reduceSub, Nat.reduceMul]; exact wkSt_same rfl)
        · replace hp : v117 = [] := hp
          subst hp
          simp only [spec_l11Sure_s17] at h
          try simp only [List.nil_append, List.length_nil, Int.natCast_zero] at h
          refine sem_cut fun k174 hk174 => sem_cut fun k175 hk175 => ?_
          simp (decide := true) only [go_sem, reduceIte, Nat.reduceAdd, Int.reduceToNat, Nat.reduceSub, Nat.reduceMul]
          refine r_cN hk175 ?_
          refine sem_ifh rfl h ?_ ?_ <;> clear h <;> intro h
          · refine r_skip (r_cN hk174 ?_)
            refine sem_cut fun k176 hk176 => sem_blk fun k177 hk177 => ?_
            obtain ⟨v130, c178H, h⟩ := bind_some' h
            obtain ⟨v131, c179H, h⟩ := bind_some' h
            repeat' (first | with_reducible refine And.intro ?_ ?_ | ((with_reducible refine i_call (n := 39) ?_); refine call_open [[0]] ?_) | ((with_reducible refine i_callW (n := 39) ?_); refine callW_use (con_spec_l26Rd_pick (⟨v115, v116⟩ : l26Rd) 14 v130 c178H) ?_; rintro x σ' ⟨rfl, rfl⟩ <;> ((with_reducible refine behind_go ?_))) | ((with_reducible refine i_call (n := 92) ?_); refine call_open [[0], [0, 0]] ?_) | ((with_reducible refine i_callW (n := 92) ?_); refine callW_use (con_spec_l11Play_rung (⟨v130.2, [], v118, v119, v120, v121⟩ : l11Play) v130.1 v131 c179H rfl) ?_; rintro x σ' ⟨rfl, rfl⟩ <;> ((with_reducible refine behind_go ?_))) | exact True.intro | with_reducible assumption | exact fun hf => False.elim hf | (intro hg; first | (simp +contextual [hg]; done) | grind) | omega | simp (decide := true) only [go_sem, reduceIte, Nat.reduceAdd, Int.reduceToNat, Nat.reduceSub, Nat.reduceMul])
            refine r_bN hk177 (r_cN hk176 ?_)
            simp (decide := true) only [go_sem, reduceIte, Nat.reduceAdd, Int.reduceToNat, Nat.reduceSub, Nat.reduceMul]
            obtain rfl := Option.some.inj h
            subst hkq167
            refine r_backP (.a) (v131.r.b, v131.r.p, v131.out, v131.bits, v131.forks, v131.base, v131.fresh, (IntKind.i64.wrap (v122 - 1))) rfl rfl ⟨?_, trivial⟩ (hIq167 _ rfl)
            first | exact wkSt_same rfl | (simp (decide := true) only [go_sem, reduceIte, Nat.reduceAdd, Int.reduceToNat, Nat.reduceSub, Nat.reduceMul]; exact wkSt_same rfl)
          · refine r_exit (r_cE hk174 ?_)
            obtain rfl := Option.some.inj h
            obtain rfl := hEq167 _ rfl
            have h := hKq167
            try simp only [Sum.elim_inl, Sum.elim_inr] at h
            refine r_kE hkq167 (r_bE hk148 ?_)
            refine r_joinU J144 [0, 3] (.b) (v115, v116, [], v118, v119, v120, v121) rfl rfl ⟨?_, ⟨rfl, h⟩⟩
            first | exact wkSt_same rfl | (simp (decide := true) only [go_sem, reduceIte, Nat.reduceAdd, Int.reduceToNat, Nat.reduceSub, Nat.reduceMul]; exact wkSt_same rfl)
noncomputable def spec_l11Inst (v1 : l26Rd) : Option (Inst × l26Rd) :=
  (Option.bind (spec_l26Rd_num v1 [1, 1, 1, 2, 2, 2, 3, 3, 4, 5, 6, 7, 8, 9, 10, 10, 10, 11]) fun v2 => (cond (decide (v2.1 ≤ 3)) (Option.bind (spec_l4Contact v2.2) fun v3 => (some ((⟨v2.1, v3.1.Op, v3.1.Args⟩ : Inst), v3.2))) (cond (v2.1 == 10) (Option.bind (spec_l4Coil v2.2) fun v4 => (some ((⟨v2.1, v4.1.Op, v4.1.Args⟩ : Inst), v4.2))) (some ((⟨v2.1, 0, []⟩ : Inst), v2.2)))))
set_option maxRecDepth 10000 in
set_option maxHeartbeats 4000000 in
theorem con_spec_l11Inst (v1 : l26Rd) (res_ : (Inst × l26Rd)) (h : spec_l11Inst v1 = some res_) : Con Try.prog C0 70 [.pt 0 0] [.rc [.fz 1 (R e_u8 (v1.b)), .sc (.int .i64 (v1.p))]]
    (fun x σ' => x = .agg [.sc (.int .i64 (res_.1.Code)), .sc (.int .i64 (res_.1.One_Op)), .fz 3 (R e_DevArg (res_.1.One_Args))] ∧ σ' = [.rc [.fz 1 (R e_u8 (res_.2.b)), .sc (.int .i64 (res_.2.p))]]) := by
  refine con_of_sem hP [0, 2, 3, 7, 14] [.cell 2 56] Try.func70 (by unfold Try.f70; rfl) rfl rfl (Nat.le_of_ble_eq_true rfl) rfl ?_
  simp only [enter_cons, enter_nil, List.length_cons, List.length_nil, Nat.reduceAdd]
  generalize hQ : endQ _ _ _ _ = Q
  unfold spec_l11Inst at h
  refine sem_cut fun k1 hk1 => ?_
  simp (decide := true) only [go_sem, reduceIte, Nat.reduceAdd, Int.reduceToNat, Nat.reduceSub, Nat.reduceMul]
  refine r_cN hk1 (sem_cut fun k2 hk2 => ?_)
  obtain ⟨v2, c3H, h⟩ := bind_some' h
  repeat' (first | with_reducible refine And.intro ?_ ?_ | ((with_reducible refine i_call (n := 89) ?_); refine call_open [[0]] ?_) | ((with_reducible refine i_callW (n := 89) ?_); refine callW_use (con_spec_l26Rd_num v1 [1, 1, 1, 2, 2, 2, 3, 3, 4, 5, 6, 7, 8, 9, 10, 10, 10, 11] v2 c3H) ?_; rintro x σ' ⟨rfl, rfl⟩ <;> ((with_reducible refine behind_go ?_))) | exact True.intro | with_reducible assumption | exact fun hf => False.elim hf | (intro hg; first | (simp +contextual [hg]; done) | grind) | omega | simp (decide := true) only [go_sem, reduceIte, Nat.reduceAdd, Int.reduceToNat, Nat.reduceSub, Nat.reduceMul])
  refine r_cN hk2 (sem_cut fun k4 hk4 => ?_)
  refine sem_blk fun k5 hk5 => sem_cut fun k6 hk6 => ?_
  simp (decide := true) only [go_sem, reduceIte, Nat.reduceAdd, Int.reduceToNat, Nat.reduceSub, Nat.reduceMul]
  refine r_cN hk6 ?_
  refine sem_ifh rfl h ?_ ?_ <;> clear h <;> intro h
  · refine sem_cut fun k7 hk7 => ?_
    obtain ⟨v3, c8H, h⟩ := bind_some' h
    repeat' (first | with_reducible refine And.intro ?_ ?_ | ((with_reducible refine i_call (n := 87) ?_); refine call_open [[0]] ?_) | ((with_reducible refine i_callW (n := 87) ?_); refine callW_use (con_spec_l4Contact v2.2 v3 c8H) ?_; rintro x σ' ⟨rfl, rfl⟩ <;> ((with_reducible refine behind_go ?_))) | exact True.intro | with_reducible assumption | exact fun hf => False.elim hf | (intro hg; first | (simp +contextual [hg]; done) | grind) | omega | simp (decide := true) only [go_sem, reduceIte, Nat.reduceAdd, Int.reduceToNat, Nat.reduceSub, Nat.reduceMul])
    refine r_cN hk7 (r_ret ?_)
    refine r_bR hk5 (r_cR hk4 ?_)
    obtain rfl := Option.some.inj h
    refine r_eAR hQ rfl rfl ?_
    simp (decide := true) only [go_sem, reduceIte, Nat.reduceAdd, Int.reduceToNat, Nat.reduceSub, Nat.reduceMul]
    repeat' (with_reducible refine And.intro ?_ ?_)
    all_goals first | exact wkEnd_same ⟨rfl, rfl⟩ | exact True.intro
  · refine sem_cut fun k9 hk9 => ?_
    simp (decide := true) only [go_sem, reduceIte, Nat.reduceAdd, Int.reduceToNat, Nat.reduceSub, Nat.reduceMul]
    refine r_cN hk9 ?_
    refine sem_ifh rfl h ?_ ?_ <;> clear h <;> intro h
    · refine sem_cut fun k10 hk10 => ?_
      obtain ⟨v4, c11H, h⟩ := bind_some' h
      repeat' (first | with_reducible refine And.intro ?_ ?_ | ((with_reducible refine i_call (n := 88) ?_); refine call_open [[0]] ?_) | ((with_reducible refine i_callW (n := 88) ?_); refine callW_use (con_spec_l4Coil v2.2 v4 c11H) ?_; rintro x σ' ⟨rfl, rfl⟩ <;> ((with_reducible refine behind_go ?_))) | exact True.intro | with_reducible assumption | exact fun hf => False.elim hf | (intro hg; first | (simp +contextual [hg]; done) | grind) | omega | simp (decide := true) only [go_sem, reduceIte, Nat.reduceAdd, Int.reduceToNat, Nat.reduceSub, Nat.reduceMul])
      refine r_cN hk10 (r_ret ?_)
      refine r_bR hk5 (r_cR hk4 ?_)
      obtain rfl := Option.some.inj h
      refine r_eAR hQ rfl rfl ?_
      simp (decide := true) only [go_sem, reduceIte, Nat.reduceAdd, Int.reduceToNat, Nat.reduceSub, Nat.reduceMul]
      repeat' (with_reducible refine And.intro ?_ ?_)
      all_goals first | exact wkEnd_same ⟨rfl, rfl⟩ | exact True.intro
    · refine r_skip (r_bN hk5 ?_)
      refine r_cN hk4 (sem_cut fun k12 hk12 => ?_)
      simp (decide := true) only [go_sem, reduceIte, Nat.reduceAdd, Int.reduceToNat, Nat.reduceSub, Nat.reduceMul]
      refine r_cN hk12 (r_ret ?_)
      obtain rfl := Option.some.inj h
      refine r_eAR hQ rfl rfl ?_
      simp (decide := true) only [go_sem, reduceIte, Nat.reduceAdd, Int.reduceToNat, Nat.reduceSub, Nat.reduceMul]
      repeat' (with_reducible refine And.intro ?_ ?_)
      all_goals first | exact True.intro | (refine wkEnd_mk ?_ ?_ (⟨rfl, rfl⟩) <;> repeat' (first | exact wkE_nil | (with_reducible apply wkE_cons) | exact wkC_nil _ | exact wkV_nil _ | exact wkA_nil _ | (with_reducible apply wkV_agg) | (with_reducible apply wkV_tup) | (with_reducible apply wkA_agg) | exact wkA_refl _ | exact wkV_refl _ | exact wkS_nil | (with_reducible apply wkS_cons) | (with_reducible apply wkO_rc) | (with_reducible apply wkO_arr) | exact wkO_refl _ | exact wkL_nil | (with_reducible apply wkL_cons) | exact wkC_refl _ | exact wkT_nil | (with_reducible apply wkT_cons) | (with_reducible apply wkR_appR) | (with_reducible apply wkR_consR) | exact wkR_nilR _ | exact wkR_refl _))
noncomputable def spec_l2Spoilt_j3 : ((List Int) × Int × Int × Int × Int) → Option (DevArg × l26Rd)
  | (v9, v10, v11, v12, v13) => (some ((⟨v11, v12, v13⟩ : DevArg), (⟨v9, v10⟩ : l26Rd)))
noncomputable def spec_l2Spoilt (v1 : l26Rd) (v2 : DevArg) : Option (DevArg × l26Rd) :=
  (Option.bind (spec_l26Rd_pick v1 6) fun v14 => (cond (v14.1 == 0) (Option.bind (spec_l26Rd_pick v14.2 16) fun v15 => (spec_l2Spoilt_j3 (v15.2.b, v15.2.p, (IntKind.i64.wrap (v15.1 - 1)), v2.N, v2.P))) (cond (v14.1 == 1) (Option.bind (spec_l26Rd_num v14.2 [(-1), 4, 5, 15, 16, 31, 32, 63, 64, 255, 32768, (-32769), 1000000000, (-1000000000), 20, 10]) fun v16 => (spec_l2Spoilt_j3 (v16.2.b, v16.2.p, v2.Kind, v16.1, v2.P))) (cond (v14.1 == 2) (Option.bind (spec_l26Rd_num v14.2 [(-1), 0, 1, 6, 7]) fun v17 => (spec_l2Spoilt_j3 (v17.2.b, v17.2.p, v2.Kind, v2.N, v17.1))) (cond (v14.1 == 3) (Option.bind (spec_DevSize v2.Kind) fun v18 => (spec_l2Spoilt_j3 (v14.2.b, v14.2.p, v2.Kind, v18, v2.P))) (cond (v14.1 == 4) (Option.bind (spec_DevSize v2.Kind) fun v19 => (spec_l2Spoilt_j3 (v14.2.b, v14.2.p, v2.Kind, (IntKind.i64.wrap (v19 - 1)), v2.P))) (spec_l2Spoilt_j3 (v14.2.b, v14.2.p, v2.Kind, (IntKind.i64.wrap (0 - v2.N)), v2.P))))))))
set_option maxRecDepth 10000 in
set_option maxHeartbeats 4000000 in
theorem con_spec_l2Spoilt (v1 : l26Rd) (v2 : DevArg) (res_ : (DevArg × l26Rd)) (h : spec_l2Spoilt v1 v2 = some res_) : Con Try.prog C0 105 [.pt 0 0, .agg [.sc (.int .i64 (v2.Kind)), .sc (.int .i64 (v2.N)), .sc (.int .i64 (v2.P))]] [.rc [.fz 1 (R e_u8 (v1.b)), .sc (.int .i64 (v1.p))]]
    (fun x σ' => x = .agg [.sc (.int .i64 (res_.1.Kind)), .sc (.int .i64 (res_.1.N)), .sc (.int .i64 (res_.1.P))] ∧ σ' = [.rc [.fz 1 (R e_u8 (res_.2.b)), .sc (.int .i64 (res_.2.p))]]) := by
  refine con_of_sem hP [0, 1, 3, 4, 6, 11, 17, 23, 29, 35] [.cell 4 85] Try.func105 (by unfold Try.f105; rfl) rfl rfl (Nat.le_of_ble_eq_true rfl) rfl ?_
  simp only [enter_cons, enter_nil, List.length_cons, List.length_nil, Nat.reduceAdd]
  generalize hQ : endQ _ _ _ _ = Q
  unfold spec_l2Spoilt at h
  refine sem_cut fun k1 hk1 => ?_
  simp (decide := true) only [go_sem, reduceIte, Nat.reduceAdd, Int.reduceToNat, Nat.reduceSub, Nat.reduceMul]
  refine r_cN hk1 (sem_cutJ (fun (_ : Unit) (x : ((List Int) × Int × Int × Int × Int)) => (⟨[(3, .pt 1 0), (4, .pt 2 0)], [.rc [.fz 1 (R e_u8 (x.1)), .sc (.int .i64 (x.2.1))], .rc [.sc (.int .i64 (x.2.2.1)), .sc (.int .i64 (x.2.2.2.1)), .sc (.int .i64 (x.2.2.2.2))], .rc [.sc (.int .i64 (0)), .sc (.int .i64 (0)), .sc (.int .i64 (0))]]⟩ : St)) (fun (_ : Unit) (x : ((List Int) × Int × Int × Int × Int)) => spec_l2Spoilt_j3 x = some res_) ?_ ?_)
  · rintro _ ⟨v9, v10, v11, v12, v13⟩ h
    simp only [spec_l2Spoilt_j3] at h
    refine sem_cut fun k15 hk15 => ?_
    simp (decide := true) only [go_sem, reduceIte, Nat.reduceAdd, Int.reduceToNat, Nat.reduceSub, Nat.reduceMul]
    refine r_cN hk15 (r_ret ?_)
    obtain rfl := Option.some.inj h
    refine r_eAR hQ rfl rfl ?_
    simp (decide := true) only [go_sem, reduceIte, Nat.reduceAdd, Int.reduceToNat, Nat.reduceSub, Nat.reduceMul]
    repeat' (with_reducible refine And.intro ?_ ?_)
    all_goals first | exact wkEnd_same ⟨rfl, rfl⟩ | exact True.intro
  · intro k17 hk17 J16
    refine sem_cut fun k18 hk18 => ?_
    obtain ⟨v14, c19H, h⟩ := bind_some' h
    repeat' (first | with_reducible refine And.intro ?_ ?_ | ((with_reducible refine i_call (n := 39) ?_); refine call_open [[0]] ?_) | ((with_reducible refine i_callW (n := 39) ?_); refine callW_use (con_spec_l26Rd_pick v1 6 v14 c19H) ?_; rintro x σ' ⟨rfl, rfl⟩ <;> ((with_reducible refine behind_go ?_))) | exact True.intro | with_reducible assumption | exact fun hf => False.elim hf | (intro hg; first | (simp +contextual [hg]; done) | grind) | omega | simp (decide := true) only [go_sem, reduceIte, Nat.reduceAdd, Int.reduceToNat, Nat.reduceSub, Nat.reduceMul])
    refine r_cN hk18 (sem_blk fun k20 hk20 => ?_)
    refine sem_cut fun k21 hk21 => ?_
    simp (decide := true) only [go_sem, reduceIte, Nat.reduceAdd, Int.reduceToNat, Nat.reduceSub, Nat.reduceMul]
    refine r_cN hk21 ?_
    refine sem_ifh rfl h ?_ ?_ <;> clear h <;> intro h
    · obtain ⟨v15, c22H, h⟩ := bind_some' h
      repeat' (first | with_reducible refine And.intro ?_ ?_ | ((with_reducible refine i_call (n := 39) ?_); refine call_open [[0]] ?_) | ((with_reducible refine i_callW (n := 39) ?_); refine callW_use (con_spec_l26Rd_pick v14.2 16 v15 c22H) ?_; rintro x σ' ⟨rfl, rfl⟩ <;> ((with_reducible refine behind_go ?_))) | exact True.intro | with_reducible assumption | exact fun hf => False.elim hf | (intro hg; first | (simp +contextual [hg]; done) | grind) | omega | simp (decide := true) only [go_sem, reduceIte, Nat.reduceAdd, Int.reduceToNat, Nat.reduceSub, Nat.reduceMul])
      refine r_bN hk20 (r_joinU J16 [3, 4] () _ rfl rfl ⟨?_, h⟩)
      first | exact wkSt_same rfl | (simp (decide := true) only [go_sem, reduceIte, Nat.reduceAdd, Int.reduceToNat, Nat.reduceSub, Nat.reduceMul]; exact wkSt_same rfl)
    · refine sem_cut fun k23 hk23 => ?_
      simp (decide := true) only [go_sem, reduceIte, Nat.reduceAdd, Int.reduceToNat, Nat.reduceSub, Nat.reduceMul]
      refine r_cN hk23 ?_
      refine sem_ifh rfl h ?_ ?_ <;> clear h <;> intro h
      · obtain ⟨v16, c24H, h⟩ := bind_some' h
        repeat' (first | with_reducible refine And.intro ?_ ?_ | ((with_reducible refine i_call (n := 89) ?_); refine call_open [[0]] ?_) | ((with_reducible refine i_callW (n := 89) ?_); refine callW_use (con_spec_l26Rd_num v14.2 [(-1), 4, 5, 15, 16, 31, 32, 63, 64, 255, 32768, (-32769), 1000000000, (-1000000000), 20, 10] v16 c24H) ?_; rintro x σ' ⟨rfl, rfl⟩ <;> ((with_reducible refine behind_go ?_))) | exact True.intro | with_reducible assumption | exact fun hf => False.elim hf | (intro hg; first | (simp +contextual [hg]; done) | grind) | omega | simp (decide := true) only [go_sem, reduceIte, Nat.reduceAdd, Int.reduceToNat, Nat.reduceSub, Nat.reduceMul])
        refine r_bN hk20 (r_joinU J16 [3, 4] () _ rfl rfl ⟨?_, h⟩)
        first | exact wkSt_same rfl | (simp (decide := true) only [go_sem, reduceIte, Nat.reduceAdd, Int.reduceToNat, Nat.reduceSub, Nat.reduceMul]; exact wkSt_same rfl)
      · refine sem_cut fun k25 hk25 => ?_
        simp (decide := true) only [go_sem, reduceIte, Nat.reduceAdd, Int.reduceToNat, Nat.reduceSub, Nat.reduceMul]
        refine r_cN hk25 ?_
        refine sem_ifh rfl h ?_ ?_ <;> clear h <;> intro h
        · obtain ⟨v17, c26H, h⟩ := bind_some' h
          repeat' (first | with_reducible refine And.intro ?_ ?_ | ((with_reducible refine i_call (n := 89) ?_); refine call_open [[0]] ?_) | ((with_reducible refine i_callW (n := 89) ?_); refine callW_use (con_spec_l26Rd_num v14.2 [(-1), 0, 1, 6, 7] v17 c26H) ?_; rintro x σ' ⟨rfl, rfl⟩ <;> ((with_reducible refine behind_go ?_))) | exact True.intro | with_reducible assumption | exact fun hf => False.elim hf | (intro hg; first | (simp +contextual [hg]; done) | grind) | omega | simp (decide := true) only [go_sem, reduceIte, Nat.reduceAdd, Int.reduceToNat, Nat.reduceSub, Nat.reduceMul])
          refine r_bN hk20 (r_joinU J16 [3, 4] () _ rfl rfl ⟨?_, h⟩)
          first | exact wkSt_same rfl | (simp (decide := true) only [go_sem, reduceIte, Nat.reduceAdd, Int.reduceToNat, Nat.reduceSub, Nat.reduceMul]; exact wkSt_same rfl)
        · refine sem_cut fun k27 hk27 => ?_
          simp (decide := true) only [go_sem, reduceIte, Nat.reduceAdd, Int.reduceToNat, Nat.reduceSub, Nat.reduceMul]
          refine r_cN hk27 ?_
          refine sem_ifh rfl h ?_ ?_ <;> clear h <;> intro h
          · obtain ⟨v18, c28H, h⟩ := bind_some' h
            repeat' (first | with_reducible refine And.intro ?_ ?_ | ((with_reducible refine i_call (n := 116) ?_); refine call_openF [] ?_) | ((with_reducible refine i_callW (n := 116) ?_); refine callW_use (con_spec_DevSize v2.Kind v18 c28H) ?_; rintro x σ' ⟨rfl, rfl⟩ <;> ((refine ⟨?_, ?_⟩; (focus simp (decide := true) only [go_sem, reduceIte, Nat.reduceAdd, Int.reduceToNat, Nat.reduceSub, Nat.reduceMul])); (with_reducible refine behind_go ?_))) | exact True.intro | with_reducible assumption | exact fun hf => False.elim hf | (intro hg; first | (simp +contextual [hg]; done) | grind) | omega | simp (decide := true) only [go_sem, reduceIte, Nat.reduceAdd, Int.reduceToNat, Nat.reduceSub, Nat.reduceMul])
            refine r_bN hk20 (r_joinU J16 [3, 4] () _ rfl rfl ⟨?_, h⟩)
            first | exact wkSt_same rfl | (simp (decide := true) only [go_sem, reduceIte, Nat.reduceAdd, Int.reduceToNat, Nat.reduceSub, Nat.reduceMul]; exact wkSt_same rfl)
          · refine sem_cut fun k29 hk29 => ?_
            simp (decide := true) only [go_sem, reduceIte, Nat.reduceAdd, Int.reduceToNat, Nat.reduceSub, Nat.reduceMul]
            refine r_cN hk29 ?_
            refine sem_ifh rfl h ?_ ?_ <;> clear h <;> intro h
            · obtain ⟨v19, c30H, h⟩ := bind_some' h
              repeat' (first | with_reducible refine And.intro ?_ ?_ | ((with_reducible refine i_call (n := 116) ?_); refine call_openF [] ?_) | ((with_reducible refine i_callW (n := 116) ?_); refine callW_use (con_spec_DevSize v2.Kind v19 c30H) ?_; rintro x σ' ⟨rfl, rfl⟩ <;> ((refine ⟨?_, ?_⟩; (focus simp (decide := true) only [go_sem, reduceIte, Nat.reduceAdd, Int.reduceToNat, Nat.reduceSub, Nat.reduceMul])); (with_reducible refine behind_go ?_))) | exact True.intro | with_reducible assumption | exact fun hf => False.elim hf | (intro hg; first | (simp +contextual [hg]; done) | grind) | omega | simp (decide := true) only [go_sem, reduceIte, Nat.reduceAdd, Int.reduceToNat, Nat.reduceSub, Nat.reduceMul])
              refine r_bN hk20 (r_joinU J16 [3, 4] () _ rfl rfl ⟨?_, h⟩)
              first | exact wkSt_same rfl | (simp (decide := true) only [go_sem, reduceIte, Nat.reduceAdd, Int.reduceToNat, Nat.reduceSub, Nat.reduceMul]; exact wkSt_same rfl)
            · simp (decide := true) only [go_sem, reduceIte, Nat.reduceAdd, Int.reduceToNat, Nat.reduceSub, Nat.reduceMul]
              refine r_bN hk20 (r_joinU J16 [3, 4] () _ rfl rfl ⟨?_, h⟩)
              first | exact wkSt_same rfl | (simp (decide := true) only [go_sem, reduceIte, Nat.reduceAdd, Int.reduceToNat, Nat.reduceSub, Nat.reduceMul]; exact wkSt_same rfl)
noncomputable def spec_l2Any (v1 : l26Rd) : Option (DevArg × l26Rd) :=
  (Option.bind (spec_l26Rd_pick v1 13) fun v2 => (Option.bind (spec_l2Arg v2.2 (IntKind.i64.wrap (1 + v2.1))) fun v3 => (Option.bind (spec_l26Rd_pick v3.2 20) fun v4 => (cond (v4.1 == 0) (Option.bind (spec_l2Spoilt v4.2 v3.1) fun v5 => (some (v5.1, v5.2))) (some (v3.1, v4.2))))))
set_option maxRecDepth 10000 in
set_option maxHeartbeats 4000000 in
theorem con_spec_l2Any (v1 : l26Rd) (res_ : (DevArg × l26Rd)) (h : spec_l2Any v1 = some res_) : Con Try.prog C0 104 [.pt 0 0] [.rc [.fz 1 (R e_u8 (v1.b)), .sc (.int .i64 (v1.p))]]
    (fun x σ' => x = .agg [.sc (.int .i64 (res_.1.Kind)), .sc (.int .i64 (res_.1.N)), .sc (.int .i64 (res_.1.P))] ∧ σ' = [.rc [.fz 1 (R e_u8 (res_.2.b)), .sc (.int .i64 (res_.2.p))]]) := by
  refine con_of_sem hP [0, 2, 3, 11] [.cell 2 85] Try.func104 (by unfold Try.f104; rfl) rfl rfl (Nat.le_of_ble_eq_true rfl) rfl ?_
  simp only [enter_cons, enter_nil, List.length_cons, List.length_nil, Nat.reduceAdd]
  generalize hQ : endQ _ _ _ _ = Q
  unfold spec_l2Any at h
  refine sem_cut fun k1 hk1 => ?_
  simp (decide := true) only [go_sem, reduceIte, Nat.reduceAdd, Int.reduceToNat, Nat.reduceSub, Nat.reduceMul]
  refine r_cN hk1 (sem_cut fun k2 hk2 => ?_)
  obtain ⟨v2, c3H, h⟩ := bind_some' h
  obtain ⟨v3, c4H, h⟩ := bind_some' h
  repeat' (first | with_reducible refine And.intro ?_ ?_ | ((with_reducible refine i_call (n := 39) ?_); refine call_open [[0]] ?_) | ((with_reducible refine i_callW (n := 39) ?_); refine callW_use (con_spec_l26Rd_pick v1 13 v2 c3H) ?_; rintro x σ' ⟨rfl, rfl⟩ <;> ((with_reducible refine behind_go ?_))) | ((with_reducible refine i_call (n := 101) ?_); refine call_open [[0]] ?_) | ((with_reducible refine i_callW (n := 101) ?_); refine callW_use (con_spec_l2Arg v2.2 (IntKind.i64.wrap (1 + v2.1)) v3 c4H) ?_; rintro x σ' ⟨rfl, rfl⟩ <;> ((with_reducible refine behind_go ?_))) | exact True.intro | with_reducible assumption | exact fun hf => False.elim hf | (intro hg; first | (simp +contextual [hg]; done) | grind) | omega | simp (decide := true) only [go_sem, reduceIte, Nat.reduceAdd, Int.reduceToNat, Nat.reduceSub, Nat.reduceMul])
  refine r_cN hk2 (sem_cut fun k5 hk5 => ?_)
  refine sem_cut fun k6 hk6 => ?_
  obtain ⟨v4, c7H, h⟩ := bind_some' h
  repeat' (first | with_reducible refine And.intro ?_ ?_ | ((with_reducible refine i_call (n := 39) ?_); refine call_open [[0]] ?_) | ((with_reducible refine i_callW (n := 39) ?_); refine callW_use (con_spec_l26Rd_pick v3.2 20 v4 c7H) ?_; rintro x σ' ⟨rfl, rfl⟩ <;> ((with_reducible refine behind_go ?_))) | exact True.intro | with_reducible assumption | exact fun hf => False.elim hf | (intro hg; first | (simp +contextual [hg]; done) | grind) | omega | simp (decide := true) only [go_sem, reduceIte, Nat.reduceAdd, Int.reduceToNat, Nat.reduceSub, Nat.reduceMul])
  refine r_cN hk6 ?_
  refine sem_ifh rfl h ?_ ?_ <;> clear h <;> intro h
  · refine sem_cut fun k8 hk8 => ?_
    obtain ⟨v5, c9H, h⟩ := bind_some' h
    repeat' (first | with_reducible refine And.intro ?_ ?_ | ((with_reducible refine i_call (n := 105) ?_); refine call_open [[0]] ?_) | ((with_reducible refine i_callW (n := 105) ?_); refine callW_use (con_spec_l2Spoilt v4.2 v3.1 v5 c9H) ?_; rintro x σ' ⟨rfl, rfl⟩ <;> ((with_reducible refine behind_go ?_))) | exact True.intro | with_reducible assumption | exact fun hf => False.elim hf | (intro hg; first | (simp +contextual [hg]; done) | grind) | omega | simp (decide := true) only [go_sem, reduceIte, Nat.reduceAdd, Int.reduceToNat, Nat.reduceSub, Nat.reduceMul])
    refine r_cN hk8 (r_ret ?_)
    refine r_cR hk5 ?_
    obtain rfl := Option.some.inj h
    refine r_eAR hQ rfl rfl ?_
    simp (decide := true) only [go_sem, reduceIte, Nat.reduceAdd, Int.reduceToNat, Nat.reduceSub, Nat.reduceMul]
    repeat' (with_reducible refine And.intro ?_ ?_)
    all_goals first | exact wkEnd_same ⟨rfl, rfl⟩ | exact True.intro
  · refine r_skip (r_cN hk5 ?_)
    refine sem_cut fun k10 hk10 => ?_
    simp (decide := true) only [go_sem, reduceIte, Nat.reduceAdd, Int.reduceToNat, Nat.reduceSub, Nat.reduceMul]
    refine r_cN hk10 (r_ret ?_)
    obtain rfl := Option.some.inj h
    refine r_eAR hQ rfl rfl ?_
    simp (decide := true) only [go_sem, reduceIte, Nat.reduceAdd, Int.reduceToNat, Nat.reduceSub, Nat.reduceMul]
    repeat' (with_reducible refine And.intro ?_ ?_)
    all_goals first | exact wkEnd_same ⟨rfl, rfl⟩ | exact True.intro
noncomputable def spec_l4Spoil_j28 (v2 : Elem) : ((List Int) × Int × (List DevArg)) → Option (Elem × l26Rd)
  | (v12, v13, v14) => (some ((⟨v2.Op, v14⟩ : Elem), (⟨v12, v13⟩ : l26Rd)))
noncomputable def spec_l4Spoil (v1 : l26Rd) (v2 : Elem) : Option (Elem × l26Rd) :=
  (gd (apOk (v2.Args).length 24) (Option.bind (spec_l26Rd_pick v1 6) fun v3 => (cond (v3.1 == 0) (Option.bind (spec_l26Rd_num v3.2 [(-1), 0, 1, 5, 11, 20, 21, 26, 37, 38]) fun v4 => (some ((⟨v4.1, v2.Args⟩ : Elem), v4.2))) (cond (v3.1 == 1) (Option.bind (spec_l2Any v3.2) fun v5 => (gd (apOk ((v2.Args ++ [v5.1])).length 24) (some ((⟨v2.Op, (v2.Args ++ [v5.1])⟩ : Elem), v5.2)))) (cond (v3.1 == 2) (some ((⟨v2.Op, []⟩ : Elem), v3.2)) (cond (decide ((((v2.Args).length : Nat) : Int) > 0)) (Option.bind (spec_l26Rd_pick v3.2 (((v2.Args).length : Nat) : Int)) fun v15 => (Option.bind (idx v2.Args (v15.1)) fun v16 => (Option.bind (spec_l2Spoilt v15.2 v16) fun v17 => (Option.bind (spec_l26Rd_pick v17.2 2) fun v18 => (cond (v18.1 == 0) (Option.bind (spec_l2Any v18.2) fun v19 => (Option.bind (idx ((v2.Args).set (v15.1).toNat v17.1) (v15.1)) fun v20 => (spec_l4Spoil_j28 v2 (v19.2.b, v19.2.p, ((((v2.Args).set (v15.1).toNat v17.1)).set (v15.1).toNat v19.1))))) (spec_l4Spoil_j28 v2 (v18.2.b, v18.2.p, ((v2.Args).set (v15.1).toNat v17.1)))))))) (spec_l4Spoil_j28 v2 (v3.2.b, v3.2.p, v2.Args))))))))
set_option maxRecDepth 10000 in
set_option maxHeartbeats 4000000 in
theorem con_spec_l4Spoil (v1 : l26Rd) (v2 : Elem) (res_ : (Elem × l26Rd)) (h : spec_l4Spoil v1 v2 = some res_) : Con Try.prog C0 90 [.pt 0 0, .agg [.sc (.int .i64 (v2.Op)), .fz 3 (R e_DevArg (v2.Args))]] [.rc [.fz 1 (R e_u8 (v1.b)), .sc (.int .i64 (v1.p))]]
    (fun x σ' => x = .agg [.sc (.int .i64 (res_.1.Op)), .fz 3 (R e_DevArg (res_.1.Args))] ∧ σ' = [.rc [.fz 1 (R e_u8 (res_.2.b)), .sc (.int .i64 (res_.2.p))]]) := by
  refine con_of_sem hP [0, 1, 3, 4, 5, 6, 12, 13, 20, 30, 37, 53] [.cell 4 54] Try.func90 (by unfold Try.f90; rfl) rfl rfl (Nat.le_of_ble_eq_true rfl) rfl ?_
  simp only [enter_cons, enter_nil, List.length_cons, List.length_nil, Nat.reduceAdd]
  generalize hQ : endQ _ _ _ _ = Q
  unfold spec_l4Spoil at h
  refine sem_cut fun k1 hk1 => ?_
  simp (decide := true) only [go_sem, reduceIte, Nat.reduceAdd, Int.reduceToNat, Nat.reduceSub, Nat.reduceMul]
  refine r_cN hk1 (sem_cut fun k2 hk2 => ?_)
  obtain ⟨g3, h⟩ := gd_some h
  have g3A := apOk_1 g3; have g3B := apOk_2 g3
  repeat' (first | with_reducible refine And.intro ?_ ?_ | exact True.intro | with_reducible assumption | exact fun hf => False.elim hf | (intro hg; first | (simp +contextual [hg]; done) | grind) | omega | simp (decide := true) only [go_sem, reduceIte, Nat.reduceAdd, Int.reduceToNat, Nat.reduceSub, Nat.reduceMul, g3A, g3B])
  refine r_cN hk2 (sem_cut fun k4 hk4 => ?_)
  refine sem_cut fun k5 hk5 => ?_
  obtain ⟨v3, c6H, h⟩ := bind_some' h
  repeat' (first | with_reducible refine And.intro ?_ ?_ | ((with_reducible refine i_call (n := 39) ?_); refine call_open [[0]] ?_) | ((with_reducible refine i_callW (n := 39) ?_); refine callW_use (con_spec_l26Rd_pick v1 6 v3 c6H) ?_; rintro x σ' ⟨rfl, rfl⟩ <;> ((with_reducible refine behind_go ?_))) | exact True.intro | with_reducible assumption | exact fun hf => False.elim hf | (intro hg; first | (simp +contextual [hg]; done) | grind) | omega | simp (decide := true) only [go_sem, reduceIte, Nat.reduceAdd, Int.reduceToNat, Nat.reduceSub, Nat.reduceMul])
  refine r_cN hk5 (sem_blk fun k7 hk7 => ?_)
  refine sem_cut fun k8 hk8 => ?_
  simp (decide := true) only [go_sem, reduceIte, Nat.reduceAdd, Int.reduceToNat, Nat.reduceSub, Nat.reduceMul]
  refine r_cN hk8 ?_
  refine sem_ifh rfl h ?_ ?_ <;> clear h <;> intro h
  · refine sem_cut fun k9 hk9 => ?_
    obtain ⟨v4, c10H, h⟩ := bind_some' h
    repeat' (first | with_reducible refine And.intro ?_ ?_ | ((with_reducible refine i_call (n := 89) ?_); refine call_open [[0]] ?_) | ((with_reducible refine i_callW (n := 89) ?_); refine callW_use (con_spec_l26Rd_num v3.2 [(-1), 0, 1, 5, 11, 20, 21, 26, 37, 38] v4 c10H) ?_; rintro x σ' ⟨rfl, rfl⟩ <;> ((with_reducible refine behind_go ?_))) | exact True.intro | with_reducible assumption | exact fun hf => False.elim hf | (intro hg; first | (simp +contextual [hg]; done) | grind) | omega | simp (decide := true) only [go_sem, reduceIte, Nat.reduceAdd, Int.reduceToNat, Nat.reduceSub, Nat.reduceMul])
    refine r_cN hk9 (r_ret ?_)
    refine r_bR hk7 (r_cR hk4 ?_)
    obtain rfl := Option.some.inj h
    refine r_eAR hQ rfl rfl ?_
    simp (decide := true) only [go_sem, reduceIte, Nat.reduceAdd, Int.reduceToNat, Nat.reduceSub, Nat.reduceMul]
    repeat' (with_reducible refine And.intro ?_ ?_)
    all_goals first | exact wkEnd_same ⟨rfl, rfl⟩ | exact True.intro
  · refine sem_cut fun k11 hk11 => ?_
    simp (decide := true) only [go_sem, reduceIte, Nat.reduceAdd, Int.reduceToNat, Nat.reduceSub, Nat.reduceMul]
    refine r_cN hk11 ?_
    refine sem_ifh rfl h ?_ ?_ <;> clear h <;> intro h
    · refine sem_cut fun k12 hk12 => ?_
      obtain ⟨v5, c13H, h⟩ := bind_some' h
      obtain ⟨g14, h⟩ := gd_some h
      have g14A := apOk_1 g14; have g14B := apOk_2 g14
      with_reducible refine sem_plan (id := 6) (.take 0 (.take 1 (.take 2 (.take 3 (.one 4 (.one 5 (.one 6 (.take 7 (.last 8 .done))))))))) [1] ?_ ?_
      focus kernel_rfl
      repeat' (first | with_reducible refine And.intro ?_ ?_ | ((with_reducible refine i_call (n := 104) ?_); refine call_open [[0]] ?_) | ((with_reducible refine i_callW (n := 104) ?_); refine callW_use (con_spec_l2Any v3.2 v5 c13H) ?_; rintro x σ' ⟨rfl, rfl⟩ <;> ((with_reducible refine behind_go ?_))) | exact True.intro | with_reducible assumption | exact fun hf => False.elim hf | (intro hg; first | (simp +contextual [hg]; done) | grind) | omega | simp (decide := true) only [go_sem, reduceIte, Nat.reduceAdd, Int.reduceToNat, Nat.reduceSub, Nat.reduceMul, g14A, g14B])
      refine r_cN hk12 (r_ret ?_)
      refine r_bR hk7 (r_cR hk4 ?_)
      obtain rfl := Option.some.inj h
      refine r_eAR hQ rfl rfl ?_
      simp (decide := true) only [go_sem, reduceIte, Nat.reduceAdd, Int.reduceToNat, Nat.reduceSub, Nat.reduceMul]
      repeat' (with_reducible refine And.intro ?_ ?_)
      all_goals first | exact wkEnd_same ⟨rfl, rfl⟩ | exact True.intro
    · refine sem_cut fun k15 hk15 => ?_
      simp (decide := true) only [go_sem, reduceIte, Nat.reduceAdd, Int.reduceToNat, Nat.reduceSub, Nat.reduceMul]
      refine r_cN hk15 ?_
      refine sem_ifh rfl h ?_ ?_ <;> clear h <;> intro h
      · refine sem_cut fun k16 hk16 => ?_
        simp (decide := true) only [go_sem, reduceIte, Nat.reduceAdd, Int.reduceToNat, Nat.reduceSub, Nat.reduceMul]
        refine r_cN hk16 (r_ret ?_)
        refine r_bR hk7 (r_cR hk4 ?_)
        obtain rfl := Option.some.inj h
        refine r_eAR hQ rfl rfl ?_
        simp (decide := true) only [go_sem, reduceIte, Nat.reduceAdd, Int.reduceToNat, Nat.reduceSub, Nat.reduceMul]
        repeat' (with_reducible refine And.intro ?_ ?_)
        all_goals first | exact True.intro | (refine wkEnd_mk ?_ ?_ (⟨rfl, rfl⟩) <;> repeat' (first | exact wkE_nil | (with_reducible apply wkE_cons) | exact wkC_nil _ | exact wkV_nil _ | exact wkA_nil _ | (with_reducible apply wkV_agg) | (with_reducible apply wkV_tup) | (with_reducible apply wkA_agg) | exact wkA_refl _ | exact wkV_refl _ | exact wkS_nil | (with_reducible apply wkS_cons) | (with_reducible apply wkO_rc) | (with_reducible apply wkO_arr) | exact wkO_refl _ | exact wkL_nil | (with_reducible apply wkL_cons) | exact wkC_refl _ | exact wkT_nil | (with_reducible apply wkT_cons) | (with_reducible apply wkR_appR) | (with_reducible apply wkR_consR) | exact wkR_nilR _ | exact wkR_refl _))
      · refine r_skip (r_bN hk7 ?_)
        refine r_cN hk4 (sem_cutJ (fun (_ : Unit) (x : ((List Int) × Int × (List DevArg))) => (⟨[(3, .pt 1 0), (4, .pt 2 0), (5, .sl 3 0 ((x.2.2).length))], [.rc [.fz 1 (R e_u8 (x.1)), .sc (.int .i64 (x.2.1))], .rc [.sc (.int .i64 (v2.Op)), .fz 3 (R e_DevArg (v2.Args))], .rc [.sc (.int .i64 (0)), .sc (.slice none 0 0)], .arr true 3 (R e_DevArg (x.2.2))]⟩ : St)) (fun (_ : Unit) (x : ((List Int) × Int × (List DevArg))) => spec_l4Spoil_j28 v2 x = some res_) ?_ ?_)
        · rintro _ ⟨v12, v13, v14⟩ h
          simp only [spec_l4Spoil_j28] at h
          refine sem_cut fun k27 hk27 => ?_
          simp (decide := true) only [go_sem, reduceIte, Nat.reduceAdd, Int.reduceToNat, Nat.reduceSub, Nat.reduceMul]
          refine r_cN hk27 (r_ret ?_)
          obtain rfl := Option.some.inj h
          refine r_eAR hQ rfl rfl ?_
          simp (decide := true) only [go_sem, reduceIte, Nat.reduceAdd, Int.reduceToNat, Nat.reduceSub, Nat.reduceMul]
          repeat' (with_reducible refine And.intro ?_ ?_)
          all_goals first | exact wkEnd_same ⟨rfl, rfl⟩ | exact True.intro
        · intro k29 hk29 J28
          refine sem_cut fun k30 hk30 => ?_
          simp (decide := true) only [go_sem, reduceIte, Nat.reduceAdd, Int.reduceToNat, Nat.reduceSub, Nat.reduceMul]
          refine r_cN hk30 ?_
          refine sem_ifh rfl h ?_ ?_ <;> clear h <;> intro h
          · refine sem_cut fun k31 hk31 => ?_
            obtain ⟨v15, c32H, h⟩ := bind_some' h
            repeat' (first | with_reducible refine And.intro ?_ ?_ | ((with_reducible refine i_call (n := 39) ?_); refine call_open [[0]] ?_) | ((with_reducible refine i_callW (n := 39) ?_); refine callW_use (con_spec_l26Rd_pick v3.2 (((v2.Args).length : Nat) : Int) v15 c32H) ?_; rintro x σ' ⟨rfl, rfl⟩ <;> ((with_reducible refine behind_go ?_))) | exact True.intro | with_reducible assumption | exact fun hf => False.elim hf | (intro hg; first | (simp +contextual [hg]; done) | grind) | omega | simp (decide := true) only [go_sem, reduceIte, Nat.reduceAdd, Int.reduceToNat, Nat.reduceSub, Nat.reduceMul])
            refine r_cN hk31 (sem_cut fun k33 hk33 => ?_)
            obtain ⟨v16, c34H, h⟩ := bind_some' h
            obtain ⟨c34A, c34B, c34C, -⟩ := idx_some c34H
            obtain ⟨v17, c35H, h⟩ := bind_some' h
            repeat' (first | with_reducible refine And.intro ?_ ?_ | ((with_reducible refine i_call (n := 105) ?_); refine call_open [[0]] ?_) | ((with_reducible refine i_callW (n := 105) ?_); refine callW_use (con_spec_l2Spoilt v15.2 v16 v17 c35H) ?_; rintro x σ' ⟨rfl, rfl⟩ <;> ((with_reducible refine behind_go ?_))) | exact True.intro | with_reducible assumption | exact fun hf => False.elim hf | (intro hg; first | (simp +contextual [hg]; done) | grind) | omega | simp (decide := true) only [go_sem, reduceIte, Nat.reduceAdd, Int.reduceToNat, Nat.reduceSub, Nat.reduceMul, c34A, c34B, c34C])
            refine r_cN hk33 (sem_cut fun k36 hk36 => ?_)
            obtain ⟨v18, c37H, h⟩ := bind_some' h
            repeat' (first | with_reducible refine And.intro ?_ ?_ | ((with_reducible refine i_call (n := 39) ?_); refine call_open [[0]] ?_) | ((with_reducible refine i_callW (n := 39) ?_); refine callW_use (con_spec_l26Rd_pick v17.2 2 v18 c37H) ?_; rintro x σ' ⟨rfl, rfl⟩ <;> ((with_reducible refine behind_go ?_))) | exact True.intro | with_reducible assumption | exact fun hf => False.elim hf | (intro hg; first | (simp +contextual [hg]; done) | grind) | omega | simp (decide := true) only [go_sem, reduceIte, Nat.reduceAdd, Int.reduceToNat, Nat.reduceSub, Nat.reduceMul])
            refine r_cN hk36 ?_
            refine sem_ifh rfl h ?_ ?_ <;> clear h <;> intro h
            · obtain ⟨v19, c38H, h⟩ := bind_some' h
              obtain ⟨v20, c39H, h⟩ := bind_some' h
              obtain ⟨c39A, c39B, c39C, -⟩ := idx_some c39H
              repeat' (first | with_reducible refine And.intro ?_ ?_ | ((with_reducible refine i_call (n := 104) ?_); refine call_open [[0]] ?_) | ((with_reducible refine i_callW (n := 104) ?_); refine callW_use (con_spec_l2Any v18.2 v19 c38H) ?_; rintro x σ' ⟨rfl, rfl⟩ <;> ((with_reducible refine behind_go ?_))) | exact True.intro | with_reducible assumption | exact fun hf => False.elim hf | (intro hg; first | (simp +contextual [hg]; done) | grind) | omega | simp (decide := true) only [go_sem, reduceIte, Nat.reduceAdd, Int.reduceToNat, Nat.reduceSub, Nat.reduceMul, c39A, c39B, c39C])
              refine r_joinU J28 [3, 4, 5] () _ rfl rfl ⟨?_, h⟩
              first | exact wkSt_same rfl | (simp (decide := true) only [go_sem, reduceIte, Nat.reduceAdd, Int.reduceToNat, Nat.reduceSub, Nat.reduceMul]; exact wkSt_same rfl)
            · refine r_skip (r_joinU J28 [3, 4, 5] () _ rfl rfl ⟨?_, h⟩)
              first | exact wkSt_same rfl | (simp (decide := true) only [go_sem, reduceIte, Nat.reduceAdd, Int.reduceToNat, Nat.reduceSub, Nat.reduceMul]; exact wkSt_same rfl)
          · refine r_skip (r_joinU J28 [3, 4, 5] () _ rfl rfl ⟨?_, h⟩)
            first | exact wkSt_same rfl | (simp (decide := true) only [go_sem, reduceIte, Nat.reduceAdd, Int.reduceToNat, Nat.reduceSub, Nat.reduceMul]; exact wkSt_same rfl)
noncomputable def spec_l4Any_j5 : ((List Int) × Int × Int × (List DevArg)) → Option (Elem × l26Rd)
  | (v5, v6, v7, v8) => (Option.bind (spec_l26Rd_pick (⟨v5, v6⟩ : l26Rd) 16) fun v9 => (cond (v9.1 == 0) (Option.bind (spec_l4Spoil v9.2 (⟨v7, v8⟩ : Elem)) fun v10 => (some (v10.1, v10.2))) (some ((⟨v7, v8⟩ : Elem), v9.2))))
noncomputable def spec_l4Any (v1 : l26Rd) : Option (Elem × l26Rd) :=
  (Option.bind (spec_l4Coil v1) fun v2 => (Option.bind (spec_l26Rd_pick v2.2 2) fun v13 => (cond (v13.1 == 0) (Option.bind (spec_l4Contact v13.2) fun v14 => (spec_l4Any_j5 (v14.2.b, v14.2.p, v14.1.Op, v14.1.Args))) (spec_l4Any_j5 (v13.2.b, v13.2.p, v2.1.Op, v2.1.Args)))))
set_option maxRecDepth 10000 in
set_option maxHeartbeats 4000000 in
theorem con_spec_l4Any (v1 : l26Rd) (res_ : (Elem × l26Rd)) (h : spec_l4Any v1 = some res_) : Con Try.prog C0 91 [.pt 0 0] [.rc [.fz 1 (R e_u8 (v1.b)), .sc (.int .i64 (v1.p))]]
    (fun x σ' => x = .agg [.sc (.int .i64 (res_.1.Op)), .fz 3 (R e_DevArg (res_.1.Args))] ∧ σ' = [.rc [.fz 1 (R e_u8 (res_.2.b)), .sc (.int .i64 (res_.2.p))]]) := by
  refine con_of_sem hP [0, 2, 3, 8, 13] [.cell 2 54] Try.func91 (by unfold Try.f91; rfl) rfl rfl (Nat.le_of_ble_eq_true rfl) rfl ?_
  simp only [enter_cons, enter_nil, List.length_cons, List.length_nil, Nat.reduceAdd]
  generalize hQ : endQ _ _ _ _ = Q
  unfold spec_l4Any at h
  refine sem_cut fun k1 hk1 => ?_
  simp (decide := true) only [go_sem, reduceIte, Nat.reduceAdd, Int.reduceToNat, Nat.reduceSub, Nat.reduceMul]
  refine r_cN hk1 (sem_cut fun k2 hk2 => ?_)
  obtain ⟨v2, c3H, h⟩ := bind_some' h
  repeat' (first | with_reducible refine And.intro ?_ ?_ | ((with_reducible refine i_call (n := 88) ?_); refine call_open [[0]] ?_) | ((with_reducible refine i_callW (n := 88) ?_); refine callW_use (con_spec_l4Coil v1 v2 c3H) ?_; rintro x σ' ⟨rfl, rfl⟩ <;> ((with_reducible refine behind_go ?_))) | exact True.intro | with_reducible assumption | exact fun hf => False.elim hf | (intro hg; first | (simp +contextual [hg]; done) | grind) | omega | simp (decide := true) only [go_sem, reduceIte, Nat.reduceAdd, Int.reduceToNat, Nat.reduceSub, Nat.reduceMul])
  refine r_cN hk2 (sem_cutJ (fun (i : P2) (x : ((List Int) × Int × Int × (List DevArg))) => match i with | .a => (⟨[(0, .pt 0 0), (2, .pt 1 0), (3, .pt 2 0)], [.rc [.fz 1 (R e_u8 (x.1)), .sc (.int .i64 (x.2.1))], .rc [.sc (.int .i64 (0)), .sc (.slice none 0 0)], .rc [.sc (.int .i64 (x.2.2.1)), .sl 3 0 ((x.2.2.2).length)], .arr true 3 (R e_DevArg (x.2.2.2))]⟩ : St) | .b => (⟨[(0, .pt 0 0), (2, .pt 1 0), (3, .pt 2 0)], [.rc [.fz 1 (R e_u8 (x.1)), .sc (.int .i64 (x.2.1))], .rc [.sc (.int .i64 (0)), .sc (.slice none 0 0)], .rc [.sc (.int .i64 (x.2.2.1)), .fz 3 (R e_DevArg (x.2.2.2))]]⟩ : St)) (fun (i : P2) (x : ((List Int) × Int × Int × (List DevArg))) => (match i with | .a => True | .b => True) ∧ spec_l4Any_j5 x = some res_) ?_ ?_)
  · rintro (_ | _) ⟨v5, v6, v7, v8⟩ ⟨hp, h⟩
    · simp only [spec_l4Any_j5] at h
      refine sem_cut fun k7 hk7 => sem_cut fun k8 hk8 => ?_
      obtain ⟨v9, c9H, h⟩ := bind_some' h
      repeat' (first | with_reducible refine And.intro ?_ ?_ | ((with_reducible refine i_call (n := 39) ?_); refine call_open [[0]] ?_) | ((with_reducible refine i_callW (n := 39) ?_); refine callW_use (con_spec_l26Rd_pick (⟨v5, v6⟩ : l26Rd) 16 v9 c9H) ?_; rintro x σ' ⟨rfl, rfl⟩ <;> ((with_reducible refine behind_go ?_))) | exact True.intro | with_reducible assumption | exact fun hf => False.elim hf | (intro hg; first | (simp +contextual [hg]; done) | grind) | omega | simp (decide := true) only [go_sem, reduceIte, Nat.reduceAdd, Int.reduceToNat, Nat.reduceSub, Nat.reduceMul])
      refine r_cN hk8 ?_
      refine sem_ifh rfl h ?_ ?_ <;> clear h <;> intro h
      · refine sem_cut fun k10 hk10 => ?_
        obtain ⟨v10, c11H, h⟩ := bind_some' h
        repeat' (first | with_reducible refine And.intro ?_ ?_ | ((with_reducible refine i_call (n := 90) ?_); refine call_open [[0]] ?_) | ((with_reducible refine i_callW (n := 90) ?_); refine callW_use (con_spec_l4Spoil v9.2 (⟨v7, v8⟩ : Elem) v10 c11H) ?_; rintro x σ' ⟨rfl, rfl⟩ <;> ((with_reducible refine behind_go ?_))) | exact True.intro | with_reducible assumption | exact fun hf => False.elim hf | (intro hg; first | (simp +contextual [hg]; done) | grind) | omega | simp (decide := true) only [go_sem, reduceIte, Nat.reduceAdd, Int.reduceToNat, Nat.reduceSub, Nat.reduceMul])
        refine r_cN hk10 (r_ret ?_)
        refine r_cR hk7 ?_
        obtain rfl := Option.some.inj h
        refine r_eAR hQ rfl rfl ?_
        simp (decide := true) only [go_sem, reduceIte, Nat.reduceAdd, Int.reduceToNat, Nat.reduceSub, Nat.reduceMul]
        repeat' (with_reducible refine And.intro ?_ ?_)
        all_goals first | exact wkEnd_same ⟨rfl, rfl⟩ | exact True.intro
      · refine r_skip (r_cN hk7 ?_)
        refine sem_cut fun k12 hk12 => ?_
        simp (decide := true) only [go_sem, reduceIte, Nat.reduceAdd, Int.reduceToNat, Nat.reduceSub, Nat.reduceMul]
        refine r_cN hk12 (r_ret ?_)
        obtain rfl := Option.some.inj h
        refine r_eAR hQ rfl rfl ?_
        simp (decide := true) only [go_sem, reduceIte, Nat.reduceAdd, Int.reduceToNat, Nat.reduceSub, Nat.reduceMul]
        repeat' (with_reducible refine And.intro ?_ ?_)
        all_goals first | exact wkEnd_same ⟨rfl, rfl⟩ | exact True.intro
    · simp only [spec_l4Any_j5] at h
      refine sem_cut fun k13 hk13 => sem_cut fun k14 hk14 => ?_
      obtain ⟨v11, c15H, h⟩ := bind_some' h
      repeat' (first | with_reducible refine And.intro ?_ ?_ | ((with_reducible refine i_call (n := 39) ?_); refine call_open [[0]] ?_) | ((with_reducible refine i_callW (n := 39) ?_); refine callW_use (con_spec_l26Rd_pick (⟨v5, v6⟩ : l26Rd) 16 v11 c15H) ?_; rintro x σ' ⟨rfl, rfl⟩ <;> ((with_reducible refine behind_go ?_))) | exact True.intro | with_reducible assumption | exact fun hf => False.elim hf | (intro hg; first | (simp +contextual [hg]; done) | grind) | omega | simp (decide := true) only [go_sem, reduceIte, Nat.reduceAdd, Int.reduceToNat, Nat.reduceSub, Nat.reduceMul])
      refine r_cN hk14 ?_
      refine sem_ifh rfl h ?_ ?_ <;> clear h <;> intro h
      · refine sem_cut fun k16 hk16 => ?_
        obtain ⟨v12, c17H, h⟩ := bind_some' h
        repeat' (first | with_reducible refine And.intro ?_ ?_ | ((with_reducible refine i_call (n := 90) ?_); refine call_open [[0]] ?_) | ((with_reducible refine i_callW (n := 90) ?_); refine callW_use (con_spec_l4Spoil v11.2 (⟨v7, v8⟩ : Elem) v12 c17H) ?_; rintro x σ' ⟨rfl, rfl⟩ <;> ((with_reducible refine behind_go ?_))) | exact True.intro | with_reducible assumption | exact fun hf => False.elim hf | (intro hg; first | (simp +contextual [hg]; done) | grind) | omega | simp (decide := true) only [go_sem, reduceIte, Nat.reduceAdd, Int.reduceToNat, Nat.reduceSub, Nat.reduceMul])
        refine r_cN hk16 (r_ret ?_)
        refine r_cR hk13 ?_
        obtain rfl := Option.some.inj h
        refine r_eAR hQ rfl rfl ?_
        simp (decide := true) only [go_sem, reduceIte, Nat.reduceAdd, Int.reduceToNat, Nat.reduceSub, Nat.reduceMul]
        repeat' (with_reducible refine And.intro ?_ ?_)
        all_goals first | exact wkEnd_same ⟨rfl, rfl⟩ | exact True.intro
      · refine r_skip (r_cN hk13 ?_)
        refine sem_cut fun k18 hk18 => ?_
        simp (decide := true) only [go_sem, reduceIte, Nat.reduceAdd, Int.reduceToNat, Nat.reduceSub, Nat.reduceMul]
        refine r_cN hk18 (r_ret ?_)
        obtain rfl := Option.some.inj h
        refine r_eAR hQ rfl rfl ?_
        simp (decide := true) only [go_sem, reduceIte, Nat.reduceAdd, Int.reduceToNat, Nat.reduceSub, Nat.reduceMul]
        repeat' (with_reducible refine And.intro ?_ ?_)
        all_goals first | exact wkEnd_same ⟨rfl, rfl⟩ | exact True.intro
  · intro k20 hk20 J19
    refine sem_cut fun k21 hk21 => ?_
    obtain ⟨v13, c22H, h⟩ := bind_some' h
    repeat' (first | with_reducible refine And.intro ?_ ?_ | ((with_reducible refine i_call (n := 39) ?_); refine call_open [[0]] ?_) | ((with_reducible refine i_callW (n := 39) ?_); refine callW_use (con_spec_l26Rd_pick v2.2 2 v13 c22H) ?_; rintro x σ' ⟨rfl, rfl⟩ <;> ((with_reducible refine behind_go ?_))) | exact True.intro | with_reducible assumption | exact fun hf => False.elim hf | (intro hg; first | (simp +contextual [hg]; done) | grind) | omega | simp (decide := true) only [go_sem, reduceIte, Nat.reduceAdd, Int.reduceToNat, Nat.reduceSub, Nat.reduceMul])
    refine r_cN hk21 ?_
    refine sem_ifh rfl h ?_ ?_ <;> clear h <;> intro h
    · obtain ⟨v14, c23H, h⟩ := bind_some' h
      repeat' (first | with_reducible refine And.intro ?_ ?_ | ((with_reducible refine i_call (n := 87) ?_); refine call_open [[0]] ?_) | ((with_reducible refine i_callW (n := 87) ?_); refine callW_use (con_spec_l4Contact v13.2 v14 c23H) ?_; rintro x σ' ⟨rfl, rfl⟩ <;> ((with_reducible refine behind_go ?_))) | exact True.intro | with_reducible assumption | exact fun hf => False.elim hf | (intro hg; first | (simp +contextual [hg]; done) | grind) | omega | simp (decide := true) only [go_sem, reduceIte, Nat.reduceAdd, Int.reduceToNat, Nat.reduceSub, Nat.reduceMul])
      refine r_joinU J19 [0, 2, 3] (.a) (v14.2.b, v14.2.p, v14.1.Op, v14.1.Args) rfl rfl ⟨?_, ⟨trivial, h⟩⟩
      first | exact wkSt_same rfl | (simp (decide := true) only [go_sem, reduceIte, Nat.reduceAdd, Int.reduceToNat, Nat.reduceSub, Nat.reduceMul]; exact wkSt_same rfl)
    · refine r_skip (r_joinU J19 [0, 2, 3] (.b) (v13.2.b, v13.2.p, v2.1.Op, v2.1.Args) rfl rfl ⟨?_, ⟨trivial, h⟩⟩)
      first | exact wkSt_same rfl | (simp (decide := true) only [go_sem, reduceIte, Nat.reduceAdd, Int.reduceToNat, Nat.reduceSub, Nat.reduceMul]; exact wkSt_same rfl)
noncomputable def spec_l11Spoil_j15 : ((List Int) × Int × (List Inst)) → Option ((List Inst) × l26Rd)
  | (v28, v29, v30) => (some (v30, (⟨v28, v29⟩ : l26Rd)))
noncomputable def spec_l11Spoil_s55 (v39 : Inst) : ((List Int) × Int × (List Inst)) → Option (((List Int) × Int × (List Inst)) ⊕ ((List Int) × Int × (List Inst)))
  | (v41, v42, v43) => (Option.bind (spec_l26Rd_pick (⟨v41, v42⟩ : l26Rd) 2) fun v46 => (cond (decide ((((v43).length : Nat) : Int) < (IntKind.i64.wrap (1000 + v46.1)))) (gd (apOk ((v43 ++ [v39])).length 40) (some (.inl (v46.2.b, v46.2.p, (v43 ++ [v39]))))) (some (.inr (v46.2.b, v46.2.p, v43)))))
noncomputable def spec_l11Spoil (v1 : l26Rd) (v2 : (List Inst)) : Option ((List Inst) × l26Rd) :=
  (gd (apOk (v2).length 40) (cond ((((v2).length : Nat) : Int) == 0) (Option.bind (spec_l11Inst v1) fun v3 => (gd (apOk ((v2 ++ [v3.1])).length 40) (some ((v2 ++ [v3.1]), v3.2)))) (Option.bind (spec_l26Rd_pick v1 (((v2).length : Nat) : Int)) fun v4 => (Option.bind (spec_l26Rd_pick v4.2 9) fun v31 => (cond (v31.1 == 0) (gd (decide (0 ≤ v4.1) && decide (v4.1 ≤ (((v2).length : Nat) : Int))) (gd (decide (0 ≤ (IntKind.i64.wrap (v4.1 + 1))) && decide ((IntKind.i64.wrap (v4.1 + 1)) ≤ (((v2).length : Nat) : Int)) && decide ((((v2).length : Nat) : Int) ≤ (((v2).length : Nat) : Int))) (gd (apOk (((v2).take ((v4.1).toNat) ++ ((v2).drop (((IntKind.i64.wrap (v4.1 + 1))).toNat)).take ((((v2).length) - ((IntKind.i64.wrap (v4.1 + 1))).toNat)))).length 40) (some (((v2).take ((v4.1).toNat) ++ ((v2).drop (((IntKind.i64.wrap (v4.1 + 1))).toNat)).take ((((v2).length) - ((IntKind.i64.wrap (v4.1 + 1))).toNat))), v31.2))))) (cond (v31.1 == 1) (gd (decide (0 ≤ v4.1) && decide (v4.1 ≤ (((v2).length : Nat) : Int))) (gd (decide (0 ≤ v4.1) && decide (v4.1 ≤ (((v2).length : Nat) : Int)) && decide ((((v2).length : Nat) : Int) ≤ (((v2).length : Nat) : Int))) (gd (apOk ((v2).take ((v4.1).toNat)).length 40) (Option.bind (spec_l11Inst v31.2) fun v32 => (gd (apOk (((v2).take ((v4.1).toNat) ++ [v32.1])).length 40) (gd (apOk ((((v2).take ((v4.1).toNat) ++ [v32.1]) ++ ((v2).drop ((v4.1).toNat)).take ((((v2).length) - (v4.1).toNat)))).length 40) (some ((((v2).take ((v4.1).toNat) ++ [v32.1]) ++ ((v2).drop ((v4.1).toNat)).take ((((v2).length) - (v4.1).toNat))), v32.2)))))))) (cond (v31.1 == 2) (Option.bind (spec_l11Inst v31.2) fun v33 => (Option.bind (idx v2 (v4.1)) fun v34 => (spec_l11Spoil_j15 (v33.2.b, v33.2.p, ((v2).set (v4.1).toNat v33.1))))) (cond (v31.1 == 3) (Option.bind (spec_l26Rd_pick v31.2 14) fun v35 => (Option.bind (idx v2 (v4.1)) fun v36 => (spec_l11Spoil_j15 (v35.2.b, v35.2.p, ((v2).set (v4.1).toNat (⟨(IntKind.i64.wrap (v35.1 - 1)), v36.One_Op, v36.One_Args⟩ : Inst)))))) (cond (v31.1 == 4) (Option.bind (idx v2 (v4.1)) fun v37 => (Option.bind (spec_l4Spoil v31.2 (⟨v37.One_Op, v37.One_Args⟩ : Elem)) fun v38 => (spec_l11Spoil_j15 (v38.2.b, v38.2.p, ((v2).set (v4.1).toNat (⟨v37.Code, v38.1.Op, v38.1.Args⟩ : Inst)))))) (cond (v31.1 == 5) (gd (decide (0 ≤ v4.1) && decide (v4.1 ≤ (((v2).length : Nat) : Int))) (some ((v2).take ((v4.1).toNat), v31.2))) (cond (v31.1 == 6) (Option.bind (idx v2 (v4.1)) fun v39 => ((loop (spec_l11Spoil_s55 v39) (v31.2.b, v31.2.p, v2)).bind (fun v45 => (spec_l11Spoil_j15 (v45.1, v45.2.1, v45.2.2))))) (cond (v31.1 == 7) (Option.bind (spec_l26Rd_pick v31.2 (((v2).length : Nat) : Int)) fun v47 => (Option.bind (idx v2 (v4.1)) fun v48 => (Option.bind (idx v2 (v47.1)) fun v49 => (Option.bind (idx v2 (v4.1)) fun v50 => (Option.bind (idx ((v2).set (v4.1).toNat v49) (v47.1)) fun v51 => (spec_l11Spoil_j15 (v47.2.b, v47.2.p, ((((v2).set (v4.1).toNat v49)).set (v47.1).toNat v48)))))))) (Option.bind (spec_l4Any v31.2) fun v52 => (Option.bind (idx v2 (v4.1)) fun v53 => (spec_l11Spoil_j15 (v52.2.b, v52.2.p, ((v2).set (v4.1).toNat (⟨v53.Code, v52.1.Op, v52.1.Args⟩ : Inst))))))))))))))))))
set_option maxRecDepth 10000 in
set_option maxHeartbeats 4000000 in
theorem con_spec_l11Spoil (v1 : l26Rd) (v2 : (List Inst)) (res_ : ((List Inst) × l26Rd)) (h : spec_l11Spoil v1 v2 = some res_) : Con Try.prog C0 68 [.pt 0 0, .fz 3 (R e_Inst (v2))] [.rc [.fz 1 (R e_u8 (v1.b)), .sc (.int .i64 (v1.p))]]
    (fun x σ' => x = .fz 3 (R e_Inst (res_.1)) ∧ σ' = [.rc [.fz 1 (R e_u8 (res_.2.b)), .sc (.int .i64 (res_.2.p))]]) := by
  refine con_of_sem hP [0, 1, 4, 5, 6, 7, 8, 9, 15, 26, 33, 43, 58, 65, 74, 87, 92, 103, 108] [.tmp 4] Try.func68 (by unfold Try.f68; rfl) rfl rfl (Nat.le_of_ble_eq_true rfl) rfl ?_
  simp only [enter_cons, enter_nil, List.length_cons, List.length_nil, Nat.reduceAdd]
  generalize hQ : endQ _ _ _ _ = Q
  unfold spec_l11Spoil at h
  refine sem_cut fun k1 hk1 => ?_
  simp (decide := true) only [go_sem, reduceIte, Nat.reduceAdd, Int.reduceToNat, Nat.reduceSub, Nat.reduceMul]
  refine r_cN hk1 (sem_cut fun k2 hk2 => ?_)
  obtain ⟨g3, h⟩ := gd_some h
  have g3A := apOk_1 g3; have g3B := apOk_2 g3
  repeat' (first | with_reducible refine And.intro ?_ ?_ | exact True.intro | with_reducible assumption | exact fun hf => False.elim hf | (intro hg; first | (simp +contextual [hg]; done) | grind) | omega | simp (decide := true) only [go_sem, reduceIte, Nat.reduceAdd, Int.reduceToNat, Nat.reduceSub, Nat.reduceMul, g3A, g3B])
  refine r_cN hk2 (sem_cut fun k4 hk4 => ?_)
  refine sem_cut fun k5 hk5 => ?_
  simp (decide := true) only [go_sem, reduceIte, Nat.reduceAdd, Int.reduceToNat, Nat.reduceSub, Nat.reduceMul]
  refine r_cN hk5 ?_
  refine sem_ifh rfl h ?_ ?_ <;> clear h <;> intro h
  · refine sem_cut fun k6 hk6 => ?_
    obtain ⟨v3, c7H, h⟩ := bind_some' h
    obtain ⟨g8, h⟩ := gd_some h
    have g8A := apOk_1 g8; have g8B := apOk_2 g8
    repeat' (first | with_reducible refine And.intro ?_ ?_ | ((with_reducible refine i_call (n := 70) ?_); refine call_open [[0]] ?_) | ((with_reducible refine i_callW (n := 70) ?_); refine callW_use (con_spec_l11Inst v1 v3 c7H) ?_; rintro x σ' ⟨rfl, rfl⟩ <;> ((with_reducible refine behind_go ?_))) | exact True.intro | with_reducible assumption | exact fun hf => False.elim hf | (intro hg; first | (simp +contextual [hg]; done) | grind) | omega | simp (decide := true) only [go_sem, reduceIte, Nat.reduceAdd, Int.reduceToNat, Nat.reduceSub, Nat.reduceMul, g8A, g8B])
    refine r_cN hk6 (r_ret ?_)
    refine r_cR hk4 ?_
    obtain rfl := Option.some.inj h
    refine r_eAR hQ rfl rfl ?_
    simp (decide := true) only [go_sem, reduceIte, Nat.reduceAdd, Int.reduceToNat, Nat.reduceSub, Nat.reduceMul]
    all_goals first | exact wkEnd_same ⟨rfl, rfl⟩ | exact True.intro
  · refine r_skip (r_cN hk4 ?_)
    refine sem_cut fun k9 hk9 => ?_
    obtain ⟨v4, c10H, h⟩ := bind_some' h
    repeat' (first | with_reducible refine And.intro ?_ ?_ | ((with_reducible refine i_call (n := 39) ?_); refine call_open [[0]] ?_) | ((with_reducible refine i_callW (n := 39) ?_); refine callW_use (con_spec_l26Rd_pick v1 (((v2).length : Nat) : Int) v4 c10H) ?_; rintro x σ' ⟨rfl, rfl⟩ <;> ((with_reducible refine behind_go ?_))) | exact True.intro | with_reducible assumption | exact fun hf => False.elim hf | (intro hg; first | (simp +contextual [hg]; done) | grind) | omega | simp (decide := true) only [go_sem, reduceIte, Nat.reduceAdd, Int.reduceToNat, Nat.reduceSub, Nat.reduceMul])
    refine r_cN hk9 (sem_cutJ (fun (_ : Unit) (x : ((List Int) × Int × (List Inst))) => (⟨[(5, .sl 1 0 ((x.2.2).length))], [.rc [.fz 1 (R e_u8 (x.1)), .sc (.int .i64 (x.2.1))], .arr true 3 (R e_Inst (x.2.2))]⟩ : St)) (fun (_ : Unit) (x : ((List Int) × Int × (List Inst))) => spec_l11Spoil_j15 x = some res_) ?_ ?_)
    · rintro _ ⟨v28, v29, v30⟩ h
      simp only [spec_l11Spoil_j15] at h
      refine sem_cut fun k70 hk70 => ?_
      simp (decide := true) only [go_sem, reduceIte, Nat.reduceAdd, Int.reduceToNat, Nat.reduceSub, Nat.reduceMul]
      refine r_cN hk70 (r_ret ?_)
      obtain rfl := Option.some.inj h
      refine r_eAR hQ rfl rfl ?_
      simp (decide := true) only [go_sem, reduceIte, Nat.reduceAdd, Int.reduceToNat, Nat.reduceSub, Nat.reduceMul]
      all_goals first | exact wkEnd_same ⟨rfl, rfl⟩ | exact True.intro
    · intro k72 hk72 J71
      refine sem_cut fun k73 hk73 => ?_
      obtain ⟨v31, c74H, h⟩ := bind_some' h
      repeat' (first | with_reducible refine And.intro ?_ ?_ | ((with_reducible refine i_call (n := 39) ?_); refine call_open [[0]] ?_) | ((with_reducible refine i_callW (n := 39) ?_); refine callW_use (con_spec_l26Rd_pick v4.2 9 v31 c74H) ?_; rintro x σ' ⟨rfl, rfl⟩ <;> ((with_reducible refine behind_go ?_))) | exact True.intro | with_reducible assumption | exact fun hf => False.elim hf | (intro hg; first | (simp +contextual [hg]; done) | grind) | omega | simp (decide := true) only [go_sem, reduceIte, Nat.reduceAdd, Int.reduceToNat, Nat.reduceSub, Nat.reduceMul])
      refine r_cN hk73 (sem_blk fun k75 hk75 => ?_)
      refine sem_cut fun k76 hk76 => ?_
      simp (decide := true) only [go_sem, reduceIte, Nat.reduceAdd, Int.reduceToNat, Nat.reduceSub, Nat.reduceMul]
      refine r_cN hk76 ?_
      refine sem_ifh rfl h ?_ ?_ <;> clear h <;> intro h
      · refine sem_cut fun k77 hk77 => ?_
        obtain ⟨g78, h⟩ := gd_some h
        obtain ⟨g78A, g78B⟩ := dec_and g78
        obtain ⟨g79, h⟩ := gd_some h
        obtain ⟨g79A, g79B, g79C⟩ := dec_and3 g79
        obtain ⟨g80, h⟩ := gd_some h
        have g80A := apOk_1 g80; have g80B := apOk_2 g80
        with_reducible refine sem_plan (id := 8) (.take 0 (.take 1 (.take 2 (.take 3 (.take 4 (.take 5 (.take 6 (.last 7 (.take 8 .done))))))))) [] ?_ ?_
        focus kernel_rfl
        repeat' (first | with_reducible refine And.intro ?_ ?_ | exact True.intro | with_reducible assumption | exact fun hf => False.elim hf | (intro hg; first | (simp +contextual [hg]; done) | grind) | omega | simp (decide := true) only [go_sem, reduceIte, Nat.reduceAdd, Int.reduceToNat, Nat.reduceSub, Nat.reduceMul, g78A, g78B, g79A, g79B, g79C, g80A, g80B])
        refine r_cN hk77 (r_ret ?_)
        refine r_bR hk75 (r_jR hk72 ?_)
        obtain rfl := Option.some.inj h
        refine r_eAR hQ rfl rfl ?_
        simp (decide := true) only [go_sem, reduceIte, Nat.reduceAdd, Int.reduceToNat, Nat.reduceSub, Nat.reduceMul]
        all_goals first | exact wkEnd_same ⟨rfl, rfl⟩ | exact True.intro
      · refine sem_cut fun k81 hk81 => ?_
        simp (decide := true) only [go_sem, reduceIte, Nat.reduceAdd, Int.reduceToNat, Nat.reduceSub, Nat.reduceMul]
        refine r_cN hk81 ?_
        refine sem_ifh rfl h ?_ ?_ <;> clear h <;> intro h
        · refine sem_cut fun k82 hk82 => ?_
          obtain ⟨g83, h⟩ := gd_some h
          obtain ⟨g83A, g83B⟩ := dec_and g83
          obtain ⟨g84, h⟩ := gd_some h
          obtain ⟨g84A, g84B, g84C⟩ := dec_and3 g84
          obtain ⟨g85, h⟩ := gd_some h
          have g85A := apOk_1 g85; have g85B := apOk_2 g85
          obtain ⟨v32, c86H, h⟩ := bind_some' h
          obtain ⟨g87, h⟩ := gd_some h
          have g87A := apOk_1 g87; have g87B := apOk_2 g87
          obtain ⟨g88, h⟩ := gd_some h
          have g88A := apOk_1 g88; have g88B := apOk_2 g88
          with_reducible refine sem_plan (id := 10) (.take 1 (.take 2 (.take 3 (.take 5 (.take 9 (.take 10 (.take 11 (.last 0 (.last 4 (.last 6 (.last 7 (.last 8 (.last 12 (.take 13 .done)))))))))))))) [] ?_ ?_
          focus kernel_rfl
          repeat' (first | with_reducible refine And.intro ?_ ?_ | ((with_reducible refine i_call (n := 70) ?_); refine call_open [[0]] ?_) | ((with_reducible refine i_callW (n := 70) ?_); refine callW_use (con_spec_l11Inst v31.2 v32 c86H) ?_; rintro x σ' ⟨rfl, rfl⟩ <;> ((with_reducible refine behind_go ?_))) | exact True.intro | with_reducible assumption | exact fun hf => False.elim hf | (intro hg; first | (simp +contextual [hg]; done) | grind) | omega | simp (decide := true) only [go_sem, reduceIte, Nat.reduceAdd, Int.reduceToNat, Nat.reduceSub, Nat.reduceMul, g83A, g83B, g84A, g84B, g84C, g85A, g85B, g87A, g87B, g88A, g88B])
          refine r_cN hk82 (r_ret ?_)
          refine r_bR hk75 (r_jR hk72 ?_)
          obtain rfl := Option.some.inj h
          refine r_eAR hQ rfl rfl ?_
          simp (decide := true) only [go_sem, reduceIte, Nat.reduceAdd, Int.reduceToNat, Nat.reduceSub, Nat.reduceMul]
          all_goals first | exact wkEnd_same ⟨rfl, rfl⟩ | exact True.intro
        · refine sem_cut fun k89 hk89 => ?_
          simp (decide := true) only [go_sem, reduceIte, Nat.reduceAdd, Int.reduceToNat, Nat.reduceSub, Nat.reduceMul]
          refine r_cN hk89 ?_
          refine sem_ifh rfl h ?_ ?_ <;> clear h <;> intro h
          · obtain ⟨v33, c90H, h⟩ := bind_some' h
            obtain ⟨v34, c91H, h⟩ := bind_some' h
            obtain ⟨c91A, c91B, c91C, -⟩ := idx_some c91H
            repeat' (first | with_reducible refine And.intro ?_ ?_ | ((with_reducible refine i_call (n := 70) ?_); refine call_open [[0]] ?_) | ((with_reducible refine i_callW (n := 70) ?_); refine callW_use (con_spec_l11Inst v31.2 v33 c90H) ?_; rintro x σ' ⟨rfl, rfl⟩ <;> ((with_reducible refine behind_go ?_))) | exact True.intro | with_reducible assumption | exact fun hf => False.elim hf | (intro hg; first | (simp +contextual [hg]; done) | grind) | omega | simp (decide := true) only [go_sem, reduceIte, Nat.reduceAdd, Int.reduceToNat, Nat.reduceSub, Nat.reduceMul, c91A, c91B, c91C])
            refine r_bN hk75 (r_joinU J71 [5] () _ rfl rfl ⟨?_, h⟩)
            first | exact wkSt_same rfl | (simp (decide := true) only [go_sem, reduceIte, Nat.reduceAdd, Int.reduceToNat, Nat.reduceSub, Nat.reduceMul]; exact wkSt_same rfl)
          · refine sem_cut fun k92 hk92 => ?_
            simp (decide := true) only [go_sem, reduceIte, Nat.reduceAdd, Int.reduceToNat, Nat.reduceSub, Nat.reduceMul]
            refine r_cN hk92 ?_
            refine sem_ifh rfl h ?_ ?_ <;> clear h <;> intro h
            · obtain ⟨v35, c93H, h⟩ := bind_some' h
              obtain ⟨v36, c94H, h⟩ := bind_some' h
              obtain ⟨c94A, c94B, c94C, -⟩ := idx_some c94H
              repeat' (first | with_reducible refine And.intro ?_ ?_ | ((with_reducible refine i_call (n := 39) ?_); refine call_open [[0]] ?_) | ((with_reducible refine i_callW (n := 39) ?_); refine callW_use (con_spec_l26Rd_pick v31.2 14 v35 c93H) ?_; rintro x σ' ⟨rfl, rfl⟩ <;> ((with_reducible refine behind_go ?_))) | exact True.intro | with_reducible assumption | exact fun hf => False.elim hf | (intro hg; first | (simp +contextual [hg]; done) | grind) | omega | simp (decide := true) only [go_sem, reduceIte, Nat.reduceAdd, Int.reduceToNat, Nat.reduceSub, Nat.reduceMul, c94A, c94B, c94C])
              refine r_bN hk75 (r_joinU J71 [5] () _ rfl rfl ⟨?_, h⟩)
              first | exact wkSt_same rfl | (simp (decide := true) only [go_sem, reduceIte, Nat.reduceAdd, Int.reduceToNat, Nat.reduceSub, Nat.reduceMul]; exact wkSt_same rfl)
            · refine sem_cut fun k95 hk95 => ?_
              simp (decide := true) only [go_sem, reduceIte, Nat.reduceAdd, Int.reduceToNat, Nat.reduceSub, Nat.reduceMul]
              refine r_cN hk95 ?_
              refine sem_ifh rfl h ?_ ?_ <;> clear h <;> intro h
              · obtain ⟨v37, c96H, h⟩ := bind_some' h
                obtain ⟨c96A, c96B, c96C, -⟩ := idx_some c96H
                obtain ⟨v38, c97H, h⟩ := bind_some' h
                repeat' (first | with_reducible refine And.intro ?_ ?_ | ((with_reducible refine i_call (n := 90) ?_); refine call_open [[0]] ?_) | ((with_reducible refine i_callW (n := 90) ?_); refine callW_use (con_spec_l4Spoil v31.2 (⟨v37.One_Op, v37.One_Args⟩ : Elem) v38 c97H) ?_; rintro x σ' ⟨rfl, rfl⟩ <;> ((with_reducible refine behind_go ?_))) | exact True.intro | with_reducible assumption | exact fun hf => False.elim hf | (intro hg; first | (simp +contextual [hg]; done) | grind) | omega | simp (decide := true) only [go_sem, reduceIte, Nat.reduceAdd, Int.reduceToNat, Nat.reduceSub, Nat.reduceMul, c96A, c96B, c96C])
                refine r_bN hk75 (r_joinU J71 [5] () _ rfl rfl ⟨?_, h⟩)
                first | exact wkSt_same rfl | (simp (decide := true) only [go_sem, reduceIte, Nat.reduceAdd, Int.reduceToNat, Nat.reduceSub, Nat.reduceMul]; exact wkSt_same rfl)
              · refine sem_cut fun k98 hk98 => ?_
                simp (decide := true) only [go_sem, reduceIte, Nat.reduceAdd, Int.reduceToNat, Nat.reduceSub, Nat.reduceMul]
                refine r_cN hk98 ?_
                refine sem_ifh rfl h ?_ ?_ <;> clear h <;> intro h
                · refine sem_cut fun k99 hk99 => ?_
                  obtain ⟨g100, h⟩ := gd_some h
                  obtain ⟨g100A, g100B⟩ := dec_and g100
                  repeat' (first | with_reducible refine And.intro ?_ ?_ | exact True.intro | with_reducible assumption | exact fun hf => False.elim hf | (intro hg; first | (simp +contextual [hg]; done) | grind) | omega | simp (decide := true) only [go_sem, reduceIte, Nat.reduceAdd, Int.reduceToNat, Nat.reduceSub, Nat.reduceMul, g100A, g100B])
                  refine r_cN hk99 (r_ret ?_)
                  refine r_bR hk75 (r_jR hk72 ?_)
                  obtain rfl := Option.some.inj h
                  refine r_eAR hQ rfl rfl ?_
                  simp (decide := true) only [go_sem, reduceIte, Nat.reduceAdd, Int.reduceToNat, Nat.reduceSub, Nat.reduceMul]
                  all_goals first | exact wkEnd_same ⟨rfl, rfl⟩ | exact True.intro
                · refine sem_cut fun k101 hk101 => ?_
                  simp (decide := true) only [go_sem, reduceIte, Nat.reduceAdd, Int.reduceToNat, Nat.reduceSub, Nat.reduceMul]
                  refine r_cN hk101 ?_
                  refine sem_ifh rfl h ?_ ?_ <;> clear h <;> intro h
                  · refine sem_cut fun k102 hk102 => ?_
                    obtain ⟨v39, c103H, h⟩ := bind_some' h
                    obtain ⟨c103A, c103B, c103C, -⟩ := idx_some c103H
                    repeat' (first | with_reducible refine And.intro ?_ ?_ | exact True.intro | with_reducible assumption | exact fun hf => False.elim hf | (intro hg; first | (simp +contextual [hg]; done) | grind) | omega | simp (decide := true) only [go_sem, reduceIte, Nat.reduceAdd, Int.reduceToNat, Nat.reduceSub, Nat.reduceMul, c103A, c103B, c103C])
                    refine r_cN hk102 (sem_blk fun k104 hk104 => ?_)
                    obtain ⟨oq115, hLq115, hKq115⟩ := bind_some' h
                    clear h
                    refine sem_loopP [0, 5, 7] (fun (_ : Unit) (x : ((List Int) × Int × (List Inst))) => (⟨[(0, .pt 0 0), (5, .sl 1 0 ((x.2.2).length)), (7, .pt 2 0)], [.rc [.fz 1 (R e_u8 (x.1)), .sc (.int .i64 (x.2.1))], .arr true 3 (R e_Inst (x.2.2)), .rc [.sc (.int .i64 (v39.Code)), .sc (.int .i64 (v39.One_Op)), .fz 3 (R e_DevArg (v39.One_Args))]]⟩ : St)) (fun (_ : Unit) (x : ((List Int) × Int × (List Inst))) => True) (spec_l11Spoil_s55 v39) () (v31.2.b, v31.2.p, v2) hLq115 (by rfl) (by rfl) ⟨?_, trivial⟩ ?_
                    · first | exact wkSt_same rfl | (simp (decide := true) only [go_sem, reduceIte, Nat.reduceAdd, Int.reduceToNat, Nat.reduceSub, Nat.reduceMul]; exact wkSt_same rfl)
                    · rintro nq115 _ ⟨v41, v42, v43⟩ xq115 kq115 hkq115 - h hIq115 hEq115
                      simp only [spec_l11Spoil_s55] at h
                      refine sem_cut fun k116 hk116 => sem_cut fun k117 hk117 => ?_
                      obtain ⟨v46, c118H, h⟩ := bind_some' h
                      repeat' (first | with_reducible refine And.intro ?_ ?_ | ((with_reducible refine i_call (n := 39) ?_); refine call_open [[0]] ?_) | ((with_reducible refine i_callW (n := 39) ?_); refine callW_use (con_spec_l26Rd_pick (⟨v41, v42⟩ : l26Rd) 2 v46 c118H) ?_; rintro x σ' ⟨rfl, rfl⟩ <;> ((with_reducible refine behind_go ?_))) | exact True.intro | with_reducible assumption | exact fun hf => False.elim hf | (intro hg; first | (simp +contextual [hg]; done) | grind) | omega | simp (decide := true) only [go_sem, reduceIte, Nat.reduceAdd, Int.reduceToNat, Nat.reduceSub, Nat.reduceMul])
                      refine r_cN hk117 ?_
                      refine sem_ifh rfl h ?_ ?_ <;> clear h <;> intro h
                      · refine r_skip (r_cN hk116 ?_)
                        refine sem_blk fun k119 hk119 => ?_
                        obtain ⟨g120, h⟩ := gd_some h
                        have g120A := apOk_1 g120; have g120B := apOk_2 g120
                        repeat' (first | with_reducible refine And.intro ?_ ?_ | exact True.intro | with_reducible assumption | exact fun hf => False.elim hf | (intro hg; first | (simp +contextual [hg]; done) | grind) | omega | simp (decide := true) only [go_sem, reduceIte, Nat.reduceAdd, Int.reduceToNat, Nat.reduceSub, Nat.reduceMul, g120A, g120B])
                        refine r_bN hk119 ?_
                        obtain rfl := Option.some.inj h
                        subst hkq115
                        refine r_backP () _ rfl rfl ⟨?_, trivial⟩ (hIq115 _ rfl)
                        first | exact wkSt_same rfl | (simp (decide := true) only [go_sem, reduceIte, Nat.reduceAdd, Int.reduceToNat, Nat.reduceSub, Nat.reduceMul]; exact wkSt_same rfl)
                      · refine r_exit (r_cE hk116 ?_)
                        obtain rfl := Option.some.inj h
                        obtain rfl := hEq115 _ rfl
                        have h := hKq115
                        try simp only [Sum.elim_inl, Sum.elim_inr] at h
                        refine r_kE hkq115 (r_bE hk104 ?_)
                        refine r_bN hk75 (r_joinU J71 [5] () _ rfl rfl ⟨?_, h⟩)
                        first | exact wkSt_same rfl | (simp (decide := true) only [go_sem, reduceIte, Nat.reduceAdd, Int.reduceToNat, Nat.reduceSub, Nat.reduceMul]; exact wkSt_same rfl)
                  · refine sem_cut fun k121 hk121 => ?_
                    simp (decide := true) only [go_sem, reduceIte, Nat.reduceAdd, Int.reduceToNat, Nat.reduceSub, Nat.reduceMul]
                    refine r_cN hk121 ?_
                    refine sem_ifh rfl h ?_ ?_ <;> clear h <;> intro h
                    · refine sem_cut fun k122 hk122 => ?_
                      obtain ⟨v47, c123H, h⟩ := bind_some' h
                      repeat' (first | with_reducible refine And.intro ?_ ?_ | ((with_reducible refine i_call (n := 39) ?_); refine call_open [[0]] ?_) | ((with_reducible refine i_callW (n := 39) ?_); refine callW_use (con_spec_l26Rd_pick v31.2 (((v2).length : Nat) : Int) v47 c123H) ?_; rintro x σ' ⟨rfl, rfl⟩ <;> ((with_reducible refine behind_go ?_))) | exact True.intro | with_reducible assumption | exact fun hf => False.elim hf | (intro hg; first | (simp +contextual [hg]; done) | grind) | omega | simp (decide := true) only [go_sem, reduceIte, Nat.reduceAdd, Int.reduceToNat, Nat.reduceSub, Nat.reduceMul])
                      refine r_cN hk122 (sem_cut fun k124 hk124 => ?_)
                      obtain ⟨v48, c125H, h⟩ := bind_some' h
                      obtain ⟨c125A, c125B, c125C, -⟩ := idx_some c125H
                      repeat' (first | with_reducible refine And.intro ?_ ?_ | exact True.intro | with_reducible assumption | exact fun hf => False.elim hf | (intro hg; first | (simp +contextual [hg]; done) | grind) | omega | simp (decide := true) only [go_sem, reduceIte, Nat.reduceAdd, Int.reduceToNat, Nat.reduceSub, Nat.reduceMul, c125A, c125B, c125C])
                      refine r_cN hk124 (sem_cut fun k126 hk126 => ?_)
                      obtain ⟨v49, c127H, h⟩ := bind_some' h
                      obtain ⟨c127A, c127B, c127C, -⟩ := idx_some c127H
                      obtain ⟨v50, c128H, h⟩ := bind_some' h
                      obtain ⟨c128A, c128B, c128C, -⟩ := idx_some c128H
                      repeat' (first | with_reducible refine And.intro ?_ ?_ | exact True.intro | with_reducible assumption | exact fun hf => False.elim hf | (intro hg; first | (simp +contextual [hg]; done) | grind) | omega | simp (decide := true) only [go_sem, reduceIte, Nat.reduceAdd, Int.reduceToNat, Nat.reduceSub, Nat.reduceMul, c127A, c127B, c127C, c128A, c128B, c128C])
                      refine r_cN hk126 ?_
                      obtain ⟨v51, c129H, h⟩ := bind_some' h
                      obtain ⟨c129A, c129B, c129C, -⟩ := idx_some c129H
                      repeat' (first | with_reducible refine And.intro ?_ ?_ | exact True.intro | with_reducible assumption | exact fun hf => False.elim hf | (intro hg; first | (simp +contextual [hg]; done) | grind) | omega | simp (decide := true) only [go_sem, reduceIte, Nat.reduceAdd, Int.reduceToNat, Nat.reduceSub, Nat.reduceMul, c129A, c129B, c129C])
                      refine r_bN hk75 (r_joinU J71 [5] () _ rfl rfl ⟨?_, h⟩)
                      first | exact wkSt_same rfl | (simp (decide := true) only [go_sem, reduceIte, Nat.reduceAdd, Int.reduceToNat, Nat.reduceSub, Nat.reduceMul]; exact wkSt_same rfl)
                    · obtain ⟨v52, c130H, h⟩ := bind_some' h
                      obtain ⟨v53, c131H, h⟩ := bind_some' h
                      obtain ⟨c131A, c131B, c131C, -⟩ := idx_some c131H
                      repeat' (first | with_reducible refine And.intro ?_ ?_ | ((with_reducible refine i_call (n := 91) ?_); refine call_open [[0]] ?_) | ((with_reducible refine i_callW (n := 91) ?_); refine callW_use (con_spec_l4Any v31.2 v52 c130H) ?_; rintro x σ' ⟨rfl, rfl⟩ <;> ((with_reducible refine behind_go ?_))) | exact True.intro | with_reducible assumption | exact fun hf => False.elim hf | (intro hg; first | (simp +contextual [hg]; done) | grind) | omega | simp (decide := true) only [go_sem, reduceIte, Nat.reduceAdd, Int.reduceToNat, Nat.reduceSub, Nat.reduceMul, c131A, c131B, c131C])
                      refine r_bN hk75 (r_joinU J71 [5] () _ rfl rfl ⟨?_, h⟩)
                      first | exact wkSt_same rfl | (simp (decide := true) only [go_sem, reduceIte, Nat.reduceAdd, Int.reduceToNat, Nat.reduceSub, Nat.reduceMul]; exact wkSt_same rfl)
noncomputable def spec_l11Any (v1 : l26Rd) : Option ((List Inst) × l26Rd) :=
  (Option.bind (spec_l11Sure v1) fun v2 => (Option.bind (spec_l26Rd_pick v2.2 16) fun v3 => (cond (v3.1 == 0) (Option.bind (spec_l11Spoil v3.2 v2.1) fun v4 => (some (v4.1, v4.2))) (some (v2.1, v3.2)))))
set_option maxRecDepth 10000 in
set_option maxHeartbeats 4000000 in
theorem con_spec_l11Any (v1 : l26Rd) (res_ : ((List Inst) × l26Rd)) (h : spec_l11Any v1 = some res_) : Con Try.prog C0 85 [.pt 0 0] [.rc [.fz 1 (R e_u8 (v1.b)), .sc (.int .i64 (v1.p))]]
    (fun x σ' => x = .fz 3 (R e_Inst (res_.1)) ∧ σ' = [.rc [.fz 1 (R e_u8 (res_.2.b)), .sc (.int .i64 (res_.2.p))]]) := by
  refine con_of_sem hP [0, 2, 3, 8] [.tmp 2] Try.func85 (by unfold Try.f85; rfl) rfl rfl (Nat.le_of_ble_eq_true rfl) rfl ?_
  simp only [enter_cons, enter_nil, List.length_cons, List.length_nil, Nat.reduceAdd]
  generalize hQ : endQ _ _ _ _ = Q
  unfold spec_l11Any at h
  refine sem_cut fun k1 hk1 => ?_
  simp (decide := true) only [go_sem, reduceIte, Nat.reduceAdd, Int.reduceToNat, Nat.reduceSub, Nat.reduceMul]
  refine r_cN hk1 (sem_cut fun k2 hk2 => ?_)
  obtain ⟨v2, c3H, h⟩ := bind_some' h
  repeat' (first | with_reducible refine And.intro ?_ ?_ | ((with_reducible refine i_call (n := 69) ?_); refine call_open [[0]] ?_) | ((with_reducible refine i_callW (n := 69) ?_); refine callW_use (con_spec_l11Sure v1 v2 c3H) ?_; rintro x σ' ⟨rfl, rfl⟩ <;> ((with_reducible refine behind_go ?_))) | exact True.intro | with_reducible assumption | exact fun hf => False.elim hf | (intro hg; first | (simp +contextual [hg]; done) | grind) | omega | simp (decide := true) only [go_sem, reduceIte, Nat.reduceAdd, Int.reduceToNat, Nat.reduceSub, Nat.reduceMul])
  refine r_cN hk2 (sem_cut fun k4 hk4 => ?_)
  refine sem_cut fun k5 hk5 => ?_
  obtain ⟨v3, c6H, h⟩ := bind_some' h
  repeat' (first | with_reducible refine And.intro ?_ ?_ | ((with_reducible refine i_call (n := 39) ?_); refine call_open [[0]] ?_) | ((with_reducible refine i_callW (n := 39) ?_); refine callW_use (con_spec_l26Rd_pick v2.2 16 v3 c6H) ?_; rintro x σ' ⟨rfl, rfl⟩ <;> ((with_reducible refine behind_go ?_))) | exact True.intro | with_reducible assumption | exact fun hf => False.elim hf | (intro hg; first | (simp +contextual [hg]; done) | grind) | omega | simp (decide := true) only [go_sem, reduceIte, Nat.reduceAdd, Int.reduceToNat, Nat.reduceSub, Nat.reduceMul])
  refine r_cN hk5 ?_
  refine sem_ifh rfl h ?_ ?_ <;> clear h <;> intro h
  · refine sem_cut fun k7 hk7 => ?_
    obtain ⟨v4, c8H, h⟩ := bind_some' h
    repeat' (first | with_reducible refine And.intro ?_ ?_ | ((with_reducible refine i_call (n := 68) ?_); refine call_open [[0]] ?_) | ((with_reducible refine i_callW (n := 68) ?_); refine callW_use (con_spec_l11Spoil v3.2 v2.1 v4 c8H) ?_; rintro x σ' ⟨rfl, rfl⟩ <;> ((with_reducible refine behind_go ?_))) | exact True.intro | with_reducible assumption | exact fun hf => False.elim hf | (intro hg; first | (simp +contextual [hg]; done) | grind) | omega | simp (decide := true) only [go_sem, reduceIte, Nat.reduceAdd, Int.reduceToNat, Nat.reduceSub, Nat.reduceMul])
    refine r_cN hk7 (r_ret ?_)
    refine r_cR hk4 ?_
    obtain rfl := Option.some.inj h
    refine r_eAR hQ rfl rfl ?_
    simp (decide := true) only [go_sem, reduceIte, Nat.reduceAdd, Int.reduceToNat, Nat.reduceSub, Nat.reduceMul]
    all_goals first | exact wkEnd_same ⟨rfl, rfl⟩ | exact True.intro
  · refine r_skip (r_cN hk4 ?_)
    refine sem_cut fun k9 hk9 => ?_
    simp (decide := true) only [go_sem, reduceIte, Nat.reduceAdd, Int.reduceToNat, Nat.reduceSub, Nat.reduceMul]
    refine r_cN hk9 (r_ret ?_)
    obtain rfl := Option.some.inj h
    refine r_eAR hQ rfl rfl ?_
    simp (decide := true) only [go_sem, reduceIte, Nat.reduceAdd, Int.reduceToNat, Nat.reduceSub, Nat.reduceMul]
    all_goals first | exact wkEnd_same ⟨rfl, rfl⟩ | exact True.intro
noncomputable def spec_l17Has (v1 : Int) : Option Bool :=
  (some ((((v1 == 1) || (v1 == 2)) || (v1 == 3)) || (v1 == 10)))
set_option maxRecDepth 10000 in
set_option maxHeartbeats 4000000 in
theorem con_spec_l17Has (v1 : Int) (res_ : Bool) (h : spec_l17Has v1 = some res_) : Con Try.prog C0 54 [.sc (.int .i64 (v1))] []
    (fun x σ' => x = .sc (.bool (res_)) ∧ σ' = []) := by
  refine con_of_sem hP [0, 2] [.tmp 2] Try.func54 (by unfold Try.f54; rfl) rfl rfl (Nat.le_of_ble_eq_true rfl) rfl ?_
  simp only [enter_cons, enter_nil, List.length_cons, List.length_nil, Nat.reduceAdd]
  generalize hQ : endQ _ _ _ _ = Q
  unfold spec_l17Has at h
  refine sem_cut fun k1 hk1 => ?_
  simp (decide := true) only [go_sem, reduceIte, Nat.reduceAdd, Int.reduceToNat, Nat.reduceSub, Nat.reduceMul]
  refine r_cN hk1 (sem_cut fun k2 hk2 => ?_)
  repeat' (first | with_reducible refine And.intro ?_ ?_ | exact True.intro | with_reducible assumption | exact fun hf => False.elim hf | (intro hg; first | (simp +contextual [hg]; done) | grind) | omega | simp (decide := true) only [go_sem, reduceIte, Nat.reduceAdd, Int.reduceToNat, Nat.reduceSub, Nat.reduceMul])
  refine r_cN hk2 (r_ret ?_)
  obtain rfl := Option.some.inj h
  refine r_eAR hQ rfl rfl ?_
  simp (decide := true) only [go_sem, reduceIte, Nat.reduceAdd, Int.reduceToNat, Nat.reduceSub, Nat.reduceMul]
  all_goals first | exact wkEnd_same ⟨rfl, rfl⟩ | exact True.intro
noncomputable def spec_l17Arg (v1 : l26Rd) : Option (DevArg × l26Rd) :=
  (Option.bind (spec_l26Rd_pick v1 8) fun v2 => (cond (v2.1 == 0) (Option.bind (spec_l26Rd_num v2.2 [(-2147483648), 2147483647, 0, (-1), 2147483648, (-2147483649)]) fun v3 => (Option.bind (spec_l26Rd_num v3.2 [0, 7, 255, 255, 256, (-1)]) fun v4 => (some ((⟨12, v3.1, v4.1⟩ : DevArg), v4.2)))) (cond (v2.1 == 1) (Option.bind (spec_l26Rd_num v2.2 [(-32768), 32767, (-1), 255, 256, 32768, (-32769)]) fun v5 => (some ((⟨11, v5.1, 0⟩ : DevArg), v5.2))) (cond (v2.1 == 2) (Option.bind (spec_l26Rd_num v2.2 [0, 255, 256, 4]) fun v6 => (some ((⟨13, v6.1, 0⟩ : DevArg), v6.2))) (cond (v2.1 == 3) (Option.bind (spec_l26Rd_num v2.2 [0, 1, 10, 13, 14, 255]) fun v7 => (some ((⟨v7.1, 7, 0⟩ : DevArg), v7.2))) (Option.bind (spec_l26Rd_pick v2.2 10) fun v8 => (Option.bind (spec_l26Rd_num v8.2 [0, 255, 64, 100, 256, (-1)]) fun v9 => (some ((⟨(IntKind.i64.wrap (1 + v8.1)), v9.1, 0⟩ : DevArg), v9.2)))))))))
set_option maxRecDepth 10000 in
set_option maxHeartbeats 4000000 in
theorem con_spec_l17Arg (v1 : l26Rd) (res_ : (DevArg × l26Rd)) (h : spec_l17Arg v1 = some res_) : Con Try.prog C0 86 [.pt 0 0] [.rc [.fz 1 (R e_u8 (v1.b)), .sc (.int .i64 (v1.p))]]
    (fun x σ' => x = .agg [.sc (.int .i64 (res_.1.Kind)), .sc (.int .i64 (res_.1.N)), .sc (.int .i64 (res_.1.P))] ∧ σ' = [.rc [.fz 1 (R e_u8 (res_.2.b)), .sc (.int .i64 (res_.2.p))]]) := by
  refine con_of_sem hP [0, 2, 4, 5, 14, 20, 26] [.cell 2 85] Try.func86 (by unfold Try.f86; rfl) rfl rfl (Nat.le_of_ble_eq_true rfl) rfl ?_
  simp only [enter_cons, enter_nil, List.length_cons, List.length_nil, Nat.reduceAdd]
  generalize hQ : endQ _ _ _ _ = Q
  unfold spec_l17Arg at h
  refine sem_cut fun k1 hk1 => ?_
  simp (decide := true) only [go_sem, reduceIte, Nat.reduceAdd, Int.reduceToNat, Nat.reduceSub, Nat.reduceMul]
  refine r_cN hk1 (sem_cut fun k2 hk2 => ?_)
  refine sem_cut fun k3 hk3 => ?_
  obtain ⟨v2, c4H, h⟩ := bind_some' h
  repeat' (first | with_reducible refine And.intro ?_ ?_ | ((with_reducible refine i_call (n := 39) ?_); refine call_open [[0]] ?_) | ((with_reducible refine i_callW (n := 39) ?_); refine callW_use (con_spec_l26Rd_pick v1 8 v2 c4H) ?_; rintro x σ' ⟨rfl, rfl⟩ <;> ((with_reducible refine behind_go ?_))) | exact True.intro | with_reducible assumption | exact fun hf => False.elim hf | (intro hg; first | (simp +contextual [hg]; done) | grind) | omega | simp (decide := true) only [go_sem, reduceIte, Nat.reduceAdd, Int.reduceToNat, Nat.reduceSub, Nat.reduceMul])
  refine r_cN hk3 (sem_blk fun k5 hk5 => ?_)
  refine sem_cut fun k6 hk6 => ?_
  simp (decide := true) only [go_sem, reduceIte, Nat.reduceAdd, Int.reduceToNat, Nat.reduceSub, Nat.reduceMul]
  refine r_cN hk6 ?_
  refine sem_ifh rfl h ?_ ?_ <;> clear h <;> intro h
  · refine sem_cut fun k7 hk7 => ?_
    obtain ⟨v3, c8H, h⟩ := bind_some' h
    obtain ⟨v4, c9H, h⟩ := bind_some' h
    repeat' (first | with_reducible refine And.intro ?_ ?_ | ((with_reducible refine i_call (n := 89) ?_); refine call_open [[0]] ?_) | ((with_reducible refine i_callW (n := 89) ?_); refine callW_use (con_spec_l26Rd_num v2.2 [(-2147483648), 2147483647, 0, (-1), 2147483648, (-2147483649)] v3 c8H) ?_; rintro x σ' ⟨rfl, rfl⟩ <;> ((with_reducible refine behind_go ?_))) | ((with_reducible refine i_callW (n := 89) ?_); refine callW_use (con_spec_l26Rd_num v3.2 [0, 7, 255, 255, 256, (-1)] v4 c9H) ?_; rintro x σ' ⟨rfl, rfl⟩ <;> ((with_reducible refine behind_go ?_))) | exact True.intro | with_reducible assumption | exact fun hf => False.elim hf | (intro hg; first | (simp +contextual [hg]; done) | grind) | omega | simp (decide := true) only [go_sem, reduceIte, Nat.reduceAdd, Int.reduceToNat, Nat.reduceSub, Nat.reduceMul])
    refine r_cN hk7 (r_ret ?_)
    refine r_bR hk5 (r_cR hk2 ?_)
    obtain rfl := Option.some.inj h
    refine r_eAR hQ rfl rfl ?_
    simp (decide := true) only [go_sem, reduceIte, Nat.reduceAdd, Int.reduceToNat, Nat.reduceSub, Nat.reduceMul]
    repeat' (with_reducible refine And.intro ?_ ?_)
    all_goals first | exact wkEnd_same ⟨rfl, rfl⟩ | exact True.intro
  · refine sem_cut fun k10 hk10 => ?_
    simp (decide := true) only [go_sem, reduceIte, Nat.reduceAdd, Int.reduceToNat, Nat.reduceSub, Nat.reduceMul]
    refine r_cN hk10 ?_
    refine sem_ifh rfl h ?_ ?_ <;> clear h <;> intro h
    · refine sem_cut fun k11 hk11 => ?_
      obtain ⟨v5, c12H, h⟩ := bind_some' h
      repeat' (first | with_reducible refine And.intro ?_ ?_ | ((with_reducible refine i_call (n := 89) ?_); refine call_open [[0]] ?_) | ((with_reducible refine i_callW (n := 89) ?_); refine callW_use (con_spec_l26Rd_num v2.2 [(-32768), 32767, (-1), 255, 256, 32768, (-32769)] v5 c12H) ?_; rintro x σ' ⟨rfl, rfl⟩ <;> ((with_reducible refine behind_go ?_))) | exact True.intro | with_reducible assumption | exact fun hf => False.elim hf | (intro hg; first | (simp +contextual [hg]; done) | grind) | omega | simp (decide := true) only [go_sem, reduceIte, Nat.reduceAdd, Int.reduceToNat, Nat.reduceSub, Nat.reduceMul])
      refine r_cN hk11 (r_ret ?_)
      refine r_bR hk5 (r_cR hk2 ?_)
      obtain rfl := Option.some.inj h
      refine r_eAR hQ rfl rfl ?_
      simp (decide := true) only [go_sem, reduceIte, Nat.reduceAdd, Int.reduceToNat, Nat.reduceSub, Nat.reduceMul]
      repeat' (with_reducible refine And.intro ?_ ?_)
      all_goals first | exact wkEnd_same ⟨rfl, rfl⟩ | exact True.intro
    · refine sem_cut fun k13 hk13 => ?_
      simp (decide := true) only [go_sem, reduceIte, Nat.reduceAdd, Int.reduceToNat, Nat.reduceSub, Nat.reduceMul]
      refine r_cN hk13 ?_
      refine sem_ifh rfl h ?_ ?_ <;> clear h <;> intro h
      · refine sem_cut fun k14 hk14 => ?_
        obtain ⟨v6, c15H, h⟩ := bind_some' h
        repeat' (first | with_reducible refine And.intro ?_ ?_ | ((with_reducible refine i_call (n := 89) ?_); refine call_open [[0]] ?_) | ((with_reducible refine i_callW (n := 89) ?_); refine callW_use (con_spec_l26Rd_num v2.2 [0, 255, 256, 4] v6 c15H) ?_; rintro x σ' ⟨rfl, rfl⟩ <;> ((with_reducible refine behind_go ?_))) | exact True.intro | with_reducible assumption | exact fun hf => False.elim hf | (intro hg; first | (simp +contextual [hg]; done) | grind) | omega | simp (decide := true) only [go_sem, reduceIte, Nat.reduceAdd, Int.reduceToNat, Nat.reduceSub, Nat.reduceMul])
        refine r_cN hk14 (r_ret ?_)
        refine r_bR hk5 (r_cR hk2 ?_)
        obtain rfl := Option.some.inj h
        refine r_eAR hQ rfl rfl ?_
        simp (decide := true) only [go_sem, reduceIte, Nat.reduceAdd, Int.reduceToNat, Nat.reduceSub, Nat.reduceMul]
        repeat' (with_reducible refine And.intro ?_ ?_)
        all_goals first | exact wkEnd_same ⟨rfl, rfl⟩ | exact True.intro
      · refine sem_cut fun k16 hk16 => ?_
        simp (decide := true) only [go_sem, reduceIte, Nat.reduceAdd, Int.reduceToNat, Nat.reduceSub, Nat.reduceMul]
        refine r_cN hk16 ?_
        refine sem_ifh rfl h ?_ ?_ <;> clear h <;> intro h
        · refine sem_cut fun k17 hk17 => ?_
          obtain ⟨v7, c18H, h⟩ := bind_some' h
          repeat' (first | with_reducible refine And.intro ?_ ?_ | ((with_reducible refine i_call (n := 89) ?_); refine call_open [[0]] ?_) | ((with_reducible refine i_callW (n := 89) ?_); refine callW_use (con_spec_l26Rd_num v2.2 [0, 1, 10, 13, 14, 255] v7 c18H) ?_; rintro x σ' ⟨rfl, rfl⟩ <;> ((with_reducible refine behind_go ?_))) | exact True.intro | with_reducible assumption | exact fun hf => False.elim hf | (intro hg; first | (simp +contextual [hg]; done) | grind) | omega | simp (decide := true) only [go_sem, reduceIte, Nat.reduceAdd, Int.reduceToNat, Nat.reduceSub, Nat.reduceMul])
          refine r_cN hk17 (r_ret ?_)
          refine r_bR hk5 (r_cR hk2 ?_)
          obtain rfl := Option.some.inj h
          refine r_eAR hQ rfl rfl ?_
          simp (decide := true) only [go_sem, reduceIte, Nat.reduceAdd, Int.reduceToNat, Nat.reduceSub, Nat.reduceMul]
          repeat' (with_reducible refine And.intro ?_ ?_)
          all_goals first | exact wkEnd_same ⟨rfl, rfl⟩ | exact True.intro
        · refine r_skip (r_bN hk5 ?_)
          refine r_cN hk2 (sem_cut fun k19 hk19 => ?_)
          obtain ⟨v8, c20H, h⟩ := bind_some' h
          obtain ⟨v9, c21H, h⟩ := bind_some' h
          repeat' (first | with_reducible refine And.intro ?_ ?_ | ((with_reducible refine i_call (n := 39) ?_); refine call_open [[0]] ?_) | ((with_reducible refine i_callW (n := 39) ?_); refine callW_use (con_spec_l26Rd_pick v2.2 10 v8 c20H) ?_; rintro x σ' ⟨rfl, rfl⟩ <;> ((with_reducible refine behind_go ?_))) | ((with_reducible refine i_call (n := 89) ?_); refine call_open [[0]] ?_) | ((with_reducible refine i_callW (n := 89) ?_); refine callW_use (con_spec_l26Rd_num v8.2 [0, 255, 64, 100, 256, (-1)] v9 c21H) ?_; rintro x σ' ⟨rfl, rfl⟩ <;> ((with_reducible refine behind_go ?_))) | exact True.intro | with_reducible assumption | exact fun hf => False.elim hf | (intro hg; first | (simp +contextual [hg]; done) | grind) | omega | simp (decide := true) only [go_sem, reduceIte, Nat.reduceAdd, Int.reduceToNat, Nat.reduceSub, Nat.reduceMul])
          refine r_cN hk19 (r_ret ?_)
          obtain rfl := Option.some.inj h
          refine r_eAR hQ rfl rfl ?_
          simp (decide := true) only [go_sem, reduceIte, Nat.reduceAdd, Int.reduceToNat, Nat.reduceSub, Nat.reduceMul]
          repeat' (with_reducible refine And.intro ?_ ?_)
          all_goals first | exact wkEnd_same ⟨rfl, rfl⟩ | exact True.intro
noncomputable def spec_l17List_j13 : ((List Int) × Int × (List Inst)) → Option ((List Inst) × l26Rd)
  | (v52, v53, v54) => (some (v54, (⟨v52, v53⟩ : l26Rd)))
noncomputable def spec_l17List_j28 (v72 : (List Inst)) (v73 : Int) (v89 : (Inst × l26Rd)) : ((List Int) × Int × (List DevArg)) → Option (((List Int) × Int × (List Inst) × Int) ⊕ ((List Int) × Int × (List Inst)))
  | (v95, v96, v97) => (gd (apOk ((v72 ++ [(⟨v89.1.Code, v89.1.One_Op, v97⟩ : Inst)])).length 40) (some (.inl (v95, v96, (v72 ++ [(⟨v89.1.Code, v89.1.One_Op, v97⟩ : Inst)]), (IntKind.i64.wrap (v73 - 1))))))
noncomputable def spec_l17List_s17 : ((List Int) × Int × (List Inst) × Int) → Option (((List Int) × Int × (List Inst) × Int) ⊕ ((List Int) × Int × (List Inst)))
  | (v70, v71, v72, v73) => (cond (decide (v73 > 0)) (Option.bind (spec_l11Inst (⟨v70, v71⟩ : l26Rd)) fun v89 => (Option.bind (spec_l17Has v89.1.Code) fun v98 => (cond v98 (Option.bind (spec_l26Rd_pick v89.2 3) fun v99 => (cond (v99.1 == 0) (gd (apOk (v89.1.One_Args).length 24) (Option.bind (spec_l26Rd_pick v99.2 (((v89.1.One_Args).length : Nat) : Int)) fun v100 => (Option.bind (spec_l17Arg v100.2) fun v101 => (Option.bind (idx v89.1.One_Args (v100.1)) fun v102 => (spec_l17List_j28 v72 v73 v89 (v101.2.b, v101.2.p, ((v89.1.One_Args).set (v100.1).toNat v101.1))))))) (spec_l17List_j28 v72 v73 v89 (v99.2.b, v99.2.p, v89.1.One_Args)))) (spec_l17List_j28 v72 v73 v89 (v89.2.b, v89.2.p, v89.1.One_Args))))) (some (.inr (v70, v71, v72))))
noncomputable def spec_l17List (v1 : l26Rd) : Option ((List Inst) × l26Rd) :=
  (Option.bind (spec_l26Rd_pick v1 3) fun v2 => (cond (v2.1 == 0) (Option.bind (spec_l11Any v2.2) fun v3 => (some (v3.1, v3.2))) (Option.bind (spec_l26Rd_pick v2.2 12) fun v55 => ((loop spec_l17List_s17 (v55.2.b, v55.2.p, [], v55.1)).bind (fun v88 => (spec_l17List_j13 (v88.1, v88.2.1, v88.2.2)))))))
set_option maxRecDepth 10000 in
set_option maxHeartbeats 4000000 in
theorem con_spec_l17List (v1 : l26Rd) (res_ : ((List Inst) × l26Rd)) (h : spec_l17List v1 = some res_) : Con Try.prog C0 66 [.pt 0 0] [.rc [.fz 1 (R e_u8 (v1.b)), .sc (.int .i64 (v1.p))]]
    (fun x σ' => x = .fz 3 (R e_Inst (res_.1)) ∧ σ' = [.rc [.fz 1 (R e_u8 (res_.2.b)), .sc (.int .i64 (res_.2.p))]]) := by
  refine con_of_sem hP [0, 2, 3, 4, 5, 6, 7, 10, 17, 29] [.tmp 2] Try.func66 (by unfold Try.f66; rfl) rfl rfl (Nat.le_of_ble_eq_true rfl) rfl ?_
  simp only [enter_cons, enter_nil, List.length_cons, List.length_nil, Nat.reduceAdd]
  generalize hQ : endQ _ _ _ _ = Q
  unfold spec_l17List at h
  refine sem_cut fun k1 hk1 => ?_
  simp (decide := true) only [go_sem, reduceIte, Nat.reduceAdd, Int.reduceToNat, Nat.reduceSub, Nat.reduceMul]
  refine r_cN hk1 (sem_cut fun k2 hk2 => ?_)
  refine sem_cut fun k3 hk3 => ?_
  obtain ⟨v2, c4H, h⟩ := bind_some' h
  repeat' (first | with_reducible refine And.intro ?_ ?_ | ((with_reducible refine i_call (n := 39) ?_); refine call_open [[0]] ?_) | ((with_reducible refine i_callW (n := 39) ?_); refine callW_use (con_spec_l26Rd_pick v1 3 v2 c4H) ?_; rintro x σ' ⟨rfl, rfl⟩ <;> ((with_reducible refine behind_go ?_))) | exact True.intro | with_reducible assumption | exact fun hf => False.elim hf | (intro hg; first | (simp +contextual [hg]; done) | grind) | omega | simp (decide := true) only [go_sem, reduceIte, Nat.reduceAdd, Int.reduceToNat, Nat.reduceSub, Nat.reduceMul])
  refine r_cN hk3 ?_
  refine sem_ifh rfl h ?_ ?_ <;> clear h <;> intro h
  · refine sem_cut fun k5 hk5 => ?_
    obtain ⟨v3, c6H, h⟩ := bind_some' h
    repeat' (first | with_reducible refine And.intro ?_ ?_ | ((with_reducible refine i_call (n := 85) ?_); refine call_open [[0]] ?_) | ((with_reducible refine i_callW (n := 85) ?_); refine callW_use (con_spec_l11Any v2.2 v3 c6H) ?_; rintro x σ' ⟨rfl, rfl⟩ <;> ((with_reducible refine behind_go ?_))) | exact True.intro | with_reducible assumption | exact fun hf => False.elim hf | (intro hg; first | (simp +contextual [hg]; done) | grind) | omega | simp (decide := true) only [go_sem, reduceIte, Nat.reduceAdd, Int.reduceToNat, Nat.reduceSub, Nat.reduceMul])
    refine r_cN hk5 (r_ret ?_)
    refine r_cR hk2 ?_
    obtain rfl := Option.some.inj h
    refine r_eAR hQ rfl rfl ?_
    simp (decide := true) only [go_sem, reduceIte, Nat.reduceAdd, Int.reduceToNat, Nat.reduceSub, Nat.reduceMul]
    all_goals first | exact wkEnd_same ⟨rfl, rfl⟩ | exact True.intro
  · refine r_skip (r_cN hk2 ?_)
    refine sem_cut fun k7 hk7 => ?_
    simp (decide := true) only [go_sem, reduceIte, Nat.reduceAdd, Int.reduceToNat, Nat.reduceSub, Nat.reduceMul]
    refine r_cN hk7 (sem_cutJ (fun (_ : Unit) (x : ((List Int) × Int × (List Inst))) => (⟨[(3, .sl 1 0 ((x.2.2).length))], [.rc [.fz 1 (R e_u8 (x.1)), .sc (.int .i64 (x.2.1))], .arr true 3 (R e_Inst (x.2.2))]⟩ : St)) (fun (_ : Unit) (x : ((List Int) × Int × (List Inst))) => spec_l17List_j13 x = some res_) ?_ ?_)
    · rintro _ ⟨v52, v53, v54⟩ h
      simp only [spec_l17List_j13] at h
      refine sem_cut fun k108 hk108 => ?_
      simp (decide := true) only [go_sem, reduceIte, Nat.reduceAdd, Int.reduceToNat, Nat.reduceSub, Nat.reduceMul]
      refine r_cN hk108 (r_ret ?_)
      obtain rfl := Option.some.inj h
      refine r_eAR hQ rfl rfl ?_
      simp (decide := true) only [go_sem, reduceIte, Nat.reduceAdd, Int.reduceToNat, Nat.reduceSub, Nat.reduceMul]
      all_goals first | exact wkEnd_same ⟨rfl, rfl⟩ | exact True.intro
    · intro k110 hk110 J109
      refine sem_cut fun k111 hk111 => ?_
      obtain ⟨v55, c112H, h⟩ := bind_some' h
      repeat' (first | with_reducible refine And.intro ?_ ?_ | ((with_reducible refine i_call (n := 39) ?_); refine call_open [[0]] ?_) | ((with_reducible refine i_callW (n := 39) ?_); refine callW_use (con_spec_l26Rd_pick v2.2 12 v55 c112H) ?_; rintro x σ' ⟨rfl, rfl⟩ <;> ((with_reducible refine behind_go ?_))) | exact True.intro | with_reducible assumption | exact fun hf => False.elim hf | (intro hg; first | (simp +contextual [hg]; done) | grind) | omega | simp (decide := true) only [go_sem, reduceIte, Nat.reduceAdd, Int.reduceToNat, Nat.reduceSub, Nat.reduceMul])
      refine r_cN hk111 (sem_blk fun k113 hk113 => ?_)
      obtain ⟨oq178, hLq178, hKq178⟩ := bind_some' h
      clear h
      refine sem_loopP [0, 3, 4] (fun (_ : Unit) (x : ((List Int) × Int × (List Inst) × Int)) => (⟨[(0, .pt 0 0), (3, .sl 1 0 ((x.2.2.1).length)), (4, .sc (.int .i64 (x.2.2.2)))], [.rc [.fz 1 (R e_u8 (x.1)), .sc (.int .i64 (x.2.1))], .arr true 3 (R e_Inst (x.2.2.1))]⟩ : St)) (fun (_ : Unit) (x : ((List Int) × Int × (List Inst) × Int)) => True) spec_l17List_s17 () (v55.2.b, v55.2.p, [], v55.1) hLq178 (by rfl) (by rfl) ⟨?_, trivial⟩ ?_
      · first | exact wkSt_same rfl | (simp (decide := true) only [go_sem, reduceIte, Nat.reduceAdd, Int.reduceToNat, Nat.reduceSub, Nat.reduceMul]; exact wkSt_same rfl)
      · rintro nq178 _ ⟨v70, v71, v72, v73⟩ xq178 kq178 hkq178 - h hIq178 hEq178
        simp only [spec_l17List_s17] at h
        refine sem_cut fun k179 hk179 => sem_cut fun k180 hk180 => ?_
        simp (decide := true) only [go_sem, reduceIte, Nat.reduceAdd, Int.reduceToNat, Nat.reduceSub, Nat.reduceMul]
        refine r_cN hk180 ?_
        refine sem_ifh rfl h ?_ ?_ <;> clear h <;> intro h
        · refine r_skip (r_cN hk179 ?_)
          refine sem_cut fun k181 hk181 => sem_blk fun k182 hk182 => sem_cut fun k183 hk183 => ?_
          obtain ⟨v89, c184H, h⟩ := bind_some' h
          repeat' (first | with_reducible refine And.intro ?_ ?_ | ((with_reducible refine i_call (n := 70) ?_); refine call_open [[0]] ?_) | ((with_reducible refine i_callW (n := 70) ?_); refine callW_use (con_spec_l11Inst (⟨v70, v71⟩ : l26Rd) v89 c184H) ?_; rintro x σ' ⟨rfl, rfl⟩ <;> ((with_reducible refine behind_go ?_))) | exact True.intro | with_reducible assumption | exact fun hf => False.elim hf | (intro hg; first | (simp +contextual [hg]; done) | grind) | omega | simp (decide := true) only [go_sem, reduceIte, Nat.reduceAdd, Int.reduceToNat, Nat.reduceSub, Nat.reduceMul])
          refine r_cN hk183 (sem_cutJ (fun (i : P2) (x : ((List Int) × Int × (List DevArg))) => match i with | .a => (⟨[(0, .pt 0 0), (3, .sl 1 0 ((v72).length)), (4, .sc (.int .i64 (v73))), (5, .pt 2 0)], [.rc [.fz 1 (R e_u8 (x.1)), .sc (.int .i64 (x.2.1))], .arr true 3 (R e_Inst (v72)), .rc [.sc (.int .i64 (v89.1.Code)), .sc (.int .i64 (v89.1.One_Op)), .sl 3 0 ((x.2.2).length)], .arr true 3 (R e_DevArg (x.2.2))]⟩ : St) | .b => (⟨[(0, .pt 0 0), (3, .sl 1 0 ((v72).length)), (4, .sc (.int .i64 (v73))), (5, .pt 2 0)], [.rc [.fz 1 (R e_u8 (x.1)), .sc (.int .i64 (x.2.1))], .arr true 3 (R e_Inst (v72)), .rc [.sc (.int .i64 (v89.1.Code)), .sc (.int .i64 (v89.1.One_Op)), .fz 3 (R e_DevArg (x.2.2))]]⟩ : St)) (fun (i : P2) (x : ((List Int) × Int × (List DevArg))) => (match i with | .a => True | .b => True) ∧ spec_l17List_j28 v72 v73 v89 x = some xq178) ?_ ?_)
          · rintro (_ | _) ⟨v95, v96, v97⟩ ⟨hp, h⟩
            · simp only [spec_l17List_j28] at h
              obtain ⟨g196, h⟩ := gd_some h
              have g196A := apOk_1 g196; have g196B := apOk_2 g196
              repeat' (first | with_reducible refine And.intro ?_ ?_ | exact True.intro | with_reducible assumption | exact fun hf => False.elim hf | (intro hg; first | (simp +contextual [hg]; done) | grind) | omega | simp (decide := true) only [go_sem, reduceIte, Nat.reduceAdd, Int.reduceToNat, Nat.reduceSub, Nat.reduceMul, g196A, g196B])
              refine r_bN hk182 (r_cN hk181 ?_)
              simp (decide := true) only [go_sem, reduceIte, Nat.reduceAdd, Int.reduceToNat, Nat.reduceSub, Nat.reduceMul]
              obtain rfl := Option.some.inj h
              subst hkq178
              refine r_backP () _ rfl rfl ⟨?_, trivial⟩ (hIq178 _ rfl)
              first | exact wkSt_same rfl | (simp (decide := true) only [go_sem, reduceIte, Nat.reduceAdd, Int.reduceToNat, Nat.reduceSub, Nat.reduceMul]; exact wkSt_same rfl)
            · simp only [spec_l17List_j28] at h
              obtain ⟨g197, h⟩ := gd_some h
              have g197A := apOk_1 g197; have g197B := apOk_2 g197
              repeat' (first | with_reducible refine And.intro ?_ ?_ | exact True.intro | with_reducible assumption | exact fun hf => False.elim hf | (intro hg; first | (simp +contextual [hg]; done) | grind) | omega | simp (decide := true) only [go_sem, reduceIte, Nat.reduceAdd, Int.reduceToNat, Nat.reduceSub, Nat.reduceMul, g197A, g197B])
              refine r_bN hk182 (r_cN hk181 ?_)
              simp (decide := true) only [go_sem, reduceIte, Nat.reduceAdd, Int.reduceToNat, Nat.reduceSub, Nat.reduceMul]
              obtain rfl := Option.some.inj h
              subst hkq178
              refine r_backP () _ rfl rfl ⟨?_, trivial⟩ (hIq178 _ rfl)
              first | exact wkSt_same rfl | (simp (decide := true) only [go_sem, reduceIte, Nat.reduceAdd, Int.reduceToNat, Nat.reduceSub, Nat.reduceMul]; exact wkSt_same rfl)
          · intro k199 hk199 J198
            refine sem_cut fun k200 hk200 => ?_
            obtain ⟨v98, c201H, h⟩ := bind_some' h
            rcases Bool.eq_false_or_eq_true v98 with g202 | g202
            · replace h := cond_t h g202
              obtain ⟨v99, c203H, h⟩ := bind_some' h
              repeat' (first | with_reducible refine And.intro ?_ ?_ | ((with_reducible refine i_call (n := 54) ?_); refine call_openF [] ?_) | ((with_reducible refine i_callW (n := 54) ?_); refine callW_use (con_spec_l17Has v89.1.Code v98 c201H) ?_; rintro x σ' ⟨rfl, rfl⟩ <;> ((refine ⟨?_, ?_⟩; (focus simp (decide := true) only [go_sem, reduceIte, Nat.reduceAdd, Int.reduceToNat, Nat.reduceSub, Nat.reduceMul, g202])); (with_reducible refine behind_go ?_))) | ((with_reducible refine i_call (n := 39) ?_); refine call_open [[0]] ?_) | ((with_reducible refine i_callW (n := 39) ?_); refine callW_use (con_spec_l26Rd_pick v89.2 3 v99 c203H) ?_; rintro x σ' ⟨rfl, rfl⟩ <;> ((with_reducible refine behind_go ?_))) | exact True.intro | with_reducible assumption | exact fun hf => False.elim hf | (intro hg; first | (simp +contextual [hg]; done) | grind) | omega | simp (decide := true) only [go_sem, reduceIte, Nat.reduceAdd, Int.reduceToNat, Nat.reduceSub, Nat.reduceMul, g202])
              refine r_cN hk200 ?_
              refine sem_ifh rfl h ?_ ?_ <;> clear h <;> intro h
              · refine sem_cut fun k204 hk204 => ?_
                obtain ⟨g205, h⟩ := gd_some h
                have g205A := apOk_1 g205; have g205B := apOk_2 g205
                repeat' (first | with_reducible refine And.intro ?_ ?_ | exact True.intro | with_reducible assumption | exact fun hf => False.elim hf | (intro hg; first | (simp +contextual [hg]; done) | grind) | omega | simp (decide := true) only [go_sem, reduceIte, Nat.reduceAdd, Int.reduceToNat, Nat.reduceSub, Nat.reduceMul, g205A, g205B])
                refine r_cN hk204 (sem_cut fun k206 hk206 => ?_)
                obtain ⟨v100, c207H, h⟩ := bind_some' h
                repeat' (first | with_reducible refine And.intro ?_ ?_ | ((with_reducible refine i_call (n := 39) ?_); refine call_open [[0]] ?_) | ((with_reducible refine i_callW (n := 39) ?_); refine callW_use (con_spec_l26Rd_pick v99.2 (((v89.1.One_Args).length : Nat) : Int) v100 c207H) ?_; rintro x σ' ⟨rfl, rfl⟩ <;> ((with_reducible refine behind_go ?_))) | exact True.intro | with_reducible assumption | exact fun hf => False.elim hf | (intro hg; first | (simp +contextual [hg]; done) | grind) | omega | simp (decide := true) only [go_sem, reduceIte, Nat.reduceAdd, Int.reduceToNat, Nat.reduceSub, Nat.reduceMul])
                refine r_cN hk206 (sem_cut fun k208 hk208 => ?_)
                obtain ⟨v101, c209H, h⟩ := bind_some' h
                obtain ⟨v102, c210H, h⟩ := bind_some' h
                obtain ⟨c210A, c210B, c210C, -⟩ := idx_some c210H
                repeat' (first | with_reducible refine And.intro ?_ ?_ | ((with_reducible refine i_call (n := 86) ?_); refine call_open [[0]] ?_) | ((with_reducible refine i_callW (n := 86) ?_); refine callW_use (con_spec_l17Arg v100.2 v101 c209H) ?_; rintro x σ' ⟨rfl, rfl⟩ <;> ((with_reducible refine behind_go ?_))) | exact True.intro | with_reducible assumption | exact fun hf => False.elim hf | (intro hg; first | (simp +contextual [hg]; done) | grind) | omega | simp (decide := true) only [go_sem, reduceIte, Nat.reduceAdd, Int.reduceToNat, Nat.reduceSub, Nat.reduceMul, c210A, c210B, c210C])
                refine r_cN hk208 ?_
                simp (decide := true) only [go_sem, reduceIte, Nat.reduceAdd, Int.reduceToNat, Nat.reduceSub, Nat.reduceMul]
                refine r_joinU J198 [0, 3, 4, 5] (.a) (v101.2.b, v101.2.p, ((v89.1.One_Args).set (v100.1).toNat v101.1)) rfl rfl ⟨?_, ⟨trivial, h⟩⟩
                first | exact wkSt_same rfl | (simp (decide := true) only [go_sem, reduceIte, Nat.reduceAdd, Int.reduceToNat, Nat.reduceSub, Nat.reduceMul]; exact wkSt_same rfl)
              · refine r_skip (r_joinU J198 [0, 3, 4, 5] (.b) (v99.2.b, v99.2.p, v89.1.One_Args) rfl rfl ⟨?_, ⟨trivial, h⟩⟩)
                first | exact wkSt_same rfl | (simp (decide := true) only [go_sem, reduceIte, Nat.reduceAdd, Int.reduceToNat, Nat.reduceSub, Nat.reduceMul]; exact wkSt_same rfl)
            · replace h := cond_f h g202
              repeat' (first | with_reducible refine And.intro ?_ ?_ | ((with_reducible refine i_call (n := 54) ?_); refine call_openF [] ?_) | ((with_reducible refine i_callW (n := 54) ?_); refine callW_use (con_spec_l17Has v89.1.Code v98 c201H) ?_; rintro x σ' ⟨rfl, rfl⟩ <;> ((refine ⟨?_, ?_⟩; (focus simp (decide := true) only [go_sem, reduceIte, Nat.reduceAdd, Int.reduceToNat, Nat.reduceSub, Nat.reduceMul, g202])); (with_reducible refine behind_go ?_))) | exact True.intro | with_reducible assumption | exact fun hf => False.elim hf | (intro hg; first | (simp +contextual [hg]; done) | grind) | omega | simp (decide := true) only [go_sem, reduceIte, Nat.reduceAdd, Int.reduceToNat, Nat.reduceSub, Nat.reduceMul, g202])
              refine r_cN hk200 (sem_ifF rfl ?_)
              try replace h := cond_f h rfl
              refine r_skip (r_joinU J198 [0, 3, 4, 5] (.b) (v89.2.b, v89.2.p, v89.1.One_Args) rfl rfl ⟨?_, ⟨trivial, h⟩⟩)
              first | exact wkSt_same rfl | (simp (decide := true) only [go_sem, reduceIte, Nat.reduceAdd, Int.reduceToNat, Nat.reduceSub, Nat.reduceMul]; exact wkSt_same rfl)
        · refine r_exit (r_cE hk179 ?_)
          obtain rfl := Option.some.inj h
          obtain rfl := hEq178 _ rfl
          have h := hKq178
          try simp only [Sum.elim_inl, Sum.elim_inr] at h
          refine r_kE hkq178 (r_bE hk113 ?_)
          refine r_joinU J109 [3] () _ rfl rfl ⟨?_, h⟩
          first | exact wkSt_same rfl | (simp (decide := true) only [go_sem, reduceIte, Nat.reduceAdd, Int.reduceToNat, Nat.reduceSub, Nat.reduceMul]; exact wkSt_same rfl)
noncomputable def spec_l17Known (v1 : Int) (v2 : Int) : Option Bool :=
  (cond (v1 == 10) (some ((decide (v2 ≥ 21)) && (decide (v2 ≤ 37)))) (some ((decide (v2 ≥ 1)) && (decide (v2 ≤ 10)))))
set_option maxRecDepth 10000 in
set_option maxHeartbeats 4000000 in
theorem con_spec_l17Known (v1 : Int) (v2 : Int) (res_ : Bool) (h : spec_l17Known v1 v2 = some res_) : Con Try.prog C0 55 [.sc (.int .i64 (v1)), .sc (.int .i64 (v2))] []
    (fun x σ' => x = .sc (.bool (res_)) ∧ σ' = []) := by
  refine con_of_sem hP [0, 1, 4, 6] [.tmp 4] Try.func55 (by unfold Try.f55; rfl) rfl rfl (Nat.le_of_ble_eq_true rfl) rfl ?_
  simp only [enter_cons, enter_nil, List.length_cons, List.length_nil, Nat.reduceAdd]
  generalize hQ : endQ _ _ _ _ = Q
  unfold spec_l17Known at h
  refine sem_cut fun k1 hk1 => ?_
  simp (decide := true) only [go_sem, reduceIte, Nat.reduceAdd, Int.reduceToNat, Nat.reduceSub, Nat.reduceMul]
  refine r_cN hk1 (sem_cut fun k2 hk2 => ?_)
  refine sem_cut fun k3 hk3 => ?_
  simp (decide := true) only [go_sem, reduceIte, Nat.reduceAdd, Int.reduceToNat, Nat.reduceSub, Nat.reduceMul]
  refine r_cN hk3 ?_
  refine sem_ifh rfl h ?_ ?_ <;> clear h <;> intro h
  · refine sem_cut fun k4 hk4 => ?_
    repeat' (first | with_reducible refine And.intro ?_ ?_ | exact True.intro | with_reducible assumption | exact fun hf => False.elim hf | (intro hg; first | (simp +contextual [hg]; done) | grind) | omega | simp (decide := true) only [go_sem, reduceIte, Nat.reduceAdd, Int.reduceToNat, Nat.reduceSub, Nat.reduceMul])
    refine r_cN hk4 (r_ret ?_)
    refine r_cR hk2 ?_
    obtain rfl := Option.some.inj h
    refine r_eAR hQ rfl rfl ?_
    simp (decide := true) only [go_sem, reduceIte, Nat.reduceAdd, Int.reduceToNat, Nat.reduceSub, Nat.reduceMul]
    all_goals first | exact wkEnd_same ⟨rfl, rfl⟩ | exact True.intro
  · refine r_skip (r_cN hk2 ?_)
    refine sem_cut fun k5 hk5 => ?_
    repeat' (first | with_reducible refine And.intro ?_ ?_ | exact True.intro | with_reducible assumption | exact fun hf => False.elim hf | (intro hg; first | (simp +contextual [hg]; done) | grind) | omega | simp (decide := true) only [go_sem, reduceIte, Nat.reduceAdd, Int.reduceToNat, Nat.reduceSub, Nat.reduceMul])
    refine r_cN hk5 (r_ret ?_)
    obtain rfl := Option.some.inj h
    refine r_eAR hQ rfl rfl ?_
    simp (decide := true) only [go_sem, reduceIte, Nat.reduceAdd, Int.reduceToNat, Nat.reduceSub, Nat.reduceMul]
    all_goals first | exact wkEnd_same ⟨rfl, rfl⟩ | exact True.intro
noncomputable def spec_l17Field (v1 : DevArg) : Option Bool :=
  (cond (v1.Kind == 11) (some (((decide (v1.N ≥ (-32768))) && (decide (v1.N ≤ 32767))) && (v1.P == 0))) (cond (v1.Kind == 12) (some ((((decide (v1.N ≥ (-2147483648))) && (decide (v1.N ≤ 2147483647))) && (decide (v1.P ≥ 0))) && (decide (v1.P ≤ 255)))) (cond (v1.Kind == 13) (some (((decide (v1.N ≥ 0)) && (decide (v1.N ≤ 255))) && (v1.P == 0))) (some (((((decide (v1.Kind ≥ 1)) && (decide (v1.Kind ≤ 10))) && (decide (v1.N ≥ 0))) && (decide (v1.N ≤ 255))) && (v1.P == 0))))))
set_option maxRecDepth 10000 in
set_option maxHeartbeats 4000000 in
theorem con_spec_l17Field (v1 : DevArg) (res_ : Bool) (h : spec_l17Field v1 = some res_) : Con Try.prog C0 99 [.agg [.sc (.int .i64 (v1.Kind)), .sc (.int .i64 (v1.N)), .sc (.int .i64 (v1.P))]] []
    (fun x σ' => x = .sc (.bool (res_)) ∧ σ' = []) := by
  refine con_of_sem hP [0, 1, 2, 4, 5, 20, 40] [.tmp 2] Try.func99 (by unfold Try.f99; rfl) rfl rfl (Nat.le_of_ble_eq_true rfl) rfl ?_
  simp only [enter_cons, enter_nil, List.length_cons, List.length_nil, Nat.reduceAdd]
  generalize hQ : endQ _ _ _ _ = Q
  unfold spec_l17Field at h
  refine sem_cut fun k1 hk1 => ?_
  simp (decide := true) only [go_sem, reduceIte, Nat.reduceAdd, Int.reduceToNat, Nat.reduceSub, Nat.reduceMul]
  refine r_cN hk1 (sem_cut fun k2 hk2 => ?_)
  refine sem_cut fun k3 hk3 => ?_
  simp (decide := true) only [go_sem, reduceIte, Nat.reduceAdd, Int.reduceToNat, Nat.reduceSub, Nat.reduceMul]
  refine r_cN hk3 (sem_blk fun k4 hk4 => ?_)
  refine sem_cut fun k5 hk5 => ?_
  simp (decide := true) only [go_sem, reduceIte, Nat.reduceAdd, Int.reduceToNat, Nat.reduceSub, Nat.reduceMul]
  refine r_cN hk5 ?_
  refine sem_ifh rfl h ?_ ?_ <;> clear h <;> intro h
  · refine sem_cut fun k6 hk6 => ?_
    repeat' (first | with_reducible refine And.intro ?_ ?_ | exact True.intro | with_reducible assumption | exact fun hf => False.elim hf | (intro hg; first | (simp +contextual [hg]; done) | grind) | omega | simp (decide := true) only [go_sem, reduceIte, Nat.reduceAdd, Int.reduceToNat, Nat.reduceSub, Nat.reduceMul])
    refine r_cN hk6 (r_ret ?_)
    refine r_bR hk4 (r_cR hk2 ?_)
    obtain rfl := Option.some.inj h
    refine r_eAR hQ rfl rfl ?_
    simp (decide := true) only [go_sem, reduceIte, Nat.reduceAdd, Int.reduceToNat, Nat.reduceSub, Nat.reduceMul]
    all_goals first | exact wkEnd_same ⟨rfl, rfl⟩ | exact True.intro
  · refine sem_cut fun k7 hk7 => ?_
    simp (decide := true) only [go_sem, reduceIte, Nat.reduceAdd, Int.reduceToNat, Nat.reduceSub, Nat.reduceMul]
    refine r_cN hk7 ?_
    refine sem_ifh rfl h ?_ ?_ <;> clear h <;> intro h
    · refine sem_cut fun k8 hk8 => ?_
      repeat' (first | with_reducible refine And.intro ?_ ?_ | exact True.intro | with_reducible assumption | exact fun hf => False.elim hf | (intro hg; first | (simp +contextual [hg]; done) | grind) | omega | simp (decide := true) only [go_sem, reduceIte, Nat.reduceAdd, Int.reduceToNat, Nat.reduceSub, Nat.reduceMul])
      refine r_cN hk8 (r_ret ?_)
      refine r_bR hk4 (r_cR hk2 ?_)
      obtain rfl := Option.some.inj h
      refine r_eAR hQ rfl rfl ?_
      simp (decide := true) only [go_sem, reduceIte, Nat.reduceAdd, Int.reduceToNat, Nat.reduceSub, Nat.reduceMul]
      all_goals first | exact wkEnd_same ⟨rfl, rfl⟩ | exact True.intro
    · refine sem_cut fun k9 hk9 => ?_
      simp (decide := true) only [go_sem, reduceIte, Nat.reduceAdd, Int.reduceToNat, Nat.reduceSub, Nat.reduceMul]
      refine r_cN hk9 ?_
      refine sem_ifh rfl h ?_ ?_ <;> clear h <;> intro h
      · refine sem_cut fun k10 hk10 => ?_
        repeat' (first | with_reducible refine And.intro ?_ ?_ | exact True.intro | with_reducible assumption | exact fun hf => False.elim hf | (intro hg; first | (simp +contextual [hg]; done) | grind) | omega | simp (decide := true) only [go_sem, reduceIte, Nat.reduceAdd, Int.reduceToNat, Nat.reduceSub, Nat.reduceMul])
        refine r_cN hk10 (r_ret ?_)
        refine r_bR hk4 (r_cR hk2 ?_)
        obtain rfl := Option.some.inj h
        refine r_eAR hQ rfl rfl ?_
        simp (decide := true) only [go_sem, reduceIte, Nat.reduceAdd, Int.reduceToNat, Nat.reduceSub, Nat.reduceMul]
        all_goals first | exact wkEnd_same ⟨rfl, rfl⟩ | exact True.intro
      · refine r_skip (r_bN hk4 ?_)
        refine r_cN hk2 (sem_cut fun k11 hk11 => ?_)
        repeat' (first | with_reducible refine And.intro ?_ ?_ | exact True.intro | with_reducible assumption | exact fun hf => False.elim hf | (intro hg; first | (simp +contextual [hg]; done) | grind) | omega | simp (decide := true) only [go_sem, reduceIte, Nat.reduceAdd, Int.reduceToNat, Nat.reduceSub, Nat.reduceMul])
        refine r_cN hk11 (r_ret ?_)
        obtain rfl := Option.some.inj h
        refine r_eAR hQ rfl rfl ?_
        simp (decide := true) only [go_sem, reduceIte, Nat.reduceAdd, Int.reduceToNat, Nat.reduceSub, Nat.reduceMul]
        all_goals first | exact wkEnd_same ⟨rfl, rfl⟩ | exact True.intro

end Go.AM
