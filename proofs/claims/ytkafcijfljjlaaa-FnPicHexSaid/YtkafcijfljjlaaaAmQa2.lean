/- Pure functions and their contracts. Conditions: none. -/
import Derived.Test.YtkafcijfljjlaaaAmQa1
set_option linter.unusedSimpArgs false
set_option linter.unusedVariables false
namespace Go.AM
open Go Go.Proofs
noncomputable def spec_l11Play_close_j1 : ((List Int) × Int × (List Inst) × Int × Int × Bool × Bool) → Option l11Play
  | (v115, v116, v117, v118, v119, v120, v121) => (cond (!v121) (Option.bind (spec_l11Play_put (⟨(⟨v115, v116⟩ : l26Rd), v117, v118, v119, v120, v121⟩ : l11Play) 10) fun v122 => (some (⟨(⟨v122.r.b, v122.r.p⟩ : l26Rd), v122.out, v122.bits, v122.forks, v122.base, v122.fresh⟩ : l11Play))) (some (⟨(⟨v115, v116⟩ : l26Rd), v117, v118, v119, v120, v121⟩ : l11Play)))
noncomputable def spec_l11Play_close_j11 : ((List Int) × Int × (List Inst) × Int × Int × Bool × Bool) → Option (((List Int) × Int × (List Inst) × Int × Int × Bool × Bool) ⊕ ((List Int) × Int × (List Inst) × Int × Int × Bool × Bool))
  | (v202, v203, v204, v205, v206, v207, v208) => (some (.inl (v202, v203, v204, (IntKind.i64.wrap (v205 - 1)), v206, v207, v208)))
noncomputable def spec_l11Play_close_s3 : ((List Int) × Int × (List Inst) × Int × Int × Bool × Bool) → Option (((List Int) × Int × (List Inst) × Int × Int × Bool × Bool) ⊕ ((List Int) × Int × (List Inst) × Int × Int × Bool × Bool))
  | (v145, v146, v147, v148, v149, v150, v151) => (cond (decide (v148 > 1)) (cond v150 (cond (v148 == 2) (Option.bind (spec_l11Play_put (⟨(⟨v145, v146⟩ : l26Rd), v147, v148, v149, true, v151⟩ : l11Play) 4) fun v211 => (spec_l11Play_close_j11 (v211.r.b, v211.r.p, v211.out, v211.bits, v211.forks, v211.base, v211.fresh))) (Option.bind (spec_l26Rd_pick (⟨v145, v146⟩ : l26Rd) 2) fun v209 => (cond (v209.1 == 0) (Option.bind (spec_l11Play_put (⟨v209.2, v147, v148, v149, true, v151⟩ : l11Play) 4) fun v212 => (spec_l11Play_close_j11 (v212.r.b, v212.r.p, v212.out, v212.bits, v212.forks, v212.base, v212.fresh))) (Option.bind (spec_l11Play_put (⟨v209.2, v147, v148, v149, true, v151⟩ : l11Play) 5) fun v213 => (spec_l11Play_close_j11 (v213.r.b, v213.r.p, v213.out, v213.bits, v213.forks, v213.base, v213.fresh)))))) (Option.bind (spec_l26Rd_pick (⟨v145, v146⟩ : l26Rd) 2) fun v210 => (cond (v210.1 == 0) (Option.bind (spec_l11Play_put (⟨v210.2, v147, v148, v149, false, v151⟩ : l11Play) 4) fun v214 => (spec_l11Play_close_j11 (v214.r.b, v214.r.p, v214.out, v214.bits, v214.forks, v214.base, v214.fresh))) (Option.bind (spec_l11Play_put (⟨v210.2, v147, v148, v149, false, v151⟩ : l11Play) 5) fun v215 => (spec_l11Play_close_j11 (v215.r.b, v215.r.p, v215.out, v215.bits, v215.forks, v215.base, v215.fresh)))))) (some (.inr (v145, v146, v147, v148, v149, v150, v151))))
noncomputable def spec_l11Play_close (v1 : l11Play) : Option l11Play :=
  ((loop spec_l11Play_close_s3 (v1.r.b, v1.r.p, v1.out, v1.bits, v1.forks, v1.base, v1.fresh)).bind (fun v194 => (spec_l11Play_close_j1 (v194.1, v194.2.1, v194.2.2.1, v194.2.2.2.1, v194.2.2.2.2.1, v194.2.2.2.2.2.1, v194.2.2.2.2.2.2))))
set_option maxRecDepth 10000 in
set_option maxHeartbeats 4000000 in
theorem con_spec_l11Play_close (v1 : l11Play) (res_ : l11Play) (h : spec_l11Play_close v1 = some res_) : Con Try.prog C0 108 [.pt 0 0] [.rc [.pt 1 0, .sl 2 0 ((v1.out).length), .sc (.int .i64 (v1.bits)), .sc (.int .i64 (v1.forks)), .sc (.bool (v1.base)), .sc (.bool (v1.fresh))], .rc [.fz 1 (R e_u8 (v1.r.b)), .sc (.int .i64 (v1.r.p))], .arr true 3 (R e_Inst (v1.out))]
    (fun x σ' => (x = .tup [] ∧ σ' = [.rc [.pt 1 0, .sl 3 0 ((res_.out).length), .sc (.int .i64 (res_.bits)), .sc (.int .i64 (res_.forks)), .sc (.bool (res_.base)), .sc (.bool (res_.fresh))], .rc [.fz 1 (R e_u8 (res_.r.b)), .sc (.int .i64 (res_.r.p))], .dead, .arr true 3 (R e_Inst (res_.out))]) ∨ (x = .tup [] ∧ σ' = [.rc [.pt 1 0, .sl 2 0 ((res_.out).length), .sc (.int .i64 (res_.bits)), .sc (.int .i64 (res_.forks)), .sc (.bool (res_.base)), .sc (.bool (res_.fresh))], .rc [.fz 1 (R e_u8 (res_.r.b)), .sc (.int .i64 (res_.r.p))], .arr true 3 (R e_Inst (res_.out))])) := by
  refine con_of_sem hP [0, 6, 25, 42] [] Try.func108 (by unfold Try.f108; rfl) rfl rfl (Nat.le_of_ble_eq_true rfl) rfl ?_
  simp only [enter_cons, enter_nil, List.length_cons, List.length_nil, Nat.reduceAdd]
  generalize hQ : endQ _ _ _ _ = Q
  unfold spec_l11Play_close at h
  refine sem_cutJ (fun (i : P2) (x : ((List Int) × Int × (List Inst) × Int × Int × Bool × Bool)) => match i with | .a => (⟨[(0, .pt 0 0)], [.rc [.pt 1 0, .sl 2 0 ((x.2.2.1).length), .sc (.int .i64 (x.2.2.2.1)), .sc (.int .i64 (x.2.2.2.2.1)), .sc (.bool (x.2.2.2.2.2.1)), .sc (.bool (x.2.2.2.2.2.2))], .rc [.fz 1 (R e_u8 (x.1)), .sc (.int .i64 (x.2.1))], .arr true 3 (R e_Inst (x.2.2.1))]⟩ : St) | .b => (⟨[(0, .pt 0 0)], [.rc [.pt 1 0, .sl 3 0 ((x.2.2.1).length), .sc (.int .i64 (x.2.2.2.1)), .sc (.int .i64 (x.2.2.2.2.1)), .sc (.bool (x.2.2.2.2.2.1)), .sc (.bool (x.2.2.2.2.2.2))], .rc [.fz 1 (R e_u8 (x.1)), .sc (.int .i64 (x.2.1))], .dead, .arr true 3 (R e_Inst (x.2.2.1))]⟩ : St)) (fun (i : P2) (x : ((List Int) × Int × (List Inst) × Int × Int × Bool × Bool)) => (match i with | .a => True | .b => True) ∧ spec_l11Play_close_j1 x = some res_) ?_ ?_
  · rintro (_ | _) ⟨v115, v116, v117, v118, v119, v120, v121⟩ ⟨hp, h⟩
    · simp only [spec_l11Play_close_j1] at h
      refine sem_cut fun k128 hk128 => ?_
      simp (decide := true) only [go_sem, reduceIte, Nat.reduceAdd, Int.reduceToNat, Nat.reduceSub, Nat.reduceMul]
      refine r_cN hk128 ?_
      refine sem_ifh rfl h ?_ ?_ <;> clear h <;> intro h
      · obtain ⟨v122, c129H, h⟩ := bind_some' h
        repeat' (first | with_reducible refine And.intro ?_ ?_ | ((with_reducible refine i_call (n := 106) ?_); refine call_open [[0], [0, 0], [0, 1]] ?_) | ((with_reducible refine i_callW (n := 106) ?_); refine callW_use (con_spec_l11Play_put (⟨(⟨v115, v116⟩ : l26Rd), v117, v118, v119, v120, v121⟩ : l11Play) 10 v122 c129H) ?_; rintro x σ' ⟨rfl, rfl⟩ <;> ((with_reducible refine behind_go ?_))) | exact True.intro | with_reducible assumption | exact fun hf => False.elim hf | (intro hg; first | (simp +contextual [hg]; done) | grind) | omega | simp (decide := true) only [go_sem, reduceIte, Nat.reduceAdd, Int.reduceToNat, Nat.reduceSub, Nat.reduceMul])
        obtain rfl := Option.some.inj h
        refine r_eAN hQ rfl rfl ?_
        simp (decide := true) only [go_sem, reduceIte, Nat.reduceAdd, Int.reduceToNat, Nat.reduceSub, Nat.reduceMul]
        all_goals first | exact wkEnd_same (.inl ⟨rfl, rfl⟩) | exact True.intro
      · refine r_skip ?_
        obtain rfl := Option.some.inj h
        refine r_eAN hQ rfl rfl ?_
        simp (decide := true) only [go_sem, reduceIte, Nat.reduceAdd, Int.reduceToNat, Nat.reduceSub, Nat.reduceMul]
        all_goals first | exact wkEnd_same (.inr ⟨rfl, rfl⟩) | exact True.intro
    · simp only [spec_l11Play_close_j1] at h
      refine sem_cut fun k130 hk130 => ?_
      simp (decide := true) only [go_sem, reduceIte, Nat.reduceAdd, Int.reduceToNat, Nat.reduceSub, Nat.reduceMul]
      refine r_cN hk130 ?_
      refine sem_ifh rfl h ?_ ?_ <;> clear h <;> intro h
      · obtain ⟨v123, c131H, h⟩ := bind_some' h
        repeat' (first | with_reducible refine And.intro ?_ ?_ | ((with_reducible refine i_call (n := 106) ?_); refine call_open [[0], [0, 0], [0, 1]] ?_) | ((with_reducible refine i_callW (n := 106) ?_); refine callW_use (con_spec_l11Play_put (⟨(⟨v115, v116⟩ : l26Rd), v117, v118, v119, v120, v121⟩ : l11Play) 10 v123 c131H) ?_; rintro x σ' ⟨rfl, rfl⟩ <;> ((with_reducible refine behind_go ?_))) | exact True.intro | with_reducible assumption | exact fun hf => False.elim hf | (intro hg; first | (simp +contextual [hg]; done) | grind) | omega | simp (decide := true) only [go_sem, reduceIte, Nat.reduceAdd, Int.reduceToNat, Nat.reduceSub, Nat.reduceMul])
        obtain rfl := Option.some.inj h
        refine r_eAN hQ rfl rfl ?_
        simp (decide := true) only [go_sem, reduceIte, Nat.reduceAdd, Int.reduceToNat, Nat.reduceSub, Nat.reduceMul]
        all_goals first | exact wkEnd_same (.inl ⟨rfl, rfl⟩) | exact True.intro
      · refine r_skip ?_
        obtain rfl := Option.some.inj h
        refine r_eAN hQ rfl rfl ?_
        simp (decide := true) only [go_sem, reduceIte, Nat.reduceAdd, Int.reduceToNat, Nat.reduceSub, Nat.reduceMul]
        all_goals first | exact wkEnd_same (.inl ⟨rfl, rfl⟩) | exact True.intro
  · intro k133 hk133 J132
    refine sem_blk fun k134 hk134 => ?_
    obtain ⟨oq210, hLq210, hKq210⟩ := bind_some' h
    clear h
    refine sem_loopP [0] (fun (i : P2) (x : ((List Int) × Int × (List Inst) × Int × Int × Bool × Bool)) => match i with | .a => (⟨[(0, .pt 0 0)], [.rc [.pt 1 0, .sl 2 0 ((x.2.2.1).length), .sc (.int .i64 (x.2.2.2.1)), .sc (.int .i64 (x.2.2.2.2.1)), .sc (.bool (x.2.2.2.2.2.1)), .sc (.bool (x.2.2.2.2.2.2))], .rc [.fz 1 (R e_u8 (x.1)), .sc (.int .i64 (x.2.1))], .arr true 3 (R e_Inst (x.2.2.1))]⟩ : St) | .b => (⟨[(0, .pt 0 0)], [.rc [.pt 1 0, .sl 3 0 ((x.2.2.1).length), .sc (.int .i64 (x.2.2.2.1)), .sc (.int .i64 (x.2.2.2.2.1)), .sc (.bool (x.2.2.2.2.2.1)), .sc (.bool (x.2.2.2.2.2.2))], .rc [.fz 1 (R e_u8 (x.1)), .sc (.int .i64 (x.2.1))], .dead, .arr true 3 (R e_Inst (x.2.2.1))]⟩ : St)) (fun (i : P2) (x : ((List Int) × Int × (List Inst) × Int × Int × Bool × Bool)) => (match i with | .a => True | .b => True)) spec_l11Play_close_s3 (.a) (v1.r.b, v1.r.p, v1.out, v1.bits, v1.forks, v1.base, v1.fresh) hLq210 (by rfl) (by rfl) ⟨?_, trivial⟩ ?_
    · first | exact wkSt_same rfl | (simp (decide := true) only [go_sem, reduceIte, Nat.reduceAdd, Int.reduceToNat, Nat.reduceSub, Nat.reduceMul]; exact wkSt_same rfl)
    · rintro nq210 (_ | _) ⟨v145, v146, v147, v148, v149, v150, v151⟩ xq210 kq210 hkq210 hp h hIq210 hEq210
      · simp only [spec_l11Play_close_s3] at h
        refine sem_cut fun k211 hk211 => sem_cut fun k212 hk212 => ?_
        simp (decide := true) only [go_sem, reduceIte, Nat.reduceAdd, Int.reduceToNat, Nat.reduceSub, Nat.reduceMul]
        refine r_cN hk212 ?_
        refine sem_ifh rfl h ?_ ?_ <;> clear h <;> intro h
        · refine r_skip (r_cN hk211 ?_)
          refine sem_blk fun k213 hk213 => sem_cutJ (fun (_ : Unit) (x : ((List Int) × Int × (List Inst) × Int × Int × Bool × Bool)) => (⟨[(0, .pt 0 0)], [.rc [.pt 1 0, .sl 3 0 ((x.2.2.1).length), .sc (.int .i64 (x.2.2.2.1)), .sc (.int .i64 (x.2.2.2.2.1)), .sc (.bool (x.2.2.2.2.2.1)), .sc (.bool (x.2.2.2.2.2.2))], .rc [.fz 1 (R e_u8 (x.1)), .sc (.int .i64 (x.2.1))], .dead, .arr true 3 (R e_Inst (x.2.2.1))]⟩ : St)) (fun (_ : Unit) (x : ((List Int) × Int × (List Inst) × Int × Int × Bool × Bool)) => spec_l11Play_close_j11 x = some xq210) ?_ ?_
          · rintro _ ⟨v202, v203, v204, v205, v206, v207, v208⟩ h
            simp only [spec_l11Play_close_j11] at h
            simp (decide := true) only [go_sem, reduceIte, Nat.reduceAdd, Int.reduceToNat, Nat.reduceSub, Nat.reduceMul]
            refine r_bN hk213 ?_
            obtain rfl := Option.some.inj h
            subst hkq210
            refine r_backP (.b) (v202, v203, v204, (IntKind.i64.wrap (v205 - 1)), v206, v207, v208) rfl rfl ⟨?_, trivial⟩ (hIq210 _ rfl)
            first | exact wkSt_same rfl | (simp (decide := true) only [go_sem, reduceIte, Nat.reduceAdd, Int.reduceToNat, Nat.reduceSub, Nat.reduceMul]; exact wkSt_same rfl)
          · intro k225 hk225 J224
            refine sem_cut fun k226 hk226 => ?_
            rcases Bool.eq_false_or_eq_true v150 with g227 | g227
            · replace h := cond_t h g227
              rcases Bool.eq_false_or_eq_true (v148 == 2) with g228 | g228
              · replace h := cond_t h g228
                repeat' (first | with_reducible refine And.intro ?_ ?_ | exact True.intro | with_reducible assumption | exact fun hf => False.elim hf | (intro hg; first | (simp +contextual [hg]; done) | grind) | omega | simp (decide := true) only [go_sem, reduceIte, Nat.reduceAdd, Int.reduceToNat, Nat.reduceSub, Nat.reduceMul, g227, g228])
                refine r_cN hk226 (sem_ifT rfl ?_)
                try replace h := cond_t h rfl
                obtain ⟨v211, c229H, h⟩ := bind_some' h
                repeat' (first | with_reducible refine And.intro ?_ ?_ | ((with_reducible refine i_call (n := 106) ?_); refine call_open [[0], [0, 0], [0, 1]] ?_) | ((with_reducible refine i_callW (n := 106) ?_); refine callW_use (con_spec_l11Play_put (⟨(⟨v145, v146⟩ : l26Rd), v147, v148, v149, true, v151⟩ : l11Play) 4 v211 c229H) ?_; rintro x σ' ⟨rfl, rfl⟩ <;> ((with_reducible refine behind_go ?_))) | exact True.intro | with_reducible assumption | exact fun hf => False.elim hf | (intro hg; first | (simp +contextual [hg]; done) | grind) | omega | simp (decide := true) only [go_sem, reduceIte, Nat.reduceAdd, Int.reduceToNat, Nat.reduceSub, Nat.reduceMul])
                refine r_joinU J224 [0] () _ rfl rfl ⟨?_, h⟩
                first | exact wkSt_same rfl | (simp (decide := true) only [go_sem, reduceIte, Nat.reduceAdd, Int.reduceToNat, Nat.reduceSub, Nat.reduceMul]; exact wkSt_same rfl)
              · replace h := cond_f h g228
                obtain ⟨v209, c230H, h⟩ := bind_some' h
                repeat' (first | with_reducible refine And.intro ?_ ?_ | ((with_reducible refine i_call (n := 39) ?_); refine call_open [[0]] ?_) | ((with_reducible refine i_callW (n := 39) ?_); refine callW_use (con_spec_l26Rd_pick (⟨v145, v146⟩ : l26Rd) 2 v209 c230H) ?_; rintro x σ' ⟨rfl, rfl⟩ <;> ((with_reducible refine behind_go ?_))) | exact True.intro | with_reducible assumption | exact fun hf => False.elim hf | (intro hg; first | (simp +contextual [hg]; done) | grind) | omega | simp (decide := true) only [go_sem, reduceIte, Nat.reduceAdd, Int.reduceToNat, Nat.reduceSub, Nat.reduceMul, g227, g228])
                refine r_cN hk226 ?_
                refine sem_ifh rfl h ?_ ?_ <;> clear h <;> intro h
                · obtain ⟨v212, c231H, h⟩ := bind_some' h
                  repeat' (first | with_reducible refine And.intro ?_ ?_ | ((with_reducible refine i_call (n := 106) ?_); refine call_open [[0], [0, 0], [0, 1]] ?_) | ((with_reducible refine i_callW (n := 106) ?_); refine callW_use (con_spec_l11Play_put (⟨v209.2, v147, v148, v149, true, v151⟩ : l11Play) 4 v212 c231H) ?_; rintro x σ' ⟨rfl, rfl⟩ <;> ((with_reducible refine behind_go ?_))) | exact True.intro | with_reducible assumption | exact fun hf => False.elim hf | (intro hg; first | (simp +contextual [hg]; done) | grind) | omega | simp (decide := true) only [go_sem, reduceIte, Nat.reduceAdd, Int.reduceToNat, Nat.reduceSub, Nat.reduceMul])
                  refine r_joinU J224 [0] () _ rfl rfl ⟨?_, h⟩
                  first | exact wkSt_same rfl | (simp (decide := true) only [go_sem, reduceIte, Nat.reduceAdd, Int.reduceToNat, Nat.reduceSub, Nat.reduceMul]; exact wkSt_same rfl)
                · obtain ⟨v213, c232H, h⟩ := bind_some' h
                  repeat' (first | with_reducible refine And.intro ?_ ?_ | ((with_reducible refine i_call (n := 106) ?_); refine call_open [[0], [0, 0], [0, 1]] ?_) | ((with_reducible refine i_callW (n := 106) ?_); refine callW_use (con_spec_l11Play_put (⟨v209.2, v147, v148, v149, true, v151⟩ : l11Play) 5 v213 c232H) ?_; rintro x σ' ⟨rfl, rfl⟩ <;> ((with_reducible refine behind_go ?_))) | exact True.intro | with_reducible assumption | exact fun hf => False.elim hf | (intro hg; first | (simp +contextual [hg]; done) | grind) | omega | simp (decide := true) only [go_sem, reduceIte, Nat.reduceAdd, Int.reduceToNat, Nat.reduceSub, Nat.reduceMul])
                  refine r_joinU J224 [0] () _ rfl rfl ⟨?_, h⟩
                  first | exact wkSt_same rfl | (simp (decide := true) only [go_sem, reduceIte, Nat.reduceAdd, Int.reduceToNat, Nat.reduceSub, Nat.reduceMul]; exact wkSt_same rfl)
            · replace h := cond_f h g227
              obtain ⟨v210, c233H, h⟩ := bind_some' h
              repeat' (first | with_reducible refine And.intro ?_ ?_ | ((with_reducible refine i_call (n := 39) ?_); refine call_open [[0]] ?_) | ((with_reducible refine i_callW (n := 39) ?_); refine callW_use (con_spec_l26Rd_pick (⟨v145, v146⟩ : l26Rd) 2 v210 c233H) ?_; rintro x σ' ⟨rfl, rfl⟩ <;> ((with_reducible refine behind_go ?_))) | exact True.intro | with_reducible assumption | exact fun hf => False.elim hf | (intro hg; first | (simp +contextual [hg]; done) | grind) | omega | simp (decide := true) only [go_sem, reduceIte, Nat.reduceAdd, Int.reduceToNat, Nat.reduceSub, Nat.reduceMul, g227])
              refine r_cN hk226 ?_
              refine sem_ifh rfl h ?_ ?_ <;> clear h <;> intro h
              · obtain ⟨v214, c234H, h⟩ := bind_some' h
                repeat' (first | with_reducible refine And.intro ?_ ?_ | ((with_reducible refine i_call (n := 106) ?_); refine call_open [[0], [0, 0], [0, 1]] ?_) | ((with_reducible refine i_callW (n := 106) ?_); refine callW_use (con_spec_l11Play_put (⟨v210.2, v147, v148, v149, false, v151⟩ : l11Play) 4 v214 c234H) ?_; rintro x σ' ⟨rfl, rfl⟩ <;> ((with_reducible refine behind_go ?_))) | exact True.intro | with_reducible assumption | exact fun hf => False.elim hf | (intro hg; first | (simp +contextual [hg]; done) | grind) | omega | simp (decide := true) only [go_sem, reduceIte, Nat.reduceAdd, Int.reduceToNat, Nat.reduceSub, Nat.reduceMul])
                refine r_joinU J224 [0] () _ rfl rfl ⟨?_, h⟩
                first | exact wkSt_same rfl | (simp (decide := true) only [go_sem, reduceIte, Nat.reduceAdd, Int.reduceToNat, Nat.reduceSub, Nat.reduceMul]; exact wkSt_same rfl)
              · obtain ⟨v215, c235H, h⟩ := bind_some' h
                repeat' (first | with_reducible refine And.intro ?_ ?_ | ((with_reducible refine i_call (n := 106) ?_); refine call_open [[0], [0, 0], [0, 1]] ?_) | ((with_reducible refine i_callW (n := 106) ?_); refine callW_use (con_spec_l11Play_put (⟨v210.2, v147, v148, v149, false, v151⟩ : l11Play) 5 v215 c235H) ?_; rintro x σ' ⟨rfl, rfl⟩ <;> ((with_reducible refine behind_go ?_))) | exact True.intro | with_reducible assumption | exact fun hf => False.elim hf | (intro hg; first | (simp +contextual [hg]; done) | grind) | omega | simp (decide := true) only [go_sem, reduceIte, Nat.reduceAdd, Int.reduceToNat, Nat.reduceSub, Nat.reduceMul])
                refine r_joinU J224 [0] () _ rfl rfl ⟨?_, h⟩
                first | exact wkSt_same rfl | (simp (decide := true) only [go_sem, reduceIte, Nat.reduceAdd, Int.reduceToNat, Nat.reduceSub, Nat.reduceMul]; exact wkSt_same rfl)
        · refine r_exit (r_cE hk211 ?_)
          obtain rfl := Option.some.inj h
          obtain rfl := hEq210 _ rfl
          have h := hKq210
          try simp only [Sum.elim_inl, Sum.elim_inr] at h
          refine r_kE hkq210 (r_bE hk134 ?_)
          refine r_joinU J132 [0] (.a) (v145, v146, v147, v148, v149, v150, v151) rfl rfl ⟨?_, ⟨trivial, h⟩⟩
          first | exact wkSt_same rfl | (simp (decide := true) only [go_sem, reduceIte, Nat.reduceAdd, Int.reduceToNat, Nat.reduceSub, Nat.reduceMul]; exact wkSt_same rfl)
      · simp only [spec_l11Play_close_s3] at h
        refine sem_cut fun k236 hk236 => sem_cut fun k237 hk237 => ?_
        simp (decide := true) only [go_sem, reduceIte, Nat.reduceAdd, Int.reduceToNat, Nat.reduceSub, Nat.reduceMul]
        refine r_cN hk237 ?_
        refine sem_ifh rfl h ?_ ?_ <;> clear h <;> intro h
        · refine r_skip (r_cN hk236 ?_)
          refine sem_blk fun k238 hk238 => sem_cutJ (fun (_ : Unit) (x : ((List Int) × Int × (List Inst) × Int × Int × Bool × Bool)) => (⟨[(0, .pt 0 0)], [.rc [.pt 1 0, .sl 3 0 ((x.2.2.1).length), .sc (.int .i64 (x.2.2.2.1)), .sc (.int .i64 (x.2.2.2.2.1)), .sc (.bool (x.2.2.2.2.2.1)), .sc (.bool (x.2.2.2.2.2.2))], .rc [.fz 1 (R e_u8 (x.1)), .sc (.int .i64 (x.2.1))], .dead, .arr true 3 (R e_Inst (x.2.2.1))]⟩ : St)) (fun (_ : Unit) (x : ((List Int) × Int × (List Inst) × Int × Int × Bool × Bool)) => spec_l11Play_close_j11 x = some xq210) ?_ ?_
          · rintro _ ⟨v223, v224, v225, v226, v227, v228, v229⟩ h
            simp only [spec_l11Play_close_j11] at h
            simp (decide := true) only [go_sem, reduceIte, Nat.reduceAdd, Int.reduceToNat, Nat.reduceSub, Nat.reduceMul]
            refine r_bN hk238 ?_
            obtain rfl := Option.some.inj h
            subst hkq210
            refine r_backP (.b) (v223, v224, v225, (IntKind.i64.wrap (v226 - 1)), v227, v228, v229) rfl rfl ⟨?_, trivial⟩ (hIq210 _ rfl)
            first | exact wkSt_same rfl | (simp (decide := true) only [go_sem, reduceIte, Nat.reduceAdd, Int.reduceToNat, Nat.reduceSub, Nat.reduceMul]; exact wkSt_same rfl)
          · intro k250 hk250 J249
            refine sem_cut fun k251 hk251 => ?_
            rcases Bool.eq_false_or_eq_true v150 with g252 | g252
            · replace h := cond_t h g252
              rcases Bool.eq_false_or_eq_true (v148 == 2) with g253 | g253
              · replace h := cond_t h g253
                repeat' (first | with_reducible refine And.intro ?_ ?_ | exact True.intro | with_reducible assumption | exact fun hf => False.elim hf | (intro hg; first | (simp +contextual [hg]; done) | grind) | omega | simp (decide := true) only [go_sem, reduceIte, Nat.reduceAdd, Int.reduceToNat, Nat.reduceSub, Nat.reduceMul, g252, g253])
                refine r_cN hk251 (sem_ifT rfl ?_)
                try replace h := cond_t h rfl
                obtain ⟨v232, c254H, h⟩ := bind_some' h
                repeat' (first | with_reducible refine And.intro ?_ ?_ | ((with_reducible refine i_call (n := 106) ?_); refine call_open [[0], [0, 0], [0, 1]] ?_) | ((with_reducible refine i_callW (n := 106) ?_); refine callW_use (con_spec_l11Play_put (⟨(⟨v145, v146⟩ : l26Rd), v147, v148, v149, true, v151⟩ : l11Play) 4 v232 c254H) ?_; rintro x σ' ⟨rfl, rfl⟩ <;> ((with_reducible refine behind_go ?_))) | exact True.intro | with_reducible assumption | exact fun hf => False.elim hf | (intro hg; first | (simp +contextual [hg]; done) | grind) | omega | simp (decide := true) only [go_sem, reduceIte, Nat.reduceAdd, Int.reduceToNat, Nat.reduceSub, Nat.reduceMul])
                refine r_joinU J249 [0] () _ rfl rfl ⟨?_, h⟩
                first | exact wkSt_same rfl | (simp (decide := true) only [go_sem, reduceIte, Nat.reduceAdd, Int.reduceToNat, Nat.reduceSub, Nat.reduceMul]; exact wkSt_same rfl)
              · replace h := cond_f h g253
                obtain ⟨v230, c255H, h⟩ := bind_some' h
                repeat' (first | with_reducible refine And.intro ?_ ?_ | ((with_reducible refine i_call (n := 39) ?_); refine call_open [[0]] ?_) | ((with_reducible refine i_callW (n := 39) ?_); refine callW_use (con_spec_l26Rd_pick (⟨v145, v146⟩ : l26Rd) 2 v230 c255H) ?_; rintro x σ' ⟨rfl, rfl⟩ <;> ((with_reducible refine behind_go ?_))) | exact True.intro | with_reducible assumption | exact fun hf => False.elim hf | (intro hg; first | (simp +contextual [hg]; done) | grind) | omega | simp (decide := true) only [go_sem, reduceIte, Nat.reduceAdd, Int.reduceToNat, Nat.reduceSub, Nat.reduceMul, g252, g253])
                refine r_cN hk251 ?_
                refine sem_ifh rfl h ?_ ?_ <;> clear h <;> intro h
                · obtain ⟨v233, c256H, h⟩ := bind_some' h
                  repeat' (first | with_reducible refine And.intro ?_ ?_ | ((with_reducible refine i_call (n := 106) ?_); refine call_open [[0], [0, 0], [0, 1]] ?_) | ((with_reducible refine i_callW (n := 106) ?_); refine callW_use (con_spec_l11Play_put (⟨v230.2, v147, v148, v149, true, v151⟩ : l11Play) 4 v233 c256H) ?_; rintro x σ' ⟨rfl, rfl⟩ <;> ((with_reducible refine behind_go ?_))) | exact True.intro | with_reducible assumption | exact fun hf => False.elim hf | (intro hg; first | (simp +contextual [hg]; done) | grind) | omega | simp (decide := true) only [go_sem, reduceIte, Nat.reduceAdd, Int.reduceToNat, Nat.reduceSub, Nat.reduceMul])
                  refine r_joinU J249 [0] () _ rfl rfl ⟨?_, h⟩
                  first | exact wkSt_same rfl | (simp (decide := true) only [go_sem, reduceIte, Nat.reduceAdd, Int.reduceToNat, Nat.reduceSub, Nat.reduceMul]; exact wkSt_same rfl)
                · obtain ⟨v234, c257H, h⟩ := bind_some' h
                  repeat' (first | with_reducible refine And.intro ?_ ?_ | ((with_reducible refine i_call (n := 106) ?_); refine call_open [[0], [0, 0], [0, 1]] ?_) | ((with_reducible refine i_callW (n := 106) ?_); refine callW_use (con_spec_l11Play_put (⟨v230.2, v147, v148, v149, true, v151⟩ : l11Play) 5 v234 c257H) ?_; rintro x σ' ⟨rfl, rfl⟩ <;> ((with_reducible refine behind_go ?_))) | exact True.intro | with_reducible assumption | exact fun hf => False.elim hf | (intro hg; first | (simp +contextual [hg]; done) | grind) | omega | simp (decide := true) only [go_sem, reduceIte, Nat.reduceAdd, Int.reduceToNat, Nat.reduceSub, Nat.reduceMul])
                  refine r_joinU J249 [0] () _ rfl rfl ⟨?_, h⟩
                  first | exact wkSt_same rfl | (simp (decide := true) only [go_sem, reduceIte, Nat.reduceAdd, Int.reduceToNat, Nat.reduceSub, Nat.reduceMul]; exact wkSt_same rfl)
            · replace h := cond_f h g252
              obtain ⟨v231, c258H, h⟩ := bind_some' h
              repeat' (first | with_reducible refine And.intro ?_ ?_ | ((with_reducible refine i_call (n := 39) ?_); refine call_open [[0]] ?_) | ((with_reducible refine i_callW (n := 39) ?_); refine callW_use (con_spec_l26Rd_pick (⟨v145, v146⟩ : l26Rd) 2 v231 c258H) ?_; rintro x σ' ⟨rfl, rfl⟩ <;> ((with_reducible refine behind_go ?_))) | exact True.intro | with_reducible assumption | exact fun hf => False.elim hf | (intro hg; first | (simp +contextual [hg]; done) | grind) | omega | simp (decide := true) only [go_sem, reduceIte, Nat.reduceAdd, Int.reduceToNat, Nat.reduceSub, Nat.reduceMul, g252])
              refine r_cN hk251 ?_
              refine sem_ifh rfl h ?_ ?_ <;> clear h <;> intro h
              · obtain ⟨v235, c259H, h⟩ := bind_some' h
                repeat' (first | with_reducible refine And.intro ?_ ?_ | ((with_reducible refine i_call (n := 106) ?_); refine call_open [[0], [0, 0], [0, 1]] ?_) | ((with_reducible refine i_callW (n := 106) ?_); refine callW_use (con_spec_l11Play_put (⟨v231.2, v147, v148, v149, false, v151⟩ : l11Play) 4 v235 c259H) ?_; rintro x σ' ⟨rfl, rfl⟩ <;> ((with_reducible refine behind_go ?_))) | exact True.intro | with_reducible assumption | exact fun hf => False.elim hf | (intro hg; first | (simp +contextual [hg]; done) | grind) | omega | simp (decide := true) only [go_sem, reduceIte, Nat.reduceAdd, Int.reduceToNat, Nat.reduceSub, Nat.reduceMul])
                refine r_joinU J249 [0] () _ rfl rfl ⟨?_, h⟩
                first | exact wkSt_same rfl | (simp (decide := true) only [go_sem, reduceIte, Nat.reduceAdd, Int.reduceToNat, Nat.reduceSub, Nat.reduceMul]; exact wkSt_same rfl)
              · obtain ⟨v236, c260H, h⟩ := bind_some' h
                repeat' (first | with_reducible refine And.intro ?_ ?_ | ((with_reducible refine i_call (n := 106) ?_); refine call_open [[0], [0, 0], [0, 1]] ?_) | ((with_reducible refine i_callW (n := 106) ?_); refine callW_use (con_spec_l11Play_put (⟨v231.2, v147, v148, v149, false, v151⟩ : l11Play) 5 v236 c260H) ?_; rintro x σ' ⟨rfl, rfl⟩ <;> ((with_reducible refine behind_go ?_))) | exact True.intro | with_reducible assumption | exact fun hf => False.elim hf | (intro hg; first | (simp +contextual [hg]; done) | grind) | omega | simp (decide := true) only [go_sem, reduceIte, Nat.reduceAdd, Int.reduceToNat, Nat.reduceSub, Nat.reduceMul])
                refine r_joinU J249 [0] () _ rfl rfl ⟨?_, h⟩
                first | exact wkSt_same rfl | (simp (decide := true) only [go_sem, reduceIte, Nat.reduceAdd, Int.reduceToNat, Nat.reduceSub, Nat.reduceMul]; exact wkSt_same rfl)
        · refine r_exit (r_cE hk236 ?_)
          obtain rfl := Option.some.inj h
          obtain rfl := hEq210 _ rfl
          have h := hKq210
          try simp only [Sum.elim_inl, Sum.elim_inr] at h
          refine r_kE hkq210 (r_bE hk134 ?_)
          refine r_joinU J132 [0] (.b) (v145, v146, v147, v148, v149, v150, v151) rfl rfl ⟨?_, ⟨trivial, h⟩⟩
          first | exact wkSt_same rfl | (simp (decide := true) only [go_sem, reduceIte, Nat.reduceAdd, Int.reduceToNat, Nat.reduceSub, Nat.reduceMul]; exact wkSt_same rfl)
noncomputable def spec_l11Play_step_j26 (v1 : l11Play) (v2 : Int) (v3 : (Int × l26Rd)) : Bool → Option l11Play
  | v6 => (cond v6 (Option.bind (spec_l11Play_put (⟨v3.2, v1.out, v1.bits, v1.forks, v1.base, v1.fresh⟩ : l11Play) 2) fun v7 => (some (⟨(⟨v7.r.b, v7.r.p⟩ : l26Rd), v7.out, v7.bits, v7.forks, v7.base, v7.fresh⟩ : l11Play))) (cond (v3.1 == 4) (cond (decide (v1.bits ≥ v2)) (Option.bind (spec_l11Play_put (⟨v3.2, v1.out, v1.bits, v1.forks, v1.base, v1.fresh⟩ : l11Play) 3) fun v8 => (some (⟨(⟨v8.r.b, v8.r.p⟩ : l26Rd), v8.out, v8.bits, v8.forks, v8.base, v8.fresh⟩ : l11Play))) (some (⟨v3.2, v1.out, v1.bits, v1.forks, v1.base, v1.fresh⟩ : l11Play))) (cond (v3.1 == 5) (cond (decide (v1.bits ≥ v2)) (Option.bind (spec_l26Rd_pick v3.2 2) fun v9 => (cond (v9.1 == 0) (Option.bind (spec_l11Play_put (⟨v9.2, v1.out, v1.bits, v1.forks, v1.base, v1.fresh⟩ : l11Play) 6) fun v10 => (some (⟨(⟨v10.r.b, v10.r.p⟩ : l26Rd), v10.out, v10.bits, v10.forks, v10.base, v10.fresh⟩ : l11Play))) (some (⟨v9.2, v1.out, v1.bits, v1.forks, v1.base, v1.fresh⟩ : l11Play)))) (some (⟨v3.2, v1.out, v1.bits, v1.forks, v1.base, v1.fresh⟩ : l11Play))) (cond (v3.1 == 6) (cond (decide (v1.bits > 1)) (Option.bind (spec_l11Play_put (⟨v3.2, v1.out, v1.bits, v1.forks, v1.base, v1.fresh⟩ : l11Play) 4) fun v11 => (some (⟨(⟨v11.r.b, v11.r.p⟩ : l26Rd), v11.out, (IntKind.i64.wrap (v11.bits - 1)), v11.forks, v11.base, v11.fresh⟩ : l11Play))) (some (⟨v3.2, v1.out, v1.bits, v1.forks, v1.base, v1.fresh⟩ : l11Play))) (cond (v3.1 == 7) (cond (decide (v1.bits > v2)) (Option.bind (spec_l11Play_put (⟨v3.2, v1.out, v1.bits, v1.forks, v1.base, v1.fresh⟩ : l11Play) 5) fun v12 => (some (⟨(⟨v12.r.b, v12.r.p⟩ : l26Rd), v12.out, (IntKind.i64.wrap (v12.bits - 1)), v12.forks, v12.base, v12.fresh⟩ : l11Play))) (some (⟨v3.2, v1.out, v1.bits, v1.forks, v1.base, v1.fresh⟩ : l11Play))) (cond (v3.1 == 8) (cond (v1.bits == 1) (Option.bind (spec_l11Play_put (⟨v3.2, v1.out, v1.bits, v1.forks, v1.base, v1.fresh⟩ : l11Play) 10) fun v13 => (some (⟨(⟨v13.r.b, v13.r.p⟩ : l26Rd), v13.out, v13.bits, v13.forks, v13.base, v13.fresh⟩ : l11Play))) (some (⟨v3.2, v1.out, v1.bits, v1.forks, v1.base, v1.fresh⟩ : l11Play))) (cond (v3.1 == 9) (cond ((v1.bits == 1) && (decide (v1.forks < 8))) (Option.bind (spec_l11Play_put (⟨v3.2, v1.out, v1.bits, v1.forks, v1.base, v1.fresh⟩ : l11Play) 7) fun v14 => (some (⟨(⟨v14.r.b, v14.r.p⟩ : l26Rd), v14.out, v14.bits, (IntKind.i64.wrap (v14.forks + 1)), v14.base, v14.fresh⟩ : l11Play))) (some (⟨v3.2, v1.out, v1.bits, v1.forks, v1.base, v1.fresh⟩ : l11Play))) (cond (decide (v1.forks > 0)) (Option.bind (spec_l11Play_close (⟨v3.2, v1.out, v1.bits, v1.forks, v1.base, v1.fresh⟩ : l11Play)) fun v15 => (Option.bind (spec_l26Rd_pick (⟨v15.r.b, v15.r.p⟩ : l26Rd) 2) fun v16 => (Option.bind (spec_l11Play_put (⟨v16.2, v15.out, v15.bits, v15.forks, v15.base, v15.fresh⟩ : l11Play) (IntKind.i64.wrap (8 + v16.1))) fun v17 => (Option.bind (idx v17.out ((IntKind.i64.wrap ((((v17.out).length : Nat) : Int) - 1)))) fun v18 => (cond (v18.Code == 9) (some (⟨(⟨v17.r.b, v17.r.p⟩ : l26Rd), v17.out, v17.bits, (IntKind.i64.wrap (v17.forks - 1)), v17.base, v17.fresh⟩ : l11Play)) (some (⟨(⟨v17.r.b, v17.r.p⟩ : l26Rd), v17.out, v17.bits, v17.forks, v17.base, v17.fresh⟩ : l11Play))))))) (some (⟨v3.2, v1.out, v1.bits, v1.forks, v1.base, v1.fresh⟩ : l11Play))))))))))
noncomputable def spec_l11Play_step_j12 (v1 : l11Play) (v2 : Int) (v3 : (Int × l26Rd)) : Bool → Option l11Play
  | v4 => (cond v4 (cond (decide (v1.bits < 16)) (Option.bind (spec_l11Play_put (⟨v3.2, v1.out, v1.bits, v1.forks, v1.base, v1.fresh⟩ : l11Play) 1) fun v5 => (some (⟨(⟨v5.r.b, v5.r.p⟩ : l26Rd), v5.out, (IntKind.i64.wrap (v5.bits + 1)), v5.forks, v5.base, v5.fresh⟩ : l11Play))) (some (⟨v3.2, v1.out, v1.bits, v1.forks, v1.base, v1.fresh⟩ : l11Play))) (cond (v3.1 == 2) (spec_l11Play_step_j26 v1 v2 v3 (v3.1 == 2)) (spec_l11Play_step_j26 v1 v2 v3 (v3.1 == 3))))
noncomputable def spec_l11Play_step_j3 (v1 : l11Play) : Int → Option l11Play
  | v2 => (Option.bind (spec_l26Rd_pick (⟨v1.r.b, v1.r.p⟩ : l26Rd) 11) fun v3 => (cond (v3.1 == 0) (spec_l11Play_step_j12 v1 v2 v3 (v3.1 == 0)) (spec_l11Play_step_j12 v1 v2 v3 (v3.1 == 1))))
noncomputable def spec_l11Play_step (v1 : l11Play) : Option l11Play :=
  (cond v1.base (spec_l11Play_step_j3 v1 2) (spec_l11Play_step_j3 v1 1))
set_option maxRecDepth 10000 in
set_option maxHeartbeats 4000000 in
theorem con_spec_l11Play_step (v1 : l11Play) (res_ : l11Play) (h : spec_l11Play_step v1 = some res_) : Con Try.prog C0 107 [.pt 0 0] [.rc [.pt 1 0, .sl 2 0 ((v1.out).length), .sc (.int .i64 (v1.bits)), .sc (.int .i64 (v1.forks)), .sc (.bool (v1.base)), .sc (.bool (v1.fresh))], .rc [.fz 1 (R e_u8 (v1.r.b)), .sc (.int .i64 (v1.r.p))], .arr true 3 (R e_Inst (v1.out))]
    (fun x σ' => (x = .tup [] ∧ σ' = [.rc [.pt 1 0, .sl 3 0 ((res_.out).length), .sc (.int .i64 (res_.bits)), .sc (.int .i64 (res_.forks)), .sc (.bool (res_.base)), .sc (.bool (res_.fresh))], .rc [.fz 1 (R e_u8 (res_.r.b)), .sc (.int .i64 (res_.r.p))], .dead, .arr true 3 (R e_Inst (res_.out))]) ∨ (x = .tup [] ∧ σ' = [.rc [.pt 1 0, .sl 2 0 ((res_.out).length), .sc (.int .i64 (res_.bits)), .sc (.int .i64 (res_.forks)), .sc (.bool (res_.base)), .sc (.bool (res_.fresh))], .rc [.fz 1 (R e_u8 (res_.r.b)), .sc (.int .i64 (res_.r.p))], .arr true 3 (R e_Inst (res_.out))])) := by
  refine con_of_sem hP [0, 2, 6, 11, 16, 40, 49, 56, 67, 72, 79, 82, 97, 100, 106, 117, 124, 135, 141, 144, 157] [] Try.func107 (by unfold Try.f107; rfl) rfl rfl (Nat.le_of_ble_eq_true rfl) rfl ?_
  simp only [enter_cons, enter_nil, List.length_cons, List.length_nil, Nat.reduceAdd]
  generalize hQ : endQ _ _ _ _ = Q
  unfold spec_l11Play_step at h
  refine sem_cut fun k1 hk1 => ?_
  simp (decide := true) only [go_sem, reduceIte, Nat.reduceAdd, Int.reduceToNat, Nat.reduceSub, Nat.reduceMul]
  refine r_cN hk1 (sem_cutJ (fun (_ : Unit) (x : Int) => (⟨[(0, .pt 0 0), (2, .sc (.int .i64 (x)))], [.rc [.pt 1 0, .sl 2 0 ((v1.out).length), .sc (.int .i64 (v1.bits)), .sc (.int .i64 (v1.forks)), .sc (.bool (v1.base)), .sc (.bool (v1.fresh))], .rc [.fz 1 (R e_u8 (v1.r.b)), .sc (.int .i64 (v1.r.p))], .arr true 3 (R e_Inst (v1.out))]⟩ : St)) (fun (_ : Unit) (x : Int) => spec_l11Play_step_j3 v1 x = some res_) ?_ ?_)
  · rintro _ v2 h
    simp only [spec_l11Play_step_j3] at h
    refine sem_cut fun k3 hk3 => ?_
    obtain ⟨v3, c4H, h⟩ := bind_some' h
    repeat' (first | with_reducible refine And.intro ?_ ?_ | ((with_reducible refine i_call (n := 39) ?_); refine call_open [[0]] ?_) | ((with_reducible refine i_callW (n := 39) ?_); refine callW_use (con_spec_l26Rd_pick (⟨v1.r.b, v1.r.p⟩ : l26Rd) 11 v3 c4H) ?_; rintro x σ' ⟨rfl, rfl⟩ <;> ((with_reducible refine behind_go ?_))) | exact True.intro | with_reducible assumption | exact fun hf => False.elim hf | (intro hg; first | (simp +contextual [hg]; done) | grind) | omega | simp (decide := true) only [go_sem, reduceIte, Nat.reduceAdd, Int.reduceToNat, Nat.reduceSub, Nat.reduceMul])
    refine r_cN hk3 (sem_blk fun k5 hk5 => ?_)
    refine sem_cutJ (fun (_ : Unit) (x : Bool) => (⟨[(0, .pt 0 0), (2, .sc (.int .i64 (v2))), (11, .sc (.int .i64 (v3.1))), (49, .sc (.bool (x)))], [.rc [.pt 1 0, .sl 2 0 ((v1.out).length), .sc (.int .i64 (v1.bits)), .sc (.int .i64 (v1.forks)), .sc (.bool (v1.base)), .sc (.bool (v1.fresh))], .rc [.fz 1 (R e_u8 (v3.2.b)), .sc (.int .i64 (v3.2.p))], .arr true 3 (R e_Inst (v1.out))]⟩ : St)) (fun (_ : Unit) (x : Bool) => spec_l11Play_step_j12 v1 v2 v3 x = some res_) ?_ ?_
    · rintro _ v4 h
      simp only [spec_l11Play_step_j12] at h
      refine sem_ifh rfl h ?_ ?_ <;> clear h <;> intro h
      · refine sem_cut fun k7 hk7 => ?_
        simp (decide := true) only [go_sem, reduceIte, Nat.reduceAdd, Int.reduceToNat, Nat.reduceSub, Nat.reduceMul]
        refine r_cN hk7 ?_
        refine sem_ifh rfl h ?_ ?_ <;> clear h <;> intro h
        · refine sem_cut fun k8 hk8 => ?_
          obtain ⟨v5, c9H, h⟩ := bind_some' h
          repeat' (first | with_reducible refine And.intro ?_ ?_ | ((with_reducible refine i_call (n := 106) ?_); refine call_open [[0], [0, 0], [0, 1]] ?_) | ((with_reducible refine i_callW (n := 106) ?_); refine callW_use (con_spec_l11Play_put (⟨v3.2, v1.out, v1.bits, v1.forks, v1.base, v1.fresh⟩ : l11Play) 1 v5 c9H) ?_; rintro x σ' ⟨rfl, rfl⟩ <;> ((with_reducible refine behind_go ?_))) | exact True.intro | with_reducible assumption | exact fun hf => False.elim hf | (intro hg; first | (simp +contextual [hg]; done) | grind) | omega | simp (decide := true) only [go_sem, reduceIte, Nat.reduceAdd, Int.reduceToNat, Nat.reduceSub, Nat.reduceMul])
          refine r_cN hk8 ?_
          simp (decide := true) only [go_sem, reduceIte, Nat.reduceAdd, Int.reduceToNat, Nat.reduceSub, Nat.reduceMul]
          refine r_bN hk5 ?_
          obtain rfl := Option.some.inj h
          refine r_eAN hQ rfl rfl ?_
          simp (decide := true) only [go_sem, reduceIte, Nat.reduceAdd, Int.reduceToNat, Nat.reduceSub, Nat.reduceMul]
          all_goals first | exact wkEnd_same (.inl ⟨rfl, rfl⟩) | exact True.intro
        · refine r_skip (r_bN hk5 ?_)
          obtain rfl := Option.some.inj h
          refine r_eAN hQ rfl rfl ?_
          simp (decide := true) only [go_sem, reduceIte, Nat.reduceAdd, Int.reduceToNat, Nat.reduceSub, Nat.reduceMul]
          all_goals first | exact wkEnd_same (.inr ⟨rfl, rfl⟩) | exact True.intro
      · refine sem_cutJ (fun (_ : Unit) (x : Bool) => (⟨[(0, .pt 0 0), (2, .sc (.int .i64 (v2))), (11, .sc (.int .i64 (v3.1))), (67, .sc (.bool (x)))], [.rc [.pt 1 0, .sl 2 0 ((v1.out).length), .sc (.int .i64 (v1.bits)), .sc (.int .i64 (v1.forks)), .sc (.bool (v1.base)), .sc (.bool (v1.fresh))], .rc [.fz 1 (R e_u8 (v3.2.b)), .sc (.int .i64 (v3.2.p))], .arr true 3 (R e_Inst (v1.out))]⟩ : St)) (fun (_ : Unit) (x : Bool) => spec_l11Play_step_j26 v1 v2 v3 x = some res_) ?_ ?_
        · rintro _ v6 h
          simp only [spec_l11Play_step_j26] at h
          refine sem_ifh rfl h ?_ ?_ <;> clear h <;> intro h
          · obtain ⟨v7, c11H, h⟩ := bind_some' h
            repeat' (first | with_reducible refine And.intro ?_ ?_ | ((with_reducible refine i_call (n := 106) ?_); refine call_open [[0], [0, 0], [0, 1]] ?_) | ((with_reducible refine i_callW (n := 106) ?_); refine callW_use (con_spec_l11Play_put (⟨v3.2, v1.out, v1.bits, v1.forks, v1.base, v1.fresh⟩ : l11Play) 2 v7 c11H) ?_; rintro x σ' ⟨rfl, rfl⟩ <;> ((with_reducible refine behind_go ?_))) | exact True.intro | with_reducible assumption | exact fun hf => False.elim hf | (intro hg; first | (simp +contextual [hg]; done) | grind) | omega | simp (decide := true) only [go_sem, reduceIte, Nat.reduceAdd, Int.reduceToNat, Nat.reduceSub, Nat.reduceMul])
            refine r_bN hk5 ?_
            obtain rfl := Option.some.inj h
            refine r_eAN hQ rfl rfl ?_
            simp (decide := true) only [go_sem, reduceIte, Nat.reduceAdd, Int.reduceToNat, Nat.reduceSub, Nat.reduceMul]
            all_goals first | exact wkEnd_same (.inl ⟨rfl, rfl⟩) | exact True.intro
          · refine sem_cut fun k12 hk12 => ?_
            simp (decide := true) only [go_sem, reduceIte, Nat.reduceAdd, Int.reduceToNat, Nat.reduceSub, Nat.reduceMul]
            refine r_cN hk12 ?_
            refine sem_ifh rfl h ?_ ?_ <;> clear h <;> intro h
            · refine sem_cut fun k13 hk13 => ?_
              simp (decide := true) only [go_sem, reduceIte, Nat.reduceAdd, Int.reduceToNat, Nat.reduceSub, Nat.reduceMul]
              refine r_cN hk13 ?_
              refine sem_ifh rfl h ?_ ?_ <;> clear h <;> intro h
              · obtain ⟨v8, c14H, h⟩ := bind_some' h
                repeat' (first | with_reducible refine And.intro ?_ ?_ | ((with_reducible refine i_call (n := 106) ?_); refine call_open [[0], [0, 0], [0, 1]] ?_) | ((with_reducible refine i_callW (n := 106) ?_); refine callW_use (con_spec_l11Play_put (⟨v3.2, v1.out, v1.bits, v1.forks, v1.base, v1.fresh⟩ : l11Play) 3 v8 c14H) ?_; rintro x σ' ⟨rfl, rfl⟩ <;> ((with_reducible refine behind_go ?_))) | exact True.intro | with_reducible assumption | exact fun hf => False.elim hf | (intro hg; first | (simp +contextual [hg]; done) | grind) | omega | simp (decide := true) only [go_sem, reduceIte, Nat.reduceAdd, Int.reduceToNat, Nat.reduceSub, Nat.reduceMul])
                refine r_bN hk5 ?_
                obtain rfl := Option.some.inj h
                refine r_eAN hQ rfl rfl ?_
                simp (decide := true) only [go_sem, reduceIte, Nat.reduceAdd, Int.reduceToNat, Nat.reduceSub, Nat.reduceMul]
                all_goals first | exact wkEnd_same (.inl ⟨rfl, rfl⟩) | exact True.intro
              · refine r_skip (r_bN hk5 ?_)
                obtain rfl := Option.some.inj h
                refine r_eAN hQ rfl rfl ?_
                simp (decide := true) only [go_sem, reduceIte, Nat.reduceAdd, Int.reduceToNat, Nat.reduceSub, Nat.reduceMul]
                all_goals first | exact wkEnd_same (.inr ⟨rfl, rfl⟩) | exact True.intro
            · refine sem_cut fun k15 hk15 => ?_
              simp (decide := true) only [go_sem, reduceIte, Nat.reduceAdd, Int.reduceToNat, Nat.reduceSub, Nat.reduceMul]
              refine r_cN hk15 ?_
              refine sem_ifh rfl h ?_ ?_ <;> clear h <;> intro h
              · refine sem_cut fun k16 hk16 => ?_
                rcases Bool.eq_false_or_eq_true (decide (v1.bits ≥ v2)) with g17 | g17
                · replace h := cond_t h g17
                  obtain ⟨v9, c18H, h⟩ := bind_some' h
                  repeat' (first | with_reducible refine And.intro ?_ ?_ | ((with_reducible refine i_call (n := 39) ?_); refine call_open [[0]] ?_) | ((with_reducible refine i_callW (n := 39) ?_); refine callW_use (con_spec_l26Rd_pick v3.2 2 v9 c18H) ?_; rintro x σ' ⟨rfl, rfl⟩ <;> ((with_reducible refine behind_go ?_))) | exact True.intro | with_reducible assumption | exact fun hf => False.elim hf | (intro hg; first | (simp +contextual [hg]; done) | grind) | omega | simp (decide := true) only [go_sem, reduceIte, Nat.reduceAdd, Int.reduceToNat, Nat.reduceSub, Nat.reduceMul, g17])
                  refine r_cN hk16 ?_
                  refine sem_ifh rfl h ?_ ?_ <;> clear h <;> intro h
                  · obtain ⟨v10, c19H, h⟩ := bind_some' h
                    repeat' (first | with_reducible refine And.intro ?_ ?_ | ((with_reducible refine i_call (n := 106) ?_); refine call_open [[0], [0, 0], [0, 1]] ?_) | ((with_reducible refine i_callW (n := 106) ?_); refine callW_use (con_spec_l11Play_put (⟨v9.2, v1.out, v1.bits, v1.forks, v1.base, v1.fresh⟩ : l11Play) 6 v10 c19H) ?_; rintro x σ' ⟨rfl, rfl⟩ <;> ((with_reducible refine behind_go ?_))) | exact True.intro | with_reducible assumption | exact fun hf => False.elim hf | (intro hg; first | (simp +contextual [hg]; done) | grind) | omega | simp (decide := true) only [go_sem, reduceIte, Nat.reduceAdd, Int.reduceToNat, Nat.reduceSub, Nat.reduceMul])
                    refine r_bN hk5 ?_
                    obtain rfl := Option.some.inj h
                    refine r_eAN hQ rfl rfl ?_
                    simp (decide := true) only [go_sem, reduceIte, Nat.reduceAdd, Int.reduceToNat, Nat.reduceSub, Nat.reduceMul]
                    all_goals first | exact wkEnd_same (.inl ⟨rfl, rfl⟩) | exact True.intro
                  · refine r_skip (r_bN hk5 ?_)
                    obtain rfl := Option.some.inj h
                    refine r_eAN hQ rfl rfl ?_
                    simp (decide := true) only [go_sem, reduceIte, Nat.reduceAdd, Int.reduceToNat, Nat.reduceSub, Nat.reduceMul]
                    all_goals first | exact wkEnd_same (.inr ⟨rfl, rfl⟩) | exact True.intro
                · replace h := cond_f h g17
                  repeat' (first | with_reducible refine And.intro ?_ ?_ | exact True.intro | with_reducible assumption | exact fun hf => False.elim hf | (intro hg; first | (simp +contextual [hg]; done) | grind) | omega | simp (decide := true) only [go_sem, reduceIte, Nat.reduceAdd, Int.reduceToNat, Nat.reduceSub, Nat.reduceMul, g17])
                  refine r_cN hk16 (sem_ifF rfl ?_)
                  try replace h := cond_f h rfl
                  refine r_skip (r_bN hk5 ?_)
                  obtain rfl := Option.some.inj h
                  refine r_eAN hQ rfl rfl ?_
                  simp (decide := true) only [go_sem, reduceIte, Nat.reduceAdd, Int.reduceToNat, Nat.reduceSub, Nat.reduceMul]
                  all_goals first | exact wkEnd_same (.inr ⟨rfl, rfl⟩) | exact True.intro
              · refine sem_cut fun k20 hk20 => ?_
                simp (decide := true) only [go_sem, reduceIte, Nat.reduceAdd, Int.reduceToNat, Nat.reduceSub, Nat.reduceMul]
                refine r_cN hk20 ?_
                refine sem_ifh rfl h ?_ ?_ <;> clear h <;> intro h
                · refine sem_cut fun k21 hk21 => ?_
                  simp (decide := true) only [go_sem, reduceIte, Nat.reduceAdd, Int.reduceToNat, Nat.reduceSub, Nat.reduceMul]
                  refine r_cN hk21 ?_
                  refine sem_ifh rfl h ?_ ?_ <;> clear h <;> intro h
                  · refine sem_cut fun k22 hk22 => ?_
                    obtain ⟨v11, c23H, h⟩ := bind_some' h
                    repeat' (first | with_reducible refine And.intro ?_ ?_ | ((with_reducible refine i_call (n := 106) ?_); refine call_open [[0], [0, 0], [0, 1]] ?_) | ((with_reducible refine i_callW (n := 106) ?_); refine callW_use (con_spec_l11Play_put (⟨v3.2, v1.out, v1.bits, v1.forks, v1.base, v1.fresh⟩ : l11Play) 4 v11 c23H) ?_; rintro x σ' ⟨rfl, rfl⟩ <;> ((with_reducible refine behind_go ?_))) | exact True.intro | with_reducible assumption | exact fun hf => False.elim hf | (intro hg; first | (simp +contextual [hg]; done) | grind) | omega | simp (decide := true) only [go_sem, reduceIte, Nat.reduceAdd, Int.reduceToNat, Nat.reduceSub, Nat.reduceMul])
                    refine r_cN hk22 ?_
                    simp (decide := true) only [go_sem, reduceIte, Nat.reduceAdd, Int.reduceToNat, Nat.reduceSub, Nat.reduceMul]
                    refine r_bN hk5 ?_
                    obtain rfl := Option.some.inj h
                    refine r_eAN hQ rfl rfl ?_
                    simp (decide := true) only [go_sem, reduceIte, Nat.reduceAdd, Int.reduceToNat, Nat.reduceSub, Nat.reduceMul]
                    all_goals first | exact wkEnd_same (.inl ⟨rfl, rfl⟩) | exact True.intro
                  · refine r_skip (r_bN hk5 ?_)
                    obtain rfl := Option.some.inj h
                    refine r_eAN hQ rfl rfl ?_
                    simp (decide := true) only [go_sem, reduceIte, Nat.reduceAdd, Int.reduceToNat, Nat.reduceSub, Nat.reduceMul]
                    all_goals first | exact wkEnd_same (.inr ⟨rfl, rfl⟩) | exact True.intro
                · refine sem_cut fun k24 hk24 => ?_
                  simp (decide := true) only [go_sem, reduceIte, Nat.reduceAdd, Int.reduceToNat, Nat.reduceSub, Nat.reduceMul]
                  refine r_cN hk24 ?_
                  refine sem_ifh rfl h ?_ ?_ <;> clear h <;> intro h
                  · refine sem_cut fun k25 hk25 => ?_
                    simp (decide := true) only [go_sem, reduceIte, Nat.reduceAdd, Int.reduceToNat, Nat.reduceSub, Nat.reduceMul]
                    refine r_cN hk25 ?_
                    refine sem_ifh rfl h ?_ ?_ <;> clear h <;> intro h
                    · refine sem_cut fun k26 hk26 => ?_
                      obtain ⟨v12, c27H, h⟩ := bind_some' h
                      repeat' (first | with_reducible refine And.intro ?_ ?_ | ((with_reducible refine i_call (n := 106) ?_); refine call_open [[0], [0, 0], [0, 1]] ?_) | ((with_reducible refine i_callW (n := 106) ?_); refine callW_use (con_spec_l11Play_put (⟨v3.2, v1.out, v1.bits, v1.forks, v1.base, v1.fresh⟩ : l11Play) 5 v12 c27H) ?_; rintro x σ' ⟨rfl, rfl⟩ <;> ((with_reducible refine behind_go ?_))) | exact True.intro | with_reducible assumption | exact fun hf => False.elim hf | (intro hg; first | (simp +contextual [hg]; done) | grind) | omega | simp (decide := true) only [go_sem, reduceIte, Nat.reduceAdd, Int.reduceToNat, Nat.reduceSub, Nat.reduceMul])
                      refine r_cN hk26 ?_
                      simp (decide := true) only [go_sem, reduceIte, Nat.reduceAdd, Int.reduceToNat, Nat.reduceSub, Nat.reduceMul]
                      refine r_bN hk5 ?_
                      obtain rfl := Option.some.inj h
                      refine r_eAN hQ rfl rfl ?_
                      simp (decide := true) only [go_sem, reduceIte, Nat.reduceAdd, Int.reduceToNat, Nat.reduceSub, Nat.reduceMul]
                      all_goals first | exact wkEnd_same (.inl ⟨rfl, rfl⟩) | exact True.intro
                    · refine r_skip (r_bN hk5 ?_)
                      obtain rfl := Option.some.inj h
                      refine r_eAN hQ rfl rfl ?_
                      simp (decide := true) only [go_sem, reduceIte, Nat.reduceAdd, Int.reduceToNat, Nat.reduceSub, Nat.reduceMul]
                      all_goals first | exact wkEnd_same (.inr ⟨rfl, rfl⟩) | exact True.intro
                  · refine sem_cut fun k28 hk28 => ?_
                    simp (decide := true) only [go_sem, reduceIte, Nat.reduceAdd, Int.reduceToNat, Nat.reduceSub, Nat.reduceMul]
                    refine r_cN hk28 ?_
                    refine sem_ifh rfl h ?_ ?_ <;> clear h <;> intro h
                    · refine sem_cut fun k29 hk29 => ?_
                      simp (decide := true) only [go_sem, reduceIte, Nat.reduceAdd, Int.reduceToNat, Nat.reduceSub, Nat.reduceMul]
                      refine r_cN hk29 ?_
                      refine sem_ifh rfl h ?_ ?_ <;> clear h <;> intro h
                      · obtain ⟨v13, c30H, h⟩ := bind_some' h
                        repeat' (first | with_reducible refine And.intro ?_ ?_ | ((with_reducible refine i_call (n := 106) ?_); refine call_open [[0], [0, 0], [0, 1]] ?_) | ((with_reducible refine i_callW (n := 106) ?_); refine callW_use (con_spec_l11Play_put (⟨v3.2, v1.out, v1.bits, v1.forks, v1.base, v1.fresh⟩ : l11Play) 10 v13 c30H) ?_; rintro x σ' ⟨rfl, rfl⟩ <;> ((with_reducible refine behind_go ?_))) | exact True.intro | with_reducible assumption | exact fun hf => False.elim hf | (intro hg; first | (simp +contextual [hg]; done) | grind) | omega | simp (decide := true) only [go_sem, reduceIte, Nat.reduceAdd, Int.reduceToNat, Nat.reduceSub, Nat.reduceMul])
                        refine r_bN hk5 ?_
                        obtain rfl := Option.some.inj h
                        refine r_eAN hQ rfl rfl ?_
                        simp (decide := true) only [go_sem, reduceIte, Nat.reduceAdd, Int.reduceToNat, Nat.reduceSub, Nat.reduceMul]
                        all_goals first | exact wkEnd_same (.inl ⟨rfl, rfl⟩) | exact True.intro
                      · refine r_skip (r_bN hk5 ?_)
                        obtain rfl := Option.some.inj h
                        refine r_eAN hQ rfl rfl ?_
                        simp (decide := true) only [go_sem, reduceIte, Nat.reduceAdd, Int.reduceToNat, Nat.reduceSub, Nat.reduceMul]
                        all_goals first | exact wkEnd_same (.inr ⟨rfl, rfl⟩) | exact True.intro
                    · refine sem_cut fun k31 hk31 => ?_
                      simp (decide := true) only [go_sem, reduceIte, Nat.reduceAdd, Int.reduceToNat, Nat.reduceSub, Nat.reduceMul]
                      refine r_cN hk31 ?_
                      refine sem_ifh rfl h ?_ ?_ <;> clear h <;> intro h
                      · refine sem_cut fun k32 hk32 => ?_
                        repeat' (first | with_reducible refine And.intro ?_ ?_ | exact True.intro | with_reducible assumption | exact fun hf => False.elim hf | (intro hg; first | (simp +contextual [hg]; done) | grind) | omega | simp (decide := true) only [go_sem, reduceIte, Nat.reduceAdd, Int.reduceToNat, Nat.reduceSub, Nat.reduceMul])
                        refine r_cN hk32 ?_
                        refine sem_ifh rfl h ?_ ?_ <;> clear h <;> intro h
                        · refine sem_cut fun k33 hk33 => ?_
                          obtain ⟨v14, c34H, h⟩ := bind_some' h
                          repeat' (first | with_reducible refine And.intro ?_ ?_ | ((with_reducible refine i_call (n := 106) ?_); refine call_open [[0], [0, 0], [0, 1]] ?_) | ((with_reducible refine i_callW (n := 106) ?_); refine callW_use (con_spec_l11Play_put (⟨v3.2, v1.out, v1.bits, v1.forks, v1.base, v1.fresh⟩ : l11Play) 7 v14 c34H) ?_; rintro x σ' ⟨rfl, rfl⟩ <;> ((with_reducible refine behind_go ?_))) | exact True.intro | with_reducible assumption | exact fun hf => False.elim hf | (intro hg; first | (simp +contextual [hg]; done) | grind) | omega | simp (decide := true) only [go_sem, reduceIte, Nat.reduceAdd, Int.reduceToNat, Nat.reduceSub, Nat.reduceMul])
                          refine r_cN hk33 ?_
                          simp (decide := true) only [go_sem, reduceIte, Nat.reduceAdd, Int.reduceToNat, Nat.reduceSub, Nat.reduceMul]
                          refine r_bN hk5 ?_
                          obtain rfl := Option.some.inj h
                          refine r_eAN hQ rfl rfl ?_
                          simp (decide := true) only [go_sem, reduceIte, Nat.reduceAdd, Int.reduceToNat, Nat.reduceSub, Nat.reduceMul]
                          all_goals first | exact wkEnd_same (.inl ⟨rfl, rfl⟩) | exact True.intro
                        · refine r_skip (r_bN hk5 ?_)
                          obtain rfl := Option.some.inj h
                          refine r_eAN hQ rfl rfl ?_
                          simp (decide := true) only [go_sem, reduceIte, Nat.reduceAdd, Int.reduceToNat, Nat.reduceSub, Nat.reduceMul]
                          all_goals first | exact wkEnd_same (.inr ⟨rfl, rfl⟩) | exact True.intro
                      · refine sem_cut fun k35 hk35 => ?_
                        simp (decide := true) only [go_sem, reduceIte, Nat.reduceAdd, Int.reduceToNat, Nat.reduceSub, Nat.reduceMul]
                        refine r_cN hk35 ?_
                        refine sem_ifh rfl h ?_ ?_ <;> clear h <;> intro h
                        · refine sem_cut fun k36 hk36 => ?_
                          obtain ⟨v15, c37H, h⟩ := bind_some' h
                          repeat' (first | with_reducible refine And.intro ?_ ?_ | ((with_reducible refine i_call (n := 108) ?_); refine call_open [[0], [0, 0], [0, 1]] ?_) | ((with_reducible refine i_callW (n := 108) ?_); refine callW_use (con_spec_l11Play_close (⟨v3.2, v1.out, v1.bits, v1.forks, v1.base, v1.fresh⟩ : l11Play) v15 c37H) ?_; rintro x σ' (⟨rfl, rfl⟩ | ⟨rfl, rfl⟩) <;> ((with_reducible refine behind_go ?_))) | exact True.intro | with_reducible assumption | exact fun hf => False.elim hf | (intro hg; first | (simp +contextual [hg]; done) | grind) | omega | simp (decide := true) only [go_sem, reduceIte, Nat.reduceAdd, Int.reduceToNat, Nat.reduceSub, Nat.reduceMul])
                          · refine r_cN hk36 (sem_cut fun k38 hk38 => ?_)
                            obtain ⟨v16, c39H, h⟩ := bind_some' h
                            obtain ⟨v17, c40H, h⟩ := bind_some' h
                            repeat' (first | with_reducible refine And.intro ?_ ?_ | ((with_reducible refine i_call (n := 39) ?_); refine call_open [[0]] ?_) | ((with_reducible refine i_callW (n := 39) ?_); refine callW_use (con_spec_l26Rd_pick (⟨v15.r.b, v15.r.p⟩ : l26Rd) 2 v16 c39H) ?_; rintro x σ' ⟨rfl, rfl⟩ <;> ((with_reducible refine behind_go ?_))) | ((with_reducible refine i_call (n := 106) ?_); refine call_open [[0], [0, 0], [0, 1]] ?_) | ((with_reducible refine i_callW (n := 106) ?_); refine callW_use (con_spec_l11Play_put (⟨v16.2, v15.out, v15.bits, v15.forks, v15.base, v15.fresh⟩ : l11Play) (IntKind.i64.wrap (8 + v16.1)) v17 c40H) ?_; rintro x σ' ⟨rfl, rfl⟩ <;> ((with_reducible refine behind_go ?_))) | exact True.intro | with_reducible assumption | exact fun hf => False.elim hf | (intro hg; first | (simp +contextual [hg]; done) | grind) | omega | simp (decide := true) only [go_sem, reduceIte, Nat.reduceAdd, Int.reduceToNat, Nat.reduceSub, Nat.reduceMul])
                            refine r_cN hk38 (sem_cut fun k41 hk41 => ?_)
                            obtain ⟨v18, c42H, h⟩ := bind_some' h
                            obtain ⟨c42A, c42B, c42C, -⟩ := idx_some c42H
                            with_reducible refine sem_quiet (id := 7) [0, 1, 2, 3, 4, 5, 6, 7, 8, 9] ?_ ?_
                            focus kernel_rfl
                            repeat' (first | with_reducible refine And.intro ?_ ?_ | exact True.intro | with_reducible assumption | exact fun hf => False.elim hf | (intro hg; first | (simp +contextual [hg]; done) | grind) | omega | simp (decide := true) only [go_sem, reduceIte, Nat.reduceAdd, Int.reduceToNat, Nat.reduceSub, Nat.reduceMul, c42A, c42B, c42C])
                            refine r_cN hk41 ?_
                            refine sem_ifh rfl h ?_ ?_ <;> clear h <;> intro h
                            · simp (decide := true) only [go_sem, reduceIte, Nat.reduceAdd, Int.reduceToNat, Nat.reduceSub, Nat.reduceMul]
                              refine r_bN hk5 ?_
                              obtain rfl := Option.some.inj h
                              refine r_eAN hQ rfl rfl ?_
                              simp (decide := true) only [go_sem, reduceIte, Nat.reduceAdd, Int.reduceToNat, Nat.reduceSub, Nat.reduceMul]
                              all_goals first | exact wkEnd_same (.inl ⟨rfl, rfl⟩) | exact True.intro
                            · refine r_skip (r_bN hk5 ?_)
                              obtain rfl := Option.some.inj h
                              refine r_eAN hQ rfl rfl ?_
                              simp (decide := true) only [go_sem, reduceIte, Nat.reduceAdd, Int.reduceToNat, Nat.reduceSub, Nat.reduceMul]
                              all_goals first | exact wkEnd_same (.inl ⟨rfl, rfl⟩) | exact True.intro
                          · refine r_cN hk36 (sem_cut fun k43 hk43 => ?_)
                            obtain ⟨v19, c44H, h⟩ := bind_some' h
                            obtain ⟨v20, c45H, h⟩ := bind_some' h
                            repeat' (first | with_reducible refine And.intro ?_ ?_ | ((with_reducible refine i_call (n := 39) ?_); refine call_open [[0]] ?_) | ((with_reducible refine i_callW (n := 39) ?_); refine callW_use (con_spec_l26Rd_pick (⟨v15.r.b, v15.r.p⟩ : l26Rd) 2 v19 c44H) ?_; rintro x σ' ⟨rfl, rfl⟩ <;> ((with_reducible refine behind_go ?_))) | ((with_reducible refine i_call (n := 106) ?_); refine call_open [[0], [0, 0], [0, 1]] ?_) | ((with_reducible refine i_callW (n := 106) ?_); refine callW_use (con_spec_l11Play_put (⟨v19.2, v15.out, v15.bits, v15.forks, v15.base, v15.fresh⟩ : l11Play) (IntKind.i64.wrap (8 + v19.1)) v20 c45H) ?_; rintro x σ' ⟨rfl, rfl⟩ <;> ((with_reducible refine behind_go ?_))) | exact True.intro | with_reducible assumption | exact fun hf => False.elim hf | (intro hg; first | (simp +contextual [hg]; done) | grind) | omega | simp (decide := true) only [go_sem, reduceIte, Nat.reduceAdd, Int.reduceToNat, Nat.reduceSub, Nat.reduceMul])
                            refine r_cN hk43 (sem_cut fun k46 hk46 => ?_)
                            obtain ⟨v21, c47H, h⟩ := bind_some' h
                            obtain ⟨c47A, c47B, c47C, -⟩ := idx_some c47H
                            with_reducible refine sem_quiet (id := 7) [0, 1, 2, 3, 4, 5, 6, 7, 8, 9] ?_ ?_
                            focus kernel_rfl
                            repeat' (first | with_reducible refine And.intro ?_ ?_ | exact True.intro | with_reducible assumption | exact fun hf => False.elim hf | (intro hg; first | (simp +contextual [hg]; done) | grind) | omega | simp (decide := true) only [go_sem, reduceIte, Nat.reduceAdd, Int.reduceToNat, Nat.reduceSub, Nat.reduceMul, c47A, c47B, c47C])
                            refine r_cN hk46 ?_
                            refine sem_ifh rfl h ?_ ?_ <;> clear h <;> intro h
                            · simp (decide := true) only [go_sem, reduceIte, Nat.reduceAdd, Int.reduceToNat, Nat.reduceSub, Nat.reduceMul]
                              refine r_bN hk5 ?_
                              obtain rfl := Option.some.inj h
                              refine r_eAN hQ rfl rfl ?_
                              simp (decide := true) only [go_sem, reduceIte, Nat.reduceAdd, Int.reduceToNat, Nat.reduceSub, Nat.reduceMul]
                              all_goals first | exact wkEnd_same (.inl ⟨rfl, rfl⟩) | exact True.intro
                            · refine r_skip (r_bN hk5 ?_)
                              obtain rfl := Option.some.inj h
                              refine r_eAN hQ rfl rfl ?_
                              simp (decide := true) only [go_sem, reduceIte, Nat.reduceAdd, Int.reduceToNat, Nat.reduceSub, Nat.reduceMul]
                              all_goals first | exact wkEnd_same (.inl ⟨rfl, rfl⟩) | exact True.intro
                        · refine r_skip (r_bN hk5 ?_)
                          obtain rfl := Option.some.inj h
                          refine r_eAN hQ rfl rfl ?_
                          simp (decide := true) only [go_sem, reduceIte, Nat.reduceAdd, Int.reduceToNat, Nat.reduceSub, Nat.reduceMul]
                          all_goals first | exact wkEnd_same (.inr ⟨rfl, rfl⟩) | exact True.intro
        · intro k49 hk49 J48
          refine sem_cut fun k50 hk50 => ?_
          simp (decide := true) only [go_sem, reduceIte, Nat.reduceAdd, Int.reduceToNat, Nat.reduceSub, Nat.reduceMul]
          refine r_cN hk50 ?_
          refine sem_ifh rfl h ?_ ?_ <;> clear h <;> intro h
          · refine r_skip (r_joinU J48 [0, 2, 11, 67] () _ rfl rfl ⟨?_, h⟩)
            first | exact wkSt_same rfl | (simp (decide := true) only [go_sem, reduceIte, Nat.reduceAdd, Int.reduceToNat, Nat.reduceSub, Nat.reduceMul]; exact wkSt_same rfl)
          · simp (decide := true) only [go_sem, reduceIte, Nat.reduceAdd, Int.reduceToNat, Nat.reduceSub, Nat.reduceMul]
            refine r_joinU J48 [0, 2, 11, 67] () _ rfl rfl ⟨?_, h⟩
            first | exact wkSt_same rfl | (simp (decide := true) only [go_sem, reduceIte, Nat.reduceAdd, Int.reduceToNat, Nat.reduceSub, Nat.reduceMul]; exact wkSt_same rfl)
    · intro k52 hk52 J51
      refine sem_cut fun k53 hk53 => ?_
      simp (decide := true) only [go_sem, reduceIte, Nat.reduceAdd, Int.reduceToNat, Nat.reduceSub, Nat.reduceMul]
      refine r_cN hk53 ?_
      refine sem_ifh rfl h ?_ ?_ <;> clear h <;> intro h
      · refine r_skip (r_joinU J51 [0, 2, 11, 49] () _ rfl rfl ⟨?_, h⟩)
        first | exact wkSt_same rfl | (simp (decide := true) only [go_sem, reduceIte, Nat.reduceAdd, Int.reduceToNat, Nat.reduceSub, Nat.reduceMul]; exact wkSt_same rfl)
      · simp (decide := true) only [go_sem, reduceIte, Nat.reduceAdd, Int.reduceToNat, Nat.reduceSub, Nat.reduceMul]
        refine r_joinU J51 [0, 2, 11, 49] () _ rfl rfl ⟨?_, h⟩
        first | exact wkSt_same rfl | (simp (decide := true) only [go_sem, reduceIte, Nat.reduceAdd, Int.reduceToNat, Nat.reduceSub, Nat.reduceMul]; exact wkSt_same rfl)
  · intro k55 hk55 J54
    refine sem_cut fun k56 hk56 => ?_
    simp (decide := true) only [go_sem, reduceIte, Nat.reduceAdd, Int.reduceToNat, Nat.reduceSub, Nat.reduceMul]
    refine r_cN hk56 ?_
    refine sem_ifh rfl h ?_ ?_ <;> clear h <;> intro h
    · simp (decide := true) only [go_sem, reduceIte, Nat.reduceAdd, Int.reduceToNat, Nat.reduceSub, Nat.reduceMul]
      refine r_joinU J54 [0, 2] () _ rfl rfl ⟨?_, h⟩
      first | exact wkSt_same rfl | (simp (decide := true) only [go_sem, reduceIte, Nat.reduceAdd, Int.reduceToNat, Nat.reduceSub, Nat.reduceMul]; exact wkSt_same rfl)
    · refine r_skip (r_joinU J54 [0, 2] () _ rfl rfl ⟨?_, h⟩)
      first | exact wkSt_same rfl | (simp (decide := true) only [go_sem, reduceIte, Nat.reduceAdd, Int.reduceToNat, Nat.reduceSub, Nat.reduceMul]; exact wkSt_same rfl)
noncomputable def spec_l11Play_rung_j24 : ((List Int) × Int × (List Inst) × Int × Int × Bool × Bool) → Option l11Play
  | (v38, v39, v40, v41, v42, v43, v44) => (Option.bind (spec_l11Play_put (⟨(⟨v38, v39⟩ : l26Rd), v40, v41, v42, v43, v44⟩ : l11Play) 11) fun v45 => (some (⟨(⟨v45.r.b, v45.r.p⟩ : l26Rd), v45.out, 0, v45.forks, v45.base, v45.fresh⟩ : l11Play)))
noncomputable def spec_l11Play_rung_s26 : ((List Int) × Int × (List Inst) × Int × Int × Bool × Bool) → Option (((List Int) × Int × (List Inst) × Int × Int × Bool × Bool) ⊕ ((List Int) × Int × (List Inst) × Int × Int × Bool × Bool))
  | (v48, v49, v50, v51, v52, v53, v54) => (cond (decide (v52 > 0)) (Option.bind (spec_l11Play_put (⟨(⟨v48, v49⟩ : l26Rd), v50, v51, v52, v53, v54⟩ : l11Play) 9) fun v58 => (Option.bind (spec_l11Play_close (⟨(⟨v58.r.b, v58.r.p⟩ : l26Rd), v58.out, v58.bits, (IntKind.i64.wrap (v58.forks - 1)), v58.base, v58.fresh⟩ : l11Play)) fun v59 => (some (.inl (v59.r.b, v59.r.p, v59.out, v59.bits, v59.forks, v59.base, v59.fresh))))) (some (.inr (v48, v49, v50, v51, v52, v53, v54))))
noncomputable def spec_l11Play_rung_j7 : ((List Int) × Int × (List Inst) × Int × Int × Bool × Bool) → Option l11Play
  | (v16, v17, v18, v19, v20, v21, v22) => (Option.bind (spec_l11Play_close (⟨(⟨v16, v17⟩ : l26Rd), v18, v19, v20, v21, v22⟩ : l11Play)) fun v23 => ((loop spec_l11Play_rung_s26 (v23.r.b, v23.r.p, v23.out, v23.bits, v23.forks, v23.base, v23.fresh)).bind (fun v57 => (spec_l11Play_rung_j24 (v57.1, v57.2.1, v57.2.2.1, v57.2.2.2.1, v57.2.2.2.2.1, v57.2.2.2.2.2.1, v57.2.2.2.2.2.2)))))
noncomputable def spec_l11Play_rung_s11 (v2 : Int) : ((List Int) × Int × (List Inst) × Int × Int × Bool × Bool × Int) → Option (((List Int) × Int × (List Inst) × Int × Int × Bool × Bool × Int) ⊕ ((List Int) × Int × (List Inst) × Int × Int × Bool × Bool))
  | (v97, v98, v99, v100, v101, v102, v103, v104) => (cond (decide (v104 < v2)) (Option.bind (spec_l11Play_step (⟨(⟨v97, v98⟩ : l26Rd), v99, v100, v101, v102, v103⟩ : l11Play)) fun v107 => (some (.inl (v107.r.b, v107.r.p, v107.out, v107.bits, v107.forks, v107.base, v107.fresh, (IntKind.i64.wrap (v104 + 1)))))) (some (.inr (v97, v98, v99, v100, v101, v102, v103))))
noncomputable def spec_l11Play_rung (v1 : l11Play) (v2 : Int) : Option l11Play :=
  (Option.bind (spec_l11Play_put (⟨(⟨v1.r.b, v1.r.p⟩ : l26Rd), v1.out, v1.bits, v1.forks, false, v1.fresh⟩ : l11Play) 1) fun v3 => ((loop (spec_l11Play_rung_s11 v2) (v3.r.b, v3.r.p, v3.out, 1, v3.forks, v3.base, v3.fresh, 0)).bind (fun v106 => (spec_l11Play_rung_j7 (v106.1, v106.2.1, v106.2.2.1, v106.2.2.2.1, v106.2.2.2.2.1, v106.2.2.2.2.2.1, v106.2.2.2.2.2.2)))))
set_option maxRecDepth 10000 in
set_option maxHeartbeats 4000000 in
theorem con_spec_l11Play_rung_1 (v1 : l11Play) (v2 : Int) (res_ : l11Play) (h : spec_l11Play_rung v1 v2 = some res_) : Con Try.prog C0 92 [.pt 0 0, .sc (.int .i64 (v2))] [.rc [.pt 1 0, .sl 2 0 ((v1.out).length), .sc (.int .i64 (v1.bits)), .sc (.int .i64 (v1.forks)), .sc (.bool (v1.base)), .sc (.bool (v1.fresh))], .rc [.fz 1 (R e_u8 (v1.r.b)), .sc (.int .i64 (v1.r.p))], .arr true 3 (R e_Inst (v1.out))]
    (fun x σ' => x = .tup [] ∧ σ' = [.rc [.pt 1 0, .sl 3 0 ((res_.out).length), .sc (.int .i64 (res_.bits)), .sc (.int .i64 (res_.forks)), .sc (.bool (res_.base)), .sc (.bool (res_.fresh))], .rc [.fz 1 (R e_u8 (res_.r.b)), .sc (.int .i64 (res_.r.p))], .dead, .arr true 3 (R e_Inst (res_.out))]) := by
  refine con_of_sem hP [0, 1, 4, 15, 26] [] Try.func92 (by unfold Try.f92; rfl) rfl rfl (Nat.le_of_ble_eq_true rfl) rfl ?_
  simp only [enter_cons, enter_nil, List.length_cons, List.length_nil, Nat.reduceAdd]
  generalize hQ : endQ _ _ _ _ = Q
  unfold spec_l11Play_rung at h
  refine sem_cut fun k1 hk1 => ?_
  simp (decide := true) only [go_sem, reduceIte, Nat.reduceAdd, Int.reduceToNat, Nat.reduceSub, Nat.reduceMul]
  refine r_cN hk1 (sem_cut fun k2 hk2 => ?_)
  obtain ⟨v3, c3H, h⟩ := bind_some' h
  repeat' (first | with_reducible refine And.intro ?_ ?_ | ((with_reducible refine i_call (n := 106) ?_); refine call_open [[0], [0, 0], [0, 1]] ?_) | ((with_reducible refine i_callW (n := 106) ?_); refine callW_use (con_spec_l11Play_put (⟨(⟨v1.r.b, v1.r.p⟩ : l26Rd), v1.out, v1.bits, v1.forks, false, v1.fresh⟩ : l11Play) 1 v3 c3H) ?_; rintro x σ' ⟨rfl, rfl⟩ <;> ((with_reducible refine behind_go ?_))) | exact True.intro | with_reducible assumption | exact fun hf => False.elim hf | (intro hg; first | (simp +contextual [hg]; done) | grind) | omega | simp (decide := true) only [go_sem, reduceIte, Nat.reduceAdd, Int.reduceToNat, Nat.reduceSub, Nat.reduceMul])
  refine r_cN hk2 (sem_cut fun k4 hk4 => ?_)
  simp (decide := true) only [go_sem, reduceIte, Nat.reduceAdd, Int.reduceToNat, Nat.reduceSub, Nat.reduceMul]
  refine r_cN hk4 (sem_cutJ (fun (_ : Unit) (x : ((List Int) × Int × (List Inst) × Int × Int × Bool × Bool)) => (⟨[(0, .pt 0 0)], [.rc [.pt 1 0, .sl 3 0 ((x.2.2.1).length), .sc (.int .i64 (x.2.2.2.1)), .sc (.int .i64 (x.2.2.2.2.1)), .sc (.bool (x.2.2.2.2.2.1)), .sc (.bool (x.2.2.2.2.2.2))], .rc [.fz 1 (R e_u8 (x.1)), .sc (.int .i64 (x.2.1))], .dead, .arr true 3 (R e_Inst (x.2.2.1))]⟩ : St)) (fun (_ : Unit) (x : ((List Int) × Int × (List Inst) × Int × Int × Bool × Bool)) => spec_l11Play_rung_j7 x = some res_) ?_ ?_)
  · rintro _ ⟨v16, v17, v18, v19, v20, v21, v22⟩ h
    simp only [spec_l11Play_rung_j7] at h
    refine sem_cut fun k23 hk23 => ?_
    obtain ⟨v23, c24H, h⟩ := bind_some' h
    repeat' (first | with_reducible refine And.intro ?_ ?_ | ((with_reducible refine i_call (n := 108) ?_); refine call_open [[0], [0, 0], [0, 1]] ?_) | ((with_reducible refine i_callW (n := 108) ?_); refine callW_use (con_spec_l11Play_close (⟨(⟨v16, v17⟩ : l26Rd), v18, v19, v20, v21, v22⟩ : l11Play) v23 c24H) ?_; rintro x σ' (⟨rfl, rfl⟩ | ⟨rfl, rfl⟩) <;> ((with_reducible refine behind_go ?_))) | exact True.intro | with_reducible assumption | exact fun hf => False.elim hf | (intro hg; first | (simp +contextual [hg]; done) | grind) | omega | simp (decide := true) only [go_sem, reduceIte, Nat.reduceAdd, Int.reduceToNat, Nat.reduceSub, Nat.reduceMul])
    · refine r_cN hk23 (sem_cutJ (fun (_ : Unit) (x : ((List Int) × Int × (List Inst) × Int × Int × Bool × Bool)) => (⟨[(0, .pt 0 0)], [.rc [.pt 1 0, .sl 3 0 ((x.2.2.1).length), .sc (.int .i64 (x.2.2.2.1)), .sc (.int .i64 (x.2.2.2.2.1)), .sc (.bool (x.2.2.2.2.2.1)), .sc (.bool (x.2.2.2.2.2.2))], .rc [.fz 1 (R e_u8 (x.1)), .sc (.int .i64 (x.2.1))], .dead, .arr true 3 (R e_Inst (x.2.2.1))]⟩ : St)) (fun (_ : Unit) (x : ((List Int) × Int × (List Inst) × Int × Int × Bool × Bool)) => spec_l11Play_rung_j24 x = some res_) ?_ ?_)
      · rintro _ ⟨v38, v39, v40, v41, v42, v43, v44⟩ h
        simp only [spec_l11Play_rung_j24] at h
        refine sem_cut fun k48 hk48 => ?_
        obtain ⟨v45, c49H, h⟩ := bind_some' h
        repeat' (first | with_reducible refine And.intro ?_ ?_ | ((with_reducible refine i_call (n := 106) ?_); refine call_open [[0], [0, 0], [0, 1]] ?_) | ((with_reducible refine i_callW (n := 106) ?_); refine callW_use (con_spec_l11Play_put (⟨(⟨v38, v39⟩ : l26Rd), v40, v41, v42, v43, v44⟩ : l11Play) 11 v45 c49H) ?_; rintro x σ' ⟨rfl, rfl⟩ <;> ((with_reducible refine behind_go ?_))) | exact True.intro | with_reducible assumption | exact fun hf => False.elim hf | (intro hg; first | (simp +contextual [hg]; done) | grind) | omega | simp (decide := true) only [go_sem, reduceIte, Nat.reduceAdd, Int.reduceToNat, Nat.reduceSub, Nat.reduceMul])
        refine r_cN hk48 ?_
        simp (decide := true) only [go_sem, reduceIte, Nat.reduceAdd, Int.reduceToNat, Nat.reduceSub, Nat.reduceMul]
        obtain rfl := Option.some.inj h
        refine r_eAN hQ rfl rfl ?_
        simp (decide := true) only [go_sem, reduceIte, Nat.reduceAdd, Int.reduceToNat, Nat.reduceSub, Nat.reduceMul]
        all_goals first | exact wkEnd_same ⟨rfl, rfl⟩ | exact True.intro
      · intro k51 hk51 J50
        refine sem_blk fun k52 hk52 => ?_
        obtain ⟨oq67, hLq67, hKq67⟩ := bind_some' h
        clear h
        refine sem_loopP [0] (fun (_ : Unit) (x : ((List Int) × Int × (List Inst) × Int × Int × Bool × Bool)) => (⟨[(0, .pt 0 0)], [.rc [.pt 1 0, .sl 3 0 ((x.2.2.1).length), .sc (.int .i64 (x.2.2.2.1)), .sc (.int .i64 (x.2.2.2.2.1)), .sc (.bool (x.2.2.2.2.2.1)), .sc (.bool (x.2.2.2.2.2.2))], .rc [.fz 1 (R e_u8 (x.1)), .sc (.int .i64 (x.2.1))], .dead, .arr true 3 (R e_Inst (x.2.2.1))]⟩ : St)) (fun (_ : Unit) (x : ((List Int) × Int × (List Inst) × Int × Int × Bool × Bool)) => True) spec_l11Play_rung_s26 () (v23.r.b, v23.r.p, v23.out, v23.bits, v23.forks, v23.base, v23.fresh) hLq67 (by rfl) (by rfl) ⟨?_, trivial⟩ ?_
        · first | exact wkSt_same rfl | (simp (decide := true) only [go_sem, reduceIte, Nat.reduceAdd, Int.reduceToNat, Nat.reduceSub, Nat.reduceMul]; exact wkSt_same rfl)
        · rintro nq67 _ ⟨v48, v49, v50, v51, v52, v53, v54⟩ xq67 kq67 hkq67 - h hIq67 hEq67
          simp only [spec_l11Play_rung_s26] at h
          refine sem_cut fun k68 hk68 => sem_cut fun k69 hk69 => ?_
          simp (decide := true) only [go_sem, reduceIte, Nat.reduceAdd, Int.reduceToNat, Nat.reduceSub, Nat.reduceMul]
          refine r_cN hk69 ?_
          refine sem_ifh rfl h ?_ ?_ <;> clear h <;> intro h
          · refine r_skip (r_cN hk68 ?_)
            refine sem_blk fun k70 hk70 => sem_cut fun k71 hk71 => ?_
            obtain ⟨v58, c72H, h⟩ := bind_some' h
            repeat' (first | with_reducible refine And.intro ?_ ?_ | ((with_reducible refine i_call (n := 106) ?_); refine call_open [[0], [0, 0], [0, 1]] ?_) | ((with_reducible refine i_callW (n := 106) ?_); refine callW_use (con_spec_l11Play_put (⟨(⟨v48, v49⟩ : l26Rd), v50, v51, v52, v53, v54⟩ : l11Play) 9 v58 c72H) ?_; rintro x σ' ⟨rfl, rfl⟩ <;> ((with_reducible refine behind_go ?_))) | exact True.intro | with_reducible assumption | exact fun hf => False.elim hf | (intro hg; first | (simp +contextual [hg]; done) | grind) | omega | simp (decide := true) only [go_sem, reduceIte, Nat.reduceAdd, Int.reduceToNat, Nat.reduceSub, Nat.reduceMul])
            refine r_cN hk71 (sem_cut fun k73 hk73 => ?_)
            simp (decide := true) only [go_sem, reduceIte, Nat.reduceAdd, Int.reduceToNat, Nat.reduceSub, Nat.reduceMul]
            refine r_cN hk73 ?_
            obtain ⟨v59, c74H, h⟩ := bind_some' h
            repeat' (first | with_reducible refine And.intro ?_ ?_ | ((with_reducible refine i_call (n := 108) ?_); refine call_open [[0], [0, 0], [0, 1]] ?_) | ((with_reducible refine i_callW (n := 108) ?_); refine callW_use (con_spec_l11Play_close (⟨(⟨v58.r.b, v58.r.p⟩ : l26Rd), v58.out, v58.bits, (IntKind.i64.wrap (v58.forks - 1)), v58.base, v58.fresh⟩ : l11Play) v59 c74H) ?_; rintro x σ' (⟨rfl, rfl⟩ | ⟨rfl, rfl⟩) <;> ((with_reducible refine behind_go ?_))) | exact True.intro | with_reducible assumption | exact fun hf => False.elim hf | (intro hg; first | (simp +contextual [hg]; done) | grind) | omega | simp (decide := true) only [go_sem, reduceIte, Nat.reduceAdd, Int.reduceToNat, Nat.reduceSub, Nat.reduceMul])
            · refine r_bN hk70 ?_
              obtain rfl := Option.some.inj h
              subst hkq67
              refine r_backP () _ rfl rfl ⟨?_, trivial⟩ (hIq67 _ rfl)
              first | exact wkSt_same rfl | (simp (decide := true) only [go_sem, reduceIte, Nat.reduceAdd, Int.reduceToNat, Nat.reduceSub, Nat.reduceMul]; exact wkSt_same rfl)
            · refine r_bN hk70 ?_
              obtain rfl := Option.some.inj h
              subst hkq67
              refine r_backP () _ rfl rfl ⟨?_, trivial⟩ (hIq67 _ rfl)
              first | exact wkSt_same rfl | (simp (decide := true) only [go_sem, reduceIte, Nat.reduceAdd, Int.reduceToNat, Nat.reduceSub, Nat.reduceMul]; exact wkSt_same rfl)
          · refine r_exit (r_cE hk68 ?_)
            obtain rfl := Option.some.inj h
            obtain rfl := hEq67 _ rfl
            have h := hKq67
            try simp only [Sum.elim_inl, Sum.elim_inr] at h
            refine r_kE hkq67 (r_bE hk52 ?_)
            refine r_joinU J50 [0] () _ rfl rfl ⟨?_, h⟩
            first | exact wkSt_same rfl | (simp (decide := true) only [go_sem, reduceIte, Nat.reduceAdd, Int.reduceToNat, Nat.reduceSub, Nat.reduceMul]; exact wkSt_same rfl)
    · refine r_cN hk23 (sem_cutJ (fun (_ : Unit) (x : ((List Int) × Int × (List Inst) × Int × Int × Bool × Bool)) => (⟨[(0, .pt 0 0)], [.rc [.pt 1 0, .sl 3 0 ((x.2.2.1).length), .sc (.int .i64 (x.2.2.2.1)), .sc (.int .i64 (x.2.2.2.2.1)), .sc (.bool (x.2.2.2.2.2.1)), .sc (.bool (x.2.2.2.2.2.2))], .rc [.fz 1 (R e_u8 (x.1)), .sc (.int .i64 (x.2.1))], .dead, .arr true 3 (R e_Inst (x.2.2.1))]⟩ : St)) (fun (_ : Unit) (x : ((List Int) × Int × (List Inst) × Int × Int × Bool × Bool)) => spec_l11Play_rung_j24 x = some res_) ?_ ?_)
      · rintro _ ⟨v74, v75, v76, v77, v78, v79, v80⟩ h
        simp only [spec_l11Play_rung_j24] at h
        refine sem_cut fun k98 hk98 => ?_
        obtain ⟨v81, c99H, h⟩ := bind_some' h
        repeat' (first | with_reducible refine And.intro ?_ ?_ | ((with_reducible refine i_call (n := 106) ?_); refine call_open [[0], [0, 0], [0, 1]] ?_) | ((with_reducible refine i_callW (n := 106) ?_); refine callW_use (con_spec_l11Play_put (⟨(⟨v74, v75⟩ : l26Rd), v76, v77, v78, v79, v80⟩ : l11Play) 11 v81 c99H) ?_; rintro x σ' ⟨rfl, rfl⟩ <;> ((with_reducible refine behind_go ?_))) | exact True.intro | with_reducible assumption | exact fun hf => False.elim hf | (intro hg; first | (simp +contextual [hg]; done) | grind) | omega | simp (decide := true) only [go_sem, reduceIte, Nat.reduceAdd, Int.reduceToNat, Nat.reduceSub, Nat.reduceMul])
        refine r_cN hk98 ?_
        simp (decide := true) only [go_sem, reduceIte, Nat.reduceAdd, Int.reduceToNat, Nat.reduceSub, Nat.reduceMul]
        obtain rfl := Option.some.inj h
        refine r_eAN hQ rfl rfl ?_
        simp (decide := true) only [go_sem, reduceIte, Nat.reduceAdd, Int.reduceToNat, Nat.reduceSub, Nat.reduceMul]
        all_goals first | exact wkEnd_same ⟨rfl, rfl⟩ | exact True.intro
      · intro k101 hk101 J100
        refine sem_blk fun k102 hk102 => ?_
        obtain ⟨oq117, hLq117, hKq117⟩ := bind_some' h
        clear h
        refine sem_loopP [0] (fun (_ : Unit) (x : ((List Int) × Int × (List Inst) × Int × Int × Bool × Bool)) => (⟨[(0, .pt 0 0)], [.rc [.pt 1 0, .sl 3 0 ((x.2.2.1).length), .sc (.int .i64 (x.2.2.2.1)), .sc (.int .i64 (x.2.2.2.2.1)), .sc (.bool (x.2.2.2.2.2.1)), .sc (.bool (x.2.2.2.2.2.2))], .rc [.fz 1 (R e_u8 (x.1)), .sc (.int .i64 (x.2.1))], .dead, .arr true 3 (R e_Inst (x.2.2.1))]⟩ : St)) (fun (_ : Unit) (x : ((List Int) × Int × (List Inst) × Int × Int × Bool × Bool)) => True) spec_l11Play_rung_s26 () (v23.r.b, v23.r.p, v23.out, v23.bits, v23.forks, v23.base, v23.fresh) hLq117 (by rfl) (by rfl) ⟨?_, trivial⟩ ?_
        · first | exact wkSt_same rfl | (simp (decide := true) only [go_sem, reduceIte, Nat.reduceAdd, Int.reduceToNat, Nat.reduceSub, Nat.reduceMul]; exact wkSt_same rfl)
        · rintro nq117 _ ⟨v84, v85, v86, v87, v88, v89, v90⟩ xq117 kq117 hkq117 - h hIq117 hEq117
          simp only [spec_l11Play_rung_s26] at h
          refine sem_cut fun k118 hk118 => sem_cut fun k119 hk119 => ?_
          simp (decide := true) only [go_sem, reduceIte, Nat.reduceAdd, Int.reduceToNat, Nat.reduceSub, Nat.reduceMul]
          refine r_cN hk119 ?_
          refine sem_ifh rfl h ?_ ?_ <;> clear h <;> intro h
          · refine r_skip (r_cN hk118 ?_)
            refine sem_blk fun k120 hk120 => sem_cut fun k121 hk121 => ?_
            obtain ⟨v94, c122H, h⟩ := bind_some' h
            repeat' (first | with_reducible refine And.intro ?_ ?_ | ((with_reducible refine i_call (n := 106) ?_); refine call_open [[0], [0, 0], [0, 1]] ?_) | ((with_reducible refine i_callW (n := 106) ?_); refine callW_use (con_spec_l11Play_put (⟨(⟨v84, v85⟩ : l26Rd), v86, v87, v88, v89, v90⟩ : l11Play) 9 v94 c122H) ?_; rintro x σ' ⟨rfl, rfl⟩ <;> ((with_reducible refine behind_go ?_))) | exact True.intro | with_reducible assumption | exact fun hf => False.elim hf | (intro hg; first | (simp +contextual [hg]; done) | grind) | omega | simp (decide := true) only [go_sem, reduceIte, Nat.reduceAdd, Int.reduceToNat, Nat.reduceSub, Nat.reduceMul])
            refine r_cN hk121 (sem_cut fun k123 hk123 => ?_)
            simp (decide := true) only [go_sem, reduceIte, Nat.reduceAdd, Int.reduceToNat, Nat.reduceSub, Nat.reduceMul]
            refine r_cN hk123 ?_
            obtain ⟨v95, c124H, h⟩ := bind_some' h
            repeat' (first | with_reducible refine And.intro ?_ ?_ | ((with_reducible refine i_call (n := 108) ?_); refine call_open [[0], [0, 0], [0, 1]] ?_) | ((with_reducible refine i_callW (n := 108) ?_); refine callW_use (con_spec_l11Play_close (⟨(⟨v94.r.b, v94.r.p⟩ : l26Rd), v94.out, v94.bits, (IntKind.i64.wrap (v94.forks - 1)), v94.base, v94.fresh⟩ : l11Play) v95 c124H) ?_; rintro x σ' (⟨rfl, rfl⟩ | ⟨rfl, rfl⟩) <;> ((with_reducible refine behind_go ?_))) | exact True.intro | with_reducible assumption | exact fun hf => False.elim hf | (intro hg; first | (simp +contextual [hg]; done) | grind) | omega | simp (decide := true) only [go_sem, reduceIte, Nat.reduceAdd, Int.reduceToNat, Nat.reduceSub, Nat.reduceMul])
            · refine r_bN hk120 ?_
              obtain rfl := Option.some.inj h
              subst hkq117
              refine r_backP () _ rfl rfl ⟨?_, trivial⟩ (hIq117 _ rfl)
              first | exact wkSt_same rfl | (simp (decide := true) only [go_sem, reduceIte, Nat.reduceAdd, Int.reduceToNat, Nat.reduceSub, Nat.reduceMul]; exact wkSt_same rfl)
            · refine r_bN hk120 ?_
              obtain rfl := Option.some.inj h
              subst hkq117
              refine r_backP () _ rfl rfl ⟨?_, trivial⟩ (hIq117 _ rfl)
              first | exact wkSt_same rfl | (simp (decide := true) only [go_sem, reduceIte, Nat.reduceAdd, Int.reduceToNat, Nat.reduceSub, Nat.reduceMul]; exact wkSt_same rfl)
          · refine r_exit (r_cE hk118 ?_)
            obtain rfl := Option.some.inj h
            obtain rfl := hEq117 _ rfl
            have h := hKq117
            try simp only [Sum.elim_inl, Sum.elim_inr] at h
            refine r_kE hkq117 (r_bE hk102 ?_)
            refine r_joinU J100 [0] () _ rfl rfl ⟨?_, h⟩
            first | exact wkSt_same rfl | (simp (decide := true) only [go_sem, reduceIte, Nat.reduceAdd, Int.reduceToNat, Nat.reduceSub, Nat.reduceMul]; exact wkSt_same rfl)
  · intro k126 hk126 J125
    refine sem_cut fun k127 hk127 => ?_
    simp (decide := true) only [go_sem, reduceIte, Nat.reduceAdd, Int.reduceToNat, Nat.reduceSub, Nat.reduceMul]
    refine r_cN hk127 (sem_blk fun k128 hk128 => ?_)
    obtain ⟨oq139, hLq139, hKq139⟩ := bind_some' h
    clear h
    refine sem_loopP [0, 1, 4] (fun (_ : Unit) (x : ((List Int) × Int × (List Inst) × Int × Int × Bool × Bool × Int)) => (⟨[(0, .pt 0 0), (1, .sc (.int .i64 (v2))), (4, .sc (.int .i64 (x.2.2.2.2.2.2.2)))], [.rc [.pt 1 0, .sl 3 0 ((x.2.2.1).length), .sc (.int .i64 (x.2.2.2.1)), .sc (.int .i64 (x.2.2.2.2.1)), .sc (.bool (x.2.2.2.2.2.1)), .sc (.bool (x.2.2.2.2.2.2.1))], .rc [.fz 1 (R e_u8 (x.1)), .sc (.int .i64 (x.2.1))], .dead, .arr true 3 (R e_Inst (x.2.2.1))]⟩ : St)) (fun (_ : Unit) (x : ((List Int) × Int × (List Inst) × Int × Int × Bool × Bool × Int)) => True) (spec_l11Play_rung_s11 v2) () (v3.r.b, v3.r.p, v3.out, 1, v3.forks, v3.base, v3.fresh, 0) hLq139 (by rfl) (by rfl) ⟨?_, trivial⟩ ?_
    · first | exact wkSt_same rfl | (simp (decide := true) only [go_sem, reduceIte, Nat.reduceAdd, Int.reduceToNat, Nat.reduceSub, Nat.reduceMul]; exact wkSt_same rfl)
    · rintro nq139 _ ⟨v97, v98, v99, v100, v101, v102, v103, v104⟩ xq139 kq139 hkq139 - h hIq139 hEq139
      simp only [spec_l11Play_rung_s11] at h
      refine sem_cut fun k140 hk140 => sem_cut fun k141 hk141 => ?_
      simp (decide := true) only [go_sem, reduceIte, Nat.reduceAdd, Int.reduceToNat, Nat.reduceSub, Nat.reduceMul]
      refine r_cN hk141 ?_
      refine sem_ifh rfl h ?_ ?_ <;> clear h <;> intro h
      · refine r_skip (r_cN hk140 ?_)
        refine sem_cut fun k142 hk142 => sem_blk fun k143 hk143 => ?_
        obtain ⟨v107, c144H, h⟩ := bind_some' h
        repeat' (first | with_reducible refine And.intro ?_ ?_ | ((with_reducible refine i_call (n := 107) ?_); refine call_open [[0], [0, 0], [0, 1]] ?_) | ((with_reducible refine i_callW (n := 107) ?_); refine callW_use (con_spec_l11Play_step (⟨(⟨v97, v98⟩ : l26Rd), v99, v100, v101, v102, v103⟩ : l11Play) v107 c144H) ?_; rintro x σ' (⟨rfl, rfl⟩ | ⟨rfl, rfl⟩) <;> ((with_reducible refine behind_go ?_))) | exact True.intro | with_reducible assumption | exact fun hf => False.elim hf | (intro hg; first | (simp +contextual [hg]; done) | grind) | omega | simp (decide := true) only [go_sem, reduceIte, Nat.reduceAdd, Int.reduceToNat, Nat.reduceSub, Nat.reduceMul])
        · refine r_bN hk143 (r_cN hk142 ?_)
          simp (decide := true) only [go_sem, reduceIte, Nat.reduceAdd, Int.reduceToNat, Nat.reduceSub, Nat.reduceMul]
          obtain rfl := Option.some.inj h
          subst hkq139
          refine r_backP () _ rfl rfl ⟨?_, trivial⟩ (hIq139 _ rfl)
          first | exact wkSt_same rfl | (simp (decide := true) only [go_sem, reduceIte, Nat.reduceAdd, Int.reduceToNat, Nat.reduceSub, Nat.reduceMul]; exact wkSt_same rfl)
        · refine r_bN hk143 (r_cN hk142 ?_)
          simp (decide := true) only [go_sem, reduceIte, Nat.reduceAdd, Int.reduceToNat, Nat.reduceSub, Nat.reduceMul]
          obtain rfl := Option.some.inj h
          subst hkq139
          refine r_backP () _ rfl rfl ⟨?_, trivial⟩ (hIq139 _ rfl)
          first | exact wkSt_same rfl | (simp (decide := true) only [go_sem, reduceIte, Nat.reduceAdd, Int.reduceToNat, Nat.reduceSub, Nat.reduceMul]; exact wkSt_same rfl)
      · refine r_exit (r_cE hk140 ?_)
        obtain rfl := Option.some.inj h
        obtain rfl := hEq139 _ rfl
        have h := hKq139
        try simp only [Sum.elim_inl, Sum.elim_inr] at h
        refine r_kE hkq139 (r_bE hk128 ?_)
        refine r_joinU J125 [0] () _ rfl rfl ⟨?_, h⟩
        first | exact wkSt_same rfl | (simp (decide := true) only [go_sem, reduceIte, Nat.reduceAdd, Int.reduceToNat, Nat.reduceSub, Nat.reduceMul]; exact wkSt_same rfl)
set_option maxRecDepth 10000 in
set_option maxHeartbeats 4000000 in
theorem con_spec_l11Play_put_1 (v1 : l11Play) (v2 : Int) (res_ : l11Play) (h : spec_l11Play_put v1 v2 = some res_) (hn0 : v1.out = []) : Con Try.prog C0 106 [.pt 0 0, .sc (.int .i64 (v2))] [.rc [.pt 1 0, .sc (.slice none 0 0), .sc (.int .i64 (v1.bits)), .sc (.int .i64 (v1.forks)), .sc (.bool (v1.base)), .sc (.bool (v1.fresh))], .rc [.fz 1 (R e_u8 (v1.r.b)), .sc (.int .i64 (v1.r.p))]]
    (fun x σ' => x = .tup [] ∧ σ' = [.rc [.pt 1 0, .sl 2 0 ((res_.out).length), .sc (.int .i64 (res_.bits)), .sc (.int .i64 (res_.forks)), .sc (.bool (res_.base)), .sc (.bool (res_.fresh))], .rc [.fz 1 (R e_u8 (res_.r.b)), .sc (.int .i64 (res_.r.p))], .arr true 3 (R e_Inst (res_.out))]) := by
  refine con_of_sem hP [0, 1, 4, 8, 16, 43] [] Try.func106 (by unfold Try.f106; rfl) rfl rfl (Nat.le_of_ble_eq_true rfl) rfl ?_
  simp only [enter_cons, enter_nil, List.length_cons, List.length_nil, Nat.reduceAdd]
  generalize hQ : endQ _ _ _ _ = Q
  unfold spec_l11Play_put at h
  obtain ⟨v1_r, v1_out, v1_bits, v1_forks, v1_base, v1_fresh⟩ := v1
  replace hn0 : v1_out = [] := hn0
  subst hn0
  try dsimp only at h
  refine sem_cut fun k1 hk1 => ?_
  simp (decide := true) only [go_sem, reduceIte, Nat.reduceAdd, Int.reduceToNat, Nat.reduceSub, Nat.reduceMul]
  refine r_cN hk1 (sem_cutJ (fun (i : P2) (x : ((List Int) × Int × Int × (List DevArg))) => match i with | .a => (⟨[(0, .pt 0 0), (1, .sc (.int .i64 (v2))), (4, .pt 2 0)], [.rc [.pt 1 0, .sc (.slice none 0 0), .sc (.int .i64 (v1_bits)), .sc (.int .i64 (v1_forks)), .sc (.bool (v1_base)), .sc (.bool (v1_fresh))], .rc [.fz 1 (R e_u8 (x.1)), .sc (.int .i64 (x.2.1))], .rc [.sc (.int .i64 (v2)), .sc (.int .i64 (x.2.2.1)), .sl 3 0 ((x.2.2.2).length)], .arr true 3 (R e_DevArg (x.2.2.2))]⟩ : St) | .b => (⟨[(0, .pt 0 0), (1, .sc (.int .i64 (v2))), (4, .pt 2 0)], [.rc [.pt 1 0, .sc (.slice none 0 0), .sc (.int .i64 (v1_bits)), .sc (.int .i64 (v1_forks)), .sc (.bool (v1_base)), .sc (.bool (v1_fresh))], .rc [.fz 1 (R e_u8 (x.1)), .sc (.int .i64 (x.2.1))], .rc [.sc (.int .i64 (v2)), .sc (.int .i64 (x.2.2.1)), .sc (.slice none 0 0)]]⟩ : St)) (fun (i : P2) (x : ((List Int) × Int × Int × (List DevArg))) => (match i with | .a => True | .b => x.2.2.2 = []) ∧ spec_l11Play_put_j3 (⟨v1_r, [], v1_bits, v1_forks, v1_base, v1_fresh⟩ : l11Play) v2 x = some res_) ?_ ?_)
  · rintro (_ | _) ⟨v4, v5, v6, v7⟩ ⟨hp, h⟩
    · simp only [List.nil_append, List.length_nil, Int.natCast_zero, spec_l11Play_put_j3] at h
      refine sem_cutJ (fun (i : P2) (x : ((List Int) × Int × Int × (List DevArg))) => match i with | .a => (⟨[(0, .pt 0 0), (1, .sc (.int .i64 (v2))), (4, .pt 2 0)], [.rc [.pt 1 0, .sc (.slice none 0 0), .sc (.int .i64 (v1_bits)), .sc (.int .i64 (v1_forks)), .sc (.bool (v1_base)), .sc (.bool (v1_fresh))], .rc [.fz 1 (R e_u8 (x.1)), .sc (.int .i64 (x.2.1))], .rc [.sc (.int .i64 (v2)), .sc (.int .i64 (x.2.2.1)), .fz 3 (R e_DevArg (x.2.2.2))]]⟩ : St) | .b => (⟨[(0, .pt 0 0), (1, .sc (.int .i64 (v2))), (4, .pt 2 0)], [.rc [.pt 1 0, .sc (.slice none 0 0), .sc (.int .i64 (v1_bits)), .sc (.int .i64 (v1_forks)), .sc (.bool (v1_base)), .sc (.bool (v1_fresh))], .rc [.fz 1 (R e_u8 (x.1)), .sc (.int .i64 (x.2.1))], .rc [.sc (.int .i64 (v2)), .sc (.int .i64 (x.2.2.1)), .sl 3 0 ((x.2.2.2).length)], .arr true 3 (R e_DevArg (x.2.2.2))]⟩ : St)) (fun (i : P2) (x : ((List Int) × Int × Int × (List DevArg))) => (match i with | .a => True | .b => True) ∧ spec_l11Play_put_j9 (⟨v1_r, [], v1_bits, v1_forks, v1_base, v1_fresh⟩ : l11Play) v2 x = some res_) ?_ ?_
      · rintro (_ | _) ⟨v9, v10, v11, v12⟩ ⟨hp, h⟩
        · simp only [List.nil_append, List.length_nil, Int.natCast_zero, spec_l11Play_put_j9] at h
          refine sem_cut fun k6 hk6 => ?_
          obtain ⟨g7, h⟩ := gd_some h
          have g7A := apOk_1 g7; have g7B := apOk_2 g7
          with_reducible refine sem_plan (id := 5) (.take 0 (.take 1 (.take 2 (.take 3 (.take 4 (.take 5 (.one 6 (.one 7 (.take 8 (.take 9 (.last 10 .done))))))))))) [0, 2] ?_ ?_
          focus kernel_rfl
          repeat' (first | with_reducible refine And.intro ?_ ?_ | exact True.intro | with_reducible assumption | exact fun hf => False.elim hf | (intro hg; first | (simp +contextual [hg]; done) | grind) | omega | simp (decide := true) only [go_sem, reduceIte, Nat.reduceAdd, Int.reduceToNat, Nat.reduceSub, Nat.reduceMul, g7A, g7B])
          refine r_cN hk6 (sem_cut fun k8 hk8 => ?_)
          simp (decide := true) only [go_sem, reduceIte, Nat.reduceAdd, Int.reduceToNat, Nat.reduceSub, Nat.reduceMul]
          refine r_cN hk8 (sem_cut fun k9 hk9 => ?_)
          repeat' (first | with_reducible refine And.intro ?_ ?_ | exact True.intro | with_reducible assumption | exact fun hf => False.elim hf | (intro hg; first | (simp +contextual [hg]; done) | grind) | omega | simp (decide := true) only [go_sem, reduceIte, Nat.reduceAdd, Int.reduceToNat, Nat.reduceSub, Nat.reduceMul])
          refine r_cN hk9 ?_
          refine sem_ifh rfl h ?_ ?_ <;> clear h <;> intro h
          · simp (decide := true) only [go_sem, reduceIte, Nat.reduceAdd, Int.reduceToNat, Nat.reduceSub, Nat.reduceMul]
            obtain rfl := Option.some.inj h
            refine r_eAN hQ rfl rfl ?_
            simp (decide := true) only [go_sem, reduceIte, Nat.reduceAdd, Int.reduceToNat, Nat.reduceSub, Nat.reduceMul]
            all_goals first | exact wkEnd_same ⟨rfl, rfl⟩ | exact True.intro
          · refine r_skip ?_
            obtain rfl := Option.some.inj h
            refine r_eAN hQ rfl rfl ?_
            simp (decide := true) only [go_sem, reduceIte, Nat.reduceAdd, Int.reduceToNat, Nat.reduceSub, Nat.reduceMul]
            all_goals first | exact wkEnd_same ⟨rfl, rfl⟩ | exact True.intro
        · simp only [List.nil_append, List.length_nil, Int.natCast_zero, spec_l11Play_put_j9] at h
          refine sem_cut fun k10 hk10 => ?_
          obtain ⟨g11, h⟩ := gd_some h
          have g11A := apOk_1 g11; have g11B := apOk_2 g11
          with_reducible refine sem_plan (id := 5) (.take 0 (.take 1 (.take 2 (.take 3 (.take 4 (.take 5 (.one 6 (.one 7 (.take 8 (.take 9 (.last 10 .done))))))))))) [0, 2] ?_ ?_
          focus kernel_rfl
          repeat' (first | with_reducible refine And.intro ?_ ?_ | exact True.intro | with_reducible assumption | exact fun hf => False.elim hf | (intro hg; first | (simp +contextual [hg]; done) | grind) | omega | simp (decide := true) only [go_sem, reduceIte, Nat.reduceAdd, Int.reduceToNat, Nat.reduceSub, Nat.reduceMul, g11A, g11B])
          refine r_cN hk10 (sem_cut fun k12 hk12 => ?_)
          simp (decide := true) only [go_sem, reduceIte, Nat.reduceAdd, Int.reduceToNat, Nat.reduceSub, Nat.reduceMul]
          refine r_cN hk12 (sem_cut fun k13 hk13 => ?_)
          repeat' (first | with_reducible refine And.intro ?_ ?_ | exact True.intro | with_reducible assumption | exact fun hf => False.elim hf | (intro hg; first | (simp +contextual [hg]; done) | grind) | omega | simp (decide := true) only [go_sem, reduceIte, Nat.reduceAdd, Int.reduceToNat, Nat.reduceSub, Nat.reduceMul])
          refine r_cN hk13 ?_
          refine sem_ifh rfl h ?_ ?_ <;> clear h <;> intro h
          · simp (decide := true) only [go_sem, reduceIte, Nat.reduceAdd, Int.reduceToNat, Nat.reduceSub, Nat.reduceMul]
            obtain rfl := Option.some.inj h
            refine r_eAN hQ rfl rfl ?_
            simp (decide := true) only [go_sem, reduceIte, Nat.reduceAdd, Int.reduceToNat, Nat.reduceSub, Nat.reduceMul]
            all_goals first | exact wkEnd_same ⟨rfl, rfl⟩ | exact True.intro
          · refine r_skip ?_
            obtain rfl := Option.some.inj h
            refine r_eAN hQ rfl rfl ?_
            simp (decide := true) only [go_sem, reduceIte, Nat.reduceAdd, Int.reduceToNat, Nat.reduceSub, Nat.reduceMul]
            all_goals first | exact wkEnd_same ⟨rfl, rfl⟩ | exact True.intro
      · intro k15 hk15 J14
        refine sem_cut fun k16 hk16 => ?_
        simp (decide := true) only [go_sem, reduceIte, Nat.reduceAdd, Int.reduceToNat, Nat.reduceSub, Nat.reduceMul]
        refine r_cN hk16 ?_
        refine sem_ifh rfl h ?_ ?_ <;> clear h <;> intro h
        · obtain ⟨v13, c17H, h⟩ := bind_some' h
          repeat' (first | with_reducible refine And.intro ?_ ?_ | ((with_reducible refine i_call (n := 88) ?_); refine call_open [[0]] ?_) | ((with_reducible refine i_callW (n := 88) ?_); refine callW_use (con_spec_l4Coil (⟨v4, v5⟩ : l26Rd) v13 c17H) ?_; rintro x σ' ⟨rfl, rfl⟩ <;> ((with_reducible refine behind_go ?_))) | exact True.intro | with_reducible assumption | exact fun hf => False.elim hf | (intro hg; first | (simp +contextual [hg]; done) | grind) | omega | simp (decide := true) only [go_sem, reduceIte, Nat.reduceAdd, Int.reduceToNat, Nat.reduceSub, Nat.reduceMul])
          refine r_joinU J14 [0, 1, 4] (.a) (v13.2.b, v13.2.p, v13.1.Op, v13.1.Args) rfl rfl ⟨?_, ⟨trivial, h⟩⟩
          first | exact wkSt_same rfl | (simp (decide := true) only [go_sem, reduceIte, Nat.reduceAdd, Int.reduceToNat, Nat.reduceSub, Nat.reduceMul]; exact wkSt_same rfl)
        · refine r_skip (r_joinU J14 [0, 1, 4] (.b) (v4, v5, v6, v7) rfl rfl ⟨?_, ⟨trivial, h⟩⟩)
          first | exact wkSt_same rfl | (simp (decide := true) only [go_sem, reduceIte, Nat.reduceAdd, Int.reduceToNat, Nat.reduceSub, Nat.reduceMul]; exact wkSt_same rfl)
    · replace hp : v7 = [] := hp
      subst hp
      simp only [List.nil_append, List.length_nil, Int.natCast_zero, spec_l11Play_put_j3] at h
      try simp only [List.nil_append, List.length_nil, Int.natCast_zero] at h
      refine sem_cutJ (fun (_ : Unit) (x : ((List Int) × Int × Int × (List DevArg))) => (⟨[(0, .pt 0 0), (1, .sc (.int .i64 (v2))), (4, .pt 2 0)], [.rc [.pt 1 0, .sc (.slice none 0 0), .sc (.int .i64 (v1_bits)), .sc (.int .i64 (v1_forks)), .sc (.bool (v1_base)), .sc (.bool (v1_fresh))], .rc [.fz 1 (R e_u8 (x.1)), .sc (.int .i64 (x.2.1))], .rc [.sc (.int .i64 (v2)), .sc (.int .i64 (x.2.2.1)), .fz 3 (R e_DevArg (x.2.2.2))]]⟩ : St)) (fun (_ : Unit) (x : ((List Int) × Int × Int × (List DevArg))) => spec_l11Play_put_j9 (⟨v1_r, [], v1_bits, v1_forks, v1_base, v1_fresh⟩ : l11Play) v2 x = some res_) ?_ ?_
      · rintro _ ⟨v15, v16, v17, v18⟩ h
        simp only [List.nil_append, List.length_nil, Int.natCast_zero, spec_l11Play_put_j9] at h
        refine sem_cut fun k20 hk20 => ?_
        obtain ⟨g21, h⟩ := gd_some h
        have g21A := apOk_1 g21; have g21B := apOk_2 g21
        with_reducible refine sem_plan (id := 5) (.take 0 (.take 1 (.take 2 (.take 3 (.take 4 (.take 5 (.one 6 (.one 7 (.take 8 (.take 9 (.last 10 .done))))))))))) [0, 2] ?_ ?_
        focus kernel_rfl
        repeat' (first | with_reducible refine And.intro ?_ ?_ | exact True.intro | with_reducible assumption | exact fun hf => False.elim hf | (intro hg; first | (simp +contextual [hg]; done) | grind) | omega | simp (decide := true) only [go_sem, reduceIte, Nat.reduceAdd, Int.reduceToNat, Nat.reduceSub, Nat.reduceMul, g21A, g21B])
        refine r_cN hk20 (sem_cut fun k22 hk22 => ?_)
        simp (decide := true) only [go_sem, reduceIte, Nat.reduceAdd, Int.reduceToNat, Nat.reduceSub, Nat.reduceMul]
        refine r_cN hk22 (sem_cut fun k23 hk23 => ?_)
        repeat' (first | with_reducible refine And.intro ?_ ?_ | exact True.intro | with_reducible assumption | exact fun hf => False.elim hf | (intro hg; first | (simp +contextual [hg]; done) | grind) | omega | simp (decide := true) only [go_sem, reduceIte, Nat.reduceAdd, Int.reduceToNat, Nat.reduceSub, Nat.reduceMul])
        refine r_cN hk23 ?_
        refine sem_ifh rfl h ?_ ?_ <;> clear h <;> intro h
        · simp (decide := true) only [go_sem, reduceIte, Nat.reduceAdd, Int.reduceToNat, Nat.reduceSub, Nat.reduceMul]
          obtain rfl := Option.some.inj h
          refine r_eAN hQ rfl rfl ?_
          simp (decide := true) only [go_sem, reduceIte, Nat.reduceAdd, Int.reduceToNat, Nat.reduceSub, Nat.reduceMul]
          all_goals first | exact wkEnd_same ⟨rfl, rfl⟩ | exact True.intro
        · refine r_skip ?_
          obtain rfl := Option.some.inj h
          refine r_eAN hQ rfl rfl ?_
          simp (decide := true) only [go_sem, reduceIte, Nat.reduceAdd, Int.reduceToNat, Nat.reduceSub, Nat.reduceMul]
          all_goals first | exact wkEnd_same ⟨rfl, rfl⟩ | exact True.intro
      · intro k25 hk25 J24
        refine sem_cut fun k26 hk26 => ?_
        simp (decide := true) only [go_sem, reduceIte, Nat.reduceAdd, Int.reduceToNat, Nat.reduceSub, Nat.reduceMul]
        refine r_cN hk26 ?_
        refine sem_ifh rfl h ?_ ?_ <;> clear h <;> intro h
        · obtain ⟨v19, c27H, h⟩ := bind_some' h
          repeat' (first | with_reducible refine And.intro ?_ ?_ | ((with_reducible refine i_call (n := 88) ?_); refine call_open [[0]] ?_) | ((with_reducible refine i_callW (n := 88) ?_); refine callW_use (con_spec_l4Coil (⟨v4, v5⟩ : l26Rd) v19 c27H) ?_; rintro x σ' ⟨rfl, rfl⟩ <;> ((with_reducible refine behind_go ?_))) | exact True.intro | with_reducible assumption | exact fun hf => False.elim hf | (intro hg; first | (simp +contextual [hg]; done) | grind) | omega | simp (decide := true) only [go_sem, reduceIte, Nat.reduceAdd, Int.reduceToNat, Nat.reduceSub, Nat.reduceMul])
          refine r_joinU J24 [0, 1, 4] () _ rfl rfl ⟨?_, h⟩
          first | exact wkSt_same rfl | (simp (decide := true) only [go_sem, reduceIte, Nat.reduceAdd, Int.reduceToNat, Nat.reduceSub, Nat.reduceMul]; exact wkSt_same rfl)
        · refine r_skip (r_joinU J24 [0, 1, 4] () _ rfl rfl ⟨?_, h⟩)
          simp (decide := true) only [go_sem, reduceIte, Nat.reduceAdd, Int.reduceToNat, Nat.reduceSub, Nat.reduceMul]
          (apply wkSt_mk <;> repeat' (first | exact wkE_nil | (with_reducible apply wkE_cons) | exact wkC_nil _ | exact wkV_nil _ | exact wkA_nil _ | (with_reducible apply wkV_agg) | (with_reducible apply wkV_tup) | (with_reducible apply wkA_agg) | exact wkA_refl _ | exact wkV_refl _ | exact wkS_nil | (with_reducible apply wkS_cons) | (with_reducible apply wkO_rc) | (with_reducible apply wkO_arr) | exact wkO_refl _ | exact wkL_nil | (with_reducible apply wkL_cons) | exact wkC_refl _ | exact wkT_nil | (with_reducible apply wkT_cons) | (with_reducible apply wkR_appR) | (with_reducible apply wkR_consR) | exact wkR_nilR _ | exact wkR_refl _))
  · intro k29 hk29 J28
    refine sem_cut fun k30 hk30 => ?_
    simp (decide := true) only [go_sem, reduceIte, Nat.reduceAdd, Int.reduceToNat, Nat.reduceSub, Nat.reduceMul]
    refine r_cN hk30 ?_
    refine sem_ifh rfl h ?_ ?_ <;> clear h <;> intro h
    · obtain ⟨v20, c31H, h⟩ := bind_some' h
      repeat' (first | with_reducible refine And.intro ?_ ?_ | ((with_reducible refine i_call (n := 87) ?_); refine call_open [[0]] ?_) | ((with_reducible refine i_callW (n := 87) ?_); refine callW_use (con_spec_l4Contact (⟨v1_r.b, v1_r.p⟩ : l26Rd) v20 c31H) ?_; rintro x σ' ⟨rfl, rfl⟩ <;> ((with_reducible refine behind_go ?_))) | exact True.intro | with_reducible assumption | exact fun hf => False.elim hf | (intro hg; first | (simp +contextual [hg]; done) | grind) | omega | simp (decide := true) only [go_sem, reduceIte, Nat.reduceAdd, Int.reduceToNat, Nat.reduceSub, Nat.reduceMul])
      refine r_joinU J28 [0, 1, 4] (.a) (v20.2.b, v20.2.p, v20.1.Op, v20.1.Args) rfl rfl ⟨?_, ⟨trivial, h⟩⟩
      first | exact wkSt_same rfl | (simp (decide := true) only [go_sem, reduceIte, Nat.reduceAdd, Int.reduceToNat, Nat.reduceSub, Nat.reduceMul]; exact wkSt_same rfl)
    · refine r_skip (r_joinU J28 [0, 1, 4] (.b) (v1_r.b, v1_r.p, 0, []) rfl rfl ⟨?_, ⟨rfl, h⟩⟩)
      first | exact wkSt_same rfl | (simp (decide := true) only [go_sem, reduceIte, Nat.reduceAdd, Int.reduceToNat, Nat.reduceSub, Nat.reduceMul]; exact wkSt_same rfl)
set_option maxRecDepth 10000 in
set_option maxHeartbeats 4000000 in
theorem con_spec_l11Play_rung (v1 : l11Play) (v2 : Int) (res_ : l11Play) (h : spec_l11Play_rung v1 v2 = some res_) (hn0 : v1.out = []) : Con Try.prog C0 92 [.pt 0 0, .sc (.int .i64 (v2))] [.rc [.pt 1 0, .sc (.slice none 0 0), .sc (.int .i64 (v1.bits)), .sc (.int .i64 (v1.forks)), .sc (.bool (v1.base)), .sc (.bool (v1.fresh))], .rc [.fz 1 (R e_u8 (v1.r.b)), .sc (.int .i64 (v1.r.p))]]
    (fun x σ' => x = .tup [] ∧ σ' = [.rc [.pt 1 0, .sl 2 0 ((res_.out).length), .sc (.int .i64 (res_.bits)), .sc (.int .i64 (res_.forks)), .sc (.bool (res_.base)), .sc (.bool (res_.fresh))], .rc [.fz 1 (R e_u8 (res_.r.b)), .sc (.int .i64 (res_.r.p))], .arr true 3 (R e_Inst (res_.out))]) := by
  refine con_of_sem hP [0, 1, 4, 15, 26] [] Try.func92 (by unfold Try.f92; rfl) rfl rfl (Nat.le_of_ble_eq_true rfl) rfl ?_
  simp only [enter_cons, enter_nil, List.length_cons, List.length_nil, Nat.reduceAdd]
  generalize hQ : endQ _ _ _ _ = Q
  unfold spec_l11Play_rung at h
  obtain ⟨v1_r, v1_out, v1_bits, v1_forks, v1_base, v1_fresh⟩ := v1
  replace hn0 : v1_out = [] := hn0
  subst hn0
  try dsimp only at h
  refine sem_cut fun k1 hk1 => ?_
  simp (decide := true) only [go_sem, reduceIte, Nat.reduceAdd, Int.reduceToNat, Nat.reduceSub, Nat.reduceMul]
  refine r_cN hk1 (sem_cut fun k2 hk2 => ?_)
  obtain ⟨v3, c3H, h⟩ := bind_some' h
  repeat' (first | with_reducible refine And.intro ?_ ?_ | ((with_reducible refine i_call (n := 106) ?_); refine call_open [[0], [0, 0]] ?_) | ((with_reducible refine i_callW (n := 106) ?_); refine callW_use (con_spec_l11Play_put_1 (⟨(⟨v1_r.b, v1_r.p⟩ : l26Rd), [], v1_bits, v1_forks, false, v1_fresh⟩ : l11Play) 1 v3 c3H rfl) ?_; rintro x σ' ⟨rfl, rfl⟩ <;> ((with_reducible refine behind_go ?_))) | exact True.intro | with_reducible assumption | exact fun hf => False.elim hf | (intro hg; first | (simp +contextual [hg]; done) | grind) | omega | simp (decide := true) only [go_sem, reduceIte, Nat.reduceAdd, Int.reduceToNat, Nat.reduceSub, Nat.reduceMul])
  refine r_cN hk2 (sem_cut fun k4 hk4 => ?_)
  simp (decide := true) only [go_sem, reduceIte, Nat.reduceAdd, Int.reduceToNat, Nat.reduceSub, Nat.reduceMul]
  refine r_cN hk4 (sem_cutJ (fun (_ : Unit) (x : ((List Int) × Int × (List Inst) × Int × Int × Bool × Bool)) => (⟨[(0, .pt 0 0)], [.rc [.pt 1 0, .sl 2 0 ((x.2.2.1).length), .sc (.int .i64 (x.2.2.2.1)), .sc (.int .i64 (x.2.2.2.2.1)), .sc (.bool (x.2.2.2.2.2.1)), .sc (.bool (x.2.2.2.2.2.2))], .rc [.fz 1 (R e_u8 (x.1)), .sc (.int .i64 (x.2.1))], .arr true 3 (R e_Inst (x.2.2.1))]⟩ : St)) (fun (_ : Unit) (x : ((List Int) × Int × (List Inst) × Int × Int × Bool × Bool)) => spec_l11Play_rung_j7 x = some res_) ?_ ?_)
  · rintro _ ⟨v16, v17, v18, v19, v20, v21, v22⟩ h
    simp only [List.nil_append, List.length_nil, Int.natCast_zero, spec_l11Play_rung_j7] at h
    refine sem_cut fun k23 hk23 => ?_
    obtain ⟨v23, c24H, h⟩ := bind_some' h
    repeat' (first | with_reducible refine And.intro ?_ ?_ | ((with_reducible refine i_call (n := 108) ?_); refine call_open [[0], [0, 0], [0, 1]] ?_) | ((with_reducible refine i_callW (n := 108) ?_); refine callW_use (con_spec_l11Play_close (⟨(⟨v16, v17⟩ : l26Rd), v18, v19, v20, v21, v22⟩ : l11Play) v23 c24H) ?_; rintro x σ' (⟨rfl, rfl⟩ | ⟨rfl, rfl⟩) <;> ((with_reducible refine behind_go ?_))) | exact True.intro | with_reducible assumption | exact fun hf => False.elim hf | (intro hg; first | (simp +contextual [hg]; done) | grind) | omega | simp (decide := true) only [go_sem, reduceIte, Nat.reduceAdd, Int.reduceToNat, Nat.reduceSub, Nat.reduceMul])
    · refine r_cN hk23 (sem_cutJ (fun (_ : Unit) (x : ((List Int) × Int × (List Inst) × Int × Int × Bool × Bool)) => (⟨[(0, .pt 0 0)], [.rc [.pt 1 0, .sl 2 0 ((x.2.2.1).length), .sc (.int .i64 (x.2.2.2.1)), .sc (.int .i64 (x.2.2.2.2.1)), .sc (.bool (x.2.2.2.2.2.1)), .sc (.bool (x.2.2.2.2.2.2))], .rc [.fz 1 (R e_u8 (x.1)), .sc (.int .i64 (x.2.1))], .arr true 3 (R e_Inst (x.2.2.1))]⟩ : St)) (fun (_ : Unit) (x : ((List Int) × Int × (List Inst) × Int × Int × Bool × Bool)) => spec_l11Play_rung_j24 x = some res_) ?_ ?_)
      · rintro _ ⟨v38, v39, v40, v41, v42, v43, v44⟩ h
        simp only [List.nil_append, List.length_nil, Int.natCast_zero, spec_l11Play_rung_j24] at h
        refine sem_cut fun k48 hk48 => ?_
        obtain ⟨v45, c49H, h⟩ := bind_some' h
        repeat' (first | with_reducible refine And.intro ?_ ?_ | ((with_reducible refine i_call (n := 106) ?_); refine call_open [[0], [0, 0], [0, 1]] ?_) | ((with_reducible refine i_callW (n := 106) ?_); refine callW_use (con_spec_l11Play_put (⟨(⟨v38, v39⟩ : l26Rd), v40, v41, v42, v43, v44⟩ : l11Play) 11 v45 c49H) ?_; rintro x σ' ⟨rfl, rfl⟩ <;> ((with_reducible refine behind_go ?_))) | exact True.intro | with_reducible assumption | exact fun hf => False.elim hf | (intro hg; first | (simp +contextual [hg]; done) | grind) | omega | simp (decide := true) only [go_sem, reduceIte, Nat.reduceAdd, Int.reduceToNat, Nat.reduceSub, Nat.reduceMul])
        refine r_cN hk48 ?_
        simp (decide := true) only [go_sem, reduceIte, Nat.reduceAdd, Int.reduceToNat, Nat.reduceSub, Nat.reduceMul]
        obtain rfl := Option.some.inj h
        refine r_eAN hQ rfl rfl ?_
        simp (decide := true) only [go_sem, reduceIte, Nat.reduceAdd, Int.reduceToNat, Nat.reduceSub, Nat.reduceMul]
        all_goals first | exact wkEnd_same ⟨rfl, rfl⟩ | exact True.intro
      · intro k51 hk51 J50
        refine sem_blk fun k52 hk52 => ?_
        obtain ⟨oq67, hLq67, hKq67⟩ := bind_some' h
        clear h
        refine sem_loopP [0] (fun (_ : Unit) (x : ((List Int) × Int × (List Inst) × Int × Int × Bool × Bool)) => (⟨[(0, .pt 0 0)], [.rc [.pt 1 0, .sl 2 0 ((x.2.2.1).length), .sc (.int .i64 (x.2.2.2.1)), .sc (.int .i64 (x.2.2.2.2.1)), .sc (.bool (x.2.2.2.2.2.1)), .sc (.bool (x.2.2.2.2.2.2))], .rc [.fz 1 (R e_u8 (x.1)), .sc (.int .i64 (x.2.1))], .arr true 3 (R e_Inst (x.2.2.1))]⟩ : St)) (fun (_ : Unit) (x : ((List Int) × Int × (List Inst) × Int × Int × Bool × Bool)) => True) spec_l11Play_rung_s26 () (v23.r.b, v23.r.p, v23.out, v23.bits, v23.forks, v23.base, v23.fresh) hLq67 (by rfl) (by rfl) ⟨?_, trivial⟩ ?_
        · first | exact wkSt_same rfl | (simp (decide := true) only [go_sem, reduceIte, Nat.reduceAdd, Int.reduceToNat, Nat.reduceSub, Nat.reduceMul]; exact wkSt_same rfl)
        · rintro nq67 _ ⟨v48, v49, v50, v51, v52, v53, v54⟩ xq67 kq67 hkq67 - h hIq67 hEq67
          simp only [List.nil_append, List.length_nil, Int.natCast_zero, spec_l11Play_rung_s26] at h
          refine sem_cut fun k68 hk68 => sem_cut fun k69 hk69 => ?_
          simp (decide := true) only [go_sem, reduceIte, Nat.reduceAdd, Int.reduceToNat, Nat.reduceSub, Nat.reduceMul]
          refine r_cN hk69 ?_
          refine sem_ifh rfl h ?_ ?_ <;> clear h <;> intro h
          · refine r_skip (r_cN hk68 ?_)
            refine sem_blk fun k70 hk70 => sem_cut fun k71 hk71 => ?_
            obtain ⟨v58, c72H, h⟩ := bind_some' h
            repeat' (first | with_reducible refine And.intro ?_ ?_ | ((with_reducible refine i_call (n := 106) ?_); refine call_open [[0], [0, 0], [0, 1]] ?_) | ((with_reducible refine i_callW (n := 106) ?_); refine callW_use (con_spec_l11Play_put (⟨(⟨v48, v49⟩ : l26Rd), v50, v51, v52, v53, v54⟩ : l11Play) 9 v58 c72H) ?_; rintro x σ' ⟨rfl, rfl⟩ <;> ((with_reducible refine behind_go ?_))) | exact True.intro | with_reducible assumption | exact fun hf => False.elim hf | (intro hg; first | (simp +contextual [hg]; done) | grind) | omega | simp (decide := true) only [go_sem, reduceIte, Nat.reduceAdd, Int.reduceToNat, Nat.reduceSub, Nat.reduceMul])
            refine r_cN hk71 (sem_cut fun k73 hk73 => ?_)
            simp (decide := true) only [go_sem, reduceIte, Nat.reduceAdd, Int.reduceToNat, Nat.reduceSub, Nat.reduceMul]
            refine r_cN hk73 ?_
            obtain ⟨v59, c74H, h⟩ := bind_some' h
            repeat' (first | with_reducible refine And.intro ?_ ?_ | ((with_reducible refine i_call (n := 108) ?_); refine call_open [[0], [0, 0], [0, 1]] ?_) | ((with_reducible refine i_callW (n := 108) ?_); refine callW_use (con_spec_l11Play_close (⟨(⟨v58.r.b, v58.r.p⟩ : l26Rd), v58.out, v58.bits, (IntKind.i64.wrap (v58.forks - 1)), v58.base, v58.fresh⟩ : l11Play) v59 c74H) ?_; rintro x σ' (⟨rfl, rfl⟩ | ⟨rfl, rfl⟩) <;> ((with_reducible refine behind_go ?_))) | exact True.intro | with_reducible assumption | exact fun hf => False.elim hf | (intro hg; first | (simp +contextual [hg]; done) | grind) | omega | simp (decide := true) only [go_sem, reduceIte, Nat.reduceAdd, Int.reduceToNat, Nat.reduceSub, Nat.reduceMul])
            · refine r_bN hk70 ?_
              obtain rfl := Option.some.inj h
              subst hkq67
              refine r_backP () _ rfl rfl ⟨?_, trivial⟩ (hIq67 _ rfl)
              first | exact wkSt_same rfl | (simp (decide := true) only [go_sem, reduceIte, Nat.reduceAdd, Int.reduceToNat, Nat.reduceSub, Nat.reduceMul]; exact wkSt_same rfl)
            · refine r_bN hk70 ?_
              obtain rfl := Option.some.inj h
              subst hkq67
              refine r_backP () _ rfl rfl ⟨?_, trivial⟩ (hIq67 _ rfl)
              first | exact wkSt_same rfl | (simp (decide := true) only [go_sem, reduceIte, Nat.reduceAdd, Int.reduceToNat, Nat.reduceSub, Nat.reduceMul]; exact wkSt_same rfl)
          · refine r_exit (r_cE hk68 ?_)
            obtain rfl := Option.some.inj h
            obtain rfl := hEq67 _ rfl
            have h := hKq67
            try simp only [Sum.elim_inl, Sum.elim_inr] at h
            refine r_kE hkq67 (r_bE hk52 ?_)
            refine r_joinU J50 [0] () _ rfl rfl ⟨?_, h⟩
            first | exact wkSt_same rfl | (simp (decide := true) only [go_sem, reduceIte, Nat.reduceAdd, Int.reduceToNat, Nat.reduceSub, Nat.reduceMul]; exact wkSt_same rfl)
    · refine r_cN hk23 (sem_cutJ (fun (_ : Unit) (x : ((List Int) × Int × (List Inst) × Int × Int × Bool × Bool)) => (⟨[(0, .pt 0 0)], [.rc [.pt 1 0, .sl 2 0 ((x.2.2.1).length), .sc (.int .i64 (x.2.2.2.1)), .sc (.int .i64 (x.2.2.2.2.1)), .sc (.bool (x.2.2.2.2.2.1)), .sc (.bool (x.2.2.2.2.2.2))], .rc [.fz 1 (R e_u8 (x.1)), .sc (.int .i64 (x.2.1))], .arr true 3 (R e_Inst (x.2.2.1))]⟩ : St)) (fun (_ : Unit) (x : ((List Int) × Int × (List Inst) × Int × Int × Bool × Bool)) => spec_l11Play_rung_j24 x = some res_) ?_ ?_)
      · rintro _ ⟨v74, v75, v76, v77, v78, v79, v80⟩ h
        simp only [List.nil_append, List.length_nil, Int.natCast_zero, spec_l11Play_rung_j24] at h
        refine sem_cut fun k98 hk98 => ?_
        obtain ⟨v81, c99H, h⟩ := bind_some' h
        repeat' (first | with_reducible refine And.intro ?_ ?_ | ((with_reducible refine i_call (n := 106) ?_); refine call_open [[0], [0, 0], [0, 1]] ?_) | ((with_reducible refine i_callW (n := 106) ?_); refine callW_use (con_spec_l11Play_put (⟨(⟨v74, v75⟩ : l26Rd), v76, v77, v78, v79, v80⟩ : l11Play) 11 v81 c99H) ?_; rintro x σ' ⟨rfl, rfl⟩ <;> ((with_reducible refine behind_go ?_))) | exact True.intro | with_reducible assumption | exact fun hf => False.elim hf | (intro hg; first | (simp +contextual [hg]; done) | grind) | omega | simp (decide := true) only [go_sem, reduceIte, Nat.reduceAdd, Int.reduceToNat, Nat.reduceSub, Nat.reduceMul])
        refine r_cN hk98 ?_
        simp (decide := true) only [go_sem, reduceIte, Nat.reduceAdd, Int.reduceToNat, Nat.reduceSub, Nat.reduceMul]
        obtain rfl := Option.some.inj h
        refine r_eAN hQ rfl rfl ?_
        simp (decide := true) only [go_sem, reduceIte, Nat.reduceAdd, Int.reduceToNat, Nat.reduceSub, Nat.reduceMul]
        all_goals first | exact wkEnd_same ⟨rfl, rfl⟩ | exact True.intro
      · intro k101 hk101 J100
        refine sem_blk fun k102 hk102 => ?_
        obtain ⟨oq117, hLq117, hKq117⟩ := bind_some' h
        clear h
        refine sem_loopP [0] (fun (_ : Unit) (x : ((List Int) × Int × (List Inst) × Int × Int × Bool × Bool)) => (⟨[(0, .pt 0 0)], [.rc [.pt 1 0, .sl 2 0 ((x.2.2.1).length), .sc (.int .i64 (x.2.2.2.1)), .sc (.int .i64 (x.2.2.2.2.1)), .sc (.bool (x.2.2.2.2.2.1)), .sc (.bool (x.2.2.2.2.2.2))], .rc [.fz 1 (R e_u8 (x.1)), .sc (.int .i64 (x.2.1))], .arr true 3 (R e_Inst (x.2.2.1))]⟩ : St)) (fun (_ : Unit) (x : ((List Int) × Int × (List Inst) × Int × Int × Bool × Bool)) => True) spec_l11Play_rung_s26 () (v23.r.b, v23.r.p, v23.out, v23.bits, v23.forks, v23.base, v23.fresh) hLq117 (by rfl) (by rfl) ⟨?_, trivial⟩ ?_
        · first | exact wkSt_same rfl | (simp (decide := true) only [go_sem, reduceIte, Nat.reduceAdd, Int.reduceToNat, Nat.reduceSub, Nat.reduceMul]; exact wkSt_same rfl)
        · rintro nq117 _ ⟨v84, v85, v86, v87, v88, v89, v90⟩ xq117 kq117 hkq117 - h hIq117 hEq117
          simp only [List.nil_append, List.length_nil, Int.natCast_zero, spec_l11Play_rung_s26] at h
          refine sem_cut fun k118 hk118 => sem_cut fun k119 hk119 => ?_
          simp (decide := true) only [go_sem, reduceIte, Nat.reduceAdd, Int.reduceToNat, Nat.reduceSub, Nat.reduceMul]
          refine r_cN hk119 ?_
          refine sem_ifh rfl h ?_ ?_ <;> clear h <;> intro h
          · refine r_skip (r_cN hk118 ?_)
            refine sem_blk fun k120 hk120 => sem_cut fun k121 hk121 => ?_
            obtain ⟨v94, c122H, h⟩ := bind_some' h
            repeat' (first | with_reducible refine And.intro ?_ ?_ | ((with_reducible refine i_call (n := 106) ?_); refine call_open [[0], [0, 0], [0, 1]] ?_) | ((with_reducible refine i_callW (n := 106) ?_); refine callW_use (con_spec_l11Play_put (⟨(⟨v84, v85⟩ : l26Rd), v86, v87, v88, v89, v90⟩ : l11Play) 9 v94 c122H) ?_; rintro x σ' ⟨rfl, rfl⟩ <;> ((with_reducible refine behind_go ?_))) | exact True.intro | with_reducible assumption | exact fun hf => False.elim hf | (intro hg; first | (simp +contextual [hg]; done) | grind) | omega | simp (decide := true) only [go_sem, reduceIte, Nat.reduceAdd, Int.reduceToNat, Nat.reduceSub, Nat.reduceMul])
            refine r_cN hk121 (sem_cut fun k123 hk123 => ?_)
            simp (decide := true) only [go_sem, reduceIte, Nat.reduceAdd, Int.reduceToNat, Nat.reduceSub, Nat.reduceMul]
            refine r_cN hk123 ?_
            obtain ⟨v95, c124H, h⟩ := bind_some' h
            repeat' (first | with_reducible refine And.intro ?_ ?_ | ((with_reducible refine i_call (n := 108) ?_); refine call_open [[0], [0, 0], [0, 1]] ?_) | ((with_reducible refine i_callW (n := 108) ?_); refine callW_use (con_spec_l11Play_close (⟨(⟨v94.r.b, v94.r.p⟩ : l26Rd), v94.out, v94.bits, (IntKind.i64.wrap (v94.forks - 1)), v94.base, v94.fresh⟩ : l11Play) v95 c124H) ?_; rintro x σ' (⟨rfl, rfl⟩ | ⟨rfl, rfl⟩) <;> ((with_reducible refine behind_go ?_))) | exact True.intro | with_reducible assumption | exact fun hf => False.elim hf | (intro hg; first | (simp +contextual [hg]; done) | grind) | omega | simp (decide := true) only [go_sem, reduceIte, Nat.reduceAdd, Int.reduceToNat, Nat.reduceSub, Nat.reduceMul])
            · refine r_bN hk120 ?_
              obtain rfl := Option.some.inj h
              subst hkq117
              refine r_backP () _ rfl rfl ⟨?_, trivial⟩ (hIq117 _ rfl)
              first | exact wkSt_same rfl | (simp (decide := true) only [go_sem, reduceIte, Nat.reduceAdd, Int.reduceToNat, Nat.reduceSub, Nat.reduceMul]; exact wkSt_same rfl)
            · refine r_bN hk120 ?_
              obtain rfl := Option.some.inj h
              subst hkq117
              refine r_backP () _ rfl rfl ⟨?_, trivial⟩ (hIq117 _ rfl)
              first | exact wkSt_same rfl | (simp (decide := true) only [go_sem, reduceIte, Nat.reduceAdd, Int.reduceToNat, Nat.reduceSub, Nat.reduceMul]; exact wkSt_same rfl)
          · refine r_exit (r_cE hk118 ?_)
            obtain rfl := Option.some.inj h
            obtain rfl := hEq117 _ rfl
            have h := hKq117
            try simp only [Sum.elim_inl, Sum.elim_inr] at h
            refine r_kE hkq117 (r_bE hk102 ?_)
            refine r_joinU J100 [0] () _ rfl rfl ⟨?_, h⟩
            first | exact wkSt_same rfl | (simp (decide := true) only [go_sem, reduceIte, Nat.reduceAdd, Int.reduceToNat, Nat.reduceSub, Nat.reduceMul]; exact wkSt_same rfl)
  · intro k126 hk126 J125
    refine sem_cut fun k127 hk127 => ?_
    simp (decide := true) only [go_sem, reduceIte, Nat.reduceAdd, Int.reduceToNat, Nat.reduceSub, Nat.reduceMul]
    refine r_cN hk127 (sem_blk fun k128 hk128 => ?_)
    obtain ⟨oq139, hLq139, hKq139⟩ := bind_some' h
    clear h
    refine sem_loopP [0, 1, 4] (fun (_ : Unit) (x : ((List Int) × Int × (List Inst) × Int × Int × Bool × Bool × Int)) => (⟨[(0, .pt 0 0), (1, .sc (.int .i64 (v2))), (4, .sc (.int .i64 (x.2.2.2.2.2.2.2)))], [.rc [.pt 1 0, .sl 2 0 ((x.2.2.1).length), .sc (.int .i64 (x.2.2.2.1)), .sc (.int .i64 (x.2.2.2.2.1)), .sc (.bool (x.2.2.2.2.2.1)), .sc (.bool (x.2.2.2.2.2.2.1))], .rc [.fz 1 (R e_u8 (x.1)), .sc (.int .i64 (x.2.1))], .arr true 3 (R e_Inst (x.2.2.1))]⟩ : St)) (fun (_ : Unit) (x : ((List Int) × Int × (List Inst) × Int × Int × Bool × Bool × Int)) => True) (spec_l11Play_rung_s11 v2) () (v3.r.b, v3.r.p, v3.out, 1, v3.forks, v3.base, v3.fresh, 0) hLq139 (by rfl) (by rfl) ⟨?_, trivial⟩ ?_
    · first | exact wkSt_same rfl | (simp (decide := true) only [go_sem, reduceIte, Nat.reduceAdd, Int.reduceToNat, Nat.reduceSub, Nat.reduceMul]; exact wkSt_same rfl)
    · rintro nq139 _ ⟨v97, v98, v99, v100, v101, v102, v103, v104⟩ xq139 kq139 hkq139 - h hIq139 hEq139
      simp only [List.nil_append, List.length_nil, Int.natCast_zero, spec_l11Play_rung_s11] at h
      refine sem_cut fun k140 hk140 => sem_cut fun k141 hk141 => ?_
      simp (decide := true) only [go_sem, reduceIte, Nat.reduceAdd, Int.reduceToNat, Nat.reduceSub, Nat.reduceMul]
      refine r_cN hk141 ?_
      refine sem_ifh rfl h ?_ ?_ <;> clear h <;> intro h
      · refine r_skip (r_cN hk140 ?_)
        refine sem_cut fun k142 hk142 => sem_blk fun k143 hk143 => ?_
        obtain ⟨v107, c144H, h⟩ := bind_some' h
        repeat' (first | with_reducible refine And.intro ?_ ?_ | ((with_reducible refine i_call (n := 107) ?_); refine call_open [[0], [0, 0], [0, 1]] ?_) | ((with_reducible refine i_callW (n := 107) ?_); refine callW_use (con_spec_l11Play_step (⟨(⟨v97, v98⟩ : l26Rd), v99, v100, v101, v102, v103⟩ : l11Play) v107 c144H) ?_; rintro x σ' (⟨rfl, rfl⟩ | ⟨rfl, rfl⟩) <;> ((with_reducible refine behind_go ?_))) | exact True.intro | with_reducible assumption | exact fun hf => False.elim hf | (intro hg; first | (simp +contextual [hg]; done) | grind) | omega | simp (decide := true) only [go_sem, reduceIte, Nat.reduceAdd, Int.reduceToNat, Nat.reduceSub, Nat.reduceMul])
        · refine r_bN hk143 (r_cN hk142 ?_)
          simp (decide := true) only [go_sem, reduceIte, Nat.reduceAdd, Int.reduceToNat, Nat.reduceSub, Nat.reduceMul]
          obtain rfl := Option.some.inj h
          subst hkq139
          refine r_backP () _ rfl rfl ⟨?_, trivial⟩ (hIq139 _ rfl)
          first | exact wkSt_same rfl | (simp (decide := true) only [go_sem, reduceIte, Nat.reduceAdd, Int.reduceToNat, Nat.reduceSub, Nat.reduceMul]; exact wkSt_same rfl)
        · refine r_bN hk143 (r_cN hk142 ?_)
          simp (decide := true) only [go_sem, reduceIte, Nat.reduceAdd, Int.reduceToNat, Nat.reduceSub, Nat.reduceMul]
          obtain rfl := Option.some.inj h
          subst hkq139
          refine r_backP () _ rfl rfl ⟨?_, trivial⟩ (hIq139 _ rfl)
          first | exact wkSt_same rfl | (simp (decide := true) only [go_sem, reduceIte, Nat.reduceAdd, Int.reduceToNat, Nat.reduceSub, Nat.reduceMul]; exact wkSt_same rfl)
      · refine r_exit (r_cE hk140 ?_)
        obtain rfl := Option.some.inj h
        obtain rfl := hEq139 _ rfl
        have h := hKq139
        try simp only [Sum.elim_inl, Sum.elim_inr] at h
        refine r_kE hkq139 (r_bE hk128 ?_)
        refine r_joinU J125 [0] () _ rfl rfl ⟨?_, h⟩
        first | exact wkSt_same rfl | (simp (decide := true) only [go_sem, reduceIte, Nat.reduceAdd, Int.reduceToNat, Nat.reduceSub, Nat.reduceMul]; exact wkSt_same rfl)

end Go.AM
