/- Pure functions and their contracts. Conditions: none. -/
import Derived.Test.YtbmoclfnkefomaaDoorAmQa1
set_option linter.unusedSimpArgs false
set_option linter.unusedVariables false
set_option maxRecDepth 10000
set_option maxHeartbeats 4000000
namespace Go.AM
open Go Go.Proofs
noncomputable def spec_l11Play_close_j1 : ((List Int) × Int × (List Inst) × Int × Int × Bool × Bool) → Option l11Play
  | (v115, v116, v117, v118, v119, v120, v121) => (cond (!v121) (Option.bind (spec_l11Play_put (⟨(⟨v115, v116⟩ : l26Rd), v117, v118, v119, v120, v121⟩ : l11Play) 10) fun v122 => (some (⟨(⟨v122.r.b, v122.r.p⟩ : l26Rd), v122.out, v122.bits, v122.forks, v122.base, v122.fresh⟩ : l11Play))) (some (⟨(⟨v115, v116⟩ : l26Rd), v117, v118, v119, v120, v121⟩ : l11Play)))
noncomputable def spec_l11Play_close_j11 : ((List Int) × Int × (List Inst) × Int × Int × Bool × Bool) → Option (((List Int) × Int × (List Inst) × Int × Int × Bool × Bool) ⊕ ((List Int) × Int × (List Inst) × Int × Int × Bool × Bool))
  | (v202, v203, v204, v205, v206, v207, v208) => (some (.inl (v202, v203, v204, (IntKind.i64.wrap (v205 - 1)), v206, v207, v208)))
noncomputable def spec_l11Play_close_s3 : ((List Int) × Int × (List Inst) × Int × Int × Bool × Bool) → Option (((List Int) × Int × (List Inst) × Int × Int × Bool × Bool) ⊕ ((List Int) × Int × (List Inst) × Int × Int × Bool × Bool))
  | (v145, v146, v147, v148, v149, v150, v151) => (cond (decide (v148 > 1)) (cond v150 (cond (v148 == 2) (Option.bind (spec_l11Play_put (⟨(⟨v145, v146⟩ : l26Rd), v147, v148, v149, true, v151⟩ : l11Play) 4) fun v211 => (spec_l11Play_close_j11 (v211.r.b, v211.r.p, v211.out, v211.bits, v211.forks, v211.base, v211.fresh))) (Option.bind (spec_l26Rd_pick (⟨v145, v146⟩ : l26Rd) 2) fun v209 => (cond (v209.1 == 0) (Option.bind (spec_l11Play_put (⟨v209.2, v147, v148, v149, true, v151⟩ : l11Play) 4) fun v212 => (spec_l11Play_close_j11 (v212.r.b, v212.r.p, v212.out, v212.bits, v212.forks, v212.base, v212.fresh))) (Option.bind (spec_l11Play_put (⟨v209.2, v147, v148, v149, true, v151⟩ : l11Play) 5) fun v213 => (spec_l11Play_close_j11 (v213.r.b, v213.r.p, v213.out, v213.bits, v213.forks, v213.base, v213.fresh)))))) (Option.bind (spec_l26Rd_pick (⟨v145, v146⟩ : l26Rd) 2) fun v210 => (cond (v210.1 == 0) (Option.bind (spec_l11Play_put (⟨v210.2, v147, v148, v149, false, v151⟩ : l11Play) 4) fun v214 => (spec_l11Play_close_j11 (v214.r.b, v214.r.p, v214.out, v214.bits, v214.forks, v214.base, v214.fresh))) (Option.bind (spec_l11Play_put (⟨v210.2, v147, v148, v149, false, v151⟩ : l11Play) 5) fun v215 => (spec_l11Play_close_j11 (v215.r.b, v215.r.p, v215.out, v215.bits, v215.forks, v215.base, v215.fresh)))))) (some (.inr (v145, v146, v147, v148, v149, v150, v151))))
noncomputable def spec_l11Play_close (v1 : l11Play) : Option l11Play :=
  ((loop spec_l11Play_close_s3 (v1.r.b, v1.r.p, v1.out, v1.bits, v1.forks, v1.base, v1.fresh)).bind (fun v194 => (spec_l11Play_close_j1 (v194.1, v194.2.1, v194.2.2.1, v194.2.2.2.1, v194.2.2.2.2.1, v194.2.2.2.2.2.1, v194.2.2.2.2.2.2))))
theorem con_spec_l11Play_close (v1 : l11Play) (res_ : l11Play) (h : spec_l11Play_close v1 = some res_) : Con Tryd.prog C0 76 [.pt 0 0] [.rc [.pt 1 0, .sl 2 0 ((v1.out).length), .sc (.int .i64 (v1.bits)), .sc (.int .i64 (v1.forks)), .sc (.bool (v1.base)), .sc (.bool (v1.fresh))], .rc [.fz 1 (R e_u8 (v1.r.b)), .sc (.int .i64 (v1.r.p))], .arr true 3 (R e_Inst (v1.out))]
    (fun x σ' => (x = .tup [] ∧ σ' = [.rc [.pt 1 0, .sl 3 0 ((res_.out).length), .sc (.int .i64 (res_.bits)), .sc (.int .i64 (res_.forks)), .sc (.bool (res_.base)), .sc (.bool (res_.fresh))], .rc [.fz 1 (R e_u8 (res_.r.b)), .sc (.int .i64 (res_.r.p))], .dead, .arr true 3 (R e_Inst (res_.out))]) ∨ (x = .tup [] ∧ σ' = [.rc [.pt 1 0, .sl 2 0 ((res_.out).length), .sc (.int .i64 (res_.bits)), .sc (.int .i64 (res_.forks)), .sc (.bool (res_.base)), .sc (.bool (res_.fresh))], .rc [.fz 1 (R e_u8 (res_.r.b)), .sc (.int .i64 (res_.r.p))], .arr true 3 (R e_Inst (res_.out))])) := by
  refine zCon hP 3 [0, 6, 25, 42] [] Tryd.func76 (by unfold Tryd.f76; rfl) fun Q hQ => ?_
  unfold spec_l11Play_close at h
  refine sem_cutJ (fun (i : P2) (x : ((List Int) × Int × (List Inst) × Int × Int × Bool × Bool)) => match i with | .a => (⟨[(0, .pt 0 0)], [.rc [.pt 1 0, .sl 2 0 ((x.2.2.1).length), .sc (.int .i64 (x.2.2.2.1)), .sc (.int .i64 (x.2.2.2.2.1)), .sc (.bool (x.2.2.2.2.2.1)), .sc (.bool (x.2.2.2.2.2.2))], .rc [.fz 1 (R e_u8 (x.1)), .sc (.int .i64 (x.2.1))], .arr true 3 (R e_Inst (x.2.2.1))]⟩ : St) | .b => (⟨[(0, .pt 0 0)], [.rc [.pt 1 0, .sl 3 0 ((x.2.2.1).length), .sc (.int .i64 (x.2.2.2.1)), .sc (.int .i64 (x.2.2.2.2.1)), .sc (.bool (x.2.2.2.2.2.1)), .sc (.bool (x.2.2.2.2.2.2))], .rc [.fz 1 (R e_u8 (x.1)), .sc (.int .i64 (x.2.1))], .dead, .arr true 3 (R e_Inst (x.2.2.1))]⟩ : St)) (fun (i : P2) (x : ((List Int) × Int × (List Inst) × Int × Int × Bool × Bool)) => (match i with | .a => True | .b => True) ∧ spec_l11Play_close_j1 x = some res_) ?_ ?_
  · rintro (_ | _) ⟨v115, v116, v117, v118, v119, v120, v121⟩ ⟨hp, h⟩
    · simp only [spec_l11Play_close_j1] at h
      refine zS z0 ?_
      refine sem_ifh rfl h ?_ ?_ <;> clear h <;> intro h
      · obtain ⟨v122, c129H, h⟩ := bind_some' h
        refine zU (zC1 (lC [[0], [0, 0], [0, 1]] (con_spec_l11Play_put _ _ _ c129H))) ?_
        obtain rfl := Option.some.inj h
        refine r_eAN hQ rfl rfl ?_
        simp (decide := true) only [go_sem, reduceIte, Nat.reduceAdd, Int.reduceToNat, Nat.reduceSub, Nat.reduceMul]
        all_goals first | exact wkEnd_same (.inl ⟨rfl, rfl⟩) | exact True.intro
      · refine r_skip ?_
        obtain rfl := Option.some.inj h
        refine r_eAN hQ rfl rfl ?_
        simp (decide := true) only [go_sem, reduceIte, Nat.reduceAdd, Int.reduceToNat, Nat.reduceSub, Nat.reduceMul]
        all_goals first | exact wkEnd_same (.inr ⟨rfl, rfl⟩) | exact True.intro
    · simp only [spec_l11Play_close_j1] at h
      refine zS z0 ?_
      refine sem_ifh rfl h ?_ ?_ <;> clear h <;> intro h
      · obtain ⟨v123, c131H, h⟩ := bind_some' h
        refine zU (zC1 (lC [[0], [0, 0], [0, 1]] (con_spec_l11Play_put _ _ _ c131H))) ?_
        obtain rfl := Option.some.inj h
        refine r_eAN hQ rfl rfl ?_
        simp (decide := true) only [go_sem, reduceIte, Nat.reduceAdd, Int.reduceToNat, Nat.reduceSub, Nat.reduceMul]
        all_goals first | exact wkEnd_same (.inl ⟨rfl, rfl⟩) | exact True.intro
      · refine r_skip ?_
        obtain rfl := Option.some.inj h
        refine r_eAN hQ rfl rfl ?_
        simp (decide := true) only [go_sem, reduceIte, Nat.reduceAdd, Int.reduceToNat, Nat.reduceSub, Nat.reduceMul]
        all_goals first | exact wkEnd_same (.inl ⟨rfl, rfl⟩) | exact True.intro
  · intro k133 hk133 J132
    refine sem_blk fun k134 hk134 => ?_
    obtain ⟨oq210, hLq210, hKq210⟩ := bind_some' h
    clear h
    refine sem_loopP [0] (fun (i : P2) (x : ((List Int) × Int × (List Inst) × Int × Int × Bool × Bool)) => match i with | .a => (⟨[(0, .pt 0 0)], [.rc [.pt 1 0, .sl 2 0 ((x.2.2.1).length), .sc (.int .i64 (x.2.2.2.1)), .sc (.int .i64 (x.2.2.2.2.1)), .sc (.bool (x.2.2.2.2.2.1)), .sc (.bool (x.2.2.2.2.2.2))], .rc [.fz 1 (R e_u8 (x.1)), .sc (.int .i64 (x.2.1))], .arr true 3 (R e_Inst (x.2.2.1))]⟩ : St) | .b => (⟨[(0, .pt 0 0)], [.rc [.pt 1 0, .sl 3 0 ((x.2.2.1).length), .sc (.int .i64 (x.2.2.2.1)), .sc (.int .i64 (x.2.2.2.2.1)), .sc (.bool (x.2.2.2.2.2.1)), .sc (.bool (x.2.2.2.2.2.2))], .rc [.fz 1 (R e_u8 (x.1)), .sc (.int .i64 (x.2.1))], .dead, .arr true 3 (R e_Inst (x.2.2.1))]⟩ : St)) (fun (i : P2) (x : ((List Int) × Int × (List Inst) × Int × Int × Bool × Bool)) => (match i with | .a => True | .b => True)) spec_l11Play_close_s3 (.a) (v1.r.b, v1.r.p, v1.out, v1.bits, v1.forks, v1.base, v1.fresh) hLq210 (by rfl) (by rfl) ⟨?_, trivial⟩ ?_
    · first | exact wkSt_same rfl | (simp (decide := true) only [go_sem, reduceIte, Nat.reduceAdd, Int.reduceToNat, Nat.reduceSub, Nat.reduceMul]; exact wkSt_same rfl)
    · rintro nq210 (_ | _) ⟨v145, v146, v147, v148, v149, v150, v151⟩ xq210 kq210 hkq210 hp h hIq210 hEq210
      · simp only [spec_l11Play_close_s3] at h
        refine sem_cut fun k211 hk211 => zS z0 ?_
        refine sem_ifh rfl h ?_ ?_ <;> clear h <;> intro h
        · refine r_skip (r_cN hk211 ?_)
          refine sem_blk fun k213 hk213 => zCut (fun (x : ((List Int) × Int × (List Inst) × Int × Int × Bool × Bool)) => ⟨[(0, .pt 0 0)], [.rc [.pt 1 0, .sl 3 0 ((x.2.2.1).length), .sc (.int .i64 (x.2.2.2.1)), .sc (.int .i64 (x.2.2.2.2.1)), .sc (.bool (x.2.2.2.2.2.1)), .sc (.bool (x.2.2.2.2.2.2))], .rc [.fz 1 (R e_u8 (x.1)), .sc (.int .i64 (x.2.1))], .dead, .arr true 3 (R e_Inst (x.2.2.1))]⟩) spec_l11Play_close_j11 xq210 ?_ ?_
          · rintro _ ⟨v202, v203, v204, v205, v206, v207, v208⟩ h
            simp only [spec_l11Play_close_j11] at h
            refine zU z0 (r_bN hk213 ?_)
            refine zB hkq210 h hIq210 (.b) trivial
          · intro k225 hk225 J224
            refine sem_cut fun k226 hk226 => ?_
            rcases Bool.eq_false_or_eq_true v150 with g227 | g227
            · replace h := cond_t h g227
              rcases Bool.eq_false_or_eq_true (v148 == 2) with g228 | g228
              · replace h := cond_t h g228
                refine zU (zRF (a2 g227 g228)) (r_cN hk226 ?_)
                refine sem_ifT rfl ?_
                try replace h := cond_t h rfl
                obtain ⟨v211, c229H, h⟩ := bind_some' h
                refine zU (zC1 (lC [[0], [0, 0], [0, 1]] (con_spec_l11Play_put _ _ _ c229H))) (zJ J224 [0] () _ h)
              · replace h := cond_f h g228
                obtain ⟨v209, c230H, h⟩ := bind_some' h
                refine zU (zC1F (lC [[0]] (con_spec_l26Rd_pick _ _ _ c230H)) (a2 g227 g228)) (r_cN hk226 ?_)
                refine sem_ifh rfl h ?_ ?_ <;> clear h <;> intro h
                · obtain ⟨v212, c231H, h⟩ := bind_some' h
                  refine zU (zC1 (lC [[0], [0, 0], [0, 1]] (con_spec_l11Play_put _ _ _ c231H))) (zJ J224 [0] () _ h)
                · obtain ⟨v213, c232H, h⟩ := bind_some' h
                  refine zU (zC1 (lC [[0], [0, 0], [0, 1]] (con_spec_l11Play_put _ _ _ c232H))) (zJ J224 [0] () _ h)
            · replace h := cond_f h g227
              obtain ⟨v210, c233H, h⟩ := bind_some' h
              refine zU (zC1F (lC [[0]] (con_spec_l26Rd_pick _ _ _ c233H)) g227) (r_cN hk226 ?_)
              refine sem_ifh rfl h ?_ ?_ <;> clear h <;> intro h
              · obtain ⟨v214, c234H, h⟩ := bind_some' h
                refine zU (zC1 (lC [[0], [0, 0], [0, 1]] (con_spec_l11Play_put _ _ _ c234H))) (zJ J224 [0] () _ h)
              · obtain ⟨v215, c235H, h⟩ := bind_some' h
                refine zU (zC1 (lC [[0], [0, 0], [0, 1]] (con_spec_l11Play_put _ _ _ c235H))) (zJ J224 [0] () _ h)
        · refine r_exit (r_cE hk211 ?_)
          replace h := zX h hEq210 hKq210
          refine r_kE hkq210 (r_bE hk134 ?_)
          refine zJ J132 [0] (.a) (v145, v146, v147, v148, v149, v150, v151) ⟨trivial, h⟩
      · simp only [spec_l11Play_close_s3] at h
        refine sem_cut fun k236 hk236 => zS z0 ?_
        refine sem_ifh rfl h ?_ ?_ <;> clear h <;> intro h
        · refine r_skip (r_cN hk236 ?_)
          refine sem_blk fun k238 hk238 => zCut (fun (x : ((List Int) × Int × (List Inst) × Int × Int × Bool × Bool)) => ⟨[(0, .pt 0 0)], [.rc [.pt 1 0, .sl 3 0 ((x.2.2.1).length), .sc (.int .i64 (x.2.2.2.1)), .sc (.int .i64 (x.2.2.2.2.1)), .sc (.bool (x.2.2.2.2.2.1)), .sc (.bool (x.2.2.2.2.2.2))], .rc [.fz 1 (R e_u8 (x.1)), .sc (.int .i64 (x.2.1))], .dead, .arr true 3 (R e_Inst (x.2.2.1))]⟩) spec_l11Play_close_j11 xq210 ?_ ?_
          · rintro _ ⟨v223, v224, v225, v226, v227, v228, v229⟩ h
            simp only [spec_l11Play_close_j11] at h
            refine zU z0 (r_bN hk238 ?_)
            refine zB hkq210 h hIq210 (.b) trivial
          · intro k250 hk250 J249
            refine sem_cut fun k251 hk251 => ?_
            rcases Bool.eq_false_or_eq_true v150 with g252 | g252
            · replace h := cond_t h g252
              rcases Bool.eq_false_or_eq_true (v148 == 2) with g253 | g253
              · replace h := cond_t h g253
                refine zU (zRF (a2 g252 g253)) (r_cN hk251 ?_)
                refine sem_ifT rfl ?_
                try replace h := cond_t h rfl
                obtain ⟨v232, c254H, h⟩ := bind_some' h
                refine zU (zC1 (lC [[0], [0, 0], [0, 1]] (con_spec_l11Play_put _ _ _ c254H))) (zJ J249 [0] () _ h)
              · replace h := cond_f h g253
                obtain ⟨v230, c255H, h⟩ := bind_some' h
                refine zU (zC1F (lC [[0]] (con_spec_l26Rd_pick _ _ _ c255H)) (a2 g252 g253)) (r_cN hk251 ?_)
                refine sem_ifh rfl h ?_ ?_ <;> clear h <;> intro h
                · obtain ⟨v233, c256H, h⟩ := bind_some' h
                  refine zU (zC1 (lC [[0], [0, 0], [0, 1]] (con_spec_l11Play_put _ _ _ c256H))) (zJ J249 [0] () _ h)
                · obtain ⟨v234, c257H, h⟩ := bind_some' h
                  refine zU (zC1 (lC [[0], [0, 0], [0, 1]] (con_spec_l11Play_put _ _ _ c257H))) (zJ J249 [0] () _ h)
            · replace h := cond_f h g252
              obtain ⟨v231, c258H, h⟩ := bind_some' h
              refine zU (zC1F (lC [[0]] (con_spec_l26Rd_pick _ _ _ c258H)) g252) (r_cN hk251 ?_)
              refine sem_ifh rfl h ?_ ?_ <;> clear h <;> intro h
              · obtain ⟨v235, c259H, h⟩ := bind_some' h
                refine zU (zC1 (lC [[0], [0, 0], [0, 1]] (con_spec_l11Play_put _ _ _ c259H))) (zJ J249 [0] () _ h)
              · obtain ⟨v236, c260H, h⟩ := bind_some' h
                refine zU (zC1 (lC [[0], [0, 0], [0, 1]] (con_spec_l11Play_put _ _ _ c260H))) (zJ J249 [0] () _ h)
        · refine r_exit (r_cE hk236 ?_)
          replace h := zX h hEq210 hKq210
          refine r_kE hkq210 (r_bE hk134 ?_)
          refine zJ J132 [0] (.b) (v145, v146, v147, v148, v149, v150, v151) ⟨trivial, h⟩
noncomputable def spec_l11Play_step_j26 (v1 : l11Play) (v2 : Int) (v3 : (Int × l26Rd)) : Bool → Option l11Play
  | v6 => (cond v6 (Option.bind (spec_l11Play_put (⟨v3.2, v1.out, v1.bits, v1.forks, v1.base, v1.fresh⟩ : l11Play) 2) fun v7 => (some (⟨(⟨v7.r.b, v7.r.p⟩ : l26Rd), v7.out, v7.bits, v7.forks, v7.base, v7.fresh⟩ : l11Play))) (cond (v3.1 == 4) (cond (decide (v1.bits ≥ v2)) (Option.bind (spec_l11Play_put (⟨v3.2, v1.out, v1.bits, v1.forks, v1.base, v1.fresh⟩ : l11Play) 3) fun v8 => (some (⟨(⟨v8.r.b, v8.r.p⟩ : l26Rd), v8.out, v8.bits, v8.forks, v8.base, v8.fresh⟩ : l11Play))) (some (⟨v3.2, v1.out, v1.bits, v1.forks, v1.base, v1.fresh⟩ : l11Play))) (cond (v3.1 == 5) (cond (decide (v1.bits ≥ v2)) (Option.bind (spec_l26Rd_pick v3.2 2) fun v9 => (cond (v9.1 == 0) (Option.bind (spec_l11Play_put (⟨v9.2, v1.out, v1.bits, v1.forks, v1.base, v1.fresh⟩ : l11Play) 6) fun v10 => (some (⟨(⟨v10.r.b, v10.r.p⟩ : l26Rd), v10.out, v10.bits, v10.forks, v10.base, v10.fresh⟩ : l11Play))) (some (⟨v9.2, v1.out, v1.bits, v1.forks, v1.base, v1.fresh⟩ : l11Play)))) (some (⟨v3.2, v1.out, v1.bits, v1.forks, v1.base, v1.fresh⟩ : l11Play))) (cond (v3.1 == 6) (cond (decide (v1.bits > 1)) (Option.bind (spec_l11Play_put (⟨v3.2, v1.out, v1.bits, v1.forks, v1.base, v1.fresh⟩ : l11Play) 4) fun v11 => (some (⟨(⟨v11.r.b, v11.r.p⟩ : l26Rd), v11.out, (IntKind.i64.wrap (v11.bits - 1)), v11.forks, v11.base, v11.fresh⟩ : l11Play))) (some (⟨v3.2, v1.out, v1.bits, v1.forks, v1.base, v1.fresh⟩ : l11Play))) (cond (v3.1 == 7) (cond (decide (v1.bits > v2)) (Option.bind (spec_l11Play_put (⟨v3.2, v1.out, v1.bits, v1.forks, v1.base, v1.fresh⟩ : l11Play) 5) fun v12 => (some (⟨(⟨v12.r.b, v12.r.p⟩ : l26Rd), v12.out, (IntKind.i64.wrap (v12.bits - 1)), v12.forks, v12.base, v12.fresh⟩ : l11Play))) (some (⟨v3.2, v1.out, v1.bits, v1.forks, v1.base, v1.fresh⟩ : l11Play))) (cond (v3.1 == 8) (cond (v1.bits == 1) (Option.bind (spec_l11Play_put (⟨v3.2, v1.out, v1.bits, v1.forks, v1.base, v1.fresh⟩ : l11Play) 10) fun v13 => (some (⟨(⟨v13.r.b, v13.r.p⟩ : l26Rd), v13.out, v13.bits, v13.forks, v13.base, v13.fresh⟩ : l11Play))) (some (⟨v3.2, v1.out, v1.bits, v1.forks, v1.base, v1.fresh⟩ : l11Play))) (cond (v3.1 == 9) (cond ((v1.bits == 1) && (decide (v1.forks < 8))) (Option.bind (spec_l11Play_put (⟨v3.2, v1.out, v1.bits, v1.forks, v1.base, v1.fresh⟩ : l11Play) 7) fun v14 => (some (⟨(⟨v14.r.b, v14.r.p⟩ : l26Rd), v14.out, v14.bits, (IntKind.i64.wrap (v14.forks + 1)), v14.base, v14.fresh⟩ : l11Play))) (some (⟨v3.2, v1.out, v1.bits, v1.forks, v1.base, v1.fresh⟩ : l11Play))) (cond (decide (v1.forks > 0)) (Option.bind (spec_l11Play_close (⟨v3.2, v1.out, v1.bits, v1.forks, v1.base, v1.fresh⟩ : l11Play)) fun v15 => (Option.bind (spec_l26Rd_pick (⟨v15.r.b, v15.r.p⟩ : l26Rd) 2) fun v16 => (Option.bind (spec_l11Play_put (⟨v16.2, v15.out, v15.bits, v15.forks, v15.base, v15.fresh⟩ : l11Play) (IntKind.i64.wrap (8 + v16.1))) fun v17 => (Option.bind (idx v17.out ((IntKind.i64.wrap ((((v17.out).length : Nat) : Int) - 1)))) fun v18 => (cond (v18.Code == 9) (some (⟨(⟨v17.r.b, v17.r.p⟩ : l26Rd), v17.out, v17.bits, (IntKind.i64.wrap (v17.forks - 1)), v17.base, v17.fresh⟩ : l11Play)) (some (⟨(⟨v17.r.b, v17.r.p⟩ : l26Rd), v17.out, v17.bits, v17.forks, v17.base, v17.fresh⟩ : l11Play))))))) (some (⟨v3.2, v1.out, v1.bits, v1.forks, v1.base, v1.fresh⟩ : l11Play))))))))))
noncomputable def spec_l11Play_step_j12 (v1 : l11Play) (v2 : Int) (v3 : (Int × l26Rd)) : Bool → Option l11Play
  | v4 => (cond v4 (cond (decide (v1.bits < 16)) (Option.bind (spec_l11Play_put (⟨v3.2, v1.out, v1.bits, v1.forks, v1.base, v1.fresh⟩ : l11Play) 1) fun v5 => (some (⟨(⟨v5.r.b, v5.r.p⟩ : l26Rd), v5.out, (IntKind.i64.wrap (v5.bits + 1)), v5.forks, v5.base, v5.fresh⟩ : l11Play))) (some (⟨v3.2, v1.out, v1.bits, v1.forks, v1.base, v1.fresh⟩ : l11Play))) (cond (v3.1 == 2) (spec_l11Play_step_j26 v1 v2 v3 (v3.1 == 2)) (spec_l11Play_step_j26 v1 v2 v3 (v3.1 == 3))))
noncomputable def spec_l11Play_step_j3 (v1 : l11Play) : Int → Option l11Play
  | v2 => (Option.bind (spec_l26Rd_pick (⟨v1.r.b, v1.r.p⟩ : l26Rd) 11) fun v3 => (cond (v3.1 == 0) (spec_l11Play_step_j12 v1 v2 v3 (v3.1 == 0)) (spec_l11Play_step_j12 v1 v2 v3 (v3.1 == 1))))
noncomputable def spec_l11Play_step (v1 : l11Play) : Option l11Play :=
  (cond v1.base (spec_l11Play_step_j3 v1 2) (spec_l11Play_step_j3 v1 1))
theorem con_spec_l11Play_step (v1 : l11Play) (res_ : l11Play) (h : spec_l11Play_step v1 = some res_) : Con Tryd.prog C0 75 [.pt 0 0] [.rc [.pt 1 0, .sl 2 0 ((v1.out).length), .sc (.int .i64 (v1.bits)), .sc (.int .i64 (v1.forks)), .sc (.bool (v1.base)), .sc (.bool (v1.fresh))], .rc [.fz 1 (R e_u8 (v1.r.b)), .sc (.int .i64 (v1.r.p))], .arr true 3 (R e_Inst (v1.out))]
    (fun x σ' => (x = .tup [] ∧ σ' = [.rc [.pt 1 0, .sl 3 0 ((res_.out).length), .sc (.int .i64 (res_.bits)), .sc (.int .i64 (res_.forks)), .sc (.bool (res_.base)), .sc (.bool (res_.fresh))], .rc [.fz 1 (R e_u8 (res_.r.b)), .sc (.int .i64 (res_.r.p))], .dead, .arr true 3 (R e_Inst (res_.out))]) ∨ (x = .tup [] ∧ σ' = [.rc [.pt 1 0, .sl 2 0 ((res_.out).length), .sc (.int .i64 (res_.bits)), .sc (.int .i64 (res_.forks)), .sc (.bool (res_.base)), .sc (.bool (res_.fresh))], .rc [.fz 1 (R e_u8 (res_.r.b)), .sc (.int .i64 (res_.r.p))], .arr true 3 (R e_Inst (res_.out))])) := by
  refine zCon hP 3 [0, 2, 6, 11, 16, 40, 49, 56, 67, 72, 79, 82, 97, 100, 106, 117, 124, 135, 141, 144, 157] [] Tryd.func75 (by unfold Tryd.f75; rfl) fun Q hQ => ?_
  unfold spec_l11Play_step at h
  refine zS z0 (zCut (fun (x : Int) => ⟨[(0, .pt 0 0), (2, .sc (.int .i64 (x)))], [.rc [.pt 1 0, .sl 2 0 ((v1.out).length), .sc (.int .i64 (v1.bits)), .sc (.int .i64 (v1.forks)), .sc (.bool (v1.base)), .sc (.bool (v1.fresh))], .rc [.fz 1 (R e_u8 (v1.r.b)), .sc (.int .i64 (v1.r.p))], .arr true 3 (R e_Inst (v1.out))]⟩) (spec_l11Play_step_j3 v1) res_ ?_ ?_)
  · rintro _ v2 h
    simp only [spec_l11Play_step_j3] at h
    obtain ⟨v3, c4H, h⟩ := bind_some' h
    refine zS (zC1 (lC [[0]] (con_spec_l26Rd_pick _ _ _ c4H))) (sem_blk fun k5 hk5 => ?_)
    refine zCut (fun (x : Bool) => ⟨[(0, .pt 0 0), (2, .sc (.int .i64 (v2))), (11, .sc (.int .i64 (v3.1))), (49, .sc (.bool (x)))], [.rc [.pt 1 0, .sl 2 0 ((v1.out).length), .sc (.int .i64 (v1.bits)), .sc (.int .i64 (v1.forks)), .sc (.bool (v1.base)), .sc (.bool (v1.fresh))], .rc [.fz 1 (R e_u8 (v3.2.b)), .sc (.int .i64 (v3.2.p))], .arr true 3 (R e_Inst (v1.out))]⟩) (spec_l11Play_step_j12 v1 v2 v3) res_ ?_ ?_
    · rintro _ v4 h
      simp only [spec_l11Play_step_j12] at h
      refine sem_ifh rfl h ?_ ?_ <;> clear h <;> intro h
      · refine zS z0 ?_
        refine sem_ifh rfl h ?_ ?_ <;> clear h <;> intro h
        · obtain ⟨v5, c9H, h⟩ := bind_some' h
          refine zS (zC1 (lC [[0], [0, 0], [0, 1]] (con_spec_l11Play_put _ _ _ c9H))) (zU z0 ?_)
          refine r_bN hk5 ?_
          obtain rfl := Option.some.inj h
          refine r_eAN hQ rfl rfl ?_
          simp (decide := true) only [go_sem, reduceIte, Nat.reduceAdd, Int.reduceToNat, Nat.reduceSub, Nat.reduceMul]
          all_goals first | exact wkEnd_same (.inl ⟨rfl, rfl⟩) | exact True.intro
        · refine r_skip (r_bN hk5 ?_)
          obtain rfl := Option.some.inj h
          refine r_eAN hQ rfl rfl ?_
          simp (decide := true) only [go_sem, reduceIte, Nat.reduceAdd, Int.reduceToNat, Nat.reduceSub, Nat.reduceMul]
          all_goals first | exact wkEnd_same (.inr ⟨rfl, rfl⟩) | exact True.intro
      · refine zCut (fun (x : Bool) => ⟨[(0, .pt 0 0), (2, .sc (.int .i64 (v2))), (11, .sc (.int .i64 (v3.1))), (67, .sc (.bool (x)))], [.rc [.pt 1 0, .sl 2 0 ((v1.out).length), .sc (.int .i64 (v1.bits)), .sc (.int .i64 (v1.forks)), .sc (.bool (v1.base)), .sc (.bool (v1.fresh))], .rc [.fz 1 (R e_u8 (v3.2.b)), .sc (.int .i64 (v3.2.p))], .arr true 3 (R e_Inst (v1.out))]⟩) (spec_l11Play_step_j26 v1 v2 v3) res_ ?_ ?_
        · rintro _ v6 h
          simp only [spec_l11Play_step_j26] at h
          refine sem_ifh rfl h ?_ ?_ <;> clear h <;> intro h
          · obtain ⟨v7, c11H, h⟩ := bind_some' h
            refine zU (zC1 (lC [[0], [0, 0], [0, 1]] (con_spec_l11Play_put _ _ _ c11H))) (r_bN hk5 ?_)
            obtain rfl := Option.some.inj h
            refine r_eAN hQ rfl rfl ?_
            simp (decide := true) only [go_sem, reduceIte, Nat.reduceAdd, Int.reduceToNat, Nat.reduceSub, Nat.reduceMul]
            all_goals first | exact wkEnd_same (.inl ⟨rfl, rfl⟩) | exact True.intro
          · refine zS z0 ?_
            refine sem_ifh rfl h ?_ ?_ <;> clear h <;> intro h
            · refine zS z0 ?_
              refine sem_ifh rfl h ?_ ?_ <;> clear h <;> intro h
              · obtain ⟨v8, c14H, h⟩ := bind_some' h
                refine zU (zC1 (lC [[0], [0, 0], [0, 1]] (con_spec_l11Play_put _ _ _ c14H))) (r_bN hk5 ?_)
                obtain rfl := Option.some.inj h
                refine r_eAN hQ rfl rfl ?_
                simp (decide := true) only [go_sem, reduceIte, Nat.reduceAdd, Int.reduceToNat, Nat.reduceSub, Nat.reduceMul]
                all_goals first | exact wkEnd_same (.inl ⟨rfl, rfl⟩) | exact True.intro
              · refine r_skip (r_bN hk5 ?_)
                obtain rfl := Option.some.inj h
                refine r_eAN hQ rfl rfl ?_
                simp (decide := true) only [go_sem, reduceIte, Nat.reduceAdd, Int.reduceToNat, Nat.reduceSub, Nat.reduceMul]
                all_goals first | exact wkEnd_same (.inr ⟨rfl, rfl⟩) | exact True.intro
            · refine zS z0 ?_
              refine sem_ifh rfl h ?_ ?_ <;> clear h <;> intro h
              · refine sem_cut fun k16 hk16 => ?_
                rcases Bool.eq_false_or_eq_true (decide (v1.bits ≥ v2)) with g17 | g17
                · replace h := cond_t h g17
                  obtain ⟨v9, c18H, h⟩ := bind_some' h
                  refine zU (zC1F (lC [[0]] (con_spec_l26Rd_pick _ _ _ c18H)) g17) (r_cN hk16 ?_)
                  refine sem_ifh rfl h ?_ ?_ <;> clear h <;> intro h
                  · obtain ⟨v10, c19H, h⟩ := bind_some' h
                    refine zU (zC1 (lC [[0], [0, 0], [0, 1]] (con_spec_l11Play_put _ _ _ c19H))) (r_bN hk5 ?_)
                    obtain rfl := Option.some.inj h
                    refine r_eAN hQ rfl rfl ?_
                    simp (decide := true) only [go_sem, reduceIte, Nat.reduceAdd, Int.reduceToNat, Nat.reduceSub, Nat.reduceMul]
                    all_goals first | exact wkEnd_same (.inl ⟨rfl, rfl⟩) | exact True.intro
                  · refine r_skip (r_bN hk5 ?_)
                    obtain rfl := Option.some.inj h
                    refine r_eAN hQ rfl rfl ?_
                    simp (decide := true) only [go_sem, reduceIte, Nat.reduceAdd, Int.reduceToNat, Nat.reduceSub, Nat.reduceMul]
                    all_goals first | exact wkEnd_same (.inr ⟨rfl, rfl⟩) | exact True.intro
                · replace h := cond_f h g17
                  refine zU (zRF g17) (r_cN hk16 ?_)
                  refine sem_ifF rfl ?_
                  try replace h := cond_f h rfl
                  refine r_skip (r_bN hk5 ?_)
                  obtain rfl := Option.some.inj h
                  refine r_eAN hQ rfl rfl ?_
                  simp (decide := true) only [go_sem, reduceIte, Nat.reduceAdd, Int.reduceToNat, Nat.reduceSub, Nat.reduceMul]
                  all_goals first | exact wkEnd_same (.inr ⟨rfl, rfl⟩) | exact True.intro
              · refine zS z0 ?_
                refine sem_ifh rfl h ?_ ?_ <;> clear h <;> intro h
                · refine zS z0 ?_
                  refine sem_ifh rfl h ?_ ?_ <;> clear h <;> intro h
                  · obtain ⟨v11, c23H, h⟩ := bind_some' h
                    refine zS (zC1 (lC [[0], [0, 0], [0, 1]] (con_spec_l11Play_put _ _ _ c23H))) (zU z0 ?_)
                    refine r_bN hk5 ?_
                    obtain rfl := Option.some.inj h
                    refine r_eAN hQ rfl rfl ?_
                    simp (decide := true) only [go_sem, reduceIte, Nat.reduceAdd, Int.reduceToNat, Nat.reduceSub, Nat.reduceMul]
                    all_goals first | exact wkEnd_same (.inl ⟨rfl, rfl⟩) | exact True.intro
                  · refine r_skip (r_bN hk5 ?_)
                    obtain rfl := Option.some.inj h
                    refine r_eAN hQ rfl rfl ?_
                    simp (decide := true) only [go_sem, reduceIte, Nat.reduceAdd, Int.reduceToNat, Nat.reduceSub, Nat.reduceMul]
                    all_goals first | exact wkEnd_same (.inr ⟨rfl, rfl⟩) | exact True.intro
                · refine zS z0 ?_
                  refine sem_ifh rfl h ?_ ?_ <;> clear h <;> intro h
                  · refine zS z0 ?_
                    refine sem_ifh rfl h ?_ ?_ <;> clear h <;> intro h
                    · obtain ⟨v12, c27H, h⟩ := bind_some' h
                      refine zS (zC1 (lC [[0], [0, 0], [0, 1]] (con_spec_l11Play_put _ _ _ c27H))) (zU z0 ?_)
                      refine r_bN hk5 ?_
                      obtain rfl := Option.some.inj h
                      refine r_eAN hQ rfl rfl ?_
                      simp (decide := true) only [go_sem, reduceIte, Nat.reduceAdd, Int.reduceToNat, Nat.reduceSub, Nat.reduceMul]
                      all_goals first | exact wkEnd_same (.inl ⟨rfl, rfl⟩) | exact True.intro
                    · refine r_skip (r_bN hk5 ?_)
                      obtain rfl := Option.some.inj h
                      refine r_eAN hQ rfl rfl ?_
                      simp (decide := true) only [go_sem, reduceIte, Nat.reduceAdd, Int.reduceToNat, Nat.reduceSub, Nat.reduceMul]
                      all_goals first | exact wkEnd_same (.inr ⟨rfl, rfl⟩) | exact True.intro
                  · refine zS z0 ?_
                    refine sem_ifh rfl h ?_ ?_ <;> clear h <;> intro h
                    · refine zS z0 ?_
                      refine sem_ifh rfl h ?_ ?_ <;> clear h <;> intro h
                      · obtain ⟨v13, c30H, h⟩ := bind_some' h
                        refine zU (zC1 (lC [[0], [0, 0], [0, 1]] (con_spec_l11Play_put _ _ _ c30H))) (r_bN hk5 ?_)
                        obtain rfl := Option.some.inj h
                        refine r_eAN hQ rfl rfl ?_
                        simp (decide := true) only [go_sem, reduceIte, Nat.reduceAdd, Int.reduceToNat, Nat.reduceSub, Nat.reduceMul]
                        all_goals first | exact wkEnd_same (.inl ⟨rfl, rfl⟩) | exact True.intro
                      · refine r_skip (r_bN hk5 ?_)
                        obtain rfl := Option.some.inj h
                        refine r_eAN hQ rfl rfl ?_
                        simp (decide := true) only [go_sem, reduceIte, Nat.reduceAdd, Int.reduceToNat, Nat.reduceSub, Nat.reduceMul]
                        all_goals first | exact wkEnd_same (.inr ⟨rfl, rfl⟩) | exact True.intro
                    · refine zS z0 ?_
                      refine sem_ifh rfl h ?_ ?_ <;> clear h <;> intro h
                      · refine zS zR ?_
                        refine sem_ifh rfl h ?_ ?_ <;> clear h <;> intro h
                        · obtain ⟨v14, c34H, h⟩ := bind_some' h
                          refine zS (zC1 (lC [[0], [0, 0], [0, 1]] (con_spec_l11Play_put _ _ _ c34H))) (zU z0 ?_)
                          refine r_bN hk5 ?_
                          obtain rfl := Option.some.inj h
                          refine r_eAN hQ rfl rfl ?_
                          simp (decide := true) only [go_sem, reduceIte, Nat.reduceAdd, Int.reduceToNat, Nat.reduceSub, Nat.reduceMul]
                          all_goals first | exact wkEnd_same (.inl ⟨rfl, rfl⟩) | exact True.intro
                        · refine r_skip (r_bN hk5 ?_)
                          obtain rfl := Option.some.inj h
                          refine r_eAN hQ rfl rfl ?_
                          simp (decide := true) only [go_sem, reduceIte, Nat.reduceAdd, Int.reduceToNat, Nat.reduceSub, Nat.reduceMul]
                          all_goals first | exact wkEnd_same (.inr ⟨rfl, rfl⟩) | exact True.intro
                      · refine zS z0 ?_
                        refine sem_ifh rfl h ?_ ?_ <;> clear h <;> intro h
                        · refine sem_cut fun k36 hk36 => ?_
                          obtain ⟨v15, c37H, h⟩ := bind_some' h
                          repeat' (first | with_reducible refine And.intro ?_ ?_ | ((with_reducible refine i_call (n := 76) ?_); refine call_open [[0], [0, 0], [0, 1]] ?_) | ((with_reducible refine i_callW (n := 76) ?_); refine callW_use (con_spec_l11Play_close (⟨v3.2, v1.out, v1.bits, v1.forks, v1.base, v1.fresh⟩ : l11Play) v15 c37H) ?_; rintro x σ' (⟨rfl, rfl⟩ | ⟨rfl, rfl⟩) <;> ((with_reducible refine behind_go ?_))) | exact True.intro | with_reducible assumption | exact fun hf => False.elim hf | (intro hg; first | (simp +contextual [hg]; done) | grind) | omega | simp (decide := true) only [go_sem, reduceIte, Nat.reduceAdd, Int.reduceToNat, Nat.reduceSub, Nat.reduceMul])
                          · refine r_cN hk36 ?_
                            obtain ⟨v16, c39H, h⟩ := bind_some' h
                            obtain ⟨v17, c40H, h⟩ := bind_some' h
                            refine zS (zC2 (lC [[0]] (con_spec_l26Rd_pick _ _ _ c39H)) (lC [[0], [0, 0], [0, 1]] (con_spec_l11Play_put _ _ _ c40H))) ?_
                            obtain ⟨v18, h, c42⟩ := bI h
                            refine zS (zRF c42) ?_
                            refine sem_ifh rfl h ?_ ?_ <;> clear h <;> intro h
                            · refine zU z0 (r_bN hk5 ?_)
                              obtain rfl := Option.some.inj h
                              refine r_eAN hQ rfl rfl ?_
                              simp (decide := true) only [go_sem, reduceIte, Nat.reduceAdd, Int.reduceToNat, Nat.reduceSub, Nat.reduceMul]
                              all_goals first | exact wkEnd_same (.inl ⟨rfl, rfl⟩) | exact True.intro
                            · refine r_skip (r_bN hk5 ?_)
                              obtain rfl := Option.some.inj h
                              refine r_eAN hQ rfl rfl ?_
                              simp (decide := true) only [go_sem, reduceIte, Nat.reduceAdd, Int.reduceToNat, Nat.reduceSub, Nat.reduceMul]
                              all_goals first | exact wkEnd_same (.inl ⟨rfl, rfl⟩) | exact True.intro
                          · refine r_cN hk36 ?_
                            obtain ⟨v19, c44H, h⟩ := bind_some' h
                            obtain ⟨v20, c45H, h⟩ := bind_some' h
                            refine zS (zC2 (lC [[0]] (con_spec_l26Rd_pick _ _ _ c44H)) (lC [[0], [0, 0], [0, 1]] (con_spec_l11Play_put _ _ _ c45H))) ?_
                            obtain ⟨v21, h, c47⟩ := bI h
                            refine zS (zRF c47) ?_
                            refine sem_ifh rfl h ?_ ?_ <;> clear h <;> intro h
                            · refine zU z0 (r_bN hk5 ?_)
                              obtain rfl := Option.some.inj h
                              refine r_eAN hQ rfl rfl ?_
                              simp (decide := true) only [go_sem, reduceIte, Nat.reduceAdd, Int.reduceToNat, Nat.reduceSub, Nat.reduceMul]
                              all_goals first | exact wkEnd_same (.inl ⟨rfl, rfl⟩) | exact True.intro
                            · refine r_skip (r_bN hk5 ?_)
                              obtain rfl := Option.some.inj h
                              refine r_eAN hQ rfl rfl ?_
                              simp (decide := true) only [go_sem, reduceIte, Nat.reduceAdd, Int.reduceToNat, Nat.reduceSub, Nat.reduceMul]
                              all_goals first | exact wkEnd_same (.inl ⟨rfl, rfl⟩) | exact True.intro
                        · refine r_skip (r_bN hk5 ?_)
                          obtain rfl := Option.some.inj h
                          refine r_eAN hQ rfl rfl ?_
                          simp (decide := true) only [go_sem, reduceIte, Nat.reduceAdd, Int.reduceToNat, Nat.reduceSub, Nat.reduceMul]
                          all_goals first | exact wkEnd_same (.inr ⟨rfl, rfl⟩) | exact True.intro
        · intro k49 hk49 J48
          refine zS z0 ?_
          refine sem_ifh rfl h ?_ ?_ <;> clear h <;> intro h
          · refine r_skip (zJ J48 [0, 2, 11, 67] () _ h)
          · refine zU z0 (zJ J48 [0, 2, 11, 67] () _ h)
    · intro k52 hk52 J51
      refine zS z0 ?_
      refine sem_ifh rfl h ?_ ?_ <;> clear h <;> intro h
      · refine r_skip (zJ J51 [0, 2, 11, 49] () _ h)
      · refine zU z0 (zJ J51 [0, 2, 11, 49] () _ h)
  · intro k55 hk55 J54
    refine zS z0 ?_
    refine sem_ifh rfl h ?_ ?_ <;> clear h <;> intro h
    · refine zU z0 (zJ J54 [0, 2] () _ h)
    · refine r_skip (zJ J54 [0, 2] () _ h)
noncomputable def spec_l11Play_rung_j24 : ((List Int) × Int × (List Inst) × Int × Int × Bool × Bool) → Option l11Play
  | (v38, v39, v40, v41, v42, v43, v44) => (Option.bind (spec_l11Play_put (⟨(⟨v38, v39⟩ : l26Rd), v40, v41, v42, v43, v44⟩ : l11Play) 11) fun v45 => (some (⟨(⟨v45.r.b, v45.r.p⟩ : l26Rd), v45.out, 0, v45.forks, v45.base, v45.fresh⟩ : l11Play)))
noncomputable def spec_l11Play_rung_s26 : ((List Int) × Int × (List Inst) × Int × Int × Bool × Bool) → Option (((List Int) × Int × (List Inst) × Int × Int × Bool × Bool) ⊕ ((List Int) × Int × (List Inst) × Int × Int × Bool × Bool))
  | (v48, v49, v50, v51, v52, v53, v54) => (cond (decide (v52 > 0)) (Option.bind (spec_l11Play_put (⟨(⟨v48, v49⟩ : l26Rd), v50, v51, v52, v53, v54⟩ : l11Play) 9) fun v58 => (Option.bind (spec_l11Play_close (⟨(⟨v58.r.b, v58.r.p⟩ : l26Rd), v58.out, v58.bits, (IntKind.i64.wrap (v58.forks - 1)), v58.base, v58.fresh⟩ : l11Play)) fun v59 => (some (.inl (v59.r.b, v59.r.p, v59.out, v59.bits, v59.forks, v59.base, v59.fresh))))) (some (.inr (v48, v49, v50, v51, v52, v53, v54))))
noncomputable def spec_l11Play_rung_j7 : ((List Int) × Int × (List Inst) × Int × Int × Bool × Bool) → Option l11Play
  | (v16, v17, v18, v19, v20, v21, v22) => (Option.bind (spec_l11Play_close (⟨(⟨v16, v17⟩ : l26Rd), v18, v19, v20, v21, v22⟩ : l11Play)) fun v23 => ((loop spec_l11Play_rung_s26 (v23.r.b, v23.r.p, v23.out, v23.bits, v23.forks, v23.base, v23.fresh)).bind (fun v57 => (spec_l11Play_rung_j24 (v57.1, v57.2.1, v57.2.2.1, v57.2.2.2.1, v57.2.2.2.2.1, v57.2.2.2.2.2.1, v57.2.2.2.2.2.2)))))
noncomputable def spec_l11Play_rung_s11 (v2 : Int) : ((List Int) × Int × (List Inst) × Int × Int × Bool × Bool × Int) → Option (((List Int) × Int × (List Inst) × Int × Int × Bool × Bool × Int) ⊕ ((List Int) × Int × (List Inst) × Int × Int × Bool × Bool))
  | (v97, v98, v99, v100, v101, v102, v103, v104) => (cond (decide (v104 < v2)) (Option.bind (spec_l11Play_step (⟨(⟨v97, v98⟩ : l26Rd), v99, v100, v101, v102, v103⟩ : l11Play)) fun v107 => (some (.inl (v107.r.b, v107.r.p, v107.out, v107.bits, v107.forks, v107.base, v107.fresh, (IntKind.i64.wrap (v104 + 1)))))) (some (.inr (v97, v98, v99, v100, v101, v102, v103))))
noncomputable def spec_l11Play_rung (v1 : l11Play) (v2 : Int) : Option l11Play :=
  (Option.bind (spec_l11Play_put (⟨(⟨v1.r.b, v1.r.p⟩ : l26Rd), v1.out, v1.bits, v1.forks, false, v1.fresh⟩ : l11Play) 1) fun v3 => ((loop (spec_l11Play_rung_s11 v2) (v3.r.b, v3.r.p, v3.out, 1, v3.forks, v3.base, v3.fresh, 0)).bind (fun v106 => (spec_l11Play_rung_j7 (v106.1, v106.2.1, v106.2.2.1, v106.2.2.2.1, v106.2.2.2.2.1, v106.2.2.2.2.2.1, v106.2.2.2.2.2.2)))))
theorem con_spec_l11Play_rung_1 (v1 : l11Play) (v2 : Int) (res_ : l11Play) (h : spec_l11Play_rung v1 v2 = some res_) : Con Tryd.prog C0 52 [.pt 0 0, .sc (.int .i64 (v2))] [.rc [.pt 1 0, .sl 2 0 ((v1.out).length), .sc (.int .i64 (v1.bits)), .sc (.int .i64 (v1.forks)), .sc (.bool (v1.base)), .sc (.bool (v1.fresh))], .rc [.fz 1 (R e_u8 (v1.r.b)), .sc (.int .i64 (v1.r.p))], .arr true 3 (R e_Inst (v1.out))]
    (fun x σ' => x = .tup [] ∧ σ' = [.rc [.pt 1 0, .sl 3 0 ((res_.out).length), .sc (.int .i64 (res_.bits)), .sc (.int .i64 (res_.forks)), .sc (.bool (res_.base)), .sc (.bool (res_.fresh))], .rc [.fz 1 (R e_u8 (res_.r.b)), .sc (.int .i64 (res_.r.p))], .dead, .arr true 3 (R e_Inst (res_.out))]) := by
  refine zCon hP 3 [0, 1, 4, 15, 26] [] Tryd.func52 (by unfold Tryd.f52; rfl) fun Q hQ => ?_
  unfold spec_l11Play_rung at h
  refine zS z0 ?_
  obtain ⟨v3, c3H, h⟩ := bind_some' h
  refine zS (zC1 (lC [[0], [0, 0], [0, 1]] (con_spec_l11Play_put _ _ _ c3H))) (zS z0 ?_)
  refine zCut (fun (x : ((List Int) × Int × (List Inst) × Int × Int × Bool × Bool)) => ⟨[(0, .pt 0 0)], [.rc [.pt 1 0, .sl 3 0 ((x.2.2.1).length), .sc (.int .i64 (x.2.2.2.1)), .sc (.int .i64 (x.2.2.2.2.1)), .sc (.bool (x.2.2.2.2.2.1)), .sc (.bool (x.2.2.2.2.2.2))], .rc [.fz 1 (R e_u8 (x.1)), .sc (.int .i64 (x.2.1))], .dead, .arr true 3 (R e_Inst (x.2.2.1))]⟩) spec_l11Play_rung_j7 res_ ?_ ?_
  · rintro _ ⟨v16, v17, v18, v19, v20, v21, v22⟩ h
    simp only [spec_l11Play_rung_j7] at h
    refine sem_cut fun k23 hk23 => ?_
    obtain ⟨v23, c24H, h⟩ := bind_some' h
    repeat' (first | with_reducible refine And.intro ?_ ?_ | ((with_reducible refine i_call (n := 76) ?_); refine call_open [[0], [0, 0], [0, 1]] ?_) | ((with_reducible refine i_callW (n := 76) ?_); refine callW_use (con_spec_l11Play_close (⟨(⟨v16, v17⟩ : l26Rd), v18, v19, v20, v21, v22⟩ : l11Play) v23 c24H) ?_; rintro x σ' (⟨rfl, rfl⟩ | ⟨rfl, rfl⟩) <;> ((with_reducible refine behind_go ?_))) | exact True.intro | with_reducible assumption | exact fun hf => False.elim hf | (intro hg; first | (simp +contextual [hg]; done) | grind) | omega | simp (decide := true) only [go_sem, reduceIte, Nat.reduceAdd, Int.reduceToNat, Nat.reduceSub, Nat.reduceMul])
    · refine r_cN hk23 (zCut (fun (x : ((List Int) × Int × (List Inst) × Int × Int × Bool × Bool)) => ⟨[(0, .pt 0 0)], [.rc [.pt 1 0, .sl 3 0 ((x.2.2.1).length), .sc (.int .i64 (x.2.2.2.1)), .sc (.int .i64 (x.2.2.2.2.1)), .sc (.bool (x.2.2.2.2.2.1)), .sc (.bool (x.2.2.2.2.2.2))], .rc [.fz 1 (R e_u8 (x.1)), .sc (.int .i64 (x.2.1))], .dead, .arr true 3 (R e_Inst (x.2.2.1))]⟩) spec_l11Play_rung_j24 res_ ?_ ?_)
      · rintro _ ⟨v38, v39, v40, v41, v42, v43, v44⟩ h
        simp only [spec_l11Play_rung_j24] at h
        obtain ⟨v45, c49H, h⟩ := bind_some' h
        refine zS (zC1 (lC [[0], [0, 0], [0, 1]] (con_spec_l11Play_put _ _ _ c49H))) (zU z0 ?_)
        cases h
        refine zAN hQ
      · intro k51 hk51 J50
        refine sem_blk fun k52 hk52 => ?_
        obtain ⟨oq67, hLq67, hKq67⟩ := bind_some' h
        clear h
        refine sem_loopP [0] (fun (_ : Unit) (x : ((List Int) × Int × (List Inst) × Int × Int × Bool × Bool)) => (⟨[(0, .pt 0 0)], [.rc [.pt 1 0, .sl 3 0 ((x.2.2.1).length), .sc (.int .i64 (x.2.2.2.1)), .sc (.int .i64 (x.2.2.2.2.1)), .sc (.bool (x.2.2.2.2.2.1)), .sc (.bool (x.2.2.2.2.2.2))], .rc [.fz 1 (R e_u8 (x.1)), .sc (.int .i64 (x.2.1))], .dead, .arr true 3 (R e_Inst (x.2.2.1))]⟩ : St)) (fun (_ : Unit) (x : ((List Int) × Int × (List Inst) × Int × Int × Bool × Bool)) => True) spec_l11Play_rung_s26 () (v23.r.b, v23.r.p, v23.out, v23.bits, v23.forks, v23.base, v23.fresh) hLq67 (by rfl) (by rfl) ⟨?_, trivial⟩ ?_
        · first | exact wkSt_same rfl | (simp (decide := true) only [go_sem, reduceIte, Nat.reduceAdd, Int.reduceToNat, Nat.reduceSub, Nat.reduceMul]; exact wkSt_same rfl)
        · rintro nq67 _ ⟨v48, v49, v50, v51, v52, v53, v54⟩ xq67 kq67 hkq67 - h hIq67 hEq67
          simp only [spec_l11Play_rung_s26] at h
          refine sem_cut fun k68 hk68 => zS z0 ?_
          refine sem_ifh rfl h ?_ ?_ <;> clear h <;> intro h
          · refine r_skip (r_cN hk68 ?_)
            refine sem_blk fun k70 hk70 => ?_
            obtain ⟨v58, c72H, h⟩ := bind_some' h
            refine zS (zC1 (lC [[0], [0, 0], [0, 1]] (con_spec_l11Play_put _ _ _ c72H))) (zS z0 ?_)
            obtain ⟨v59, c74H, h⟩ := bind_some' h
            repeat' (first | with_reducible refine And.intro ?_ ?_ | ((with_reducible refine i_call (n := 76) ?_); refine call_open [[0], [0, 0], [0, 1]] ?_) | ((with_reducible refine i_callW (n := 76) ?_); refine callW_use (con_spec_l11Play_close (⟨(⟨v58.r.b, v58.r.p⟩ : l26Rd), v58.out, v58.bits, (IntKind.i64.wrap (v58.forks - 1)), v58.base, v58.fresh⟩ : l11Play) v59 c74H) ?_; rintro x σ' (⟨rfl, rfl⟩ | ⟨rfl, rfl⟩) <;> ((with_reducible refine behind_go ?_))) | exact True.intro | with_reducible assumption | exact fun hf => False.elim hf | (intro hg; first | (simp +contextual [hg]; done) | grind) | omega | simp (decide := true) only [go_sem, reduceIte, Nat.reduceAdd, Int.reduceToNat, Nat.reduceSub, Nat.reduceMul])
            · refine r_bN hk70 (zB hkq67 h hIq67 () trivial)
            · refine r_bN hk70 (zB hkq67 h hIq67 () trivial)
          · refine r_exit (r_cE hk68 ?_)
            replace h := zX h hEq67 hKq67
            refine r_kE hkq67 (r_bE hk52 ?_)
            refine zJ J50 [0] () _ h
    · refine r_cN hk23 (zCut (fun (x : ((List Int) × Int × (List Inst) × Int × Int × Bool × Bool)) => ⟨[(0, .pt 0 0)], [.rc [.pt 1 0, .sl 3 0 ((x.2.2.1).length), .sc (.int .i64 (x.2.2.2.1)), .sc (.int .i64 (x.2.2.2.2.1)), .sc (.bool (x.2.2.2.2.2.1)), .sc (.bool (x.2.2.2.2.2.2))], .rc [.fz 1 (R e_u8 (x.1)), .sc (.int .i64 (x.2.1))], .dead, .arr true 3 (R e_Inst (x.2.2.1))]⟩) spec_l11Play_rung_j24 res_ ?_ ?_)
      · rintro _ ⟨v74, v75, v76, v77, v78, v79, v80⟩ h
        simp only [spec_l11Play_rung_j24] at h
        obtain ⟨v81, c99H, h⟩ := bind_some' h
        refine zS (zC1 (lC [[0], [0, 0], [0, 1]] (con_spec_l11Play_put _ _ _ c99H))) (zU z0 ?_)
        cases h
        refine zAN hQ
      · intro k101 hk101 J100
        refine sem_blk fun k102 hk102 => ?_
        obtain ⟨oq117, hLq117, hKq117⟩ := bind_some' h
        clear h
        refine sem_loopP [0] (fun (_ : Unit) (x : ((List Int) × Int × (List Inst) × Int × Int × Bool × Bool)) => (⟨[(0, .pt 0 0)], [.rc [.pt 1 0, .sl 3 0 ((x.2.2.1).length), .sc (.int .i64 (x.2.2.2.1)), .sc (.int .i64 (x.2.2.2.2.1)), .sc (.bool (x.2.2.2.2.2.1)), .sc (.bool (x.2.2.2.2.2.2))], .rc [.fz 1 (R e_u8 (x.1)), .sc (.int .i64 (x.2.1))], .dead, .arr true 3 (R e_Inst (x.2.2.1))]⟩ : St)) (fun (_ : Unit) (x : ((List Int) × Int × (List Inst) × Int × Int × Bool × Bool)) => True) spec_l11Play_rung_s26 () (v23.r.b, v23.r.p, v23.out, v23.bits, v23.forks, v23.base, v23.fresh) hLq117 (by rfl) (by rfl) ⟨?_, trivial⟩ ?_
        · first | exact wkSt_same rfl | (simp (decide := true) only [go_sem, reduceIte, Nat.reduceAdd, Int.reduceToNat, Nat.reduceSub, Nat.reduceMul]; exact wkSt_same rfl)
        · rintro nq117 _ ⟨v84, v85, v86, v87, v88, v89, v90⟩ xq117 kq117 hkq117 - h hIq117 hEq117
          simp only [spec_l11Play_rung_s26] at h
          refine sem_cut fun k118 hk118 => zS z0 ?_
          refine sem_ifh rfl h ?_ ?_ <;> clear h <;> intro h
          · refine r_skip (r_cN hk118 ?_)
            refine sem_blk fun k120 hk120 => ?_
            obtain ⟨v94, c122H, h⟩ := bind_some' h
            refine zS (zC1 (lC [[0], [0, 0], [0, 1]] (con_spec_l11Play_put _ _ _ c122H))) (zS z0 ?_)
            obtain ⟨v95, c124H, h⟩ := bind_some' h
            repeat' (first | with_reducible refine And.intro ?_ ?_ | ((with_reducible refine i_call (n := 76) ?_); refine call_open [[0], [0, 0], [0, 1]] ?_) | ((with_reducible refine i_callW (n := 76) ?_); refine callW_use (con_spec_l11Play_close (⟨(⟨v94.r.b, v94.r.p⟩ : l26Rd), v94.out, v94.bits, (IntKind.i64.wrap (v94.forks - 1)), v94.base, v94.fresh⟩ : l11Play) v95 c124H) ?_; rintro x σ' (⟨rfl, rfl⟩ | ⟨rfl, rfl⟩) <;> ((with_reducible refine behind_go ?_))) | exact True.intro | with_reducible assumption | exact fun hf => False.elim hf | (intro hg; first | (simp +contextual [hg]; done) | grind) | omega | simp (decide := true) only [go_sem, reduceIte, Nat.reduceAdd, Int.reduceToNat, Nat.reduceSub, Nat.reduceMul])
            · refine r_bN hk120 (zB hkq117 h hIq117 () trivial)
            · refine r_bN hk120 (zB hkq117 h hIq117 () trivial)
          · refine r_exit (r_cE hk118 ?_)
            replace h := zX h hEq117 hKq117
            refine r_kE hkq117 (r_bE hk102 ?_)
            refine zJ J100 [0] () _ h
  · intro k126 hk126 J125
    refine zS z0 (sem_blk fun k128 hk128 => ?_)
    obtain ⟨oq139, hLq139, hKq139⟩ := bind_some' h
    clear h
    refine sem_loopP [0, 1, 4] (fun (_ : Unit) (x : ((List Int) × Int × (List Inst) × Int × Int × Bool × Bool × Int)) => (⟨[(0, .pt 0 0), (1, .sc (.int .i64 (v2))), (4, .sc (.int .i64 (x.2.2.2.2.2.2.2)))], [.rc [.pt 1 0, .sl 3 0 ((x.2.2.1).length), .sc (.int .i64 (x.2.2.2.1)), .sc (.int .i64 (x.2.2.2.2.1)), .sc (.bool (x.2.2.2.2.2.1)), .sc (.bool (x.2.2.2.2.2.2.1))], .rc [.fz 1 (R e_u8 (x.1)), .sc (.int .i64 (x.2.1))], .dead, .arr true 3 (R e_Inst (x.2.2.1))]⟩ : St)) (fun (_ : Unit) (x : ((List Int) × Int × (List Inst) × Int × Int × Bool × Bool × Int)) => True) (spec_l11Play_rung_s11 v2) () (v3.r.b, v3.r.p, v3.out, 1, v3.forks, v3.base, v3.fresh, 0) hLq139 (by rfl) (by rfl) ⟨?_, trivial⟩ ?_
    · first | exact wkSt_same rfl | (simp (decide := true) only [go_sem, reduceIte, Nat.reduceAdd, Int.reduceToNat, Nat.reduceSub, Nat.reduceMul]; exact wkSt_same rfl)
    · rintro nq139 _ ⟨v97, v98, v99, v100, v101, v102, v103, v104⟩ xq139 kq139 hkq139 - h hIq139 hEq139
      simp only [spec_l11Play_rung_s11] at h
      refine sem_cut fun k140 hk140 => zS z0 ?_
      refine sem_ifh rfl h ?_ ?_ <;> clear h <;> intro h
      · refine r_skip (r_cN hk140 ?_)
        refine sem_cut fun k142 hk142 => sem_blk fun k143 hk143 => ?_
        obtain ⟨v107, c144H, h⟩ := bind_some' h
        repeat' (first | with_reducible refine And.intro ?_ ?_ | ((with_reducible refine i_call (n := 75) ?_); refine call_open [[0], [0, 0], [0, 1]] ?_) | ((with_reducible refine i_callW (n := 75) ?_); refine callW_use (con_spec_l11Play_step (⟨(⟨v97, v98⟩ : l26Rd), v99, v100, v101, v102, v103⟩ : l11Play) v107 c144H) ?_; rintro x σ' (⟨rfl, rfl⟩ | ⟨rfl, rfl⟩) <;> ((with_reducible refine behind_go ?_))) | exact True.intro | with_reducible assumption | exact fun hf => False.elim hf | (intro hg; first | (simp +contextual [hg]; done) | grind) | omega | simp (decide := true) only [go_sem, reduceIte, Nat.reduceAdd, Int.reduceToNat, Nat.reduceSub, Nat.reduceMul])
        · refine r_bN hk143 (r_cN hk142 ?_)
          refine zU z0 (zB hkq139 h hIq139 () trivial)
        · refine r_bN hk143 (r_cN hk142 ?_)
          refine zU z0 (zB hkq139 h hIq139 () trivial)
      · refine r_exit (r_cE hk140 ?_)
        replace h := zX h hEq139 hKq139
        refine r_kE hkq139 (r_bE hk128 ?_)
        refine zJ J125 [0] () _ h
theorem con_spec_l11Play_put_1 (v1 : l11Play) (v2 : Int) (res_ : l11Play) (h : spec_l11Play_put v1 v2 = some res_) (hn0 : v1.out = []) : Con Tryd.prog C0 74 [.pt 0 0, .sc (.int .i64 (v2))] [.rc [.pt 1 0, .sc (.slice none 0 0), .sc (.int .i64 (v1.bits)), .sc (.int .i64 (v1.forks)), .sc (.bool (v1.base)), .sc (.bool (v1.fresh))], .rc [.fz 1 (R e_u8 (v1.r.b)), .sc (.int .i64 (v1.r.p))]]
    (fun x σ' => x = .tup [] ∧ σ' = [.rc [.pt 1 0, .sl 2 0 ((res_.out).length), .sc (.int .i64 (res_.bits)), .sc (.int .i64 (res_.forks)), .sc (.bool (res_.base)), .sc (.bool (res_.fresh))], .rc [.fz 1 (R e_u8 (res_.r.b)), .sc (.int .i64 (res_.r.p))], .arr true 3 (R e_Inst (res_.out))]) := by
  refine zCon hP 2 [0, 1, 4, 8, 16, 43] [] Tryd.func74 (by unfold Tryd.f74; rfl) fun Q hQ => ?_
  unfold spec_l11Play_put at h
  obtain ⟨v1_r, v1_out, v1_bits, v1_forks, v1_base, v1_fresh⟩ := v1
  replace hn0 : v1_out = [] := hn0
  subst hn0
  try dsimp only at h
  refine zS z0 (sem_cutJ (fun (i : P2) (x : ((List Int) × Int × Int × (List DevArg))) => match i with | .a => (⟨[(0, .pt 0 0), (1, .sc (.int .i64 (v2))), (4, .pt 2 0)], [.rc [.pt 1 0, .sc (.slice none 0 0), .sc (.int .i64 (v1_bits)), .sc (.int .i64 (v1_forks)), .sc (.bool (v1_base)), .sc (.bool (v1_fresh))], .rc [.fz 1 (R e_u8 (x.1)), .sc (.int .i64 (x.2.1))], .rc [.sc (.int .i64 (v2)), .sc (.int .i64 (x.2.2.1)), .sl 3 0 ((x.2.2.2).length)], .arr true 3 (R e_DevArg (x.2.2.2))]⟩ : St) | .b => (⟨[(0, .pt 0 0), (1, .sc (.int .i64 (v2))), (4, .pt 2 0)], [.rc [.pt 1 0, .sc (.slice none 0 0), .sc (.int .i64 (v1_bits)), .sc (.int .i64 (v1_forks)), .sc (.bool (v1_base)), .sc (.bool (v1_fresh))], .rc [.fz 1 (R e_u8 (x.1)), .sc (.int .i64 (x.2.1))], .rc [.sc (.int .i64 (v2)), .sc (.int .i64 (x.2.2.1)), .sc (.slice none 0 0)]]⟩ : St)) (fun (i : P2) (x : ((List Int) × Int × Int × (List DevArg))) => (match i with | .a => True | .b => x.2.2.2 = []) ∧ spec_l11Play_put_j3 (⟨v1_r, [], v1_bits, v1_forks, v1_base, v1_fresh⟩ : l11Play) v2 x = some res_) ?_ ?_)
  · rintro (_ | _) ⟨v4, v5, v6, v7⟩ ⟨hp, h⟩
    · simp only [List.nil_append, List.length_nil, Int.natCast_zero, spec_l11Play_put_j3] at h
      refine sem_cutJ (fun (i : P2) (x : ((List Int) × Int × Int × (List DevArg))) => match i with | .a => (⟨[(0, .pt 0 0), (1, .sc (.int .i64 (v2))), (4, .pt 2 0)], [.rc [.pt 1 0, .sc (.slice none 0 0), .sc (.int .i64 (v1_bits)), .sc (.int .i64 (v1_forks)), .sc (.bool (v1_base)), .sc (.bool (v1_fresh))], .rc [.fz 1 (R e_u8 (x.1)), .sc (.int .i64 (x.2.1))], .rc [.sc (.int .i64 (v2)), .sc (.int .i64 (x.2.2.1)), .fz 3 (R e_DevArg (x.2.2.2))]]⟩ : St) | .b => (⟨[(0, .pt 0 0), (1, .sc (.int .i64 (v2))), (4, .pt 2 0)], [.rc [.pt 1 0, .sc (.slice none 0 0), .sc (.int .i64 (v1_bits)), .sc (.int .i64 (v1_forks)), .sc (.bool (v1_base)), .sc (.bool (v1_fresh))], .rc [.fz 1 (R e_u8 (x.1)), .sc (.int .i64 (x.2.1))], .rc [.sc (.int .i64 (v2)), .sc (.int .i64 (x.2.2.1)), .sl 3 0 ((x.2.2.2).length)], .arr true 3 (R e_DevArg (x.2.2.2))]⟩ : St)) (fun (i : P2) (x : ((List Int) × Int × Int × (List DevArg))) => (match i with | .a => True | .b => True) ∧ spec_l11Play_put_j9 (⟨v1_r, [], v1_bits, v1_forks, v1_base, v1_fresh⟩ : l11Play) v2 x = some res_) ?_ ?_
      · rintro (_ | _) ⟨v9, v10, v11, v12⟩ ⟨hp, h⟩
        · simp only [List.nil_append, List.length_nil, Int.natCast_zero, spec_l11Play_put_j9] at h
          obtain ⟨g7, h⟩ := gAp h
          refine zS (zPRF (.take 0 (.take 1 (.take 2 (.take 3 (.take 4 (.take 5 (.one 6 (.one 7 (.take 8 (.take 9 (.last 10 .done))))))))))) [0, 2] g7) (zS z0 ?_)
          refine zS zR ?_
          refine sem_ifh rfl h ?_ ?_ <;> clear h <;> intro h
          · refine zU z0 ?_
            cases h
            refine zAN hQ
          · refine r_skip ?_
            cases h
            refine zAN hQ
        · simp only [List.nil_append, List.length_nil, Int.natCast_zero, spec_l11Play_put_j9] at h
          obtain ⟨g11, h⟩ := gAp h
          refine zS (zPRF (.take 0 (.take 1 (.take 2 (.take 3 (.take 4 (.take 5 (.one 6 (.one 7 (.take 8 (.take 9 (.last 10 .done))))))))))) [0, 2] g11) (zS z0 ?_)
          refine zS zR ?_
          refine sem_ifh rfl h ?_ ?_ <;> clear h <;> intro h
          · refine zU z0 ?_
            cases h
            refine zAN hQ
          · refine r_skip ?_
            cases h
            refine zAN hQ
      · intro k15 hk15 J14
        refine zS z0 ?_
        refine sem_ifh rfl h ?_ ?_ <;> clear h <;> intro h
        · obtain ⟨v13, c17H, h⟩ := bind_some' h
          refine zU (zC1 (lC [[0]] (con_spec_l4Coil _ _ c17H))) (zJ J14 [0, 1, 4] (.a) (v13.2.b, v13.2.p, v13.1.Op, v13.1.Args) ⟨trivial, h⟩)
        · refine r_skip (zJ J14 [0, 1, 4] (.b) (v4, v5, v6, v7) ⟨trivial, h⟩)
    · replace hp : v7 = [] := hp
      subst hp
      simp only [List.nil_append, List.length_nil, Int.natCast_zero, spec_l11Play_put_j3] at h
      try simp only [List.nil_append, List.length_nil, Int.natCast_zero] at h
      refine zCut (fun (x : ((List Int) × Int × Int × (List DevArg))) => ⟨[(0, .pt 0 0), (1, .sc (.int .i64 (v2))), (4, .pt 2 0)], [.rc [.pt 1 0, .sc (.slice none 0 0), .sc (.int .i64 (v1_bits)), .sc (.int .i64 (v1_forks)), .sc (.bool (v1_base)), .sc (.bool (v1_fresh))], .rc [.fz 1 (R e_u8 (x.1)), .sc (.int .i64 (x.2.1))], .rc [.sc (.int .i64 (v2)), .sc (.int .i64 (x.2.2.1)), .fz 3 (R e_DevArg (x.2.2.2))]]⟩) (spec_l11Play_put_j9 (⟨v1_r, [], v1_bits, v1_forks, v1_base, v1_fresh⟩ : l11Play) v2) res_ ?_ ?_
      · rintro _ ⟨v15, v16, v17, v18⟩ h
        simp only [List.nil_append, List.length_nil, Int.natCast_zero, spec_l11Play_put_j9] at h
        obtain ⟨g21, h⟩ := gAp h
        refine zS (zPRF (.take 0 (.take 1 (.take 2 (.take 3 (.take 4 (.take 5 (.one 6 (.one 7 (.take 8 (.take 9 (.last 10 .done))))))))))) [0, 2] g21) (zS z0 ?_)
        refine zS zR ?_
        refine sem_ifh rfl h ?_ ?_ <;> clear h <;> intro h
        · refine zU z0 ?_
          cases h
          refine zAN hQ
        · refine r_skip ?_
          cases h
          refine zAN hQ
      · intro k25 hk25 J24
        refine zS z0 ?_
        refine sem_ifh rfl h ?_ ?_ <;> clear h <;> intro h
        · obtain ⟨v19, c27H, h⟩ := bind_some' h
          refine zU (zC1 (lC [[0]] (con_spec_l4Coil _ _ c27H))) (zJ J24 [0, 1, 4] () _ h)
        · refine r_skip (zJw J24 [0, 1, 4] () _ h)
  · intro k29 hk29 J28
    refine zS z0 ?_
    refine sem_ifh rfl h ?_ ?_ <;> clear h <;> intro h
    · obtain ⟨v20, c31H, h⟩ := bind_some' h
      refine zU (zC1 (lC [[0]] (con_spec_l4Contact _ _ c31H))) (zJ J28 [0, 1, 4] (.a) (v20.2.b, v20.2.p, v20.1.Op, v20.1.Args) ⟨trivial, h⟩)
    · refine r_skip (zJ J28 [0, 1, 4] (.b) (v1_r.b, v1_r.p, 0, []) ⟨rfl, h⟩)

end Go.AM
