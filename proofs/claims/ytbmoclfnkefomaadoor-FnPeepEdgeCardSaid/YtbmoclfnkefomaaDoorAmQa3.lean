/- Pure functions and their contracts. Conditions: none. -/
import Derived.Test.YtbmoclfnkefomaaDoorAmQa2
set_option linter.unusedSimpArgs false
set_option linter.unusedVariables false
set_option maxRecDepth 10000
set_option maxHeartbeats 4000000
namespace Go.AM
open Go Go.Proofs
theorem con_spec_l11Play_rung (v1 : l11Play) (v2 : Int) (res_ : l11Play) (h : spec_l11Play_rung v1 v2 = some res_) (hn0 : v1.out = []) : Con Tryd.prog C0 52 [.pt 0 0, .sc (.int .i64 (v2))] [.rc [.pt 1 0, .sc (.slice none 0 0), .sc (.int .i64 (v1.bits)), .sc (.int .i64 (v1.forks)), .sc (.bool (v1.base)), .sc (.bool (v1.fresh))], .rc [.fz 1 (R e_u8 (v1.r.b)), .sc (.int .i64 (v1.r.p))]]
    (fun x σ' => x = .tup [] ∧ σ' = [.rc [.pt 1 0, .sl 2 0 ((res_.out).length), .sc (.int .i64 (res_.bits)), .sc (.int .i64 (res_.forks)), .sc (.bool (res_.base)), .sc (.bool (res_.fresh))], .rc [.fz 1 (R e_u8 (res_.r.b)), .sc (.int .i64 (res_.r.p))], .arr true 3 (R e_Inst (res_.out))]) := by
  refine zCon hP 2 [0, 1, 4, 15, 26] [] Tryd.func52 (by unfold Tryd.f52; rfl) fun Q hQ => ?_
  unfold spec_l11Play_rung at h
  obtain ⟨v1_r, v1_out, v1_bits, v1_forks, v1_base, v1_fresh⟩ := v1
  replace hn0 : v1_out = [] := hn0
  subst hn0
  try dsimp only at h
  refine zS z0 ?_
  obtain ⟨v3, c3H, h⟩ := bind_some' h
  refine zS (zC1 (lC [[0], [0, 0]] (con_spec_l11Play_put_1 _ _ _ c3H rfl))) (zS z0 ?_)
  refine zCut (fun (x : ((List Int) × Int × (List Inst) × Int × Int × Bool × Bool)) => ⟨[(0, .pt 0 0)], [.rc [.pt 1 0, .sl 2 0 ((x.2.2.1).length), .sc (.int .i64 (x.2.2.2.1)), .sc (.int .i64 (x.2.2.2.2.1)), .sc (.bool (x.2.2.2.2.2.1)), .sc (.bool (x.2.2.2.2.2.2))], .rc [.fz 1 (R e_u8 (x.1)), .sc (.int .i64 (x.2.1))], .arr true 3 (R e_Inst (x.2.2.1))]⟩) spec_l11Play_rung_j7 res_ ?_ ?_
  · rintro _ ⟨v16, v17, v18, v19, v20, v21, v22⟩ h
    simp only [List.nil_append, List.length_nil, Int.natCast_zero, spec_l11Play_rung_j7] at h
    refine sem_cut fun k23 hk23 => ?_
    obtain ⟨v23, c24H, h⟩ := bind_some' h
    repeat' (first | with_reducible refine And.intro ?_ ?_ | ((with_reducible refine i_call (n := 76) ?_); refine call_open [[0], [0, 0], [0, 1]] ?_) | ((with_reducible refine i_callW (n := 76) ?_); refine callW_use (con_spec_l11Play_close (⟨(⟨v16, v17⟩ : l26Rd), v18, v19, v20, v21, v22⟩ : l11Play) v23 c24H) ?_; rintro x σ' (⟨rfl, rfl⟩ | ⟨rfl, rfl⟩) <;> ((with_reducible refine behind_go ?_))) | exact True.intro | with_reducible assumption | exact fun hf => False.elim hf | (intro hg; first | (simp +contextual [hg]; done) | grind) | omega | simp (decide := true) only [go_sem, reduceIte, Nat.reduceAdd, Int.reduceToNat, Nat.reduceSub, Nat.reduceMul])
    · refine r_cN hk23 (zCut (fun (x : ((List Int) × Int × (List Inst) × Int × Int × Bool × Bool)) => ⟨[(0, .pt 0 0)], [.rc [.pt 1 0, .sl 2 0 ((x.2.2.1).length), .sc (.int .i64 (x.2.2.2.1)), .sc (.int .i64 (x.2.2.2.2.1)), .sc (.bool (x.2.2.2.2.2.1)), .sc (.bool (x.2.2.2.2.2.2))], .rc [.fz 1 (R e_u8 (x.1)), .sc (.int .i64 (x.2.1))], .arr true 3 (R e_Inst (x.2.2.1))]⟩) spec_l11Play_rung_j24 res_ ?_ ?_)
      · rintro _ ⟨v38, v39, v40, v41, v42, v43, v44⟩ h
        simp only [List.nil_append, List.length_nil, Int.natCast_zero, spec_l11Play_rung_j24] at h
        obtain ⟨v45, c49H, h⟩ := bind_some' h
        refine zS (zC1 (lC [[0], [0, 0], [0, 1]] (con_spec_l11Play_put _ _ _ c49H))) (zU z0 ?_)
        cases h
        refine zAN hQ
      · intro k51 hk51 J50
        refine sem_blk fun k52 hk52 => ?_
        obtain ⟨oq67, hLq67, hKq67⟩ := bind_some' h
        clear h
        refine sem_loopP [0] (fun (_ : Unit) (x : ((List Int) × Int × (List Inst) × Int × Int × Bool × Bool)) => (⟨[(0, .pt 0 0)], [.rc [.pt 1 0, .sl 2 0 ((x.2.2.1).length), .sc (.int .i64 (x.2.2.2.1)), .sc (.int .i64 (x.2.2.2.2.1)), .sc (.bool (x.2.2.2.2.2.1)), .sc (.bool (x.2.2.2.2.2.2))], .rc [.fz 1 (R e_u8 (x.1)), .sc (.int .i64 (x.2.1))], .arr true 3 (R e_Inst (x.2.2.1))]⟩ : St)) (fun (_ : Unit) (x : ((List Int) × Int × (List Inst) × Int × Int × Bool × Bool)) => True) spec_l11Play_rung_s26 () (v23.r.b, v23.r.p, v23.out, v23.bits, v23.forks, v23.base, v23.fresh) hLq67 (by rfl) (by rfl) ⟨?_, trivial⟩ ?_
        · first | exact wkSt_same rfl | (simp (decide := true) only [go_sem, reduceIte, Nat.reduceAdd, Int.reduceToNat, Nat.reduceSub, Nat.reduceMul]; exact wkSt_same rfl)
        · rintro nq67 _ ⟨v48, v49, v50, v51, v52, v53, v54⟩ xq67 kq67 hkq67 - h hIq67 hEq67
          simp only [List.nil_append, List.length_nil, Int.natCast_zero, spec_l11Play_rung_s26] at h
          refine sem_cut fun k68 hk68 => zS z0 ?_
          refine sem_ifh rfl h ?_ ?_ <;> clear h <;> intro h
          · refine r_skip (r_cN hk68 ?_)
            refine sem_blk fun k70 hk70 => ?_
            obtain ⟨v58, c72H, h⟩ := bind_some' h
            refine zS (zC1 (lC [[0], [0, 0], [0, 1]] (con_spec_l11Play_put _ _ _ c72H))) (zS z0 ?_)
            obtain ⟨v59, c74H, h⟩ := bind_some' h
            repeat' (first | with_reducible refine And.intro ?_ ?_ | ((with_reducible refine i_call (n := 76) ?_); refine call_open [[0], [0, 0], [0, 1]] ?_) | ((with_reducible refine i_callW (n := 76) ?_); refine callW_use (con_spec_l11Play_close (⟨(⟨v58.r.b, v58.r.p⟩ : l26Rd), v58.out, v58.bits, (IntKind.i64.wrap (v58.forks - 1)), v58.base, v58.fresh⟩ : l11Play) v59 c74H) ?_; rintro x σ' (⟨rfl, rfl⟩ | ⟨rfl, rfl⟩) <;> ((with_reducible refine behind_go ?_))) | exact True.intro | with_reducible assumption | exact fun hf => False.elim hf | (intro hg; first | (simp +contextual [hg]; done) | grind) | omega | simp (decide := true) only [go_sem, reduceIte, Nat.reduceAdd, Int.reduceToNat, Nat.reduceSub, Nat.reduceMul])
            · refine r_bN hk70 (zB hkq67 h hIq67 () trivial)
            · refine r_bN hk70 (zB hkq67 h hIq67 () trivial)
          · refine r_exit (r_cE hk68 ?_)
            replace h := zX h hEq67 hKq67
            refine r_kE hkq67 (r_bE hk52 ?_)
            refine zJ J50 [0] () _ h
    · refine r_cN hk23 (zCut (fun (x : ((List Int) × Int × (List Inst) × Int × Int × Bool × Bool)) => ⟨[(0, .pt 0 0)], [.rc [.pt 1 0, .sl 2 0 ((x.2.2.1).length), .sc (.int .i64 (x.2.2.2.1)), .sc (.int .i64 (x.2.2.2.2.1)), .sc (.bool (x.2.2.2.2.2.1)), .sc (.bool (x.2.2.2.2.2.2))], .rc [.fz 1 (R e_u8 (x.1)), .sc (.int .i64 (x.2.1))], .arr true 3 (R e_Inst (x.2.2.1))]⟩) spec_l11Play_rung_j24 res_ ?_ ?_)
      · rintro _ ⟨v74, v75, v76, v77, v78, v79, v80⟩ h
        simp only [List.nil_append, List.length_nil, Int.natCast_zero, spec_l11Play_rung_j24] at h
        obtain ⟨v81, c99H, h⟩ := bind_some' h
        refine zS (zC1 (lC [[0], [0, 0], [0, 1]] (con_spec_l11Play_put _ _ _ c99H))) (zU z0 ?_)
        cases h
        refine zAN hQ
      · intro k101 hk101 J100
        refine sem_blk fun k102 hk102 => ?_
        obtain ⟨oq117, hLq117, hKq117⟩ := bind_some' h
        clear h
        refine sem_loopP [0] (fun (_ : Unit) (x : ((List Int) × Int × (List Inst) × Int × Int × Bool × Bool)) => (⟨[(0, .pt 0 0)], [.rc [.pt 1 0, .sl 2 0 ((x.2.2.1).length), .sc (.int .i64 (x.2.2.2.1)), .sc (.int .i64 (x.2.2.2.2.1)), .sc (.bool (x.2.2.2.2.2.1)), .sc (.bool (x.2.2.2.2.2.2))], .rc [.fz 1 (R e_u8 (x.1)), .sc (.int .i64 (x.2.1))], .arr true 3 (R e_Inst (x.2.2.1))]⟩ : St)) (fun (_ : Unit) (x : ((List Int) × Int × (List Inst) × Int × Int × Bool × Bool)) => True) spec_l11Play_rung_s26 () (v23.r.b, v23.r.p, v23.out, v23.bits, v23.forks, v23.base, v23.fresh) hLq117 (by rfl) (by rfl) ⟨?_, trivial⟩ ?_
        · first | exact wkSt_same rfl | (simp (decide := true) only [go_sem, reduceIte, Nat.reduceAdd, Int.reduceToNat, Nat.reduceSub, Nat.reduceMul]; exact wkSt_same rfl)
        · rintro nq117 _ ⟨v84, v85, v86, v87, v88, v89, v90⟩ xq117 kq117 hkq117 - h hIq117 hEq117
          simp only [List.nil_append, List.length_nil, Int.natCast_zero, spec_l11Play_rung_s26] at h
          refine sem_cut fun k118 hk118 => zS z0 ?_
          refine sem_ifh rfl h ?_ ?_ <;> clear h <;> intro h
          · refine r_skip (r_cN hk118 ?_)
            refine sem_blk fun k120 hk120 => ?_
            obtain ⟨v94, c122H, h⟩ := bind_some' h
            refine zS (zC1 (lC [[0], [0, 0], [0, 1]] (con_spec_l11Play_put _ _ _ c122H))) (zS z0 ?_)
            obtain ⟨v95, c124H, h⟩ := bind_some' h
            repeat' (first | with_reducible refine And.intro ?_ ?_ | ((with_reducible refine i_call (n := 76) ?_); refine call_open [[0], [0, 0], [0, 1]] ?_) | ((with_reducible refine i_callW (n := 76) ?_); refine callW_use (con_spec_l11Play_close (⟨(⟨v94.r.b, v94.r.p⟩ : l26Rd), v94.out, v94.bits, (IntKind.i64.wrap (v94.forks - 1)), v94.base, v94.fresh⟩ : l11Play) v95 c124H) ?_; rintro x σ' (⟨rfl, rfl⟩ | ⟨rfl, rfl⟩) <;> ((with_reducible refine behind_go ?_))) | exact True.intro | with_reducible assumption | exact fun hf => False.elim hf | (intro hg; first | (simp +contextual [hg]; done) | grind) | omega | simp (decide := true) only [go_sem, reduceIte, Nat.reduceAdd, Int.reduceToNat, Nat.reduceSub, Nat.reduceMul])
            · refine r_bN hk120 (zB hkq117 h hIq117 () trivial)
            · refine r_bN hk120 (zB hkq117 h hIq117 () trivial)
          · refine r_exit (r_cE hk118 ?_)
            replace h := zX h hEq117 hKq117
            refine r_kE hkq117 (r_bE hk102 ?_)
            refine zJ J100 [0] () _ h
  · intro k126 hk126 J125
    refine zS z0 (sem_blk fun k128 hk128 => ?_)
    obtain ⟨oq139, hLq139, hKq139⟩ := bind_some' h
    clear h
    refine sem_loopP [0, 1, 4] (fun (_ : Unit) (x : ((List Int) × Int × (List Inst) × Int × Int × Bool × Bool × Int)) => (⟨[(0, .pt 0 0), (1, .sc (.int .i64 (v2))), (4, .sc (.int .i64 (x.2.2.2.2.2.2.2)))], [.rc [.pt 1 0, .sl 2 0 ((x.2.2.1).length), .sc (.int .i64 (x.2.2.2.1)), .sc (.int .i64 (x.2.2.2.2.1)), .sc (.bool (x.2.2.2.2.2.1)), .sc (.bool (x.2.2.2.2.2.2.1))], .rc [.fz 1 (R e_u8 (x.1)), .sc (.int .i64 (x.2.1))], .arr true 3 (R e_Inst (x.2.2.1))]⟩ : St)) (fun (_ : Unit) (x : ((List Int) × Int × (List Inst) × Int × Int × Bool × Bool × Int)) => True) (spec_l11Play_rung_s11 v2) () (v3.r.b, v3.r.p, v3.out, 1, v3.forks, v3.base, v3.fresh, 0) hLq139 (by rfl) (by rfl) ⟨?_, trivial⟩ ?_
    · first | exact wkSt_same rfl | (simp (decide := true) only [go_sem, reduceIte, Nat.reduceAdd, Int.reduceToNat, Nat.reduceSub, Nat.reduceMul]; exact wkSt_same rfl)
    · rintro nq139 _ ⟨v97, v98, v99, v100, v101, v102, v103, v104⟩ xq139 kq139 hkq139 - h hIq139 hEq139
      simp only [List.nil_append, List.length_nil, Int.natCast_zero, spec_l11Play_rung_s11] at h
      refine sem_cut fun k140 hk140 => zS z0 ?_
      refine sem_ifh rfl h ?_ ?_ <;> clear h <;> intro h
      · refine r_skip (r_cN hk140 ?_)
        refine sem_cut fun k142 hk142 => sem_blk fun k143 hk143 => ?_
        obtain ⟨v107, c144H, h⟩ := bind_some' h
        repeat' (first | with_reducible refine And.intro ?_ ?_ | ((with_reducible refine i_call (n := 75) ?_); refine call_open [[0], [0, 0], [0, 1]] ?_) | ((with_reducible refine i_callW (n := 75) ?_); refine callW_use (con_spec_l11Play_step (⟨(⟨v97, v98⟩ : l26Rd), v99, v100, v101, v102, v103⟩ : l11Play) v107 c144H) ?_; rintro x σ' (⟨rfl, rfl⟩ | ⟨rfl, rfl⟩) <;> ((with_reducible refine behind_go ?_))) | exact True.intro | with_reducible assumption | exact fun hf => False.elim hf | (intro hg; first | (simp +contextual [hg]; done) | grind) | omega | simp (decide := true) only [go_sem, reduceIte, Nat.reduceAdd, Int.reduceToNat, Nat.reduceSub, Nat.reduceMul])
        · refine r_bN hk143 (r_cN hk142 ?_)
          refine zU z0 (zB hkq139 h hIq139 () trivial)
        · refine r_bN hk143 (r_cN hk142 ?_)
          refine zU z0 (zB hkq139 h hIq139 () trivial)
      · refine r_exit (r_cE hk140 ?_)
        replace h := zX h hEq139 hKq139
        refine r_kE hkq139 (r_bE hk128 ?_)
        refine zJ J125 [0] () _ h
noncomputable def spec_l11Sure_j28 : ((List Int) × Int × (List Inst) × Int × Int × Bool × Bool) → Option ((List Inst) × l26Rd)
  | (v45, v46, v47, v48, v49, v50, v51) => (some (v47, (⟨v45, v46⟩ : l26Rd)))
noncomputable def spec_l11Sure_s33 : ((List Int) × Int × (List Inst) × Int × Int × Bool × Bool) → Option (((List Int) × Int × (List Inst) × Int × Int × Bool × Bool) ⊕ ((List Int) × Int × (List Inst) × Int × Int × Bool × Bool))
  | (v55, v56, v57, v58, v59, v60, v61) => (cond (decide ((((v57).length : Nat) : Int) < 60)) (Option.bind (spec_l26Rd_pick (⟨v55, v56⟩ : l26Rd) 40) fun v65 => (Option.bind (spec_l11Play_rung (⟨v65.2, v57, v58, v59, v60, v61⟩ : l11Play) v65.1) fun v66 => (some (.inl (v66.r.b, v66.r.p, v66.out, v66.bits, v66.forks, v66.base, v66.fresh))))) (some (.inr (v55, v56, v57, v58, v59, v60, v61))))
noncomputable def spec_l11Sure_j13 : ((List Int) × Int × (List Inst) × Int × Int × Bool × Bool) → Option ((List Inst) × l26Rd)
  | (v23, v24, v25, v26, v27, v28, v29) => (Option.bind (spec_l26Rd_pick (⟨v23, v24⟩ : l26Rd) 16) fun v52 => (cond (v52.1 == 0) ((loop spec_l11Sure_s33 (v52.2.b, v52.2.p, v25, v26, v27, v28, v29)).bind (fun v64 => (spec_l11Sure_j28 (v64.1, v64.2.1, v64.2.2.1, v64.2.2.2.1, v64.2.2.2.2.1, v64.2.2.2.2.2.1, v64.2.2.2.2.2.2)))) (spec_l11Sure_j28 (v52.2.b, v52.2.p, v25, v26, v27, v28, v29))))
noncomputable def spec_l11Sure_s17 : ((List Int) × Int × (List Inst) × Int × Int × Bool × Bool × Int) → Option (((List Int) × Int × (List Inst) × Int × Int × Bool × Bool × Int) ⊕ ((List Int) × Int × (List Inst) × Int × Int × Bool × Bool))
  | (v115, v116, v117, v118, v119, v120, v121, v122) => (cond (decide (v122 > 0)) (Option.bind (spec_l26Rd_pick (⟨v115, v116⟩ : l26Rd) 14) fun v128 => (Option.bind (spec_l11Play_rung (⟨v128.2, v117, v118, v119, v120, v121⟩ : l11Play) v128.1) fun v129 => (some (.inl (v129.r.b, v129.r.p, v129.out, v129.bits, v129.forks, v129.base, v129.fresh, (IntKind.i64.wrap (v122 - 1))))))) (some (.inr (v115, v116, v117, v118, v119, v120, v121))))
noncomputable def spec_l11Sure (v1 : l26Rd) : Option ((List Inst) × l26Rd) :=
  (Option.bind (spec_l26Rd_pick v1 30) fun v2 => (cond (v2.1 == 0) (some ([], v2.2)) (Option.bind (spec_l26Rd_pick v2.2 3) fun v112 => ((loop spec_l11Sure_s17 (v112.2.b, v112.2.p, [], 0, 0, false, false, (IntKind.i64.wrap (1 + v112.1)))).bind (fun v127 => (spec_l11Sure_j13 (v127.1, v127.2.1, v127.2.2.1, v127.2.2.2.1, v127.2.2.2.2.1, v127.2.2.2.2.2.1, v127.2.2.2.2.2.2)))))))
theorem con_spec_l11Sure (v1 : l26Rd) (res_ : ((List Inst) × l26Rd)) (h : spec_l11Sure v1 = some res_) : Con Tryd.prog C0 33 [.pt 0 0] [.rc [.fz 1 (R e_u8 (v1.b)), .sc (.int .i64 (v1.p))]]
    (fun x σ' => x = .fz 3 (R e_Inst (res_.1)) ∧ σ' = [.rc [.fz 1 (R e_u8 (res_.2.b)), .sc (.int .i64 (res_.2.p))]]) := by
  refine zCon hP 1 [0, 2, 3, 4, 10, 19, 28, 34] [.tmp 2] Tryd.func33 (by unfold Tryd.f33; rfl) fun Q hQ => ?_
  unfold spec_l11Sure at h
  refine zS z0 (zS z0 ?_)
  refine sem_cut fun k3 hk3 => ?_
  obtain ⟨v2, c5H, h⟩ := bind_some' h
  refine zS (zC1 (lC [[0]] (con_spec_l26Rd_pick _ _ _ c5H))) ?_
  refine sem_ifh rfl h ?_ ?_ <;> clear h <;> intro h
  · refine zS z0 (r_ret ?_)
    refine r_cR hk3 ?_
    cases h
    refine zARw hQ
  · refine r_skip (r_cN hk3 ?_)
    refine sem_cutJ (fun (i : P2) (x : ((List Int) × Int × (List Inst) × Int × Int × Bool × Bool)) => match i with | .a => (⟨[(0, .pt 0 0), (3, .pt 1 0)], [.rc [.fz 1 (R e_u8 (x.1)), .sc (.int .i64 (x.2.1))], .rc [.pt 0 0, .sl 2 0 ((x.2.2.1).length), .sc (.int .i64 (x.2.2.2.1)), .sc (.int .i64 (x.2.2.2.2.1)), .sc (.bool (x.2.2.2.2.2.1)), .sc (.bool (x.2.2.2.2.2.2))], .arr true 3 (R e_Inst (x.2.2.1))]⟩ : St) | .b => (⟨[(0, .pt 0 0), (3, .pt 1 0)], [.rc [.fz 1 (R e_u8 (x.1)), .sc (.int .i64 (x.2.1))], .rc [.pt 0 0, .sc (.slice none 0 0), .sc (.int .i64 (x.2.2.2.1)), .sc (.int .i64 (x.2.2.2.2.1)), .sc (.bool (x.2.2.2.2.2.1)), .sc (.bool (x.2.2.2.2.2.2))]]⟩ : St)) (fun (i : P2) (x : ((List Int) × Int × (List Inst) × Int × Int × Bool × Bool)) => (match i with | .a => True | .b => x.2.2.1 = []) ∧ spec_l11Sure_j13 x = some res_) ?_ ?_
    · rintro (_ | _) ⟨v23, v24, v25, v26, v27, v28, v29⟩ ⟨hp, h⟩
      · simp only [spec_l11Sure_j13] at h
        refine zCut (fun (x : ((List Int) × Int × (List Inst) × Int × Int × Bool × Bool)) => ⟨[(3, .pt 1 0)], [.rc [.fz 1 (R e_u8 (x.1)), .sc (.int .i64 (x.2.1))], .rc [.pt 0 0, .sl 2 0 ((x.2.2.1).length), .sc (.int .i64 (x.2.2.2.1)), .sc (.int .i64 (x.2.2.2.2.1)), .sc (.bool (x.2.2.2.2.2.1)), .sc (.bool (x.2.2.2.2.2.2))], .arr true 3 (R e_Inst (x.2.2.1))]⟩) spec_l11Sure_j28 res_ ?_ ?_
        · rintro _ ⟨v45, v46, v47, v48, v49, v50, v51⟩ h
          simp only [spec_l11Sure_j28] at h
          refine zS z0 (r_ret ?_)
          cases h
          refine zAR hQ
        · intro k62 hk62 J61
          obtain ⟨v52, c64H, h⟩ := bind_some' h
          refine zS (zC1 (lC [[0]] (con_spec_l26Rd_pick _ _ _ c64H))) ?_
          refine sem_ifh rfl h ?_ ?_ <;> clear h <;> intro h
          · refine sem_blk fun k65 hk65 => ?_
            obtain ⟨oq76, hLq76, hKq76⟩ := bind_some' h
            clear h
            refine sem_loopP [0, 3] (fun (_ : Unit) (x : ((List Int) × Int × (List Inst) × Int × Int × Bool × Bool)) => (⟨[(0, .pt 0 0), (3, .pt 1 0)], [.rc [.fz 1 (R e_u8 (x.1)), .sc (.int .i64 (x.2.1))], .rc [.pt 0 0, .sl 2 0 ((x.2.2.1).length), .sc (.int .i64 (x.2.2.2.1)), .sc (.int .i64 (x.2.2.2.2.1)), .sc (.bool (x.2.2.2.2.2.1)), .sc (.bool (x.2.2.2.2.2.2))], .arr true 3 (R e_Inst (x.2.2.1))]⟩ : St)) (fun (_ : Unit) (x : ((List Int) × Int × (List Inst) × Int × Int × Bool × Bool)) => True) spec_l11Sure_s33 () (v52.2.b, v52.2.p, v25, v26, v27, v28, v29) hLq76 (by rfl) (by rfl) ⟨?_, trivial⟩ ?_
            · first | exact wkSt_same rfl | (simp (decide := true) only [go_sem, reduceIte, Nat.reduceAdd, Int.reduceToNat, Nat.reduceSub, Nat.reduceMul]; exact wkSt_same rfl)
            · rintro nq76 _ ⟨v55, v56, v57, v58, v59, v60, v61⟩ xq76 kq76 hkq76 - h hIq76 hEq76
              simp only [spec_l11Sure_s33] at h
              refine sem_cut fun k77 hk77 => zS z0 ?_
              refine sem_ifh rfl h ?_ ?_ <;> clear h <;> intro h
              · refine r_skip (r_cN hk77 ?_)
                refine sem_blk fun k79 hk79 => ?_
                obtain ⟨v65, c80H, h⟩ := bind_some' h
                obtain ⟨v66, c81H, h⟩ := bind_some' h
                refine zU (zC2 (lC [[0]] (con_spec_l26Rd_pick _ _ _ c80H)) (lC [[0], [0, 0], [0, 1]] (con_spec_l11Play_rung_1 _ _ _ c81H))) (r_bN hk79 ?_)
                refine zB hkq76 h hIq76 () trivial
              · refine r_exit (r_cE hk77 ?_)
                replace h := zX h hEq76 hKq76
                refine r_kE hkq76 (r_bE hk65 ?_)
                refine zJ J61 [3] () _ h
          · refine r_skip (zJ J61 [3] () _ h)
      · replace hp : v25 = [] := hp
        subst hp
        simp only [spec_l11Sure_j13] at h
        try simp only [List.nil_append, List.length_nil, Int.natCast_zero] at h
        refine sem_cutJ (fun (i : P2) (x : ((List Int) × Int × (List Inst) × Int × Int × Bool × Bool)) => match i with | .a => (⟨[(3, .pt 1 0)], [.rc [.fz 1 (R e_u8 (x.1)), .sc (.int .i64 (x.2.1))], .rc [.pt 0 0, .sl 2 0 ((x.2.2.1).length), .sc (.int .i64 (x.2.2.2.1)), .sc (.int .i64 (x.2.2.2.2.1)), .sc (.bool (x.2.2.2.2.2.1)), .sc (.bool (x.2.2.2.2.2.2))], .arr true 3 (R e_Inst (x.2.2.1))]⟩ : St) | .b => (⟨[(3, .pt 1 0)], [.rc [.fz 1 (R e_u8 (x.1)), .sc (.int .i64 (x.2.1))], .rc [.pt 0 0, .sc (.slice none 0 0), .sc (.int .i64 (x.2.2.2.1)), .sc (.int .i64 (x.2.2.2.2.1)), .sc (.bool (x.2.2.2.2.2.1)), .sc (.bool (x.2.2.2.2.2.2))]]⟩ : St)) (fun (i : P2) (x : ((List Int) × Int × (List Inst) × Int × Int × Bool × Bool)) => (match i with | .a => True | .b => x.2.2.1 = []) ∧ spec_l11Sure_j28 x = some res_) ?_ ?_
        · rintro (_ | _) ⟨v86, v87, v88, v89, v90, v91, v92⟩ ⟨hp, h⟩
          · simp only [spec_l11Sure_j28] at h
            refine zS z0 (r_ret ?_)
            cases h
            refine zAR hQ
          · replace hp : v88 = [] := hp
            subst hp
            simp only [spec_l11Sure_j28] at h
            try simp only [List.nil_append, List.length_nil, Int.natCast_zero] at h
            refine zS z0 (r_ret ?_)
            cases h
            refine zARw hQ
        · intro k114 hk114 J113
          obtain ⟨v93, c116H, h⟩ := bind_some' h
          refine zS (zC1 (lC [[0]] (con_spec_l26Rd_pick _ _ _ c116H))) ?_
          refine sem_ifh rfl h ?_ ?_ <;> clear h <;> intro h
          · refine sem_blk fun k117 hk117 => ?_
            obtain ⟨oq133, hLq133, hKq133⟩ := bind_some' h
            clear h
            refine sem_loopP [0, 3] (fun (i : P2) (x : ((List Int) × Int × (List Inst) × Int × Int × Bool × Bool)) => match i with | .a => (⟨[(0, .pt 0 0), (3, .pt 1 0)], [.rc [.fz 1 (R e_u8 (x.1)), .sc (.int .i64 (x.2.1))], .rc [.pt 0 0, .sl 2 0 ((x.2.2.1).length), .sc (.int .i64 (x.2.2.2.1)), .sc (.int .i64 (x.2.2.2.2.1)), .sc (.bool (x.2.2.2.2.2.1)), .sc (.bool (x.2.2.2.2.2.2))], .arr true 3 (R e_Inst (x.2.2.1))]⟩ : St) | .b => (⟨[(0, .pt 0 0), (3, .pt 1 0)], [.rc [.fz 1 (R e_u8 (x.1)), .sc (.int .i64 (x.2.1))], .rc [.pt 0 0, .sc (.slice none 0 0), .sc (.int .i64 (x.2.2.2.1)), .sc (.int .i64 (x.2.2.2.2.1)), .sc (.bool (x.2.2.2.2.2.1)), .sc (.bool (x.2.2.2.2.2.2))]]⟩ : St)) (fun (i : P2) (x : ((List Int) × Int × (List Inst) × Int × Int × Bool × Bool)) => (match i with | .a => True | .b => x.2.2.1 = [])) spec_l11Sure_s33 (.b) (v93.2.b, v93.2.p, [], v26, v27, v28, v29) hLq133 (by rfl) (by rfl) ⟨?_, rfl⟩ ?_
            · first | exact wkSt_same rfl | (simp (decide := true) only [go_sem, reduceIte, Nat.reduceAdd, Int.reduceToNat, Nat.reduceSub, Nat.reduceMul]; exact wkSt_same rfl)
            · rintro nq133 (_ | _) ⟨v96, v97, v98, v99, v100, v101, v102⟩ xq133 kq133 hkq133 hp h hIq133 hEq133
              · simp only [spec_l11Sure_s33] at h
                refine sem_cut fun k134 hk134 => zS z0 ?_
                refine sem_ifh rfl h ?_ ?_ <;> clear h <;> intro h
                · refine r_skip (r_cN hk134 ?_)
                  refine sem_blk fun k136 hk136 => ?_
                  obtain ⟨v108, c137H, h⟩ := bind_some' h
                  obtain ⟨v109, c138H, h⟩ := bind_some' h
                  refine zU (zC2 (lC [[0]] (con_spec_l26Rd_pick _ _ _ c137H)) (lC [[0], [0, 0], [0, 1]] (con_spec_l11Play_rung_1 _ _ _ c138H))) (r_bN hk136 ?_)
                  refine zB hkq133 h hIq133 (.a) trivial
                · refine r_exit (r_cE hk134 ?_)
                  replace h := zX h hEq133 hKq133
                  refine r_kE hkq133 (r_bE hk117 ?_)
                  refine zJ J113 [3] (.a) (v96, v97, v98, v99, v100, v101, v102) ⟨trivial, h⟩
              · replace hp : v98 = [] := hp
                subst hp
                simp only [spec_l11Sure_s33] at h
                try simp only [List.nil_append, List.length_nil, Int.natCast_zero] at h
                refine sem_cut fun k139 hk139 => zS z0 (sem_ifT rfl ?_)
                try replace h := cond_t h rfl
                refine r_skip (r_cN hk139 ?_)
                refine sem_blk fun k141 hk141 => ?_
                obtain ⟨v110, c142H, h⟩ := bind_some' h
                obtain ⟨v111, c143H, h⟩ := bind_some' h
                refine zU (zC2 (lC [[0]] (con_spec_l26Rd_pick _ _ _ c142H)) (lC [[0], [0, 0]] (con_spec_l11Play_rung _ _ _ c143H rfl))) (r_bN hk141 ?_)
                refine zB hkq133 h hIq133 (.a) trivial
          · refine r_skip (zJ J113 [3] (.b) (v93.2.b, v93.2.p, [], v26, v27, v28, v29) ⟨rfl, h⟩)
    · intro k145 hk145 J144
      obtain ⟨v112, c147H, h⟩ := bind_some' h
      refine zS (zC1 (lC [[0]] (con_spec_l26Rd_pick _ _ _ c147H))) (sem_blk fun k148 hk148 => ?_)
      obtain ⟨oq167, hLq167, hKq167⟩ := bind_some' h
      clear h
      refine sem_loopP [0, 3, 4] (fun (i : P2) (x : ((List Int) × Int × (List Inst) × Int × Int × Bool × Bool × Int)) => match i with | .a => (⟨[(0, .pt 0 0), (3, .pt 1 0), (4, .sc (.int .i64 (x.2.2.2.2.2.2.2)))], [.rc [.fz 1 (R e_u8 (x.1)), .sc (.int .i64 (x.2.1))], .rc [.pt 0 0, .sl 2 0 ((x.2.2.1).length), .sc (.int .i64 (x.2.2.2.1)), .sc (.int .i64 (x.2.2.2.2.1)), .sc (.bool (x.2.2.2.2.2.1)), .sc (.bool (x.2.2.2.2.2.2.1))], .arr true 3 (R e_Inst (x.2.2.1))]⟩ : St) | .b => (⟨[(0, .pt 0 0), (3, .pt 1 0), (4, .sc (.int .i64 (x.2.2.2.2.2.2.2)))], [.rc [.fz 1 (R e_u8 (x.1)), .sc (.int .i64 (x.2.1))], .rc [.pt 0 0, .sc (.slice none 0 0), .sc (.int .i64 (x.2.2.2.1)), .sc (.int .i64 (x.2.2.2.2.1)), .sc (.bool (x.2.2.2.2.2.1)), .sc (.bool (x.2.2.2.2.2.2.1))]]⟩ : St)) (fun (i : P2) (x : ((List Int) × Int × (List Inst) × Int × Int × Bool × Bool × Int)) => (match i with | .a => True | .b => x.2.2.1 = [])) spec_l11Sure_s17 (.b) (v112.2.b, v112.2.p, [], 0, 0, false, false, (IntKind.i64.wrap (1 + v112.1))) hLq167 (by rfl) (by rfl) ⟨?_, rfl⟩ ?_
      · first | exact wkSt_same rfl | (simp (decide := true) only [go_sem, reduceIte, Nat.reduceAdd, Int.reduceToNat, Nat.reduceSub, Nat.reduceMul]; exact wkSt_same rfl)
      · rintro nq167 (_ | _) ⟨v115, v116, v117, v118, v119, v120, v121, v122⟩ xq167 kq167 hkq167 hp h hIq167 hEq167
        · simp only [spec_l11Sure_s17] at h
          refine sem_cut fun k168 hk168 => zS z0 ?_
          refine sem_ifh rfl h ?_ ?_ <;> clear h <;> intro h
          · refine r_skip (r_cN hk168 ?_)
            refine sem_cut fun k170 hk170 => sem_blk fun k171 hk171 => ?_
            obtain ⟨v128, c172H, h⟩ := bind_some' h
            obtain ⟨v129, c173H, h⟩ := bind_some' h
            refine zU (zC2 (lC [[0]] (con_spec_l26Rd_pick _ _ _ c172H)) (lC [[0], [0, 0], [0, 1]] (con_spec_l11Play_rung_1 _ _ _ c173H))) (r_bN hk171 ?_)
            refine r_cN hk170 (zU z0 ?_)
            refine zB hkq167 h hIq167 (.a) trivial
          · refine r_exit (r_cE hk168 ?_)
            replace h := zX h hEq167 hKq167
            refine r_kE hkq167 (r_bE hk148 ?_)
            refine zJ J144 [0, 3] (.a) (v115, v116, v117, v118, v119, v120, v121) ⟨trivial, h⟩
        · replace hp : v117 = [] := hp
          subst hp
          simp only [spec_l11Sure_s17] at h
          try simp only [List.nil_append, List.length_nil, Int.natCast_zero] at h
          refine sem_cut fun k174 hk174 => zS z0 ?_
          refine sem_ifh rfl h ?_ ?_ <;> clear h <;> intro h
          · refine r_skip (r_cN hk174 ?_)
            refine sem_cut fun k176 hk176 => sem_blk fun k177 hk177 => ?_
            obtain ⟨v130, c178H, h⟩ := bind_some' h
            obtain ⟨v131, c179H, h⟩ := bind_some' h
            refine zU (zC2 (lC [[0]] (con_spec_l26Rd_pick _ _ _ c178H)) (lC [[0], [0, 0]] (con_spec_l11Play_rung _ _ _ c179H rfl))) (r_bN hk177 ?_)
            refine r_cN hk176 (zU z0 ?_)
            refine zB hkq167 h hIq167 (.a) trivial
          · refine r_exit (r_cE hk174 ?_)
            replace h := zX h hEq167 hKq167
            refine r_kE hkq167 (r_bE hk148 ?_)
            refine zJ J144 [0, 3] (.b) (v115, v116, [], v118, v119, v120, v121) ⟨rfl, h⟩
noncomputable def spec_l16More_j54 (v2 : Inst) (v8 : (List Int)) (v9 : Int) (v10 : Int) (v11 : (List DevArg)) : Bool → Option ((List Inst) × l26Rd)
  | v16 => (cond v16 (Option.bind (spec_l26Rd_pick (⟨v8, v9⟩ : l26Rd) 3) fun v17 => (cond (v17.1 == 0) (some ([v2, v2], v17.2)) (cond (v17.1 == 1) (some ([(⟨1, v2.One_Op, v2.One_Args⟩ : Inst), (⟨(IntKind.i64.wrap ((IntKind.i64.wrap (v2.Code - 2)) + 4)), 0, []⟩ : Inst)], v17.2)) (some ([v2, (⟨v2.Code, v10, v11⟩ : Inst)], v17.2))))) (cond (v2.Code == 10) (Option.bind (spec_l26Rd_pick (⟨v8, v9⟩ : l26Rd) 3) fun v18 => (cond (v18.1 == 0) (some ([v2, v2], v18.2)) (cond (v18.1 == 1) (some ([(⟨7, 0, []⟩ : Inst), v2, (⟨9, 0, []⟩ : Inst), v2], v18.2)) (some ([(⟨7, 0, []⟩ : Inst), v2, (⟨8, 0, []⟩ : Inst), v2, (⟨9, 0, []⟩ : Inst), v2], v18.2))))) (some ([v2], (⟨v8, v9⟩ : l26Rd)))))
noncomputable def spec_l16More_j7 (v2 : Inst) : ((List Int) × Int × Int × (List DevArg)) → Option ((List Inst) × l26Rd)
  | (v8, v9, v10, v11) => (cond (v2.Code == 1) (Option.bind (spec_l26Rd_pick (⟨v8, v9⟩ : l26Rd) 5) fun v12 => (cond (v12.1 == 0) (some ([v2, (⟨6, 0, []⟩ : Inst), (⟨6, 0, []⟩ : Inst)], v12.2)) (cond (v12.1 == 1) (some ([v2, (⟨6, 0, []⟩ : Inst)], v12.2)) (cond (v12.1 == 2) (Option.bind (spec_l26Rd_pick v12.2 2) fun v13 => (some ([(⟨1, v10, v11⟩ : Inst), (⟨(IntKind.i64.wrap (2 + v13.1)), v2.One_Op, v2.One_Args⟩ : Inst)], v13.2))) (cond (v12.1 == 3) (Option.bind (spec_l26Rd_pick v12.2 2) fun v14 => (some ([v2, (⟨(IntKind.i64.wrap (2 + v14.1)), v2.One_Op, v2.One_Args⟩ : Inst)], v14.2))) (Option.bind (spec_l26Rd_pick v12.2 2) fun v15 => (some ([v2, (⟨(IntKind.i64.wrap (2 + v15.1)), v10, v11⟩ : Inst)], v15.2)))))))) (cond (v2.Code == 2) (spec_l16More_j54 v2 v8 v9 v10 v11 (v2.Code == 2)) (spec_l16More_j54 v2 v8 v9 v10 v11 (v2.Code == 3))))
noncomputable def spec_l16More (v1 : l26Rd) (v2 : Inst) : Option ((List Inst) × l26Rd) :=
  (Option.bind (spec_l26Rd_pick v1 2) fun v3 => (Option.bind (spec_l26Rd_pick v3.2 2) fun v4 => (Option.bind (spec_l26Rd_pick v4.2 4) fun v5 => (Option.bind (spec_l26Rd_pick v5.2 2) fun v19 => (cond (v19.1 == 0) (Option.bind (spec_l26Rd_pick v19.2 6) fun v20 => (spec_l16More_j7 v2 (v20.2.b, v20.2.p, (IntKind.i64.wrap (5 + v20.1)), [(⟨9, v5.1, 0⟩ : DevArg), (⟨9, v5.1, 0⟩ : DevArg)]))) (spec_l16More_j7 v2 (v19.2.b, v19.2.p, (IntKind.i64.wrap (1 + v3.1)), [(⟨6, v4.1, 0⟩ : DevArg)])))))))
theorem con_spec_l16More (v1 : l26Rd) (v2 : Inst) (res_ : ((List Inst) × l26Rd)) (h : spec_l16More v1 v2 = some res_) : Con Tryd.prog C0 34 [.pt 0 0, .agg [.sc (.int .i64 (v2.Code)), .sc (.int .i64 (v2.One_Op)), .fz 3 (R e_DevArg (v2.One_Args))]] [.rc [.fz 1 (R e_u8 (v1.b)), .sc (.int .i64 (v1.p))]]
    (fun x σ' => x = .sl 1 0 ((res_.1).length) ∧ σ' = [.rc [.fz 1 (R e_u8 (res_.2.b)), .sc (.int .i64 (res_.2.p))], .arr true 3 (R e_Inst (res_.1))]) := by
  refine zCon hP 1 [0, 1, 3, 4, 5, 6, 7, 8, 22, 32, 33, 36, 37, 43, 48, 59, 76, 80, 81, 86, 103, 107, 108, 113] [.tmp 4] Tryd.func34 (by unfold Tryd.f34; rfl) fun Q hQ => ?_
  unfold spec_l16More at h
  refine zS z0 ?_
  obtain ⟨v3, c3H, h⟩ := bind_some' h
  obtain ⟨v4, c4H, h⟩ := bind_some' h
  refine zS (zC2 (lC [[0]] (con_spec_l26Rd_pick _ _ _ c3H)) (lC [[0]] (con_spec_l26Rd_pick _ _ _ c4H))) ?_
  obtain ⟨v5, c6H, h⟩ := bind_some' h
  refine zS (zC1 (lC [[0]] (con_spec_l26Rd_pick _ _ _ c6H))) (zCut (fun (x : ((List Int) × Int × Int × (List DevArg))) => ⟨[(0, .pt 0 0), (3, .pt 1 0), (5, .pt 2 0)], [.rc [.fz 1 (R e_u8 (x.1)), .sc (.int .i64 (x.2.1))], .rc [.sc (.int .i64 (v2.Code)), .sc (.int .i64 (v2.One_Op)), .fz 3 (R e_DevArg (v2.One_Args))], .rc [.sc (.int .i64 (x.2.2.1)), .sl 3 0 ((x.2.2.2).length)], .arr true 3 (R e_DevArg (x.2.2.2))]⟩) (spec_l16More_j7 v2) res_ ?_ ?_)
  · rintro _ ⟨v8, v9, v10, v11⟩ h
    simp only [spec_l16More_j7] at h
    refine zS z0 (sem_cut fun k11 hk11 => ?_)
    refine zS z0 (sem_blk fun k13 hk13 => ?_)
    refine zS z0 ?_
    refine sem_ifh rfl h ?_ ?_ <;> clear h <;> intro h
    · refine sem_cut fun k15 hk15 => ?_
      obtain ⟨v12, c17H, h⟩ := bind_some' h
      refine zS (zC1 (lC [[0]] (con_spec_l26Rd_pick _ _ _ c17H))) (sem_blk fun k18 hk18 => ?_)
      refine zS z0 ?_
      refine sem_ifh rfl h ?_ ?_ <;> clear h <;> intro h
      · refine zS z0 (r_ret ?_)
        refine r_bR hk18 (r_cR hk15 ?_)
        refine r_bR hk13 (r_cR hk11 ?_)
        cases h
        refine zORd hQ
      · refine zS z0 ?_
        refine sem_ifh rfl h ?_ ?_ <;> clear h <;> intro h
        · refine zS z0 (r_ret ?_)
          refine r_bR hk18 (r_cR hk15 ?_)
          refine r_bR hk13 (r_cR hk11 ?_)
          cases h
          refine zORd hQ
        · refine zS z0 ?_
          refine sem_ifh rfl h ?_ ?_ <;> clear h <;> intro h
          · obtain ⟨v13, c25H, h⟩ := bind_some' h
            refine zS (zPC1 (.take 0 (.take 1 (.take 2 (.take 5 (.take 6 (.one 3 (.take 4 (.take 7 (.one 8 (.take 9 .done)))))))))) [1, 2] (lC [[0]] (con_spec_l26Rd_pick _ _ _ c25H))) (r_ret ?_)
            refine r_bR hk18 (r_cR hk15 ?_)
            refine r_bR hk13 (r_cR hk11 ?_)
            cases h
            refine zOR hQ
          · refine zS z0 ?_
            refine sem_ifh rfl h ?_ ?_ <;> clear h <;> intro h
            · obtain ⟨v14, c28H, h⟩ := bind_some' h
              refine zS (zPC1 (.take 0 (.take 1 (.take 4 (.take 5 (.one 2 (.take 3 (.take 6 (.one 7 (.take 8 .done))))))))) [1] (lC [[0]] (con_spec_l26Rd_pick _ _ _ c28H))) (r_ret ?_)
              refine r_bR hk18 (r_cR hk15 ?_)
              refine r_bR hk13 (r_cR hk11 ?_)
              cases h
              refine zOR hQ
            · refine r_skip (r_bN hk18 ?_)
              refine r_cN hk15 ?_
              obtain ⟨v15, c30H, h⟩ := bind_some' h
              refine zS (zPC1 (.take 0 (.take 1 (.take 4 (.one 2 (.take 3 (.take 5 (.one 6 (.take 7 .done)))))))) [1, 2] (lC [[0]] (con_spec_l26Rd_pick _ _ _ c30H))) (r_ret ?_)
              refine r_bR hk13 (r_cR hk11 ?_)
              cases h
              refine zOR hQ
    · refine zCut (fun (x : Bool) => ⟨[(0, .pt 0 0), (3, .pt 1 0), (5, .pt 2 0), (32, .sc (.int .i64 (v2.Code))), (76, .sc (.bool (x)))], [.rc [.fz 1 (R e_u8 (v8)), .sc (.int .i64 (v9))], .rc [.sc (.int .i64 (v2.Code)), .sc (.int .i64 (v2.One_Op)), .fz 3 (R e_DevArg (v2.One_Args))], .rc [.sc (.int .i64 (v10)), .sl 3 0 ((v11).length)], .arr true 3 (R e_DevArg (v11))]⟩) (spec_l16More_j54 v2 v8 v9 v10 v11) res_ ?_ ?_
      · rintro _ v16 h
        simp only [spec_l16More_j54] at h
        refine sem_ifh rfl h ?_ ?_ <;> clear h <;> intro h
        · refine sem_cut fun k32 hk32 => ?_
          obtain ⟨v17, c34H, h⟩ := bind_some' h
          refine zS (zC1 (lC [[0]] (con_spec_l26Rd_pick _ _ _ c34H))) (sem_blk fun k35 hk35 => ?_)
          refine zS z0 ?_
          refine sem_ifh rfl h ?_ ?_ <;> clear h <;> intro h
          · refine zS z0 (r_ret ?_)
            refine r_bR hk35 (r_cR hk32 ?_)
            refine r_bR hk13 (r_cR hk11 ?_)
            cases h
            refine zOR hQ
          · refine zS z0 ?_
            refine sem_ifh rfl h ?_ ?_ <;> clear h <;> intro h
            · refine zS z0 (r_ret ?_)
              refine r_bR hk35 (r_cR hk32 ?_)
              refine r_bR hk13 (r_cR hk11 ?_)
              cases h
              refine zORd hQ
            · refine r_skip (r_bN hk35 ?_)
              refine r_cN hk32 (zS z0 ?_)
              refine r_ret (r_bR hk13 ?_)
              refine r_cR hk11 ?_
              cases h
              refine zOR hQ
        · refine zS z0 ?_
          refine sem_ifh rfl h ?_ ?_ <;> clear h <;> intro h
          · refine zS z0 (sem_cut fun k43 hk43 => ?_)
            obtain ⟨v18, c45H, h⟩ := bind_some' h
            refine zS (zC1 (lC [[0]] (con_spec_l26Rd_pick _ _ _ c45H))) (sem_blk fun k46 hk46 => ?_)
            refine zS z0 ?_
            refine sem_ifh rfl h ?_ ?_ <;> clear h <;> intro h
            · refine zS z0 (r_ret ?_)
              refine r_bR hk46 (r_cR hk43 ?_)
              refine r_bR hk13 (r_cR hk11 ?_)
              cases h
              refine zOR hQ
            · refine zS z0 ?_
              refine sem_ifh rfl h ?_ ?_ <;> clear h <;> intro h
              · refine zS z0 (r_ret ?_)
                refine r_bR hk46 (r_cR hk43 ?_)
                refine r_bR hk13 (r_cR hk11 ?_)
                cases h
                refine zORd hQ
              · refine r_skip (r_bN hk46 ?_)
                refine r_cN hk43 (zS z0 ?_)
                refine r_ret (r_bR hk13 ?_)
                refine r_cR hk11 ?_
                cases h
                refine zORd hQ
          · refine r_skip (r_bN hk13 ?_)
            refine r_cN hk11 (zS z0 ?_)
            refine r_ret ?_
            cases h
            refine zOR hQ
      · intro k54 hk54 J53
        refine zS z0 ?_
        refine sem_ifh rfl h ?_ ?_ <;> clear h <;> intro h
        · refine r_skip (zJ J53 [0, 3, 5, 32, 76] () _ h)
        · refine zU z0 (zJ J53 [0, 3, 5, 32, 76] () _ h)
  · intro k57 hk57 J56
    obtain ⟨v19, c59H, h⟩ := bind_some' h
    refine zS (zC1 (lC [[0]] (con_spec_l26Rd_pick _ _ _ c59H))) ?_
    refine sem_ifh rfl h ?_ ?_ <;> clear h <;> intro h
    · obtain ⟨v20, c60H, h⟩ := bind_some' h
      with_reducible refine sem_plan (id := 4) (.take 0 (.take 3 (.take 4 (.two 1 5 (.take 2 (.last 5 (.take 6 (.last 7 .done)))) (.one 1 (.take 2 (.take 6 (.last 7 .done)))))))) [4] ?_ ?_
      focus kernel_rfl
      repeat' (first | with_reducible refine And.intro ?_ ?_ | ((with_reducible refine i_call (n := 19) ?_); refine call_open [[0]] ?_) | ((with_reducible refine i_callW (n := 19) ?_); refine callW_use (con_spec_l26Rd_pick v19.2 6 v20 c60H) ?_; rintro x σ' ⟨rfl, rfl⟩ <;> ((with_reducible refine behind_go ?_))) | exact True.intro | with_reducible assumption | exact fun hf => False.elim hf | (intro hg; first | (simp +contextual [hg]; done) | grind) | omega | simp (decide := true) only [go_sem, reduceIte, Nat.reduceAdd, Int.reduceToNat, Nat.reduceSub, Nat.reduceMul])
      all_goals
        refine zJ J56 [0, 3, 5] () _ h
    · refine r_skip (zJ J56 [0, 3, 5] () _ h)
noncomputable def spec_DevOk (v1 : DevArg) : Option Bool :=
  (cond (v1.Kind == 11) (some (((decide (v1.N ≥ (-32768))) && (decide (v1.N ≤ 32767))) && (v1.P == 0))) (cond (v1.Kind == 12) (some (((((decide (v1.N ≥ (-999999999))) && (decide (v1.N ≤ 999999999))) && (decide (v1.P ≥ 1))) && (decide (v1.P ≤ 6))) && ((v1.P == 1) || (((v1.N).tmod 10) != 0)))) (cond (v1.Kind == 13) (some (((decide (v1.N ≥ 0)) && (decide (v1.N ≤ 3))) && (v1.P == 0))) (cond (decide (v1.N ≥ 0)) (Option.bind (spec_DevSize v1.Kind) fun v2 => (some ((decide (v1.N < v2)) && (v1.P == 0)))) (some false)))))
theorem con_spec_DevOk (v1 : DevArg) (res_ : Bool) (h : spec_DevOk v1 = some res_) : Con Tryd.prog C0 68 [.agg [.sc (.int .i64 (v1.Kind)), .sc (.int .i64 (v1.N)), .sc (.int .i64 (v1.P))]] []
    (fun x σ' => x = .sc (.bool (res_)) ∧ σ' = []) := by
  refine zCon hP 0 [0, 1, 2, 4, 5, 20, 51] [.tmp 2] Tryd.func68 (by unfold Tryd.f68; rfl) fun Q hQ => ?_
  unfold spec_DevOk at h
  refine zS z0 (sem_cut fun k2 hk2 => ?_)
  refine zS z0 (sem_blk fun k4 hk4 => ?_)
  refine zS z0 ?_
  refine sem_ifh rfl h ?_ ?_ <;> clear h <;> intro h
  · refine zS zR (r_ret ?_)
    refine r_bR hk4 (r_cR hk2 ?_)
    cases h
    refine zAR hQ
  · refine zS z0 ?_
    refine sem_ifh rfl h ?_ ?_ <;> clear h <;> intro h
    · refine zS zR (r_ret ?_)
      refine r_bR hk4 (r_cR hk2 ?_)
      cases h
      refine zAR hQ
    · refine zS z0 ?_
      refine sem_ifh rfl h ?_ ?_ <;> clear h <;> intro h
      · refine zS zR (r_ret ?_)
        refine r_bR hk4 (r_cR hk2 ?_)
        cases h
        refine zAR hQ
      · refine r_skip (r_bN hk4 ?_)
        refine r_cN hk2 (sem_cut fun k11 hk11 => ?_)
        rcases Bool.eq_false_or_eq_true (decide (v1.N ≥ 0)) with g12 | g12
        · replace h := cond_t h g12
          obtain ⟨v2, c13H, h⟩ := bind_some' h
          refine zU (zPC1F (.take 0 (.take 1 (.take 2 (.take 3 (.take 4 (.take 5 (.take 6 (.take 7 (.one 8 (.take 9 (.take 10 (.take 11 (.take 12 (.take 13 (.take 14 (.take 15 (.take 16 .done))))))))))))))))) [0] (lF [] (con_spec_DevSize _ _ c13H)) g12) (r_cN hk11 ?_)
          refine r_ret ?_
          cases h
          refine zAR hQ
        · replace h := cond_f h g12
          refine zU (zPRF (.take 0 (.take 1 (.take 2 (.take 3 (.take 4 (.take 5 (.take 6 (.take 7 (.one 8 (.take 9 (.take 10 (.take 11 (.take 12 (.take 13 (.take 14 (.take 15 (.take 16 .done))))))))))))))))) [0] g12) (r_cN hk11 ?_)
          refine r_ret ?_
          cases h
          refine zAR hQ
noncomputable def spec_DevIsBit (v1 : DevArg) : Option Bool :=
  (Option.bind (spec_DevOk v1) fun v2 => (some (v2 && ((((decide (v1.Kind ≤ 4)) || (v1.Kind == 6)) || (v1.Kind == 7)) || (v1.Kind == 8)))))
theorem con_spec_DevIsBit (v1 : DevArg) (res_ : Bool) (h : spec_DevIsBit v1 = some res_) : Con Tryd.prog C0 67 [.agg [.sc (.int .i64 (v1.Kind)), .sc (.int .i64 (v1.N)), .sc (.int .i64 (v1.P))]] []
    (fun x σ' => x = .sc (.bool (res_)) ∧ σ' = []) := by
  refine zCon hP 0 [0, 1, 2] [.tmp 2] Tryd.func67 (by unfold Tryd.f67; rfl) fun Q hQ => ?_
  unfold spec_DevIsBit at h
  refine zS z0 ?_
  obtain ⟨v2, c3H, h⟩ := bind_some' h
  refine zS (zC1 (lF [] (con_spec_DevOk _ _ c3H))) (r_ret ?_)
  cases h
  refine zAR hQ
noncomputable def spec_DevIsWhole (v1 : DevArg) : Option Bool :=
  (Option.bind (spec_DevOk v1) fun v2 => (some (v2 && ((((v1.Kind == 7) || (v1.Kind == 8)) || (v1.Kind == 9)) || (v1.Kind == 11)))))
theorem con_spec_DevIsWhole (v1 : DevArg) (res_ : Bool) (h : spec_DevIsWhole v1 = some res_) : Con Tryd.prog C0 69 [.agg [.sc (.int .i64 (v1.Kind)), .sc (.int .i64 (v1.N)), .sc (.int .i64 (v1.P))]] []
    (fun x σ' => x = .sc (.bool (res_)) ∧ σ' = []) := by
  refine zCon hP 0 [0, 1, 2] [.tmp 2] Tryd.func69 (by unfold Tryd.f69; rfl) fun Q hQ => ?_
  unfold spec_DevIsWhole at h
  refine zS z0 ?_
  obtain ⟨v2, c3H, h⟩ := bind_some' h
  refine zS (zC1 (lF [] (con_spec_DevOk _ _ c3H))) (r_ret ?_)
  cases h
  refine zAR hQ
noncomputable def spec_DevIsReal (v1 : DevArg) : Option Bool :=
  (Option.bind (spec_DevOk v1) fun v2 => (some (v2 && (((v1.Kind == 10) || (v1.Kind == 12)) || (v1.Kind == 13)))))
theorem con_spec_DevIsReal (v1 : DevArg) (res_ : Bool) (h : spec_DevIsReal v1 = some res_) : Con Tryd.prog C0 70 [.agg [.sc (.int .i64 (v1.Kind)), .sc (.int .i64 (v1.N)), .sc (.int .i64 (v1.P))]] []
    (fun x σ' => x = .sc (.bool (res_)) ∧ σ' = []) := by
  refine zCon hP 0 [0, 1, 2] [.tmp 2] Tryd.func70 (by unfold Tryd.f70; rfl) fun Q hQ => ?_
  unfold spec_DevIsReal at h
  refine zS z0 ?_
  obtain ⟨v2, c3H, h⟩ := bind_some' h
  refine zS (zC1 (lF [] (con_spec_DevOk _ _ c3H))) (r_ret ?_)
  cases h
  refine zAR hQ
noncomputable def spec_ElemIsContact (v1 : Elem) : Option Bool :=
  (cond (decide (v1.Op < 1)) (some false) (cond (decide (v1.Op > 10)) (some false) (Option.bind (spec_ElemArity v1.Op) fun v2 => (cond (((v1.Args).length : Int) != v2) (some false) (cond (decide (v1.Op ≤ 2)) (Option.bind (idx v1.Args (0)) fun v3 => (Option.bind (spec_DevIsBit v3) fun v4 => (some v4))) (cond (decide (v1.Op ≤ 4)) (Option.bind (idx v1.Args (0)) fun v5 => (Option.bind (spec_DevIsBit v5) fun v6 => (cond v6 (Option.bind (idx v1.Args (1)) fun v7 => (Option.bind (spec_DevOk v7) fun v8 => (cond v8 (some (v7.Kind == 5)) (some false)))) (some false)))) (Option.bind (idx v1.Args (0)) fun v9 => (Option.bind (spec_DevIsWhole v9) fun v10 => (cond v10 (Option.bind (idx v1.Args (1)) fun v11 => (Option.bind (spec_DevIsWhole v11) fun v12 => (cond v12 (some true) (Option.bind (spec_DevIsReal v9) fun v13 => (cond v13 (Option.bind (spec_DevIsReal v11) fun v14 => (some v14)) (some false)))))) (Option.bind (spec_DevIsReal v9) fun v15 => (cond v15 (Option.bind (idx v1.Args (1)) fun v16 => (Option.bind (spec_DevIsReal v16) fun v17 => (some v17))) (some false))))))))))))
theorem con_spec_ElemIsContact (v1 : Elem) (res_ : Bool) (h : spec_ElemIsContact v1 = some res_) : Con Tryd.prog C0 48 [.agg [.sc (.int .i64 (v1.Op)), .fz 3 (R e_DevArg (v1.Args))]] []
    (fun x σ' => x = .sc (.bool (res_)) ∧ σ' = []) := by
  refine zCon hP 0 [0, 1, 2, 19, 22, 30] [.tmp 2] Tryd.func48 (by unfold Tryd.f48; rfl) fun Q hQ => ?_
  unfold spec_ElemIsContact at h
  refine zS z0 (sem_cut fun k2 hk2 => ?_)
  refine sem_cut fun k3 hk3 => ?_
  rcases Bool.eq_false_or_eq_true (decide (v1.Op < 1)) with g4 | g4
  · replace h := cond_t h g4
    refine zU (zPRF (.take 0 (.take 1 (.take 2 (.take 3 (.take 4 (.take 5 (.take 6 (.take 7 (.take 8 (.take 9 (.take 10 (.take 11 (.take 12 (.take 13 (.one 14 (.take 15 (.take 16 .done))))))))))))))))) [0] g4) (r_cN hk3 ?_)
    refine sem_ifT rfl ?_
    try replace h := cond_t h rfl
    refine zS z0 (r_ret ?_)
    refine r_cR hk2 ?_
    cases h
    refine zAR hQ
  · replace h := cond_f h g4
    rcases Bool.eq_false_or_eq_true (decide (v1.Op > 10)) with g6 | g6
    · replace h := cond_t h g6
      refine zU (zPRF (.take 0 (.take 1 (.take 2 (.take 3 (.take 4 (.take 5 (.take 6 (.take 7 (.take 8 (.take 9 (.take 10 (.take 11 (.take 12 (.take 13 (.one 14 (.take 15 (.take 16 .done))))))))))))))))) [0] (a2 g4 g6)) (r_cN hk3 ?_)
      refine sem_ifT rfl ?_
      try replace h := cond_t h rfl
      refine zS z0 (r_ret ?_)
      refine r_cR hk2 ?_
      cases h
      refine zAR hQ
    · replace h := cond_f h g6
      obtain ⟨v2, c8H, h⟩ := bind_some' h
      refine zU (zPC1F (.take 0 (.take 1 (.take 2 (.take 3 (.take 4 (.take 5 (.take 6 (.take 7 (.take 8 (.take 9 (.take 10 (.take 11 (.take 12 (.take 13 (.one 14 (.take 15 (.take 16 .done))))))))))))))))) [0] (lF [] (con_spec_ElemArity _ _ c8H)) (a2 g4 g6)) (r_cN hk3 ?_)
      refine sem_ifh rfl h ?_ ?_ <;> clear h <;> intro h
      · refine zS z0 (r_ret ?_)
        refine r_cR hk2 ?_
        cases h
        refine zAR hQ
      · refine r_skip (r_cN hk2 ?_)
        refine sem_cut fun k10 hk10 => zS z0 ?_
        refine sem_ifh rfl h ?_ ?_ <;> clear h <;> intro h
        · obtain ⟨v3, h, c13⟩ := bN 0 h
          obtain ⟨v4, c14H, h⟩ := bind_some' h
          refine zS (zC1F (lF [] (con_spec_DevIsBit _ _ c14H)) c13) (r_ret ?_)
          refine r_cR hk10 ?_
          cases h
          refine zAR hQ
        · refine r_skip (r_cN hk10 ?_)
          refine sem_cut fun k15 hk15 => zS z0 ?_
          refine sem_ifh rfl h ?_ ?_ <;> clear h <;> intro h
          · refine sem_cut fun k17 hk17 => ?_
            obtain ⟨v5, h, c18⟩ := bN 0 h
            obtain ⟨v6, c19H, h⟩ := bind_some' h
            rcases Bool.eq_false_or_eq_true v6 with g20 | g20
            · replace h := cond_t h g20
              obtain ⟨v7, h, c21⟩ := bN 1 h
              obtain ⟨v8, c22H, h⟩ := bind_some' h
              rcases Bool.eq_false_or_eq_true v8 with g23 | g23
              · replace h := cond_t h g23
                refine zU (zC2F (lF [] (con_spec_DevIsBit _ _ c19H)) (lF [] (con_spec_DevOk _ _ c22H)) (a4 c18 g20 c21 g23)) (r_cN hk17 ?_)
                refine r_ret (r_cR hk15 ?_)
                cases h
                refine zAR hQ
              · replace h := cond_f h g23
                refine zU (zC2F (lF [] (con_spec_DevIsBit _ _ c19H)) (lF [] (con_spec_DevOk _ _ c22H)) (a4 c18 g20 c21 g23)) (r_cN hk17 ?_)
                refine r_ret (r_cR hk15 ?_)
                cases h
                refine zAR hQ
            · replace h := cond_f h g20
              refine zU (zC1F (lF [] (con_spec_DevIsBit _ _ c19H)) (a2 c18 g20)) (r_cN hk17 ?_)
              refine r_ret (r_cR hk15 ?_)
              cases h
              refine zAR hQ
          · refine r_skip (r_cN hk15 ?_)
            refine sem_cut fun k24 hk24 => ?_
            obtain ⟨v9, h, c25⟩ := bN 0 h
            obtain ⟨v10, c26H, h⟩ := bind_some' h
            rcases Bool.eq_false_or_eq_true v10 with g27 | g27
            · replace h := cond_t h g27
              obtain ⟨v11, h, c28⟩ := bN 1 h
              obtain ⟨v12, c29H, h⟩ := bind_some' h
              rcases Bool.eq_false_or_eq_true v12 with g30 | g30
              · replace h := cond_t h g30
                refine zU (zC2F (lF [] (con_spec_DevIsWhole _ _ c26H)) (lF [] (con_spec_DevIsWhole _ _ c29H)) (a4 c25 g27 c28 g30)) (r_cN hk24 ?_)
                refine r_ret ?_
                cases h
                refine zAR hQ
              · replace h := cond_f h g30
                obtain ⟨v13, c31H, h⟩ := bind_some' h
                rcases Bool.eq_false_or_eq_true v13 with g32 | g32
                · replace h := cond_t h g32
                  obtain ⟨v14, c33H, h⟩ := bind_some' h
                  refine zU (zC4F (lF [] (con_spec_DevIsWhole _ _ c26H)) (lF [] (con_spec_DevIsWhole _ _ c29H)) (lF [] (con_spec_DevIsReal _ _ c31H)) (lF [] (con_spec_DevIsReal _ _ c33H)) (a4 c25 g27 c28 (a2 g30 g32))) (r_cN hk24 ?_)
                  refine r_ret ?_
                  cases h
                  refine zAR hQ
                · replace h := cond_f h g32
                  refine zU (zC3F (lF [] (con_spec_DevIsWhole _ _ c26H)) (lF [] (con_spec_DevIsWhole _ _ c29H)) (lF [] (con_spec_DevIsReal _ _ c31H)) (a4 c25 g27 c28 (a2 g30 g32))) (r_cN hk24 ?_)
                  refine r_ret ?_
                  cases h
                  refine zAR hQ
            · replace h := cond_f h g27
              obtain ⟨v15, c34H, h⟩ := bind_some' h
              rcases Bool.eq_false_or_eq_true v15 with g35 | g35
              · replace h := cond_t h g35
                obtain ⟨v16, h, c36⟩ := bN 1 h
                obtain ⟨v17, c37H, h⟩ := bind_some' h
                refine zU (zC3F (lF [] (con_spec_DevIsWhole _ _ c26H)) (lF [] (con_spec_DevIsReal _ _ c34H)) (lF [] (con_spec_DevIsReal _ _ c37H)) (a4 c25 g27 g35 c36)) (r_cN hk24 ?_)
                refine r_ret ?_
                cases h
                refine zAR hQ
              · replace h := cond_f h g35
                refine zU (zC2F (lF [] (con_spec_DevIsWhole _ _ c26H)) (lF [] (con_spec_DevIsReal _ _ c34H)) (a3 c25 g27 g35)) (r_cN hk24 ?_)
                refine r_ret ?_
                cases h
                refine zAR hQ
noncomputable def spec_l4Kind (v1 : DevArg) (v2 : Int) (v3 : Int) : Option Bool :=
  (Option.bind (spec_DevOk v1) fun v4 => (some (v4 && ((v1.Kind == v2) || (v1.Kind == v3)))))
theorem con_spec_l4Kind (v1 : DevArg) (v2 : Int) (v3 : Int) (res_ : Bool) (h : spec_l4Kind v1 v2 v3 = some res_) : Con Tryd.prog C0 71 [.agg [.sc (.int .i64 (v1.Kind)), .sc (.int .i64 (v1.N)), .sc (.int .i64 (v1.P))], .sc (.int .i64 (v2)), .sc (.int .i64 (v3))] []
    (fun x σ' => x = .sc (.bool (res_)) ∧ σ' = []) := by
  refine zCon hP 0 [0, 1, 2, 3, 6] [.tmp 6] Tryd.func71 (by unfold Tryd.f71; rfl) fun Q hQ => ?_
  unfold spec_l4Kind at h
  refine zS z0 ?_
  obtain ⟨v4, c3H, h⟩ := bind_some' h
  refine zS (zC1 (lF [] (con_spec_DevOk _ _ c3H))) (r_ret ?_)
  cases h
  refine zAR hQ
noncomputable def spec_l4Calc_j13 (v1 : Elem) : Bool → Option Bool
  | v21 => (some (v21 || (v1.Op != 35)))
noncomputable def spec_l4Calc_s17 (v1 : Elem) : (Bool × Int) → Option ((Bool × Int) ⊕ (Unit ⊕ Bool))
  | (v26, v27) => (cond (decide (v27 < ((v1.Args).length : Int))) (cond v26 (Option.bind (idx v1.Args (v27)) fun v34 => (Option.bind (spec_DevIsWhole v34) fun v35 => (cond (!v35) (some (.inr (.inl ()))) (some (.inl (true, (IntKind.i64.wrap (v27 + 1)))))))) (Option.bind (idx v1.Args (v27)) fun v36 => (Option.bind (spec_DevIsReal v36) fun v37 => (cond (!v37) (some (.inr (.inl ()))) (some (.inl (false, (IntKind.i64.wrap (v27 + 1))))))))) (some (.inr (.inr v26))))
noncomputable def spec_l4Calc (v1 : Elem) : Option Bool :=
  (Option.bind (idx v1.Args (0)) fun v2 => (Option.bind (spec_l4Kind v2 9 10) fun v3 => (cond (!v3) (some false) (Option.bind (idx v1.Args (0)) fun v4 => ((loop (spec_l4Calc_s17 v1) ((v4.Kind == 9), 1)).bind (Sum.elim (fun v32 => (some false)) (fun v33 => (spec_l4Calc_j13 v1 v33))))))))
theorem con_spec_l4Calc (v1 : Elem) (res_ : Bool) (h : spec_l4Calc v1 = some res_) : Con Tryd.prog C0 72 [.agg [.sc (.int .i64 (v1.Op)), .fz 3 (R e_DevArg (v1.Args))]] []
    (fun x σ' => x = .sc (.bool (res_)) ∧ σ' = []) := by
  refine zCon hP 0 [0, 1, 2, 3, 4, 10, 21, 46] [.tmp 2] Tryd.func72 (by unfold Tryd.f72; rfl) fun Q hQ => ?_
  unfold spec_l4Calc at h
  refine zS z0 (sem_cut fun k2 hk2 => ?_)
  obtain ⟨v2, h, c4⟩ := bN 0 h
  obtain ⟨v3, c5H, h⟩ := bind_some' h
  refine zS (zC1F (lF [] (con_spec_l4Kind _ _ _ _ c5H)) c4) ?_
  refine sem_ifh rfl h ?_ ?_ <;> clear h <;> intro h
  · refine zS z0 (r_ret ?_)
    refine r_cR hk2 ?_
    cases h
    refine zAR hQ
  · refine r_skip (r_cN hk2 ?_)
    obtain ⟨v4, h, c8⟩ := bN 0 h
    refine zS (zRF c8) (zCut (fun (x : Bool) => ⟨[(1, .pt 0 0), (3, .sc (.bool (x)))], [.rc [.sc (.int .i64 (v1.Op)), .fz 3 (R e_DevArg (v1.Args))]]⟩) (spec_l4Calc_j13 v1) res_ ?_ ?_)
    · rintro _ v21 h
      simp only [spec_l4Calc_j13] at h
      refine zS zR (r_ret ?_)
      cases h
      refine zAR hQ
    · intro k50 hk50 J49
      refine zS z0 (sem_blk fun k52 hk52 => ?_)
      obtain ⟨oq77, hLq77, hKq77⟩ := bind_some' h
      clear h
      refine sem_loopP [1, 3, 4] (fun (_ : Unit) (x : (Bool × Int)) => (⟨[(1, .pt 0 0), (3, .sc (.bool (x.1))), (4, .sc (.int .i64 (x.2)))], [.rc [.sc (.int .i64 (v1.Op)), .fz 3 (R e_DevArg (v1.Args))]]⟩ : St)) (fun (_ : Unit) (x : (Bool × Int)) => True) (spec_l4Calc_s17 v1) () ((v4.Kind == 9), 1) hLq77 (by rfl) (by rfl) ⟨?_, trivial⟩ ?_
      · first | exact wkSt_same rfl | (simp (decide := true) only [go_sem, reduceIte, Nat.reduceAdd, Int.reduceToNat, Nat.reduceSub, Nat.reduceMul]; exact wkSt_same rfl)
      · rintro nq77 _ ⟨v26, v27⟩ xq77 kq77 hkq77 - h hIq77 hEq77
        simp only [spec_l4Calc_s17] at h
        refine sem_cut fun k78 hk78 => zS z0 ?_
        refine sem_ifh rfl h ?_ ?_ <;> clear h <;> intro h
        · refine r_skip (r_cN hk78 ?_)
          refine sem_cut fun k80 hk80 => sem_blk fun k81 hk81 => sem_cut fun k82 hk82 => ?_
          rcases Bool.eq_false_or_eq_true v26 with g83 | g83
          · replace h := cond_t h g83
            obtain ⟨v34, h, c84⟩ := bI h
            obtain ⟨v35, c85H, h⟩ := bind_some' h
            refine zU (zC1F (lF [] (con_spec_DevIsWhole _ _ c85H)) (a2 g83 c84)) (r_cN hk82 ?_)
            refine sem_ifh rfl h ?_ ?_ <;> clear h <;> intro h
            · refine zS z0 (r_ret ?_)
              refine r_bR hk81 (r_cR hk80 ?_)
              replace h := zX h hEq77 hKq77
              simp only [Sum.elim_inl, Sum.elim_inr] at h
              refine r_kR hkq77 (r_bR hk52 ?_)
              refine r_jR hk50 ?_
              cases h
              refine zAR hQ
            · refine r_skip (r_bN hk81 ?_)
              refine r_cN hk80 (zU z0 ?_)
              refine zB hkq77 h hIq77 () trivial
          · replace h := cond_f h g83
            obtain ⟨v36, h, c87⟩ := bI h
            obtain ⟨v37, c88H, h⟩ := bind_some' h
            refine zU (zC1F (lF [] (con_spec_DevIsReal _ _ c88H)) (a2 g83 c87)) (r_cN hk82 ?_)
            refine sem_ifh rfl h ?_ ?_ <;> clear h <;> intro h
            · refine zS z0 (r_ret ?_)
              refine r_bR hk81 (r_cR hk80 ?_)
              replace h := zX h hEq77 hKq77
              simp only [Sum.elim_inl, Sum.elim_inr] at h
              refine r_kR hkq77 (r_bR hk52 ?_)
              refine r_jR hk50 ?_
              cases h
              refine zAR hQ
            · refine r_skip (r_bN hk81 ?_)
              refine r_cN hk80 (zU z0 ?_)
              refine zB hkq77 h hIq77 () trivial
        · refine r_exit (r_cE hk78 ?_)
          replace h := zX h hEq77 hKq77
          simp only [Sum.elim_inl, Sum.elim_inr] at h
          refine r_kE hkq77 (r_bE hk52 ?_)
          refine zJ J49 [1, 3] () _ h

end Go.AM
