/- Pure functions and their contracts. Conditions: none. -/
import Derived.Test.YtkafcijfljjlaaaAmQa0
set_option linter.unusedSimpArgs false
set_option linter.unusedVariables false
namespace Go.AM
open Go Go.Proofs
noncomputable def spec_l26Open_j3 : (List Int) → Option l26Rd
  | v3 => (some (⟨v3, 0⟩ : l26Rd))
noncomputable def spec_l26Open (v1 : (List Int)) : Option l26Rd :=
  (cond (decide (((v1).length : Int) > 2000)) (Option.bind (prtH v1 (2000)) fun v4 => (spec_l26Open_j3 v4)) (spec_l26Open_j3 v1))
set_option maxRecDepth 10000 in
set_option maxHeartbeats 4000000 in
theorem con_spec_l26Open (v1 : (List Int)) (res_ : l26Rd) (h : spec_l26Open v1 = some res_) : Con Try.prog C0 38 [.fz 1 (R e_u8 (v1))] []
    (fun x σ' => x = .pt 0 0 ∧ σ' = [.rc [.fz 1 (R e_u8 (res_.b)), .sc (.int .i64 (res_.p))]]) := by
  refine con_of_sem hP [0, 2, 5] [.tmp 2] Try.func38 (by unfold Try.f38; rfl) rfl rfl (Nat.le_of_ble_eq_true rfl) rfl ?_
  simp only [enter_cons, enter_nil, List.length_cons, List.length_nil, Nat.reduceAdd]
  generalize hQ : endQ _ _ _ _ = Q
  unfold spec_l26Open at h
  refine sem_cut fun k1 hk1 => ?_
  simp (decide := true) only [go_sem, reduceIte, Nat.reduceAdd, Int.reduceToNat, Nat.reduceSub, Nat.reduceMul]
  refine r_cN hk1 (sem_cutJ (fun (_ : Unit) (x : (List Int)) => (⟨[(0, .fz 1 (R e_u8 (x)))], []⟩ : St)) (fun (_ : Unit) (x : (List Int)) => spec_l26Open_j3 x = some res_) ?_ ?_)
  · rintro _ v3 h
    simp only [spec_l26Open_j3] at h
    refine sem_cut fun k4 hk4 => ?_
    simp (decide := true) only [go_sem, reduceIte, Nat.reduceAdd, Int.reduceToNat, Nat.reduceSub, Nat.reduceMul]
    refine r_cN hk4 (r_ret ?_)
    obtain rfl := Option.some.inj h
    refine r_eOR hQ rfl rfl ?_
    simp (decide := true) only [go_sem, reduceIte, Nat.reduceAdd, Int.reduceToNat, Nat.reduceSub, Nat.reduceMul]
    all_goals first | exact wkEnd_same ⟨rfl, rfl⟩ | exact True.intro
  · intro k6 hk6 J5
    refine sem_cut fun k7 hk7 => ?_
    simp (decide := true) only [go_sem, reduceIte, Nat.reduceAdd, Int.reduceToNat, Nat.reduceSub, Nat.reduceMul]
    refine r_cN hk7 ?_
    refine sem_ifh rfl h ?_ ?_ <;> clear h <;> intro h
    · obtain ⟨v4, c8H, h⟩ := bind_some' h
      obtain ⟨c8A, c8B, c8C⟩ := prtH_some c8H
      try simp only [Int.reduceToNat, Int.toNat_zero, Int.toNat_one, Int.toNat_natCast, List.take_length] at c8C
      repeat' (first | with_reducible refine And.intro ?_ ?_ | exact True.intro | with_reducible assumption | exact fun hf => False.elim hf | (intro hg; first | (simp +contextual [hg]; done) | grind) | omega | simp (decide := true) only [go_sem, reduceIte, Nat.reduceAdd, Int.reduceToNat, Nat.reduceSub, Nat.reduceMul, c8A, c8B, c8C])
      refine r_joinU J5 [0] () _ rfl rfl ⟨?_, h⟩
      first | exact wkSt_same rfl | (simp (decide := true) only [go_sem, reduceIte, Nat.reduceAdd, Int.reduceToNat, Nat.reduceSub, Nat.reduceMul]; exact wkSt_same rfl)
    · refine r_skip (r_joinU J5 [0] () _ rfl rfl ⟨?_, h⟩)
      first | exact wkSt_same rfl | (simp (decide := true) only [go_sem, reduceIte, Nat.reduceAdd, Int.reduceToNat, Nat.reduceSub, Nat.reduceMul]; exact wkSt_same rfl)
noncomputable def spec_l26Rd_pick (v1 : l26Rd) (v2 : Int) : Option (Int × l26Rd) :=
  (cond ((decide (v2 < 1)) || (((v1.b).length : Int) == 0)) (some (0, (⟨v1.b, (IntKind.i64.wrap (v1.p + 1))⟩ : l26Rd))) (cond (decide ((IntKind.i64.wrap ((IntKind.i64.wrap (v1.p + 1)) - 1)) < ((v1.b).length : Int))) (Option.bind (idx v1.b ((IntKind.i64.wrap ((IntKind.i64.wrap (v1.p + 1)) - 1)))) fun v3 => (gd (v2 != 0) (some ((((IntKind.i64.wrap (v3))).tmod v2), (⟨v1.b, (IntKind.i64.wrap (v1.p + 1))⟩ : l26Rd))))) (gd (((v1.b).length : Int) != 0) (Option.bind (idx v1.b ((((IntKind.i64.wrap ((IntKind.i64.wrap (v1.p + 1)) - 1))).tmod ((v1.b).length : Int)))) fun v4 => (gd (((v1.b).length : Int) != 0) (Option.bind (idx v1.b ((((IntKind.i64.wrap ((IntKind.i64.wrap ((IntKind.i64.wrap ((IntKind.i64.wrap (v1.p + 1)) - 1)) * 7)) + 3))).tmod ((v1.b).length : Int)))) fun v5 => (gd (((v1.b).length : Int) != 0) (gd (v2 != 0) (some ((((bxor .i64 (IntKind.i64.wrap ((IntKind.i64.wrap ((IntKind.i64.wrap ((IntKind.i64.wrap ((IntKind.i64.wrap (v4)) * 131)) + (IntKind.i64.wrap ((IntKind.i64.wrap (v5)) * 1117)))) + (IntKind.i64.wrap ((IntKind.i64.wrap ((IntKind.i64.wrap (v1.p + 1)) - 1)) * 29)))) + (IntKind.i64.wrap ((IntKind.i64.wrap (((IntKind.i64.wrap ((IntKind.i64.wrap (v1.p + 1)) - 1))).tdiv ((v1.b).length : Int))) * 53)))) (IntKind.i64.wrap (((IntKind.i64.wrap ((IntKind.i64.wrap ((IntKind.i64.wrap ((IntKind.i64.wrap ((IntKind.i64.wrap (v4)) * 131)) + (IntKind.i64.wrap ((IntKind.i64.wrap (v5)) * 1117)))) + (IntKind.i64.wrap ((IntKind.i64.wrap ((IntKind.i64.wrap (v1.p + 1)) - 1)) * 29)))) + (IntKind.i64.wrap ((IntKind.i64.wrap (((IntKind.i64.wrap ((IntKind.i64.wrap (v1.p + 1)) - 1))).tdiv ((v1.b).length : Int))) * 53))))).tdiv 64)))).tmod v2), (⟨v1.b, (IntKind.i64.wrap (v1.p + 1))⟩ : l26Rd)))))))))))
set_option maxRecDepth 10000 in
set_option maxHeartbeats 4000000 in
theorem con_spec_l26Rd_pick (v1 : l26Rd) (v2 : Int) (res_ : (Int × l26Rd)) (h : spec_l26Rd_pick v1 v2 = some res_) : Con Try.prog C0 39 [.pt 0 0, .sc (.int .i64 (v2))] [.rc [.fz 1 (R e_u8 (v1.b)), .sc (.int .i64 (v1.p))]]
    (fun x σ' => x = .sc (.int .i64 (res_.1)) ∧ σ' = [.rc [.fz 1 (R e_u8 (res_.2.b)), .sc (.int .i64 (res_.2.p))]]) := by
  refine con_of_sem hP [0, 1, 4, 5, 6, 24, 36] [.tmp 4] Try.func39 (by unfold Try.f39; rfl) rfl rfl (Nat.le_of_ble_eq_true rfl) rfl ?_
  simp only [enter_cons, enter_nil, List.length_cons, List.length_nil, Nat.reduceAdd]
  generalize hQ : endQ _ _ _ _ = Q
  unfold spec_l26Rd_pick at h
  refine sem_cut fun k1 hk1 => ?_
  simp (decide := true) only [go_sem, reduceIte, Nat.reduceAdd, Int.reduceToNat, Nat.reduceSub, Nat.reduceMul]
  refine r_cN hk1 (sem_cut fun k2 hk2 => ?_)
  simp (decide := true) only [go_sem, reduceIte, Nat.reduceAdd, Int.reduceToNat, Nat.reduceSub, Nat.reduceMul]
  refine r_cN hk2 (sem_cut fun k3 hk3 => ?_)
  refine sem_cut fun k4 hk4 => ?_
  repeat' (first | with_reducible refine And.intro ?_ ?_ | exact True.intro | with_reducible assumption | exact fun hf => False.elim hf | (intro hg; first | (simp +contextual [hg]; done) | grind) | omega | simp (decide := true) only [go_sem, reduceIte, Nat.reduceAdd, Int.reduceToNat, Nat.reduceSub, Nat.reduceMul])
  refine r_cN hk4 ?_
  refine sem_ifh rfl h ?_ ?_ <;> clear h <;> intro h
  · refine sem_cut fun k5 hk5 => ?_
    simp (decide := true) only [go_sem, reduceIte, Nat.reduceAdd, Int.reduceToNat, Nat.reduceSub, Nat.reduceMul]
    refine r_cN hk5 (r_ret ?_)
    refine r_cR hk3 ?_
    obtain rfl := Option.some.inj h
    refine r_eAR hQ rfl rfl ?_
    simp (decide := true) only [go_sem, reduceIte, Nat.reduceAdd, Int.reduceToNat, Nat.reduceSub, Nat.reduceMul]
    all_goals first | exact wkEnd_same ⟨rfl, rfl⟩ | exact True.intro
  · refine r_skip (r_cN hk3 ?_)
    refine sem_cut fun k6 hk6 => ?_
    simp (decide := true) only [go_sem, reduceIte, Nat.reduceAdd, Int.reduceToNat, Nat.reduceSub, Nat.reduceMul]
    refine r_cN hk6 (sem_cut fun k7 hk7 => ?_)
    refine sem_cut fun k8 hk8 => ?_
    simp (decide := true) only [go_sem, reduceIte, Nat.reduceAdd, Int.reduceToNat, Nat.reduceSub, Nat.reduceMul]
    refine r_cN hk8 ?_
    refine sem_ifh rfl h ?_ ?_ <;> clear h <;> intro h
    · refine sem_cut fun k9 hk9 => ?_
      obtain ⟨v3, c10H, h⟩ := bind_some' h
      obtain ⟨c10A, c10B, c10C, -⟩ := idx_some c10H
      obtain ⟨g11, h⟩ := gd_some h
      have g11A := ne_of_bne g11
      repeat' (first | with_reducible refine And.intro ?_ ?_ | exact True.intro | with_reducible assumption | exact fun hf => False.elim hf | (intro hg; first | (simp +contextual [hg]; done) | grind) | omega | simp (decide := true) only [go_sem, reduceIte, Nat.reduceAdd, Int.reduceToNat, Nat.reduceSub, Nat.reduceMul, c10A, c10B, c10C, g11A])
      refine r_cN hk9 (r_ret ?_)
      refine r_cR hk7 ?_
      obtain rfl := Option.some.inj h
      refine r_eAR hQ rfl rfl ?_
      simp (decide := true) only [go_sem, reduceIte, Nat.reduceAdd, Int.reduceToNat, Nat.reduceSub, Nat.reduceMul]
      all_goals first | exact wkEnd_same ⟨rfl, rfl⟩ | exact True.intro
    · refine r_skip (r_cN hk7 ?_)
      refine sem_cut fun k12 hk12 => ?_
      obtain ⟨g13, h⟩ := gd_some h
      have g13A := ne_of_bne g13
      obtain ⟨v4, c14H, h⟩ := bind_some' h
      obtain ⟨c14A, c14B, c14C, -⟩ := idx_some c14H
      obtain ⟨g15, h⟩ := gd_some h
      have g15A := ne_of_bne g15
      obtain ⟨v5, c16H, h⟩ := bind_some' h
      obtain ⟨c16A, c16B, c16C, -⟩ := idx_some c16H
      obtain ⟨g17, h⟩ := gd_some h
      have g17A := ne_of_bne g17
      with_reducible refine sem_quiet (id := 7) [0, 1, 2, 3, 4, 5, 6, 7, 8, 9] ?_ ?_
      focus kernel_rfl
      repeat' (first | with_reducible refine And.intro ?_ ?_ | exact True.intro | with_reducible assumption | exact fun hf => False.elim hf | (intro hg; first | (simp +contextual [hg]; done) | grind) | omega | simp (decide := true) only [go_sem, reduceIte, Nat.reduceAdd, Int.reduceToNat, Nat.reduceSub, Nat.reduceMul, g13A, c14A, c14B, c14C, g15A, c16A, c16B, c16C, g17A])
      refine r_cN hk12 (sem_cut fun k18 hk18 => ?_)
      repeat' (first | with_reducible refine And.intro ?_ ?_ | exact True.intro | with_reducible assumption | exact fun hf => False.elim hf | (intro hg; first | (simp +contextual [hg]; done) | grind) | omega | simp (decide := true) only [go_sem, reduceIte, Nat.reduceAdd, Int.reduceToNat, Nat.reduceSub, Nat.reduceMul])
      refine r_cN hk18 (sem_cut fun k19 hk19 => ?_)
      obtain ⟨g20, h⟩ := gd_some h
      have g20A := ne_of_bne g20
      repeat' (first | with_reducible refine And.intro ?_ ?_ | exact True.intro | with_reducible assumption | exact fun hf => False.elim hf | (intro hg; first | (simp +contextual [hg]; done) | grind) | omega | simp (decide := true) only [go_sem, reduceIte, Nat.reduceAdd, Int.reduceToNat, Nat.reduceSub, Nat.reduceMul, g20A])
      refine r_cN hk19 (r_ret ?_)
      obtain rfl := Option.some.inj h
      refine r_eAR hQ rfl rfl ?_
      simp (decide := true) only [go_sem, reduceIte, Nat.reduceAdd, Int.reduceToNat, Nat.reduceSub, Nat.reduceMul]
      all_goals first | exact wkEnd_same ⟨rfl, rfl⟩ | exact True.intro
noncomputable def spec_l26Rd_num (v1 : l26Rd) (v2 : (List Int)) : Option (Int × l26Rd) :=
  (Option.bind (spec_l26Rd_pick v1 ((v2).length : Int)) fun v3 => (Option.bind (idx v2 (v3.1)) fun v4 => (some (v4, v3.2))))
set_option maxRecDepth 10000 in
set_option maxHeartbeats 4000000 in
theorem con_spec_l26Rd_num (v1 : l26Rd) (v2 : (List Int)) (res_ : (Int × l26Rd)) (h : spec_l26Rd_num v1 v2 = some res_) : Con Try.prog C0 89 [.pt 0 0, .fz 1 (R e_i64 (v2))] [.rc [.fz 1 (R e_u8 (v1.b)), .sc (.int .i64 (v1.p))]]
    (fun x σ' => x = .sc (.int .i64 (res_.1)) ∧ σ' = [.rc [.fz 1 (R e_u8 (res_.2.b)), .sc (.int .i64 (res_.2.p))]]) := by
  refine con_of_sem hP [0, 1, 4] [.tmp 4] Try.func89 (by unfold Try.f89; rfl) rfl rfl (Nat.le_of_ble_eq_true rfl) rfl ?_
  simp only [enter_cons, enter_nil, List.length_cons, List.length_nil, Nat.reduceAdd]
  generalize hQ : endQ _ _ _ _ = Q
  unfold spec_l26Rd_num at h
  refine sem_cut fun k1 hk1 => ?_
  simp (decide := true) only [go_sem, reduceIte, Nat.reduceAdd, Int.reduceToNat, Nat.reduceSub, Nat.reduceMul]
  refine r_cN hk1 (sem_cut fun k2 hk2 => ?_)
  obtain ⟨v3, c3H, h⟩ := bind_some' h
  obtain ⟨v4, c4H, h⟩ := bind_some' h
  obtain ⟨c4A, c4B, c4C, -⟩ := idx_some c4H
  repeat' (first | with_reducible refine And.intro ?_ ?_ | ((with_reducible refine i_call (n := 39) ?_); refine call_open [[0]] ?_) | ((with_reducible refine i_callW (n := 39) ?_); refine callW_use (con_spec_l26Rd_pick v1 ((v2).length : Int) v3 c3H) ?_; rintro x σ' ⟨rfl, rfl⟩ <;> ((with_reducible refine behind_go ?_))) | exact True.intro | with_reducible assumption | exact fun hf => False.elim hf | (intro hg; first | (simp +contextual [hg]; done) | grind) | omega | simp (decide := true) only [go_sem, reduceIte, Nat.reduceAdd, Int.reduceToNat, Nat.reduceSub, Nat.reduceMul, c4A, c4B, c4C])
  refine r_cN hk2 (r_ret ?_)
  obtain rfl := Option.some.inj h
  refine r_eAR hQ rfl rfl ?_
  simp (decide := true) only [go_sem, reduceIte, Nat.reduceAdd, Int.reduceToNat, Nat.reduceSub, Nat.reduceMul]
  all_goals first | exact wkEnd_same ⟨rfl, rfl⟩ | exact True.intro
noncomputable def spec_DevSize_j31 (v1 : Int) : Bool → Option Int
  | v3 => (cond v3 (some 16) (cond (v1 == 6) (some 5) (some 0)))
noncomputable def spec_DevSize_j7 (v1 : Int) : Bool → Option Int
  | v2 => (cond v2 (some 32) (cond (v1 == 3) (some 64) (cond (v1 == 4) (spec_DevSize_j31 v1 (v1 == 4)) (cond (v1 == 7) (spec_DevSize_j31 v1 (v1 == 7)) (cond (v1 == 8) (spec_DevSize_j31 v1 (v1 == 8)) (spec_DevSize_j31 v1 (v1 == 10)))))))
noncomputable def spec_DevSize (v1 : Int) : Option Int :=
  (cond (v1 == 1) (spec_DevSize_j7 v1 (v1 == 1)) (cond (v1 == 2) (spec_DevSize_j7 v1 (v1 == 2)) (cond (v1 == 5) (spec_DevSize_j7 v1 (v1 == 5)) (spec_DevSize_j7 v1 (v1 == 9)))))
set_option maxRecDepth 10000 in
set_option maxHeartbeats 4000000 in
theorem con_spec_DevSize (v1 : Int) (res_ : Int) (h : spec_DevSize v1 = some res_) : Con Try.prog C0 116 [.sc (.int .i64 (v1))] []
    (fun x σ' => x = .sc (.int .i64 (res_)) ∧ σ' = []) := by
  refine con_of_sem hP [0, 2, 3, 4, 9, 11, 16] [.tmp 2] Try.func116 (by unfold Try.f116; rfl) rfl rfl (Nat.le_of_ble_eq_true rfl) rfl ?_
  simp only [enter_cons, enter_nil, List.length_cons, List.length_nil, Nat.reduceAdd]
  generalize hQ : endQ _ _ _ _ = Q
  unfold spec_DevSize at h
  refine sem_cut fun k1 hk1 => ?_
  simp (decide := true) only [go_sem, reduceIte, Nat.reduceAdd, Int.reduceToNat, Nat.reduceSub, Nat.reduceMul]
  refine r_cN hk1 (sem_cut fun k2 hk2 => ?_)
  refine sem_cut fun k3 hk3 => ?_
  simp (decide := true) only [go_sem, reduceIte, Nat.reduceAdd, Int.reduceToNat, Nat.reduceSub, Nat.reduceMul]
  refine r_cN hk3 (sem_blk fun k4 hk4 => ?_)
  refine sem_cutJ (fun (_ : Unit) (x : Bool) => (⟨[(3, .sc (.int .i64 (v1))), (4, .sc (.bool (x)))], []⟩ : St)) (fun (_ : Unit) (x : Bool) => spec_DevSize_j7 v1 x = some res_) ?_ ?_
  · rintro _ v2 h
    simp only [spec_DevSize_j7] at h
    refine sem_ifh rfl h ?_ ?_ <;> clear h <;> intro h
    · refine sem_cut fun k8 hk8 => ?_
      simp (decide := true) only [go_sem, reduceIte, Nat.reduceAdd, Int.reduceToNat, Nat.reduceSub, Nat.reduceMul]
      refine r_cN hk8 (r_ret ?_)
      refine r_bR hk4 (r_cR hk2 ?_)
      obtain rfl := Option.some.inj h
      refine r_eAR hQ rfl rfl ?_
      simp (decide := true) only [go_sem, reduceIte, Nat.reduceAdd, Int.reduceToNat, Nat.reduceSub, Nat.reduceMul]
      all_goals first | exact wkEnd_same ⟨rfl, rfl⟩ | exact True.intro
    · refine sem_cut fun k9 hk9 => ?_
      simp (decide := true) only [go_sem, reduceIte, Nat.reduceAdd, Int.reduceToNat, Nat.reduceSub, Nat.reduceMul]
      refine r_cN hk9 ?_
      refine sem_ifh rfl h ?_ ?_ <;> clear h <;> intro h
      · refine sem_cut fun k10 hk10 => ?_
        simp (decide := true) only [go_sem, reduceIte, Nat.reduceAdd, Int.reduceToNat, Nat.reduceSub, Nat.reduceMul]
        refine r_cN hk10 (r_ret ?_)
        refine r_bR hk4 (r_cR hk2 ?_)
        obtain rfl := Option.some.inj h
        refine r_eAR hQ rfl rfl ?_
        simp (decide := true) only [go_sem, reduceIte, Nat.reduceAdd, Int.reduceToNat, Nat.reduceSub, Nat.reduceMul]
        all_goals first | exact wkEnd_same ⟨rfl, rfl⟩ | exact True.intro
      · refine sem_cutJ (fun (_ : Unit) (x : Bool) => (⟨[(3, .sc (.int .i64 (v1))), (11, .sc (.bool (x)))], []⟩ : St)) (fun (_ : Unit) (x : Bool) => spec_DevSize_j31 v1 x = some res_) ?_ ?_
        · rintro _ v3 h
          simp only [spec_DevSize_j31] at h
          refine sem_ifh rfl h ?_ ?_ <;> clear h <;> intro h
          · refine sem_cut fun k14 hk14 => ?_
            simp (decide := true) only [go_sem, reduceIte, Nat.reduceAdd, Int.reduceToNat, Nat.reduceSub, Nat.reduceMul]
            refine r_cN hk14 (r_ret ?_)
            refine r_bR hk4 (r_cR hk2 ?_)
            obtain rfl := Option.some.inj h
            refine r_eAR hQ rfl rfl ?_
            simp (decide := true) only [go_sem, reduceIte, Nat.reduceAdd, Int.reduceToNat, Nat.reduceSub, Nat.reduceMul]
            all_goals first | exact wkEnd_same ⟨rfl, rfl⟩ | exact True.intro
          · refine sem_cut fun k15 hk15 => ?_
            simp (decide := true) only [go_sem, reduceIte, Nat.reduceAdd, Int.reduceToNat, Nat.reduceSub, Nat.reduceMul]
            refine r_cN hk15 ?_
            refine sem_ifh rfl h ?_ ?_ <;> clear h <;> intro h
            · refine sem_cut fun k16 hk16 => ?_
              simp (decide := true) only [go_sem, reduceIte, Nat.reduceAdd, Int.reduceToNat, Nat.reduceSub, Nat.reduceMul]
              refine r_cN hk16 (r_ret ?_)
              refine r_bR hk4 (r_cR hk2 ?_)
              obtain rfl := Option.some.inj h
              refine r_eAR hQ rfl rfl ?_
              simp (decide := true) only [go_sem, reduceIte, Nat.reduceAdd, Int.reduceToNat, Nat.reduceSub, Nat.reduceMul]
              all_goals first | exact wkEnd_same ⟨rfl, rfl⟩ | exact True.intro
            · refine r_skip (r_bN hk4 ?_)
              refine r_cN hk2 (sem_cut fun k17 hk17 => ?_)
              simp (decide := true) only [go_sem, reduceIte, Nat.reduceAdd, Int.reduceToNat, Nat.reduceSub, Nat.reduceMul]
              refine r_cN hk17 (r_ret ?_)
              obtain rfl := Option.some.inj h
              refine r_eAR hQ rfl rfl ?_
              simp (decide := true) only [go_sem, reduceIte, Nat.reduceAdd, Int.reduceToNat, Nat.reduceSub, Nat.reduceMul]
              all_goals first | exact wkEnd_same ⟨rfl, rfl⟩ | exact True.intro
        · intro k19 hk19 J18
          refine sem_cut fun k20 hk20 => ?_
          simp (decide := true) only [go_sem, reduceIte, Nat.reduceAdd, Int.reduceToNat, Nat.reduceSub, Nat.reduceMul]
          refine r_cN hk20 ?_
          refine sem_ifh rfl h ?_ ?_ <;> clear h <;> intro h
          · refine r_skip (r_joinU J18 [3, 11] () _ rfl rfl ⟨?_, h⟩)
            first | exact wkSt_same rfl | (simp (decide := true) only [go_sem, reduceIte, Nat.reduceAdd, Int.reduceToNat, Nat.reduceSub, Nat.reduceMul]; exact wkSt_same rfl)
          · refine sem_cut fun k21 hk21 => ?_
            simp (decide := true) only [go_sem, reduceIte, Nat.reduceAdd, Int.reduceToNat, Nat.reduceSub, Nat.reduceMul]
            refine r_cN hk21 ?_
            refine sem_ifh rfl h ?_ ?_ <;> clear h <;> intro h
            · refine r_skip (r_joinU J18 [3, 11] () _ rfl rfl ⟨?_, h⟩)
              first | exact wkSt_same rfl | (simp (decide := true) only [go_sem, reduceIte, Nat.reduceAdd, Int.reduceToNat, Nat.reduceSub, Nat.reduceMul]; exact wkSt_same rfl)
            · refine sem_cut fun k22 hk22 => ?_
              simp (decide := true) only [go_sem, reduceIte, Nat.reduceAdd, Int.reduceToNat, Nat.reduceSub, Nat.reduceMul]
              refine r_cN hk22 ?_
              refine sem_ifh rfl h ?_ ?_ <;> clear h <;> intro h
              · refine r_skip (r_joinU J18 [3, 11] () _ rfl rfl ⟨?_, h⟩)
                first | exact wkSt_same rfl | (simp (decide := true) only [go_sem, reduceIte, Nat.reduceAdd, Int.reduceToNat, Nat.reduceSub, Nat.reduceMul]; exact wkSt_same rfl)
              · simp (decide := true) only [go_sem, reduceIte, Nat.reduceAdd, Int.reduceToNat, Nat.reduceSub, Nat.reduceMul]
                refine r_joinU J18 [3, 11] () _ rfl rfl ⟨?_, h⟩
                first | exact wkSt_same rfl | (simp (decide := true) only [go_sem, reduceIte, Nat.reduceAdd, Int.reduceToNat, Nat.reduceSub, Nat.reduceMul]; exact wkSt_same rfl)
  · intro k24 hk24 J23
    refine sem_cut fun k25 hk25 => ?_
    simp (decide := true) only [go_sem, reduceIte, Nat.reduceAdd, Int.reduceToNat, Nat.reduceSub, Nat.reduceMul]
    refine r_cN hk25 ?_
    refine sem_ifh rfl h ?_ ?_ <;> clear h <;> intro h
    · refine r_skip (r_joinU J23 [3, 4] () _ rfl rfl ⟨?_, h⟩)
      first | exact wkSt_same rfl | (simp (decide := true) only [go_sem, reduceIte, Nat.reduceAdd, Int.reduceToNat, Nat.reduceSub, Nat.reduceMul]; exact wkSt_same rfl)
    · refine sem_cut fun k26 hk26 => ?_
      simp (decide := true) only [go_sem, reduceIte, Nat.reduceAdd, Int.reduceToNat, Nat.reduceSub, Nat.reduceMul]
      refine r_cN hk26 ?_
      refine sem_ifh rfl h ?_ ?_ <;> clear h <;> intro h
      · refine r_skip (r_joinU J23 [3, 4] () _ rfl rfl ⟨?_, h⟩)
        first | exact wkSt_same rfl | (simp (decide := true) only [go_sem, reduceIte, Nat.reduceAdd, Int.reduceToNat, Nat.reduceSub, Nat.reduceMul]; exact wkSt_same rfl)
      · refine sem_cut fun k27 hk27 => ?_
        simp (decide := true) only [go_sem, reduceIte, Nat.reduceAdd, Int.reduceToNat, Nat.reduceSub, Nat.reduceMul]
        refine r_cN hk27 ?_
        refine sem_ifh rfl h ?_ ?_ <;> clear h <;> intro h
        · refine r_skip (r_joinU J23 [3, 4] () _ rfl rfl ⟨?_, h⟩)
          first | exact wkSt_same rfl | (simp (decide := true) only [go_sem, reduceIte, Nat.reduceAdd, Int.reduceToNat, Nat.reduceSub, Nat.reduceMul]; exact wkSt_same rfl)
        · simp (decide := true) only [go_sem, reduceIte, Nat.reduceAdd, Int.reduceToNat, Nat.reduceSub, Nat.reduceMul]
          refine r_joinU J23 [3, 4] () _ rfl rfl ⟨?_, h⟩
          first | exact wkSt_same rfl | (simp (decide := true) only [go_sem, reduceIte, Nat.reduceAdd, Int.reduceToNat, Nat.reduceSub, Nat.reduceMul]; exact wkSt_same rfl)
noncomputable def spec_l2Arg_j20 (v2 : Int) (v4 : (Int × l26Rd)) (v5 : (Int × l26Rd)) : Int → Option (DevArg × l26Rd)
  | v6 => (some ((⟨v2, v4.1, v6⟩ : DevArg), v5.2))
noncomputable def spec_l2Arg_j44 (v2 : Int) (v12 : (List Int)) (v13 : Int) : Int → Option (DevArg × l26Rd)
  | v16 => (some ((⟨v2, v16, 0⟩ : DevArg), (⟨v12, v13⟩ : l26Rd)))
noncomputable def spec_l2Arg_j38 (v2 : Int) : ((List Int) × Int × Int) → Option (DevArg × l26Rd)
  | (v12, v13, v14) => (Option.bind (spec_DevSize v2) fun v17 => (cond (decide (v14 ≥ v17)) (spec_l2Arg_j44 v2 v12 v13 0) (spec_l2Arg_j44 v2 v12 v13 v14)))
noncomputable def spec_l2Arg (v1 : l26Rd) (v2 : Int) : Option (DevArg × l26Rd) :=
  (cond (v2 == 11) (Option.bind (spec_l26Rd_num v1 [0, 1, 2, 3, 5, (-1), (-7), 10, 100, 32767, (-32768), 1000]) fun v3 => (some ((⟨v2, v3.1, 0⟩ : DevArg), v3.2))) (cond (v2 == 12) (Option.bind (spec_l26Rd_num v1 [0, 1, 5, (-5), 25, (-15), 999999999, (-999999999), 3, 1001, 7]) fun v4 => (Option.bind (spec_l26Rd_pick v4.2 6) fun v5 => (cond (((v4.1).tmod 10) == 0) (spec_l2Arg_j20 v2 v4 v5 1) (spec_l2Arg_j20 v2 v4 v5 (IntKind.i64.wrap (1 + v5.1)))))) (cond (v2 == 13) (Option.bind (spec_l26Rd_pick v1 4) fun v7 => (some ((⟨v2, v7.1, 0⟩ : DevArg), v7.2))) (Option.bind (spec_l26Rd_pick v1 4) fun v8 => (Option.bind (spec_l26Rd_pick v8.2 6) fun v18 => (cond (v18.1 == 0) (Option.bind (spec_DevSize v2) fun v19 => (Option.bind (spec_l26Rd_pick v18.2 v19) fun v20 => (spec_l2Arg_j38 v2 (v20.2.b, v20.2.p, v20.1)))) (spec_l2Arg_j38 v2 (v18.2.b, v18.2.p, v8.1))))))))
set_option maxRecDepth 10000 in
set_option maxHeartbeats 4000000 in
theorem con_spec_l2Arg (v1 : l26Rd) (v2 : Int) (res_ : (DevArg × l26Rd)) (h : spec_l2Arg v1 v2 = some res_) : Con Try.prog C0 101 [.pt 0 0, .sc (.int .i64 (v2))] [.rc [.fz 1 (R e_u8 (v1.b)), .sc (.int .i64 (v1.p))]]
    (fun x σ' => x = .agg [.sc (.int .i64 (res_.1.Kind)), .sc (.int .i64 (res_.1.N)), .sc (.int .i64 (res_.1.P))] ∧ σ' = [.rc [.fz 1 (R e_u8 (res_.2.b)), .sc (.int .i64 (res_.2.p))]]) := by
  refine con_of_sem hP [0, 1, 4, 5, 6, 7, 8, 9, 16, 26, 31, 41, 49] [.cell 4 85] Try.func101 (by unfold Try.f101; rfl) rfl rfl (Nat.le_of_ble_eq_true rfl) rfl ?_
  simp only [enter_cons, enter_nil, List.length_cons, List.length_nil, Nat.reduceAdd]
  generalize hQ : endQ _ _ _ _ = Q
  unfold spec_l2Arg at h
  refine sem_cut fun k1 hk1 => ?_
  simp (decide := true) only [go_sem, reduceIte, Nat.reduceAdd, Int.reduceToNat, Nat.reduceSub, Nat.reduceMul]
  refine r_cN hk1 (sem_cut fun k2 hk2 => ?_)
  refine sem_cut fun k3 hk3 => ?_
  simp (decide := true) only [go_sem, reduceIte, Nat.reduceAdd, Int.reduceToNat, Nat.reduceSub, Nat.reduceMul]
  refine r_cN hk3 (sem_blk fun k4 hk4 => ?_)
  refine sem_cut fun k5 hk5 => ?_
  simp (decide := true) only [go_sem, reduceIte, Nat.reduceAdd, Int.reduceToNat, Nat.reduceSub, Nat.reduceMul]
  refine r_cN hk5 ?_
  refine sem_ifh rfl h ?_ ?_ <;> clear h <;> intro h
  · refine sem_cut fun k6 hk6 => ?_
    obtain ⟨v3, c7H, h⟩ := bind_some' h
    repeat' (first | with_reducible refine And.intro ?_ ?_ | ((with_reducible refine i_call (n := 89) ?_); refine call_open [[0]] ?_) | ((with_reducible refine i_callW (n := 89) ?_); refine callW_use (con_spec_l26Rd_num v1 [0, 1, 2, 3, 5, (-1), (-7), 10, 100, 32767, (-32768), 1000] v3 c7H) ?_; rintro x σ' ⟨rfl, rfl⟩ <;> ((with_reducible refine behind_go ?_))) | exact True.intro | with_reducible assumption | exact fun hf => False.elim hf | (intro hg; first | (simp +contextual [hg]; done) | grind) | omega | simp (decide := true) only [go_sem, reduceIte, Nat.reduceAdd, Int.reduceToNat, Nat.reduceSub, Nat.reduceMul])
    refine r_cN hk6 (r_ret ?_)
    refine r_bR hk4 (r_cR hk2 ?_)
    obtain rfl := Option.some.inj h
    refine r_eAR hQ rfl rfl ?_
    simp (decide := true) only [go_sem, reduceIte, Nat.reduceAdd, Int.reduceToNat, Nat.reduceSub, Nat.reduceMul]
    repeat' (with_reducible refine And.intro ?_ ?_)
    all_goals first | exact wkEnd_same ⟨rfl, rfl⟩ | exact True.intro
  · refine sem_cut fun k8 hk8 => ?_
    simp (decide := true) only [go_sem, reduceIte, Nat.reduceAdd, Int.reduceToNat, Nat.reduceSub, Nat.reduceMul]
    refine r_cN hk8 ?_
    refine sem_ifh rfl h ?_ ?_ <;> clear h <;> intro h
    · refine sem_cut fun k9 hk9 => ?_
      obtain ⟨v4, c10H, h⟩ := bind_some' h
      repeat' (first | with_reducible refine And.intro ?_ ?_ | ((with_reducible refine i_call (n := 89) ?_); refine call_open [[0]] ?_) | ((with_reducible refine i_callW (n := 89) ?_); refine callW_use (con_spec_l26Rd_num v1 [0, 1, 5, (-5), 25, (-15), 999999999, (-999999999), 3, 1001, 7] v4 c10H) ?_; rintro x σ' ⟨rfl, rfl⟩ <;> ((with_reducible refine behind_go ?_))) | exact True.intro | with_reducible assumption | exact fun hf => False.elim hf | (intro hg; first | (simp +contextual [hg]; done) | grind) | omega | simp (decide := true) only [go_sem, reduceIte, Nat.reduceAdd, Int.reduceToNat, Nat.reduceSub, Nat.reduceMul])
      refine r_cN hk9 (sem_cut fun k11 hk11 => ?_)
      obtain ⟨v5, c12H, h⟩ := bind_some' h
      repeat' (first | with_reducible refine And.intro ?_ ?_ | ((with_reducible refine i_call (n := 39) ?_); refine call_open [[0]] ?_) | ((with_reducible refine i_callW (n := 39) ?_); refine callW_use (con_spec_l26Rd_pick v4.2 6 v5 c12H) ?_; rintro x σ' ⟨rfl, rfl⟩ <;> ((with_reducible refine behind_go ?_))) | exact True.intro | with_reducible assumption | exact fun hf => False.elim hf | (intro hg; first | (simp +contextual [hg]; done) | grind) | omega | simp (decide := true) only [go_sem, reduceIte, Nat.reduceAdd, Int.reduceToNat, Nat.reduceSub, Nat.reduceMul])
      refine r_cN hk11 (sem_cutJ (fun (_ : Unit) (x : Int) => (⟨[(1, .sc (.int .i64 (v2))), (4, .pt 1 0), (5, .sc (.int .i64 (v4.1))), (6, .sc (.int .i64 (x)))], [.rc [.fz 1 (R e_u8 (v5.2.b)), .sc (.int .i64 (v5.2.p))], .rc [.sc (.int .i64 (0)), .sc (.int .i64 (0)), .sc (.int .i64 (0))]]⟩ : St)) (fun (_ : Unit) (x : Int) => spec_l2Arg_j20 v2 v4 v5 x = some res_) ?_ ?_)
      · rintro _ v6 h
        simp only [spec_l2Arg_j20] at h
        refine sem_cut fun k14 hk14 => ?_
        simp (decide := true) only [go_sem, reduceIte, Nat.reduceAdd, Int.reduceToNat, Nat.reduceSub, Nat.reduceMul]
        refine r_cN hk14 (r_ret ?_)
        refine r_bR hk4 (r_cR hk2 ?_)
        obtain rfl := Option.some.inj h
        refine r_eAR hQ rfl rfl ?_
        simp (decide := true) only [go_sem, reduceIte, Nat.reduceAdd, Int.reduceToNat, Nat.reduceSub, Nat.reduceMul]
        repeat' (with_reducible refine And.intro ?_ ?_)
        all_goals first | exact wkEnd_same ⟨rfl, rfl⟩ | exact True.intro
      · intro k16 hk16 J15
        refine sem_cut fun k17 hk17 => ?_
        repeat' (first | with_reducible refine And.intro ?_ ?_ | exact True.intro | with_reducible assumption | exact fun hf => False.elim hf | (intro hg; first | (simp +contextual [hg]; done) | grind) | omega | simp (decide := true) only [go_sem, reduceIte, Nat.reduceAdd, Int.reduceToNat, Nat.reduceSub, Nat.reduceMul])
        refine r_cN hk17 ?_
        refine sem_ifh rfl h ?_ ?_ <;> clear h <;> intro h
        · simp (decide := true) only [go_sem, reduceIte, Nat.reduceAdd, Int.reduceToNat, Nat.reduceSub, Nat.reduceMul]
          refine r_joinU J15 [1, 4, 5, 6] () _ rfl rfl ⟨?_, h⟩
          first | exact wkSt_same rfl | (simp (decide := true) only [go_sem, reduceIte, Nat.reduceAdd, Int.reduceToNat, Nat.reduceSub, Nat.reduceMul]; exact wkSt_same rfl)
        · refine r_skip (r_joinU J15 [1, 4, 5, 6] () _ rfl rfl ⟨?_, h⟩)
          first | exact wkSt_same rfl | (simp (decide := true) only [go_sem, reduceIte, Nat.reduceAdd, Int.reduceToNat, Nat.reduceSub, Nat.reduceMul]; exact wkSt_same rfl)
    · refine sem_cut fun k18 hk18 => ?_
      simp (decide := true) only [go_sem, reduceIte, Nat.reduceAdd, Int.reduceToNat, Nat.reduceSub, Nat.reduceMul]
      refine r_cN hk18 ?_
      refine sem_ifh rfl h ?_ ?_ <;> clear h <;> intro h
      · refine sem_cut fun k19 hk19 => ?_
        obtain ⟨v7, c20H, h⟩ := bind_some' h
        repeat' (first | with_reducible refine And.intro ?_ ?_ | ((with_reducible refine i_call (n := 39) ?_); refine call_open [[0]] ?_) | ((with_reducible refine i_callW (n := 39) ?_); refine callW_use (con_spec_l26Rd_pick v1 4 v7 c20H) ?_; rintro x σ' ⟨rfl, rfl⟩ <;> ((with_reducible refine behind_go ?_))) | exact True.intro | with_reducible assumption | exact fun hf => False.elim hf | (intro hg; first | (simp +contextual [hg]; done) | grind) | omega | simp (decide := true) only [go_sem, reduceIte, Nat.reduceAdd, Int.reduceToNat, Nat.reduceSub, Nat.reduceMul])
        refine r_cN hk19 (r_ret ?_)
        refine r_bR hk4 (r_cR hk2 ?_)
        obtain rfl := Option.some.inj h
        refine r_eAR hQ rfl rfl ?_
        simp (decide := true) only [go_sem, reduceIte, Nat.reduceAdd, Int.reduceToNat, Nat.reduceSub, Nat.reduceMul]
        repeat' (with_reducible refine And.intro ?_ ?_)
        all_goals first | exact wkEnd_same ⟨rfl, rfl⟩ | exact True.intro
      · refine r_skip (r_bN hk4 ?_)
        refine r_cN hk2 (sem_cut fun k21 hk21 => ?_)
        obtain ⟨v8, c22H, h⟩ := bind_some' h
        repeat' (first | with_reducible refine And.intro ?_ ?_ | ((with_reducible refine i_call (n := 39) ?_); refine call_open [[0]] ?_) | ((with_reducible refine i_callW (n := 39) ?_); refine callW_use (con_spec_l26Rd_pick v1 4 v8 c22H) ?_; rintro x σ' ⟨rfl, rfl⟩ <;> ((with_reducible refine behind_go ?_))) | exact True.intro | with_reducible assumption | exact fun hf => False.elim hf | (intro hg; first | (simp +contextual [hg]; done) | grind) | omega | simp (decide := true) only [go_sem, reduceIte, Nat.reduceAdd, Int.reduceToNat, Nat.reduceSub, Nat.reduceMul])
        refine r_cN hk21 (sem_cutJ (fun (_ : Unit) (x : ((List Int) × Int × Int)) => (⟨[(1, .sc (.int .i64 (v2))), (4, .pt 1 0), (7, .sc (.int .i64 (x.2.2)))], [.rc [.fz 1 (R e_u8 (x.1)), .sc (.int .i64 (x.2.1))], .rc [.sc (.int .i64 (0)), .sc (.int .i64 (0)), .sc (.int .i64 (0))]]⟩ : St)) (fun (_ : Unit) (x : ((List Int) × Int × Int)) => spec_l2Arg_j38 v2 x = some res_) ?_ ?_)
        · rintro _ ⟨v12, v13, v14⟩ h
          simp only [spec_l2Arg_j38] at h
          refine sem_cutJ (fun (_ : Unit) (x : Int) => (⟨[(1, .sc (.int .i64 (v2))), (4, .pt 1 0), (7, .sc (.int .i64 (x)))], [.rc [.fz 1 (R e_u8 (v12)), .sc (.int .i64 (v13))], .rc [.sc (.int .i64 (0)), .sc (.int .i64 (0)), .sc (.int .i64 (0))]]⟩ : St)) (fun (_ : Unit) (x : Int) => spec_l2Arg_j44 v2 v12 v13 x = some res_) ?_ ?_
          · rintro _ v16 h
            simp only [spec_l2Arg_j44] at h
            refine sem_cut fun k29 hk29 => ?_
            simp (decide := true) only [go_sem, reduceIte, Nat.reduceAdd, Int.reduceToNat, Nat.reduceSub, Nat.reduceMul]
            refine r_cN hk29 (r_ret ?_)
            obtain rfl := Option.some.inj h
            refine r_eAR hQ rfl rfl ?_
            simp (decide := true) only [go_sem, reduceIte, Nat.reduceAdd, Int.reduceToNat, Nat.reduceSub, Nat.reduceMul]
            repeat' (with_reducible refine And.intro ?_ ?_)
            all_goals first | exact wkEnd_same ⟨rfl, rfl⟩ | exact True.intro
          · intro k31 hk31 J30
            refine sem_cut fun k32 hk32 => ?_
            obtain ⟨v17, c33H, h⟩ := bind_some' h
            repeat' (first | with_reducible refine And.intro ?_ ?_ | ((with_reducible refine i_call (n := 116) ?_); refine call_openF [] ?_) | ((with_reducible refine i_callW (n := 116) ?_); refine callW_use (con_spec_DevSize v2 v17 c33H) ?_; rintro x σ' ⟨rfl, rfl⟩ <;> ((refine ⟨?_, ?_⟩; (focus simp (decide := true) only [go_sem, reduceIte, Nat.reduceAdd, Int.reduceToNat, Nat.reduceSub, Nat.reduceMul])); (with_reducible refine behind_go ?_))) | exact True.intro | with_reducible assumption | exact fun hf => False.elim hf | (intro hg; first | (simp +contextual [hg]; done) | grind) | omega | simp (decide := true) only [go_sem, reduceIte, Nat.reduceAdd, Int.reduceToNat, Nat.reduceSub, Nat.reduceMul])
            refine r_cN hk32 ?_
            refine sem_ifh rfl h ?_ ?_ <;> clear h <;> intro h
            · simp (decide := true) only [go_sem, reduceIte, Nat.reduceAdd, Int.reduceToNat, Nat.reduceSub, Nat.reduceMul]
              refine r_joinU J30 [1, 4, 7] () _ rfl rfl ⟨?_, h⟩
              first | exact wkSt_same rfl | (simp (decide := true) only [go_sem, reduceIte, Nat.reduceAdd, Int.reduceToNat, Nat.reduceSub, Nat.reduceMul]; exact wkSt_same rfl)
            · refine r_skip (r_joinU J30 [1, 4, 7] () _ rfl rfl ⟨?_, h⟩)
              first | exact wkSt_same rfl | (simp (decide := true) only [go_sem, reduceIte, Nat.reduceAdd, Int.reduceToNat, Nat.reduceSub, Nat.reduceMul]; exact wkSt_same rfl)
        · intro k35 hk35 J34
          refine sem_cut fun k36 hk36 => ?_
          obtain ⟨v18, c37H, h⟩ := bind_some' h
          repeat' (first | with_reducible refine And.intro ?_ ?_ | ((with_reducible refine i_call (n := 39) ?_); refine call_open [[0]] ?_) | ((with_reducible refine i_callW (n := 39) ?_); refine callW_use (con_spec_l26Rd_pick v8.2 6 v18 c37H) ?_; rintro x σ' ⟨rfl, rfl⟩ <;> ((with_reducible refine behind_go ?_))) | exact True.intro | with_reducible assumption | exact fun hf => False.elim hf | (intro hg; first | (simp +contextual [hg]; done) | grind) | omega | simp (decide := true) only [go_sem, reduceIte, Nat.reduceAdd, Int.reduceToNat, Nat.reduceSub, Nat.reduceMul])
          refine r_cN hk36 ?_
          refine sem_ifh rfl h ?_ ?_ <;> clear h <;> intro h
          · obtain ⟨v19, c38H, h⟩ := bind_some' h
            obtain ⟨v20, c39H, h⟩ := bind_some' h
            repeat' (first | with_reducible refine And.intro ?_ ?_ | ((with_reducible refine i_call (n := 116) ?_); refine call_openF [] ?_) | ((with_reducible refine i_callW (n := 116) ?_); refine callW_use (con_spec_DevSize v2 v19 c38H) ?_; rintro x σ' ⟨rfl, rfl⟩ <;> ((refine ⟨?_, ?_⟩; (focus simp (decide := true) only [go_sem, reduceIte, Nat.reduceAdd, Int.reduceToNat, Nat.reduceSub, Nat.reduceMul])); (with_reducible refine behind_go ?_))) | ((with_reducible refine i_call (n := 39) ?_); refine call_open [[0]] ?_) | ((with_reducible refine i_callW (n := 39) ?_); refine callW_use (con_spec_l26Rd_pick v18.2 v19 v20 c39H) ?_; rintro x σ' ⟨rfl, rfl⟩ <;> ((with_reducible refine behind_go ?_))) | exact True.intro | with_reducible assumption | exact fun hf => False.elim hf | (intro hg; first | (simp +contextual [hg]; done) | grind) | omega | simp (decide := true) only [go_sem, reduceIte, Nat.reduceAdd, Int.reduceToNat, Nat.reduceSub, Nat.reduceMul])
            refine r_joinU J34 [1, 4, 7] () _ rfl rfl ⟨?_, h⟩
            first | exact wkSt_same rfl | (simp (decide := true) only [go_sem, reduceIte, Nat.reduceAdd, Int.reduceToNat, Nat.reduceSub, Nat.reduceMul]; exact wkSt_same rfl)
          · refine r_skip (r_joinU J34 [1, 4, 7] () _ rfl rfl ⟨?_, h⟩)
            first | exact wkSt_same rfl | (simp (decide := true) only [go_sem, reduceIte, Nat.reduceAdd, Int.reduceToNat, Nat.reduceSub, Nat.reduceMul]; exact wkSt_same rfl)
noncomputable def spec_l4Bit (v1 : l26Rd) : Option (DevArg × l26Rd) :=
  (Option.bind (spec_l26Rd_num v1 [1, 1, 2, 3, 3, 4, 6, 7, 8]) fun v2 => (Option.bind (spec_l2Arg v2.2 v2.1) fun v3 => (some (v3.1, v3.2))))
set_option maxRecDepth 10000 in
set_option maxHeartbeats 4000000 in
theorem con_spec_l4Bit (v1 : l26Rd) (res_ : (DevArg × l26Rd)) (h : spec_l4Bit v1 = some res_) : Con Try.prog C0 100 [.pt 0 0] [.rc [.fz 1 (R e_u8 (v1.b)), .sc (.int .i64 (v1.p))]]
    (fun x σ' => x = .agg [.sc (.int .i64 (res_.1.Kind)), .sc (.int .i64 (res_.1.N)), .sc (.int .i64 (res_.1.P))] ∧ σ' = [.rc [.fz 1 (R e_u8 (res_.2.b)), .sc (.int .i64 (res_.2.p))]]) := by
  refine con_of_sem hP [0, 2] [.cell 2 85] Try.func100 (by unfold Try.f100; rfl) rfl rfl (Nat.le_of_ble_eq_true rfl) rfl ?_
  simp only [enter_cons, enter_nil, List.length_cons, List.length_nil, Nat.reduceAdd]
  generalize hQ : endQ _ _ _ _ = Q
  unfold spec_l4Bit at h
  refine sem_cut fun k1 hk1 => ?_
  simp (decide := true) only [go_sem, reduceIte, Nat.reduceAdd, Int.reduceToNat, Nat.reduceSub, Nat.reduceMul]
  refine r_cN hk1 (sem_cut fun k2 hk2 => ?_)
  obtain ⟨v2, c3H, h⟩ := bind_some' h
  obtain ⟨v3, c4H, h⟩ := bind_some' h
  repeat' (first | with_reducible refine And.intro ?_ ?_ | ((with_reducible refine i_call (n := 89) ?_); refine call_open [[0]] ?_) | ((with_reducible refine i_callW (n := 89) ?_); refine callW_use (con_spec_l26Rd_num v1 [1, 1, 2, 3, 3, 4, 6, 7, 8] v2 c3H) ?_; rintro x σ' ⟨rfl, rfl⟩ <;> ((with_reducible refine behind_go ?_))) | ((with_reducible refine i_call (n := 101) ?_); refine call_open [[0]] ?_) | ((with_reducible refine i_callW (n := 101) ?_); refine callW_use (con_spec_l2Arg v2.2 v2.1 v3 c4H) ?_; rintro x σ' ⟨rfl, rfl⟩ <;> ((with_reducible refine behind_go ?_))) | exact True.intro | with_reducible assumption | exact fun hf => False.elim hf | (intro hg; first | (simp +contextual [hg]; done) | grind) | omega | simp (decide := true) only [go_sem, reduceIte, Nat.reduceAdd, Int.reduceToNat, Nat.reduceSub, Nat.reduceMul])
  refine r_cN hk2 (r_ret ?_)
  obtain rfl := Option.some.inj h
  refine r_eAR hQ rfl rfl ?_
  simp (decide := true) only [go_sem, reduceIte, Nat.reduceAdd, Int.reduceToNat, Nat.reduceSub, Nat.reduceMul]
  repeat' (with_reducible refine And.intro ?_ ?_)
  all_goals first | exact wkEnd_same ⟨rfl, rfl⟩ | exact True.intro
noncomputable def spec_l4Whole (v1 : l26Rd) : Option (DevArg × l26Rd) :=
  (Option.bind (spec_l26Rd_num v1 [9, 9, 9, 11, 11, 7, 8]) fun v2 => (Option.bind (spec_l2Arg v2.2 v2.1) fun v3 => (some (v3.1, v3.2))))
set_option maxRecDepth 10000 in
set_option maxHeartbeats 4000000 in
theorem con_spec_l4Whole (v1 : l26Rd) (res_ : (DevArg × l26Rd)) (h : spec_l4Whole v1 = some res_) : Con Try.prog C0 102 [.pt 0 0] [.rc [.fz 1 (R e_u8 (v1.b)), .sc (.int .i64 (v1.p))]]
    (fun x σ' => x = .agg [.sc (.int .i64 (res_.1.Kind)), .sc (.int .i64 (res_.1.N)), .sc (.int .i64 (res_.1.P))] ∧ σ' = [.rc [.fz 1 (R e_u8 (res_.2.b)), .sc (.int .i64 (res_.2.p))]]) := by
  refine con_of_sem hP [0, 2] [.cell 2 85] Try.func102 (by unfold Try.f102; rfl) rfl rfl (Nat.le_of_ble_eq_true rfl) rfl ?_
  simp only [enter_cons, enter_nil, List.length_cons, List.length_nil, Nat.reduceAdd]
  generalize hQ : endQ _ _ _ _ = Q
  unfold spec_l4Whole at h
  refine sem_cut fun k1 hk1 => ?_
  simp (decide := true) only [go_sem, reduceIte, Nat.reduceAdd, Int.reduceToNat, Nat.reduceSub, Nat.reduceMul]
  refine r_cN hk1 (sem_cut fun k2 hk2 => ?_)
  obtain ⟨v2, c3H, h⟩ := bind_some' h
  obtain ⟨v3, c4H, h⟩ := bind_some' h
  repeat' (first | with_reducible refine And.intro ?_ ?_ | ((with_reducible refine i_call (n := 89) ?_); refine call_open [[0]] ?_) | ((with_reducible refine i_callW (n := 89) ?_); refine callW_use (con_spec_l26Rd_num v1 [9, 9, 9, 11, 11, 7, 8] v2 c3H) ?_; rintro x σ' ⟨rfl, rfl⟩ <;> ((with_reducible refine behind_go ?_))) | ((with_reducible refine i_call (n := 101) ?_); refine call_open [[0]] ?_) | ((with_reducible refine i_callW (n := 101) ?_); refine callW_use (con_spec_l2Arg v2.2 v2.1 v3 c4H) ?_; rintro x σ' ⟨rfl, rfl⟩ <;> ((with_reducible refine behind_go ?_))) | exact True.intro | with_reducible assumption | exact fun hf => False.elim hf | (intro hg; first | (simp +contextual [hg]; done) | grind) | omega | simp (decide := true) only [go_sem, reduceIte, Nat.reduceAdd, Int.reduceToNat, Nat.reduceSub, Nat.reduceMul])
  refine r_cN hk2 (r_ret ?_)
  obtain rfl := Option.some.inj h
  refine r_eAR hQ rfl rfl ?_
  simp (decide := true) only [go_sem, reduceIte, Nat.reduceAdd, Int.reduceToNat, Nat.reduceSub, Nat.reduceMul]
  repeat' (with_reducible refine And.intro ?_ ?_)
  all_goals first | exact wkEnd_same ⟨rfl, rfl⟩ | exact True.intro
noncomputable def spec_l4Real (v1 : l26Rd) : Option (DevArg × l26Rd) :=
  (Option.bind (spec_l26Rd_num v1 [10, 10, 10, 12, 13]) fun v2 => (Option.bind (spec_l2Arg v2.2 v2.1) fun v3 => (some (v3.1, v3.2))))
set_option maxRecDepth 10000 in
set_option maxHeartbeats 4000000 in
theorem con_spec_l4Real (v1 : l26Rd) (res_ : (DevArg × l26Rd)) (h : spec_l4Real v1 = some res_) : Con Try.prog C0 103 [.pt 0 0] [.rc [.fz 1 (R e_u8 (v1.b)), .sc (.int .i64 (v1.p))]]
    (fun x σ' => x = .agg [.sc (.int .i64 (res_.1.Kind)), .sc (.int .i64 (res_.1.N)), .sc (.int .i64 (res_.1.P))] ∧ σ' = [.rc [.fz 1 (R e_u8 (res_.2.b)), .sc (.int .i64 (res_.2.p))]]) := by
  refine con_of_sem hP [0, 2] [.cell 2 85] Try.func103 (by unfold Try.f103; rfl) rfl rfl (Nat.le_of_ble_eq_true rfl) rfl ?_
  simp only [enter_cons, enter_nil, List.length_cons, List.length_nil, Nat.reduceAdd]
  generalize hQ : endQ _ _ _ _ = Q
  unfold spec_l4Real at h
  refine sem_cut fun k1 hk1 => ?_
  simp (decide := true) only [go_sem, reduceIte, Nat.reduceAdd, Int.reduceToNat, Nat.reduceSub, Nat.reduceMul]
  refine r_cN hk1 (sem_cut fun k2 hk2 => ?_)
  obtain ⟨v2, c3H, h⟩ := bind_some' h
  obtain ⟨v3, c4H, h⟩ := bind_some' h
  repeat' (first | with_reducible refine And.intro ?_ ?_ | ((with_reducible refine i_call (n := 89) ?_); refine call_open [[0]] ?_) | ((with_reducible refine i_callW (n := 89) ?_); refine callW_use (con_spec_l26Rd_num v1 [10, 10, 10, 12, 13] v2 c3H) ?_; rintro x σ' ⟨rfl, rfl⟩ <;> ((with_reducible refine behind_go ?_))) | ((with_reducible refine i_call (n := 101) ?_); refine call_open [[0]] ?_) | ((with_reducible refine i_callW (n := 101) ?_); refine callW_use (con_spec_l2Arg v2.2 v2.1 v3 c4H) ?_; rintro x σ' ⟨rfl, rfl⟩ <;> ((with_reducible refine behind_go ?_))) | exact True.intro | with_reducible assumption | exact fun hf => False.elim hf | (intro hg; first | (simp +contextual [hg]; done) | grind) | omega | simp (decide := true) only [go_sem, reduceIte, Nat.reduceAdd, Int.reduceToNat, Nat.reduceSub, Nat.reduceMul])
  refine r_cN hk2 (r_ret ?_)
  obtain rfl := Option.some.inj h
  refine r_eAR hQ rfl rfl ?_
  simp (decide := true) only [go_sem, reduceIte, Nat.reduceAdd, Int.reduceToNat, Nat.reduceSub, Nat.reduceMul]
  repeat' (with_reducible refine And.intro ?_ ?_)
  all_goals first | exact wkEnd_same ⟨rfl, rfl⟩ | exact True.intro
noncomputable def spec_l4Contact_j50 (v17 : Int) (v18 : Int) (v19 : Int) : ((List Int) × Int × Int × Int × Int) → Option (Elem × l26Rd)
  | (v24, v25, v26, v27, v28) => (Option.bind (spec_l26Rd_pick (⟨v24, v25⟩ : l26Rd) 6) fun v29 => (some ((⟨(IntKind.i64.wrap (5 + v29.1)), [(⟨v17, v18, v19⟩ : DevArg), (⟨v26, v27, v28⟩ : DevArg)]⟩ : Elem), v29.2)))
noncomputable def spec_l4Contact_j42 : ((List Int) × Int × Int × Int × Int × Int × Int × Int) → Option (Elem × l26Rd)
  | (v15, v16, v17, v18, v19, v20, v21, v22) => (Option.bind (spec_l26Rd_pick (⟨v15, v16⟩ : l26Rd) 4) fun v30 => (cond (v30.1 == 0) (spec_l4Contact_j50 v17 v18 v19 (v30.2.b, v30.2.p, v17, v18, v19)) (spec_l4Contact_j50 v17 v18 v19 (v30.2.b, v30.2.p, v20, v21, v22))))
noncomputable def spec_l4Contact_j21 (v2 : (Int × l26Rd)) : Bool → Option (Elem × l26Rd)
  | v5 => (cond v5 (Option.bind (spec_l4Bit v2.2) fun v6 => (some ((⟨2, [v6.1]⟩ : Elem), v6.2))) (cond (v2.1 == 5) (Option.bind (spec_l26Rd_pick v2.2 2) fun v7 => (Option.bind (spec_l4Bit v7.2) fun v8 => (Option.bind (spec_l2Arg v8.2 5) fun v9 => (some ((⟨(IntKind.i64.wrap (3 + v7.1)), [v8.1, v9.1]⟩ : Elem), v9.2))))) (Option.bind (spec_l4Whole v2.2) fun v10 => (Option.bind (spec_l4Whole v10.2) fun v11 => (Option.bind (spec_l26Rd_pick v11.2 2) fun v31 => (cond (v31.1 == 0) (Option.bind (spec_l4Real v31.2) fun v32 => (Option.bind (spec_l4Real v32.2) fun v33 => (spec_l4Contact_j42 (v33.2.b, v33.2.p, v32.1.Kind, v32.1.N, v32.1.P, v33.1.Kind, v33.1.N, v33.1.P)))) (spec_l4Contact_j42 (v31.2.b, v31.2.p, v10.1.Kind, v10.1.N, v10.1.P, v11.1.Kind, v11.1.N, v11.1.P))))))))
noncomputable def spec_l4Contact_j7 (v2 : (Int × l26Rd)) : Bool → Option (Elem × l26Rd)
  | v3 => (cond v3 (Option.bind (spec_l4Bit v2.2) fun v4 => (some ((⟨1, [v4.1]⟩ : Elem), v4.2))) (cond (v2.1 == 3) (spec_l4Contact_j21 v2 (v2.1 == 3)) (spec_l4Contact_j21 v2 (v2.1 == 4))))
noncomputable def spec_l4Contact (v1 : l26Rd) : Option (Elem × l26Rd) :=
  (Option.bind (spec_l26Rd_pick v1 8) fun v2 => (cond (v2.1 == 0) (spec_l4Contact_j7 v2 (v2.1 == 0)) (cond (v2.1 == 1) (spec_l4Contact_j7 v2 (v2.1 == 1)) (spec_l4Contact_j7 v2 (v2.1 == 2)))))
set_option maxRecDepth 10000 in
set_option maxHeartbeats 4000000 in
theorem con_spec_l4Contact (v1 : l26Rd) (res_ : (Elem × l26Rd)) (h : spec_l4Contact v1 = some res_) : Con Try.prog C0 87 [.pt 0 0] [.rc [.fz 1 (R e_u8 (v1.b)), .sc (.int .i64 (v1.p))]]
    (fun x σ' => x = .agg [.sc (.int .i64 (res_.1.Op)), .sl 1 0 ((res_.1.Args).length)] ∧ σ' = [.rc [.fz 1 (R e_u8 (res_.2.b)), .sc (.int .i64 (res_.2.p))], .arr true 3 (R e_DevArg (res_.1.Args))]) := by
  refine con_of_sem hP [0, 2, 3, 4, 6, 7, 15, 22, 39, 46] [.cell 2 54] Try.func87 (by unfold Try.f87; rfl) rfl rfl (Nat.le_of_ble_eq_true rfl) rfl ?_
  simp only [enter_cons, enter_nil, List.length_cons, List.length_nil, Nat.reduceAdd]
  generalize hQ : endQ _ _ _ _ = Q
  unfold spec_l4Contact at h
  refine sem_cut fun k1 hk1 => ?_
  simp (decide := true) only [go_sem, reduceIte, Nat.reduceAdd, Int.reduceToNat, Nat.reduceSub, Nat.reduceMul]
  refine r_cN hk1 (sem_cut fun k2 hk2 => ?_)
  refine sem_cut fun k3 hk3 => ?_
  obtain ⟨v2, c4H, h⟩ := bind_some' h
  repeat' (first | with_reducible refine And.intro ?_ ?_ | ((with_reducible refine i_call (n := 39) ?_); refine call_open [[0]] ?_) | ((with_reducible refine i_callW (n := 39) ?_); refine callW_use (con_spec_l26Rd_pick v1 8 v2 c4H) ?_; rintro x σ' ⟨rfl, rfl⟩ <;> ((with_reducible refine behind_go ?_))) | exact True.intro | with_reducible assumption | exact fun hf => False.elim hf | (intro hg; first | (simp +contextual [hg]; done) | grind) | omega | simp (decide := true) only [go_sem, reduceIte, Nat.reduceAdd, Int.reduceToNat, Nat.reduceSub, Nat.reduceMul])
  refine r_cN hk3 (sem_blk fun k5 hk5 => ?_)
  refine sem_cutJ (fun (_ : Unit) (x : Bool) => (⟨[(0, .pt 0 0), (2, .pt 1 0), (6, .sc (.int .i64 (v2.1))), (7, .sc (.bool (x)))], [.rc [.fz 1 (R e_u8 (v2.2.b)), .sc (.int .i64 (v2.2.p))], .rc [.sc (.int .i64 (0)), .sc (.slice none 0 0)]]⟩ : St)) (fun (_ : Unit) (x : Bool) => spec_l4Contact_j7 v2 x = some res_) ?_ ?_
  · rintro _ v3 h
    simp only [spec_l4Contact_j7] at h
    refine sem_ifh rfl h ?_ ?_ <;> clear h <;> intro h
    · refine sem_cut fun k8 hk8 => ?_
      obtain ⟨v4, c9H, h⟩ := bind_some' h
      repeat' (first | with_reducible refine And.intro ?_ ?_ | ((with_reducible refine i_call (n := 100) ?_); refine call_open [[0]] ?_) | ((with_reducible refine i_callW (n := 100) ?_); refine callW_use (con_spec_l4Bit v2.2 v4 c9H) ?_; rintro x σ' ⟨rfl, rfl⟩ <;> ((with_reducible refine behind_go ?_))) | exact True.intro | with_reducible assumption | exact fun hf => False.elim hf | (intro hg; first | (simp +contextual [hg]; done) | grind) | omega | simp (decide := true) only [go_sem, reduceIte, Nat.reduceAdd, Int.reduceToNat, Nat.reduceSub, Nat.reduceMul])
      refine r_cN hk8 (r_ret ?_)
      refine r_bR hk5 (r_cR hk2 ?_)
      obtain rfl := Option.some.inj h
      refine r_eOR hQ rfl rfl ?_
      simp (decide := true) only [go_sem, reduceIte, Nat.reduceAdd, Int.reduceToNat, Nat.reduceSub, Nat.reduceMul]
      repeat' (with_reducible refine And.intro ?_ ?_)
      all_goals first | exact wkEnd_same ⟨rfl, rfl⟩ | exact True.intro
    · refine sem_cutJ (fun (_ : Unit) (x : Bool) => (⟨[(0, .pt 0 0), (2, .pt 1 0), (6, .sc (.int .i64 (v2.1))), (15, .sc (.bool (x)))], [.rc [.fz 1 (R e_u8 (v2.2.b)), .sc (.int .i64 (v2.2.p))], .rc [.sc (.int .i64 (0)), .sc (.slice none 0 0)]]⟩ : St)) (fun (_ : Unit) (x : Bool) => spec_l4Contact_j21 v2 x = some res_) ?_ ?_
      · rintro _ v5 h
        simp only [spec_l4Contact_j21] at h
        refine sem_ifh rfl h ?_ ?_ <;> clear h <;> intro h
        · refine sem_cut fun k11 hk11 => ?_
          obtain ⟨v6, c12H, h⟩ := bind_some' h
          repeat' (first | with_reducible refine And.intro ?_ ?_ | ((with_reducible refine i_call (n := 100) ?_); refine call_open [[0]] ?_) | ((with_reducible refine i_callW (n := 100) ?_); refine callW_use (con_spec_l4Bit v2.2 v6 c12H) ?_; rintro x σ' ⟨rfl, rfl⟩ <;> ((with_reducible refine behind_go ?_))) | exact True.intro | with_reducible assumption | exact fun hf => False.elim hf | (intro hg; first | (simp +contextual [hg]; done) | grind) | omega | simp (decide := true) only [go_sem, reduceIte, Nat.reduceAdd, Int.reduceToNat, Nat.reduceSub, Nat.reduceMul])
          refine r_cN hk11 (r_ret ?_)
          refine r_bR hk5 (r_cR hk2 ?_)
          obtain rfl := Option.some.inj h
          refine r_eOR hQ rfl rfl ?_
          simp (decide := true) only [go_sem, reduceIte, Nat.reduceAdd, Int.reduceToNat, Nat.reduceSub, Nat.reduceMul]
          repeat' (with_reducible refine And.intro ?_ ?_)
          all_goals first | exact wkEnd_same ⟨rfl, rfl⟩ | exact True.intro
        · refine sem_cut fun k13 hk13 => ?_
          simp (decide := true) only [go_sem, reduceIte, Nat.reduceAdd, Int.reduceToNat, Nat.reduceSub, Nat.reduceMul]
          refine r_cN hk13 ?_
          refine sem_ifh rfl h ?_ ?_ <;> clear h <;> intro h
          · refine sem_cut fun k14 hk14 => ?_
            obtain ⟨v7, c15H, h⟩ := bind_some' h
            obtain ⟨v8, c16H, h⟩ := bind_some' h
            obtain ⟨v9, c17H, h⟩ := bind_some' h
            repeat' (first | with_reducible refine And.intro ?_ ?_ | ((with_reducible refine i_call (n := 39) ?_); refine call_open [[0]] ?_) | ((with_reducible refine i_callW (n := 39) ?_); refine callW_use (con_spec_l26Rd_pick v2.2 2 v7 c15H) ?_; rintro x σ' ⟨rfl, rfl⟩ <;> ((with_reducible refine behind_go ?_))) | ((with_reducible refine i_call (n := 100) ?_); refine call_open [[0]] ?_) | ((with_reducible refine i_callW (n := 100) ?_); refine callW_use (con_spec_l4Bit v7.2 v8 c16H) ?_; rintro x σ' ⟨rfl, rfl⟩ <;> ((with_reducible refine behind_go ?_))) | ((with_reducible refine i_call (n := 101) ?_); refine call_open [[0]] ?_) | ((with_reducible refine i_callW (n := 101) ?_); refine callW_use (con_spec_l2Arg v8.2 5 v9 c17H) ?_; rintro x σ' ⟨rfl, rfl⟩ <;> ((with_reducible refine behind_go ?_))) | exact True.intro | with_reducible assumption | exact fun hf => False.elim hf | (intro hg; first | (simp +contextual [hg]; done) | grind) | omega | simp (decide := true) only [go_sem, reduceIte, Nat.reduceAdd, Int.reduceToNat, Nat.reduceSub, Nat.reduceMul])
            refine r_cN hk14 (r_ret ?_)
            refine r_bR hk5 (r_cR hk2 ?_)
            obtain rfl := Option.some.inj h
            refine r_eOR hQ rfl rfl ?_
            simp (decide := true) only [go_sem, reduceIte, Nat.reduceAdd, Int.reduceToNat, Nat.reduceSub, Nat.reduceMul]
            repeat' (with_reducible refine And.intro ?_ ?_)
            all_goals first | exact wkEnd_same ⟨rfl, rfl⟩ | exact True.intro
          · refine r_skip (r_bN hk5 ?_)
            refine r_cN hk2 (sem_cut fun k18 hk18 => ?_)
            obtain ⟨v10, c19H, h⟩ := bind_some' h
            repeat' (first | with_reducible refine And.intro ?_ ?_ | ((with_reducible refine i_call (n := 102) ?_); refine call_open [[0]] ?_) | ((with_reducible refine i_callW (n := 102) ?_); refine callW_use (con_spec_l4Whole v2.2 v10 c19H) ?_; rintro x σ' ⟨rfl, rfl⟩ <;> ((with_reducible refine behind_go ?_))) | exact True.intro | with_reducible assumption | exact fun hf => False.elim hf | (intro hg; first | (simp +contextual [hg]; done) | grind) | omega | simp (decide := true) only [go_sem, reduceIte, Nat.reduceAdd, Int.reduceToNat, Nat.reduceSub, Nat.reduceMul])
            refine r_cN hk18 (sem_cut fun k20 hk20 => ?_)
            obtain ⟨v11, c21H, h⟩ := bind_some' h
            repeat' (first | with_reducible refine And.intro ?_ ?_ | ((with_reducible refine i_call (n := 102) ?_); refine call_open [[0]] ?_) | ((with_reducible refine i_callW (n := 102) ?_); refine callW_use (con_spec_l4Whole v10.2 v11 c21H) ?_; rintro x σ' ⟨rfl, rfl⟩ <;> ((with_reducible refine behind_go ?_))) | exact True.intro | with_reducible assumption | exact fun hf => False.elim hf | (intro hg; first | (simp +contextual [hg]; done) | grind) | omega | simp (decide := true) only [go_sem, reduceIte, Nat.reduceAdd, Int.reduceToNat, Nat.reduceSub, Nat.reduceMul])
            refine r_cN hk20 (sem_cutJ (fun (_ : Unit) (x : ((List Int) × Int × Int × Int × Int × Int × Int × Int)) => (⟨[(0, .pt 0 0), (2, .pt 1 0), (3, .pt 2 0), (4, .pt 3 0)], [.rc [.fz 1 (R e_u8 (x.1)), .sc (.int .i64 (x.2.1))], .rc [.sc (.int .i64 (0)), .sc (.slice none 0 0)], .rc [.sc (.int .i64 (x.2.2.1)), .sc (.int .i64 (x.2.2.2.1)), .sc (.int .i64 (x.2.2.2.2.1))], .rc [.sc (.int .i64 (x.2.2.2.2.2.1)), .sc (.int .i64 (x.2.2.2.2.2.2.1)), .sc (.int .i64 (x.2.2.2.2.2.2.2))]]⟩ : St)) (fun (_ : Unit) (x : ((List Int) × Int × Int × Int × Int × Int × Int × Int)) => spec_l4Contact_j42 x = some res_) ?_ ?_)
            · rintro _ ⟨v15, v16, v17, v18, v19, v20, v21, v22⟩ h
              simp only [spec_l4Contact_j42] at h
              refine sem_cutJ (fun (_ : Unit) (x : ((List Int) × Int × Int × Int × Int)) => (⟨[(0, .pt 0 0), (2, .pt 1 0), (3, .pt 2 0), (4, .pt 3 0)], [.rc [.fz 1 (R e_u8 (x.1)), .sc (.int .i64 (x.2.1))], .rc [.sc (.int .i64 (0)), .sc (.slice none 0 0)], .rc [.sc (.int .i64 (v17)), .sc (.int .i64 (v18)), .sc (.int .i64 (v19))], .rc [.sc (.int .i64 (x.2.2.1)), .sc (.int .i64 (x.2.2.2.1)), .sc (.int .i64 (x.2.2.2.2))]]⟩ : St)) (fun (_ : Unit) (x : ((List Int) × Int × Int × Int × Int)) => spec_l4Contact_j50 v17 v18 v19 x = some res_) ?_ ?_
              · rintro _ ⟨v24, v25, v26, v27, v28⟩ h
                simp only [spec_l4Contact_j50] at h
                refine sem_cut fun k29 hk29 => ?_
                obtain ⟨v29, c30H, h⟩ := bind_some' h
                with_reducible refine sem_plan (id := 18) (.take 0 (.take 3 (.take 4 (.two 1 5 (.take 2 (.last 5 (.take 6 (.last 7 .done)))) (.one 1 (.take 2 (.take 6 (.last 7 .done)))))))) [2, 3] ?_ ?_
                focus kernel_rfl
                repeat' (first | with_reducible refine And.intro ?_ ?_ | ((with_reducible refine i_call (n := 39) ?_); refine call_open [[0]] ?_) | ((with_reducible refine i_callW (n := 39) ?_); refine callW_use (con_spec_l26Rd_pick (⟨v24, v25⟩ : l26Rd) 6 v29 c30H) ?_; rintro x σ' ⟨rfl, rfl⟩ <;> ((with_reducible refine behind_go ?_))) | exact True.intro | with_reducible assumption | exact fun hf => False.elim hf | (intro hg; first | (simp +contextual [hg]; done) | grind) | omega | simp (decide := true) only [go_sem, reduceIte, Nat.reduceAdd, Int.reduceToNat, Nat.reduceSub, Nat.reduceMul])
                all_goals
                  refine r_cN hk29 (r_ret ?_)
                  obtain rfl := Option.some.inj h
                  refine r_eOR hQ rfl rfl ?_
                  simp (decide := true) only [go_sem, reduceIte, Nat.reduceAdd, Int.reduceToNat, Nat.reduceSub, Nat.reduceMul]
                  repeat' (with_reducible refine And.intro ?_ ?_)
                  all_goals first | exact wkEnd_same ⟨rfl, rfl⟩ | exact True.intro
              · intro k32 hk32 J31
                refine sem_cut fun k33 hk33 => ?_
                obtain ⟨v30, c34H, h⟩ := bind_some' h
                repeat' (first | with_reducible refine And.intro ?_ ?_ | ((with_reducible refine i_call (n := 39) ?_); refine call_open [[0]] ?_) | ((with_reducible refine i_callW (n := 39) ?_); refine callW_use (con_spec_l26Rd_pick (⟨v15, v16⟩ : l26Rd) 4 v30 c34H) ?_; rintro x σ' ⟨rfl, rfl⟩ <;> ((with_reducible refine behind_go ?_))) | exact True.intro | with_reducible assumption | exact fun hf => False.elim hf | (intro hg; first | (simp +contextual [hg]; done) | grind) | omega | simp (decide := true) only [go_sem, reduceIte, Nat.reduceAdd, Int.reduceToNat, Nat.reduceSub, Nat.reduceMul])
                refine r_cN hk33 ?_
                refine sem_ifh rfl h ?_ ?_ <;> clear h <;> intro h
                · simp (decide := true) only [go_sem, reduceIte, Nat.reduceAdd, Int.reduceToNat, Nat.reduceSub, Nat.reduceMul]
                  refine r_joinU J31 [0, 2, 3, 4] () _ rfl rfl ⟨?_, h⟩
                  first | exact wkSt_same rfl | (simp (decide := true) only [go_sem, reduceIte, Nat.reduceAdd, Int.reduceToNat, Nat.reduceSub, Nat.reduceMul]; exact wkSt_same rfl)
                · refine r_skip (r_joinU J31 [0, 2, 3, 4] () _ rfl rfl ⟨?_, h⟩)
                  first | exact wkSt_same rfl | (simp (decide := true) only [go_sem, reduceIte, Nat.reduceAdd, Int.reduceToNat, Nat.reduceSub, Nat.reduceMul]; exact wkSt_same rfl)
            · intro k36 hk36 J35
              refine sem_cut fun k37 hk37 => ?_
              obtain ⟨v31, c38H, h⟩ := bind_some' h
              repeat' (first | with_reducible refine And.intro ?_ ?_ | ((with_reducible refine i_call (n := 39) ?_); refine call_open [[0]] ?_) | ((with_reducible refine i_callW (n := 39) ?_); refine callW_use (con_spec_l26Rd_pick v11.2 2 v31 c38H) ?_; rintro x σ' ⟨rfl, rfl⟩ <;> ((with_reducible refine behind_go ?_))) | exact True.intro | with_reducible assumption | exact fun hf => False.elim hf | (intro hg; first | (simp +contextual [hg]; done) | grind) | omega | simp (decide := true) only [go_sem, reduceIte, Nat.reduceAdd, Int.reduceToNat, Nat.reduceSub, Nat.reduceMul])
              refine r_cN hk37 ?_
              refine sem_ifh rfl h ?_ ?_ <;> clear h <;> intro h
              · refine sem_cut fun k39 hk39 => ?_
                obtain ⟨v32, c40H, h⟩ := bind_some' h
                repeat' (first | with_reducible refine And.intro ?_ ?_ | ((with_reducible refine i_call (n := 103) ?_); refine call_open [[0]] ?_) | ((with_reducible refine i_callW (n := 103) ?_); refine callW_use (con_spec_l4Real v31.2 v32 c40H) ?_; rintro x σ' ⟨rfl, rfl⟩ <;> ((with_reducible refine behind_go ?_))) | exact True.intro | with_reducible assumption | exact fun hf => False.elim hf | (intro hg; first | (simp +contextual [hg]; done) | grind) | omega | simp (decide := true) only [go_sem, reduceIte, Nat.reduceAdd, Int.reduceToNat, Nat.reduceSub, Nat.reduceMul])
                refine r_cN hk39 ?_
                obtain ⟨v33, c41H, h⟩ := bind_some' h
                repeat' (first | with_reducible refine And.intro ?_ ?_ | ((with_reducible refine i_call (n := 103) ?_); refine call_open [[0]] ?_) | ((with_reducible refine i_callW (n := 103) ?_); refine callW_use (con_spec_l4Real v32.2 v33 c41H) ?_; rintro x σ' ⟨rfl, rfl⟩ <;> ((with_reducible refine behind_go ?_))) | exact True.intro | with_reducible assumption | exact fun hf => False.elim hf | (intro hg; first | (simp +contextual [hg]; done) | grind) | omega | simp (decide := true) only [go_sem, reduceIte, Nat.reduceAdd, Int.reduceToNat, Nat.reduceSub, Nat.reduceMul])
                refine r_joinU J35 [0, 2, 3, 4] () _ rfl rfl ⟨?_, h⟩
                first | exact wkSt_same rfl | (simp (decide := true) only [go_sem, reduceIte, Nat.reduceAdd, Int.reduceToNat, Nat.reduceSub, Nat.reduceMul]; exact wkSt_same rfl)
              · refine r_skip (r_joinU J35 [0, 2, 3, 4] () _ rfl rfl ⟨?_, h⟩)
                first | exact wkSt_same rfl | (simp (decide := true) only [go_sem, reduceIte, Nat.reduceAdd, Int.reduceToNat, Nat.reduceSub, Nat.reduceMul]; exact wkSt_same rfl)
      · intro k43 hk43 J42
        refine sem_cut fun k44 hk44 => ?_
        simp (decide := true) only [go_sem, reduceIte, Nat.reduceAdd, Int.reduceToNat, Nat.reduceSub, Nat.reduceMul]
        refine r_cN hk44 ?_
        refine sem_ifh rfl h ?_ ?_ <;> clear h <;> intro h
        · refine r_skip (r_joinU J42 [0, 2, 6, 15] () _ rfl rfl ⟨?_, h⟩)
          first | exact wkSt_same rfl | (simp (decide := true) only [go_sem, reduceIte, Nat.reduceAdd, Int.reduceToNat, Nat.reduceSub, Nat.reduceMul]; exact wkSt_same rfl)
        · simp (decide := true) only [go_sem, reduceIte, Nat.reduceAdd, Int.reduceToNat, Nat.reduceSub, Nat.reduceMul]
          refine r_joinU J42 [0, 2, 6, 15] () _ rfl rfl ⟨?_, h⟩
          first | exact wkSt_same rfl | (simp (decide := true) only [go_sem, reduceIte, Nat.reduceAdd, Int.reduceToNat, Nat.reduceSub, Nat.reduceMul]; exact wkSt_same rfl)
  · intro k46 hk46 J45
    refine sem_cut fun k47 hk47 => ?_
    simp (decide := true) only [go_sem, reduceIte, Nat.reduceAdd, Int.reduceToNat, Nat.reduceSub, Nat.reduceMul]
    refine r_cN hk47 ?_
    refine sem_ifh rfl h ?_ ?_ <;> clear h <;> intro h
    · refine r_skip (r_joinU J45 [0, 2, 6, 7] () _ rfl rfl ⟨?_, h⟩)
      first | exact wkSt_same rfl | (simp (decide := true) only [go_sem, reduceIte, Nat.reduceAdd, Int.reduceToNat, Nat.reduceSub, Nat.reduceMul]; exact wkSt_same rfl)
    · refine sem_cut fun k48 hk48 => ?_
      simp (decide := true) only [go_sem, reduceIte, Nat.reduceAdd, Int.reduceToNat, Nat.reduceSub, Nat.reduceMul]
      refine r_cN hk48 ?_
      refine sem_ifh rfl h ?_ ?_ <;> clear h <;> intro h
      · refine r_skip (r_joinU J45 [0, 2, 6, 7] () _ rfl rfl ⟨?_, h⟩)
        first | exact wkSt_same rfl | (simp (decide := true) only [go_sem, reduceIte, Nat.reduceAdd, Int.reduceToNat, Nat.reduceSub, Nat.reduceMul]; exact wkSt_same rfl)
      · simp (decide := true) only [go_sem, reduceIte, Nat.reduceAdd, Int.reduceToNat, Nat.reduceSub, Nat.reduceMul]
        refine r_joinU J45 [0, 2, 6, 7] () _ rfl rfl ⟨?_, h⟩
        first | exact wkSt_same rfl | (simp (decide := true) only [go_sem, reduceIte, Nat.reduceAdd, Int.reduceToNat, Nat.reduceSub, Nat.reduceMul]; exact wkSt_same rfl)
noncomputable def spec_ElemArity_j33 (v1 : Int) : Bool → Option Int
  | v3 => (cond v3 (some 3) (cond (((decide (v1 ≥ 1)) && (decide (v1 ≤ 10))) || ((decide (v1 ≥ 21)) && (decide (v1 ≤ 37)))) (some 2) (some 0)))
noncomputable def spec_ElemArity_j7 (v1 : Int) : Bool → Option Int
  | v2 => (cond v2 (some 1) (cond (v1 == 31) (spec_ElemArity_j33 v1 (v1 == 31)) (cond (v1 == 32) (spec_ElemArity_j33 v1 (v1 == 32)) (cond (v1 == 33) (spec_ElemArity_j33 v1 (v1 == 33)) (cond (v1 == 34) (spec_ElemArity_j33 v1 (v1 == 34)) (spec_ElemArity_j33 v1 (v1 == 35)))))))
noncomputable def spec_ElemArity (v1 : Int) : Option Int :=
  (cond (v1 == 1) (spec_ElemArity_j7 v1 (v1 == 1)) (cond (v1 == 2) (spec_ElemArity_j7 v1 (v1 == 2)) (cond (v1 == 21) (spec_ElemArity_j7 v1 (v1 == 21)) (cond (v1 == 22) (spec_ElemArity_j7 v1 (v1 == 22)) (cond (v1 == 23) (spec_ElemArity_j7 v1 (v1 == 23)) (spec_ElemArity_j7 v1 (v1 == 25)))))))
set_option maxRecDepth 10000 in
set_option maxHeartbeats 4000000 in
theorem con_spec_ElemArity (v1 : Int) (res_ : Int) (h : spec_ElemArity v1 = some res_) : Con Try.prog C0 56 [.sc (.int .i64 (v1))] []
    (fun x σ' => x = .sc (.int .i64 (res_)) ∧ σ' = []) := by
  refine con_of_sem hP [0, 2, 3, 4, 11, 30] [.tmp 2] Try.func56 (by unfold Try.f56; rfl) rfl rfl (Nat.le_of_ble_eq_true rfl) rfl ?_
  simp only [enter_cons, enter_nil, List.length_cons, List.length_nil, Nat.reduceAdd]
  generalize hQ : endQ _ _ _ _ = Q
  unfold spec_ElemArity at h
  refine sem_cut fun k1 hk1 => ?_
  simp (decide := true) only [go_sem, reduceIte, Nat.reduceAdd, Int.reduceToNat, Nat.reduceSub, Nat.reduceMul]
  refine r_cN hk1 (sem_cut fun k2 hk2 => ?_)
  refine sem_cut fun k3 hk3 => ?_
  simp (decide := true) only [go_sem, reduceIte, Nat.reduceAdd, Int.reduceToNat, Nat.reduceSub, Nat.reduceMul]
  refine r_cN hk3 (sem_blk fun k4 hk4 => ?_)
  refine sem_cutJ (fun (_ : Unit) (x : Bool) => (⟨[(0, .sc (.int .i64 (v1))), (3, .sc (.int .i64 (v1))), (4, .sc (.bool (x)))], []⟩ : St)) (fun (_ : Unit) (x : Bool) => spec_ElemArity_j7 v1 x = some res_) ?_ ?_
  · rintro _ v2 h
    simp only [spec_ElemArity_j7] at h
    refine sem_ifh rfl h ?_ ?_ <;> clear h <;> intro h
    · refine sem_cut fun k10 hk10 => ?_
      simp (decide := true) only [go_sem, reduceIte, Nat.reduceAdd, Int.reduceToNat, Nat.reduceSub, Nat.reduceMul]
      refine r_cN hk10 (r_ret ?_)
      refine r_bR hk4 (r_cR hk2 ?_)
      obtain rfl := Option.some.inj h
      refine r_eAR hQ rfl rfl ?_
      simp (decide := true) only [go_sem, reduceIte, Nat.reduceAdd, Int.reduceToNat, Nat.reduceSub, Nat.reduceMul]
      all_goals first | exact wkEnd_same ⟨rfl, rfl⟩ | exact True.intro
    · refine sem_cutJ (fun (_ : Unit) (x : Bool) => (⟨[(0, .sc (.int .i64 (v1))), (11, .sc (.bool (x)))], []⟩ : St)) (fun (_ : Unit) (x : Bool) => spec_ElemArity_j33 v1 x = some res_) ?_ ?_
      · rintro _ v3 h
        simp only [spec_ElemArity_j33] at h
        refine sem_ifh rfl h ?_ ?_ <;> clear h <;> intro h
        · refine sem_cut fun k15 hk15 => ?_
          simp (decide := true) only [go_sem, reduceIte, Nat.reduceAdd, Int.reduceToNat, Nat.reduceSub, Nat.reduceMul]
          refine r_cN hk15 (r_ret ?_)
          refine r_bR hk4 (r_cR hk2 ?_)
          obtain rfl := Option.some.inj h
          refine r_eAR hQ rfl rfl ?_
          simp (decide := true) only [go_sem, reduceIte, Nat.reduceAdd, Int.reduceToNat, Nat.reduceSub, Nat.reduceMul]
          all_goals first | exact wkEnd_same ⟨rfl, rfl⟩ | exact True.intro
        · refine r_skip (r_bN hk4 ?_)
          refine r_cN hk2 (sem_cut fun k16 hk16 => ?_)
          refine sem_cut fun k17 hk17 => ?_
          repeat' (first | with_reducible refine And.intro ?_ ?_ | exact True.intro | with_reducible assumption | exact fun hf => False.elim hf | (intro hg; first | (simp +contextual [hg]; done) | grind) | omega | simp (decide := true) only [go_sem, reduceIte, Nat.reduceAdd, Int.reduceToNat, Nat.reduceSub, Nat.reduceMul])
          refine r_cN hk17 ?_
          refine sem_ifh rfl h ?_ ?_ <;> clear h <;> intro h
          · refine sem_cut fun k18 hk18 => ?_
            simp (decide := true) only [go_sem, reduceIte, Nat.reduceAdd, Int.reduceToNat, Nat.reduceSub, Nat.reduceMul]
            refine r_cN hk18 (r_ret ?_)
            refine r_cR hk16 ?_
            obtain rfl := Option.some.inj h
            refine r_eAR hQ rfl rfl ?_
            simp (decide := true) only [go_sem, reduceIte, Nat.reduceAdd, Int.reduceToNat, Nat.reduceSub, Nat.reduceMul]
            all_goals first | exact wkEnd_same ⟨rfl, rfl⟩ | exact True.intro
          · refine r_skip (r_cN hk16 ?_)
            refine sem_cut fun k19 hk19 => ?_
            simp (decide := true) only [go_sem, reduceIte, Nat.reduceAdd, Int.reduceToNat, Nat.reduceSub, Nat.reduceMul]
            refine r_cN hk19 (r_ret ?_)
            obtain rfl := Option.some.inj h
            refine r_eAR hQ rfl rfl ?_
            simp (decide := true) only [go_sem, reduceIte, Nat.reduceAdd, Int.reduceToNat, Nat.reduceSub, Nat.reduceMul]
            all_goals first | exact wkEnd_same ⟨rfl, rfl⟩ | exact True.intro
      · intro k21 hk21 J20
        refine sem_cut fun k22 hk22 => ?_
        simp (decide := true) only [go_sem, reduceIte, Nat.reduceAdd, Int.reduceToNat, Nat.reduceSub, Nat.reduceMul]
        refine r_cN hk22 ?_
        refine sem_ifh rfl h ?_ ?_ <;> clear h <;> intro h
        · refine r_skip (r_joinU J20 [0, 11] () _ rfl rfl ⟨?_, h⟩)
          first | exact wkSt_same rfl | (simp (decide := true) only [go_sem, reduceIte, Nat.reduceAdd, Int.reduceToNat, Nat.reduceSub, Nat.reduceMul]; exact wkSt_same rfl)
        · refine sem_cut fun k23 hk23 => ?_
          simp (decide := true) only [go_sem, reduceIte, Nat.reduceAdd, Int.reduceToNat, Nat.reduceSub, Nat.reduceMul]
          refine r_cN hk23 ?_
          refine sem_ifh rfl h ?_ ?_ <;> clear h <;> intro h
          · refine r_skip (r_joinU J20 [0, 11] () _ rfl rfl ⟨?_, h⟩)
            first | exact wkSt_same rfl | (simp (decide := true) only [go_sem, reduceIte, Nat.reduceAdd, Int.reduceToNat, Nat.reduceSub, Nat.reduceMul]; exact wkSt_same rfl)
          · refine sem_cut fun k24 hk24 => ?_
            simp (decide := true) only [go_sem, reduceIte, Nat.reduceAdd, Int.reduceToNat, Nat.reduceSub, Nat.reduceMul]
            refine r_cN hk24 ?_
            refine sem_ifh rfl h ?_ ?_ <;> clear h <;> intro h
            · refine r_skip (r_joinU J20 [0, 11] () _ rfl rfl ⟨?_, h⟩)
              first | exact wkSt_same rfl | (simp (decide := true) only [go_sem, reduceIte, Nat.reduceAdd, Int.reduceToNat, Nat.reduceSub, Nat.reduceMul]; exact wkSt_same rfl)
            · refine sem_cut fun k25 hk25 => ?_
              simp (decide := true) only [go_sem, reduceIte, Nat.reduceAdd, Int.reduceToNat, Nat.reduceSub, Nat.reduceMul]
              refine r_cN hk25 ?_
              refine sem_ifh rfl h ?_ ?_ <;> clear h <;> intro h
              · refine r_skip (r_joinU J20 [0, 11] () _ rfl rfl ⟨?_, h⟩)
                first | exact wkSt_same rfl | (simp (decide := true) only [go_sem, reduceIte, Nat.reduceAdd, Int.reduceToNat, Nat.reduceSub, Nat.reduceMul]; exact wkSt_same rfl)
              · simp (decide := true) only [go_sem, reduceIte, Nat.reduceAdd, Int.reduceToNat, Nat.reduceSub, Nat.reduceMul]
                refine r_joinU J20 [0, 11] () _ rfl rfl ⟨?_, h⟩
                first | exact wkSt_same rfl | (simp (decide := true) only [go_sem, reduceIte, Nat.reduceAdd, Int.reduceToNat, Nat.reduceSub, Nat.reduceMul]; exact wkSt_same rfl)
  · intro k27 hk27 J26
    refine sem_cut fun k28 hk28 => ?_
    simp (decide := true) only [go_sem, reduceIte, Nat.reduceAdd, Int.reduceToNat, Nat.reduceSub, Nat.reduceMul]
    refine r_cN hk28 ?_
    refine sem_ifh rfl h ?_ ?_ <;> clear h <;> intro h
    · refine r_skip (r_joinU J26 [0, 3, 4] () _ rfl rfl ⟨?_, h⟩)
      first | exact wkSt_same rfl | (simp (decide := true) only [go_sem, reduceIte, Nat.reduceAdd, Int.reduceToNat, Nat.reduceSub, Nat.reduceMul]; exact wkSt_same rfl)
    · refine sem_cut fun k29 hk29 => ?_
      simp (decide := true) only [go_sem, reduceIte, Nat.reduceAdd, Int.reduceToNat, Nat.reduceSub, Nat.reduceMul]
      refine r_cN hk29 ?_
      refine sem_ifh rfl h ?_ ?_ <;> clear h <;> intro h
      · refine r_skip (r_joinU J26 [0, 3, 4] () _ rfl rfl ⟨?_, h⟩)
        first | exact wkSt_same rfl | (simp (decide := true) only [go_sem, reduceIte, Nat.reduceAdd, Int.reduceToNat, Nat.reduceSub, Nat.reduceMul]; exact wkSt_same rfl)
      · refine sem_cut fun k30 hk30 => ?_
        simp (decide := true) only [go_sem, reduceIte, Nat.reduceAdd, Int.reduceToNat, Nat.reduceSub, Nat.reduceMul]
        refine r_cN hk30 ?_
        refine sem_ifh rfl h ?_ ?_ <;> clear h <;> intro h
        · refine r_skip (r_joinU J26 [0, 3, 4] () _ rfl rfl ⟨?_, h⟩)
          first | exact wkSt_same rfl | (simp (decide := true) only [go_sem, reduceIte, Nat.reduceAdd, Int.reduceToNat, Nat.reduceSub, Nat.reduceMul]; exact wkSt_same rfl)
        · refine sem_cut fun k31 hk31 => ?_
          simp (decide := true) only [go_sem, reduceIte, Nat.reduceAdd, Int.reduceToNat, Nat.reduceSub, Nat.reduceMul]
          refine r_cN hk31 ?_
          refine sem_ifh rfl h ?_ ?_ <;> clear h <;> intro h
          · refine r_skip (r_joinU J26 [0, 3, 4] () _ rfl rfl ⟨?_, h⟩)
            first | exact wkSt_same rfl | (simp (decide := true) only [go_sem, reduceIte, Nat.reduceAdd, Int.reduceToNat, Nat.reduceSub, Nat.reduceMul]; exact wkSt_same rfl)
          · refine sem_cut fun k32 hk32 => ?_
            simp (decide := true) only [go_sem, reduceIte, Nat.reduceAdd, Int.reduceToNat, Nat.reduceSub, Nat.reduceMul]
            refine r_cN hk32 ?_
            refine sem_ifh rfl h ?_ ?_ <;> clear h <;> intro h
            · refine r_skip (r_joinU J26 [0, 3, 4] () _ rfl rfl ⟨?_, h⟩)
              first | exact wkSt_same rfl | (simp (decide := true) only [go_sem, reduceIte, Nat.reduceAdd, Int.reduceToNat, Nat.reduceSub, Nat.reduceMul]; exact wkSt_same rfl)
            · simp (decide := true) only [go_sem, reduceIte, Nat.reduceAdd, Int.reduceToNat, Nat.reduceSub, Nat.reduceMul]
              refine r_joinU J26 [0, 3, 4] () _ rfl rfl ⟨?_, h⟩
              first | exact wkSt_same rfl | (simp (decide := true) only [go_sem, reduceIte, Nat.reduceAdd, Int.reduceToNat, Nat.reduceSub, Nat.reduceMul]; exact wkSt_same rfl)
noncomputable def spec_l4Coil_j49 (v2 : (Int × l26Rd)) (v5 : (DevArg × l26Rd)) (v7 : (List Int)) (v8 : Int) (v9 : Int) : Bool → Option (Elem × l26Rd)
  | v16 => (cond v16 (Option.bind (spec_l2Arg (⟨v7, v8⟩ : l26Rd) 7) fun v17 => (some ((⟨v2.1, [v17.1, (⟨v5.1.Kind, v9, v5.1.P⟩ : DevArg)]⟩ : Elem), v17.2))) (cond (v2.1 == 29) (Option.bind (spec_l2Arg (⟨v7, v8⟩ : l26Rd) 8) fun v18 => (some ((⟨v2.1, [v18.1, (⟨v5.1.Kind, v9, v5.1.P⟩ : DevArg)]⟩ : Elem), v18.2))) (cond (v2.1 == 36) (Option.bind (spec_l2Arg (⟨v7, v8⟩ : l26Rd) 10) fun v19 => (Option.bind (spec_l4Whole v19.2) fun v20 => (some ((⟨v2.1, [v19.1, v20.1]⟩ : Elem), v20.2)))) (cond (v2.1 == 37) (Option.bind (spec_l2Arg (⟨v7, v8⟩ : l26Rd) 9) fun v21 => (Option.bind (spec_l4Real v21.2) fun v22 => (some ((⟨v2.1, [v21.1, v22.1]⟩ : Elem), v22.2)))) (cond (v2.1 == 35) (Option.bind (spec_l2Arg (⟨v7, v8⟩ : l26Rd) 9) fun v24 => (Option.bind (spec_l4Whole v24.2) fun v25 => (Option.bind (spec_l4Whole v25.2) fun v26 => (Option.bind (spec_ElemArity v2.1) fun v27 => (gd (decide (0 ≤ v27) && decide (v27 ≤ ((3 : Nat) : Int))) (some ((⟨v2.1, ([v24.1, v25.1, v26.1]).take ((v27).toNat)⟩ : Elem), v26.2))))))) (Option.bind (spec_l26Rd_pick (⟨v7, v8⟩ : l26Rd) 2) fun v23 => (cond (v23.1 == 0) (Option.bind (spec_l2Arg v23.2 9) fun v28 => (Option.bind (spec_l4Whole v28.2) fun v29 => (Option.bind (spec_l4Whole v29.2) fun v30 => (Option.bind (spec_ElemArity v2.1) fun v31 => (gd (decide (0 ≤ v31) && decide (v31 ≤ ((3 : Nat) : Int))) (some ((⟨v2.1, ([v28.1, v29.1, v30.1]).take ((v31).toNat)⟩ : Elem), v30.2))))))) (Option.bind (spec_l2Arg v23.2 10) fun v32 => (Option.bind (spec_l4Real v32.2) fun v33 => (Option.bind (spec_l4Real v33.2) fun v34 => (Option.bind (spec_ElemArity v2.1) fun v35 => (gd (decide (0 ≤ v35) && decide (v35 ≤ ((3 : Nat) : Int))) (some ((⟨v2.1, ([v32.1, v33.1, v34.1]).take ((v35).toNat)⟩ : Elem), v34.2))))))))))))))
noncomputable def spec_l4Coil_j9 (v2 : (Int × l26Rd)) (v4 : (DevArg × l26Rd)) (v5 : (DevArg × l26Rd)) : ((List Int) × Int × Int) → Option (Elem × l26Rd)
  | (v7, v8, v9) => (cond (v2.1 == 21) (some ((⟨v2.1, [v4.1]⟩ : Elem), (⟨v7, v8⟩ : l26Rd))) (cond (v2.1 == 22) (Option.bind (spec_l26Rd_pick (⟨v7, v8⟩ : l26Rd) 3) fun v10 => (Option.bind (spec_l2Arg v10.2 (IntKind.i64.wrap (2 + v10.1))) fun v11 => (some ((⟨v2.1, [v11.1]⟩ : Elem), v11.2)))) (cond (v2.1 == 23) (Option.bind (spec_l26Rd_num (⟨v7, v8⟩ : l26Rd) [2, 3, 4, 7, 8]) fun v12 => (Option.bind (spec_l2Arg v12.2 v12.1) fun v13 => (some ((⟨v2.1, [v13.1]⟩ : Elem), v13.2)))) (cond (v2.1 == 24) (Option.bind (spec_l2Arg (⟨v7, v8⟩ : l26Rd) 5) fun v14 => (some ((⟨v2.1, [v4.1, v14.1]⟩ : Elem), v14.2))) (cond (v2.1 == 25) (Option.bind (spec_l2Arg (⟨v7, v8⟩ : l26Rd) 4) fun v15 => (some ((⟨v2.1, [v15.1]⟩ : Elem), v15.2))) (cond (v2.1 == 26) (spec_l4Coil_j49 v2 v5 v7 v8 v9 (v2.1 == 26)) (cond (v2.1 == 27) (spec_l4Coil_j49 v2 v5 v7 v8 v9 (v2.1 == 27)) (spec_l4Coil_j49 v2 v5 v7 v8 v9 (v2.1 == 28)))))))))
noncomputable def spec_l4Coil (v1 : l26Rd) : Option (Elem × l26Rd) :=
  (Option.bind (spec_l26Rd_num v1 [21, 21, 21, 22, 23, 24, 25, 26, 26, 27, 28, 29, 29, 30, 31, 31, 32, 33, 34, 35, 36, 37]) fun v2 => (Option.bind (spec_l26Rd_pick v2.2 2) fun v3 => (Option.bind (spec_l2Arg v3.2 (IntKind.i64.wrap (2 + v3.1))) fun v4 => (Option.bind (spec_l2Arg v4.2 11) fun v5 => (cond (decide (v5.1.N < 0)) (Option.bind (spec_l26Rd_pick v5.2 9) fun v36 => (spec_l4Coil_j9 v2 v4 v5 (v36.2.b, v36.2.p, v36.1))) (spec_l4Coil_j9 v2 v4 v5 (v5.2.b, v5.2.p, v5.1.N)))))))
set_option maxRecDepth 10000 in
set_option maxHeartbeats 4000000 in
theorem con_spec_l4Coil (v1 : l26Rd) (res_ : (Elem × l26Rd)) (h : spec_l4Coil v1 = some res_) : Con Try.prog C0 88 [.pt 0 0] [.rc [.fz 1 (R e_u8 (v1.b)), .sc (.int .i64 (v1.p))]]
    (fun x σ' => x = .agg [.sc (.int .i64 (res_.1.Op)), .fz 3 (R e_DevArg (res_.1.Args))] ∧ σ' = [.rc [.fz 1 (R e_u8 (res_.2.b)), .sc (.int .i64 (res_.2.p))]]) := by
  refine con_of_sem hP [0, 2, 3, 4, 5, 6, 7, 20, 24, 25, 31, 41, 51, 59, 66, 76, 84, 93, 108] [.cell 2 54] Try.func88 (by unfold Try.f88; rfl) rfl rfl (Nat.le_of_ble_eq_true rfl) rfl ?_
  simp only [enter_cons, enter_nil, List.length_cons, List.length_nil, Nat.reduceAdd]
  generalize hQ : endQ _ _ _ _ = Q
  unfold spec_l4Coil at h
  refine sem_cut fun k1 hk1 => ?_
  simp (decide := true) only [go_sem, reduceIte, Nat.reduceAdd, Int.reduceToNat, Nat.reduceSub, Nat.reduceMul]
  refine r_cN hk1 (sem_cut fun k2 hk2 => ?_)
  obtain ⟨v2, c3H, h⟩ := bind_some' h
  repeat' (first | with_reducible refine And.intro ?_ ?_ | ((with_reducible refine i_call (n := 89) ?_); refine call_open [[0]] ?_) | ((with_reducible refine i_callW (n := 89) ?_); refine callW_use (con_spec_l26Rd_num v1 [21, 21, 21, 22, 23, 24, 25, 26, 26, 27, 28, 29, 29, 30, 31, 31, 32, 33, 34, 35, 36, 37] v2 c3H) ?_; rintro x σ' ⟨rfl, rfl⟩ <;> ((with_reducible refine behind_go ?_))) | exact True.intro | with_reducible assumption | exact fun hf => False.elim hf | (intro hg; first | (simp +contextual [hg]; done) | grind) | omega | simp (decide := true) only [go_sem, reduceIte, Nat.reduceAdd, Int.reduceToNat, Nat.reduceSub, Nat.reduceMul])
  refine r_cN hk2 (sem_cut fun k4 hk4 => ?_)
  obtain ⟨v3, c5H, h⟩ := bind_some' h
  obtain ⟨v4, c6H, h⟩ := bind_some' h
  repeat' (first | with_reducible refine And.intro ?_ ?_ | ((with_reducible refine i_call (n := 39) ?_); refine call_open [[0]] ?_) | ((with_reducible refine i_callW (n := 39) ?_); refine callW_use (con_spec_l26Rd_pick v2.2 2 v3 c5H) ?_; rintro x σ' ⟨rfl, rfl⟩ <;> ((with_reducible refine behind_go ?_))) | ((with_reducible refine i_call (n := 101) ?_); refine call_open [[0]] ?_) | ((with_reducible refine i_callW (n := 101) ?_); refine callW_use (con_spec_l2Arg v3.2 (IntKind.i64.wrap (2 + v3.1)) v4 c6H) ?_; rintro x σ' ⟨rfl, rfl⟩ <;> ((with_reducible refine behind_go ?_))) | exact True.intro | with_reducible assumption | exact fun hf => False.elim hf | (intro hg; first | (simp +contextual [hg]; done) | grind) | omega | simp (decide := true) only [go_sem, reduceIte, Nat.reduceAdd, Int.reduceToNat, Nat.reduceSub, Nat.reduceMul])
  refine r_cN hk4 (sem_cut fun k7 hk7 => ?_)
  obtain ⟨v5, c8H, h⟩ := bind_some' h
  repeat' (first | with_reducible refine And.intro ?_ ?_ | ((with_reducible refine i_call (n := 101) ?_); refine call_open [[0]] ?_) | ((with_reducible refine i_callW (n := 101) ?_); refine callW_use (con_spec_l2Arg v4.2 11 v5 c8H) ?_; rintro x σ' ⟨rfl, rfl⟩ <;> ((with_reducible refine behind_go ?_))) | exact True.intro | with_reducible assumption | exact fun hf => False.elim hf | (intro hg; first | (simp +contextual [hg]; done) | grind) | omega | simp (decide := true) only [go_sem, reduceIte, Nat.reduceAdd, Int.reduceToNat, Nat.reduceSub, Nat.reduceMul])
  refine r_cN hk7 (sem_cutJ (fun (_ : Unit) (x : ((List Int) × Int × Int)) => (⟨[(0, .pt 0 0), (2, .pt 1 0), (3, .sc (.int .i64 (v2.1))), (4, .pt 2 0), (5, .pt 3 0)], [.rc [.fz 1 (R e_u8 (x.1)), .sc (.int .i64 (x.2.1))], .rc [.sc (.int .i64 (0)), .sc (.slice none 0 0)], .rc [.sc (.int .i64 (v4.1.Kind)), .sc (.int .i64 (v4.1.N)), .sc (.int .i64 (v4.1.P))], .rc [.sc (.int .i64 (v5.1.Kind)), .sc (.int .i64 (x.2.2)), .sc (.int .i64 (v5.1.P))]]⟩ : St)) (fun (_ : Unit) (x : ((List Int) × Int × Int)) => spec_l4Coil_j9 v2 v4 v5 x = some res_) ?_ ?_)
  · rintro _ ⟨v7, v8, v9⟩ h
    simp only [spec_l4Coil_j9] at h
    refine sem_cut fun k11 hk11 => sem_cut fun k12 hk12 => ?_
    simp (decide := true) only [go_sem, reduceIte, Nat.reduceAdd, Int.reduceToNat, Nat.reduceSub, Nat.reduceMul]
    refine r_cN hk12 (sem_blk fun k13 hk13 => ?_)
    refine sem_cut fun k14 hk14 => ?_
    simp (decide := true) only [go_sem, reduceIte, Nat.reduceAdd, Int.reduceToNat, Nat.reduceSub, Nat.reduceMul]
    refine r_cN hk14 ?_
    refine sem_ifh rfl h ?_ ?_ <;> clear h <;> intro h
    · refine sem_cut fun k15 hk15 => ?_
      simp (decide := true) only [go_sem, reduceIte, Nat.reduceAdd, Int.reduceToNat, Nat.reduceSub, Nat.reduceMul]
      refine r_cN hk15 (r_ret ?_)
      refine r_bR hk13 (r_cR hk11 ?_)
      obtain rfl := Option.some.inj h
      refine r_eAR hQ rfl rfl ?_
      simp (decide := true) only [go_sem, reduceIte, Nat.reduceAdd, Int.reduceToNat, Nat.reduceSub, Nat.reduceMul]
      repeat' (with_reducible refine And.intro ?_ ?_)
      all_goals first | exact wkEnd_same ⟨rfl, rfl⟩ | exact True.intro
    · refine sem_cut fun k16 hk16 => ?_
      simp (decide := true) only [go_sem, reduceIte, Nat.reduceAdd, Int.reduceToNat, Nat.reduceSub, Nat.reduceMul]
      refine r_cN hk16 ?_
      refine sem_ifh rfl h ?_ ?_ <;> clear h <;> intro h
      · refine sem_cut fun k17 hk17 => ?_
        obtain ⟨v10, c18H, h⟩ := bind_some' h
        obtain ⟨v11, c19H, h⟩ := bind_some' h
        repeat' (first | with_reducible refine And.intro ?_ ?_ | ((with_reducible refine i_call (n := 39) ?_); refine call_open [[0]] ?_) | ((with_reducible refine i_callW (n := 39) ?_); refine callW_use (con_spec_l26Rd_pick (⟨v7, v8⟩ : l26Rd) 3 v10 c18H) ?_; rintro x σ' ⟨rfl, rfl⟩ <;> ((with_reducible refine behind_go ?_))) | ((with_reducible refine i_call (n := 101) ?_); refine call_open [[0]] ?_) | ((with_reducible refine i_callW (n := 101) ?_); refine callW_use (con_spec_l2Arg v10.2 (IntKind.i64.wrap (2 + v10.1)) v11 c19H) ?_; rintro x σ' ⟨rfl, rfl⟩ <;> ((with_reducible refine behind_go ?_))) | exact True.intro | with_reducible assumption | exact fun hf => False.elim hf | (intro hg; first | (simp +contextual [hg]; done) | grind) | omega | simp (decide := true) only [go_sem, reduceIte, Nat.reduceAdd, Int.reduceToNat, Nat.reduceSub, Nat.reduceMul])
        refine r_cN hk17 (r_ret ?_)
        refine r_bR hk13 (r_cR hk11 ?_)
        obtain rfl := Option.some.inj h
        refine r_eAR hQ rfl rfl ?_
        simp (decide := true) only [go_sem, reduceIte, Nat.reduceAdd, Int.reduceToNat, Nat.reduceSub, Nat.reduceMul]
        repeat' (with_reducible refine And.intro ?_ ?_)
        all_goals first | exact wkEnd_same ⟨rfl, rfl⟩ | exact True.intro
      · refine sem_cut fun k20 hk20 => ?_
        simp (decide := true) only [go_sem, reduceIte, Nat.reduceAdd, Int.reduceToNat, Nat.reduceSub, Nat.reduceMul]
        refine r_cN hk20 ?_
        refine sem_ifh rfl h ?_ ?_ <;> clear h <;> intro h
        · refine sem_cut fun k21 hk21 => ?_
          obtain ⟨v12, c22H, h⟩ := bind_some' h
          obtain ⟨v13, c23H, h⟩ := bind_some' h
          repeat' (first | with_reducible refine And.intro ?_ ?_ | ((with_reducible refine i_call (n := 89) ?_); refine call_open [[0]] ?_) | ((with_reducible refine i_callW (n := 89) ?_); refine callW_use (con_spec_l26Rd_num (⟨v7, v8⟩ : l26Rd) [2, 3, 4, 7, 8] v12 c22H) ?_; rintro x σ' ⟨rfl, rfl⟩ <;> ((with_reducible refine behind_go ?_))) | ((with_reducible refine i_call (n := 101) ?_); refine call_open [[0]] ?_) | ((with_reducible refine i_callW (n := 101) ?_); refine callW_use (con_spec_l2Arg v12.2 v12.1 v13 c23H) ?_; rintro x σ' ⟨rfl, rfl⟩ <;> ((with_reducible refine behind_go ?_))) | exact True.intro | with_reducible assumption | exact fun hf => False.elim hf | (intro hg; first | (simp +contextual [hg]; done) | grind) | omega | simp (decide := true) only [go_sem, reduceIte, Nat.reduceAdd, Int.reduceToNat, Nat.reduceSub, Nat.reduceMul])
          refine r_cN hk21 (r_ret ?_)
          refine r_bR hk13 (r_cR hk11 ?_)
          obtain rfl := Option.some.inj h
          refine r_eAR hQ rfl rfl ?_
          simp (decide := true) only [go_sem, reduceIte, Nat.reduceAdd, Int.reduceToNat, Nat.reduceSub, Nat.reduceMul]
          repeat' (with_reducible refine And.intro ?_ ?_)
          all_goals first | exact wkEnd_same ⟨rfl, rfl⟩ | exact True.intro
        · refine sem_cut fun k24 hk24 => ?_
          simp (decide := true) only [go_sem, reduceIte, Nat.reduceAdd, Int.reduceToNat, Nat.reduceSub, Nat.reduceMul]
          refine r_cN hk24 ?_
          refine sem_ifh rfl h ?_ ?_ <;> clear h <;> intro h
          · refine sem_cut fun k25 hk25 => ?_
            obtain ⟨v14, c26H, h⟩ := bind_some' h
            with_reducible refine sem_plan (id := 14) (.take 0 (.take 1 (.take 2 (.one 3 (.last 4 (.take 5 (.last 6 .done))))))) [2] ?_ ?_
            focus kernel_rfl
            repeat' (first | with_reducible refine And.intro ?_ ?_ | ((with_reducible refine i_call (n := 101) ?_); refine call_open [[0]] ?_) | ((with_reducible refine i_callW (n := 101) ?_); refine callW_use (con_spec_l2Arg (⟨v7, v8⟩ : l26Rd) 5 v14 c26H) ?_; rintro x σ' ⟨rfl, rfl⟩ <;> ((with_reducible refine behind_go ?_))) | exact True.intro | with_reducible assumption | exact fun hf => False.elim hf | (intro hg; first | (simp +contextual [hg]; done) | grind) | omega | simp (decide := true) only [go_sem, reduceIte, Nat.reduceAdd, Int.reduceToNat, Nat.reduceSub, Nat.reduceMul])
            refine r_cN hk25 (r_ret ?_)
            refine r_bR hk13 (r_cR hk11 ?_)
            obtain rfl := Option.some.inj h
            refine r_eAR hQ rfl rfl ?_
            simp (decide := true) only [go_sem, reduceIte, Nat.reduceAdd, Int.reduceToNat, Nat.reduceSub, Nat.reduceMul]
            repeat' (with_reducible refine And.intro ?_ ?_)
            all_goals first | exact wkEnd_same ⟨rfl, rfl⟩ | exact True.intro
          · refine sem_cut fun k27 hk27 => ?_
            simp (decide := true) only [go_sem, reduceIte, Nat.reduceAdd, Int.reduceToNat, Nat.reduceSub, Nat.reduceMul]
            refine r_cN hk27 ?_
            refine sem_ifh rfl h ?_ ?_ <;> clear h <;> intro h
            · refine sem_cut fun k28 hk28 => ?_
              obtain ⟨v15, c29H, h⟩ := bind_some' h
              repeat' (first | with_reducible refine And.intro ?_ ?_ | ((with_reducible refine i_call (n := 101) ?_); refine call_open [[0]] ?_) | ((with_reducible refine i_callW (n := 101) ?_); refine callW_use (con_spec_l2Arg (⟨v7, v8⟩ : l26Rd) 4 v15 c29H) ?_; rintro x σ' ⟨rfl, rfl⟩ <;> ((with_reducible refine behind_go ?_))) | exact True.intro | with_reducible assumption | exact fun hf => False.elim hf | (intro hg; first | (simp +contextual [hg]; done) | grind) | omega | simp (decide := true) only [go_sem, reduceIte, Nat.reduceAdd, Int.reduceToNat, Nat.reduceSub, Nat.reduceMul])
              refine r_cN hk28 (r_ret ?_)
              refine r_bR hk13 (r_cR hk11 ?_)
              obtain rfl := Option.some.inj h
              refine r_eAR hQ rfl rfl ?_
              simp (decide := true) only [go_sem, reduceIte, Nat.reduceAdd, Int.reduceToNat, Nat.reduceSub, Nat.reduceMul]
              repeat' (with_reducible refine And.intro ?_ ?_)
              all_goals first | exact wkEnd_same ⟨rfl, rfl⟩ | exact True.intro
            · refine sem_cutJ (fun (_ : Unit) (x : Bool) => (⟨[(0, .pt 0 0), (2, .pt 1 0), (3, .sc (.int .i64 (v2.1))), (5, .pt 2 0), (24, .sc (.int .i64 (v2.1))), (66, .sc (.bool (x)))], [.rc [.fz 1 (R e_u8 (v7)), .sc (.int .i64 (v8))], .rc [.sc (.int .i64 (0)), .sc (.slice none 0 0)], .rc [.sc (.int .i64 (v5.1.Kind)), .sc (.int .i64 (v9)), .sc (.int .i64 (v5.1.P))]]⟩ : St)) (fun (_ : Unit) (x : Bool) => spec_l4Coil_j49 v2 v5 v7 v8 v9 x = some res_) ?_ ?_
              · rintro _ v16 h
                simp only [spec_l4Coil_j49] at h
                refine sem_ifh rfl h ?_ ?_ <;> clear h <;> intro h
                · refine sem_cut fun k32 hk32 => ?_
                  obtain ⟨v17, c33H, h⟩ := bind_some' h
                  with_reducible refine sem_plan (id := 20) (.take 0 (.take 1 (.take 3 (.one 2 (.last 4 (.take 5 (.last 6 .done))))))) [2] ?_ ?_
                  focus kernel_rfl
                  repeat' (first | with_reducible refine And.intro ?_ ?_ | ((with_reducible refine i_call (n := 101) ?_); refine call_open [[0]] ?_) | ((with_reducible refine i_callW (n := 101) ?_); refine callW_use (con_spec_l2Arg (⟨v7, v8⟩ : l26Rd) 7 v17 c33H) ?_; rintro x σ' ⟨rfl, rfl⟩ <;> ((with_reducible refine behind_go ?_))) | exact True.intro | with_reducible assumption | exact fun hf => False.elim hf | (intro hg; first | (simp +contextual [hg]; done) | grind) | omega | simp (decide := true) only [go_sem, reduceIte, Nat.reduceAdd, Int.reduceToNat, Nat.reduceSub, Nat.reduceMul])
                  refine r_cN hk32 (r_ret ?_)
                  refine r_bR hk13 (r_cR hk11 ?_)
                  obtain rfl := Option.some.inj h
                  refine r_eAR hQ rfl rfl ?_
                  simp (decide := true) only [go_sem, reduceIte, Nat.reduceAdd, Int.reduceToNat, Nat.reduceSub, Nat.reduceMul]
                  repeat' (with_reducible refine And.intro ?_ ?_)
                  all_goals first | exact wkEnd_same ⟨rfl, rfl⟩ | exact True.intro
                · refine sem_cut fun k34 hk34 => ?_
                  simp (decide := true) only [go_sem, reduceIte, Nat.reduceAdd, Int.reduceToNat, Nat.reduceSub, Nat.reduceMul]
                  refine r_cN hk34 ?_
                  refine sem_ifh rfl h ?_ ?_ <;> clear h <;> intro h
                  · refine sem_cut fun k35 hk35 => ?_
                    obtain ⟨v18, c36H, h⟩ := bind_some' h
                    with_reducible refine sem_plan (id := 22) (.take 0 (.take 1 (.take 3 (.one 2 (.last 4 (.take 5 (.last 6 .done))))))) [2] ?_ ?_
                    focus kernel_rfl
                    repeat' (first | with_reducible refine And.intro ?_ ?_ | ((with_reducible refine i_call (n := 101) ?_); refine call_open [[0]] ?_) | ((with_reducible refine i_callW (n := 101) ?_); refine callW_use (con_spec_l2Arg (⟨v7, v8⟩ : l26Rd) 8 v18 c36H) ?_; rintro x σ' ⟨rfl, rfl⟩ <;> ((with_reducible refine behind_go ?_))) | exact True.intro | with_reducible assumption | exact fun hf => False.elim hf | (intro hg; first | (simp +contextual [hg]; done) | grind) | omega | simp (decide := true) only [go_sem, reduceIte, Nat.reduceAdd, Int.reduceToNat, Nat.reduceSub, Nat.reduceMul])
                    refine r_cN hk35 (r_ret ?_)
                    refine r_bR hk13 (r_cR hk11 ?_)
                    obtain rfl := Option.some.inj h
                    refine r_eAR hQ rfl rfl ?_
                    simp (decide := true) only [go_sem, reduceIte, Nat.reduceAdd, Int.reduceToNat, Nat.reduceSub, Nat.reduceMul]
                    repeat' (with_reducible refine And.intro ?_ ?_)
                    all_goals first | exact wkEnd_same ⟨rfl, rfl⟩ | exact True.intro
                  · refine sem_cut fun k37 hk37 => ?_
                    simp (decide := true) only [go_sem, reduceIte, Nat.reduceAdd, Int.reduceToNat, Nat.reduceSub, Nat.reduceMul]
                    refine r_cN hk37 ?_
                    refine sem_ifh rfl h ?_ ?_ <;> clear h <;> intro h
                    · refine sem_cut fun k38 hk38 => ?_
                      obtain ⟨v19, c39H, h⟩ := bind_some' h
                      obtain ⟨v20, c40H, h⟩ := bind_some' h
                      repeat' (first | with_reducible refine And.intro ?_ ?_ | ((with_reducible refine i_call (n := 101) ?_); refine call_open [[0]] ?_) | ((with_reducible refine i_callW (n := 101) ?_); refine callW_use (con_spec_l2Arg (⟨v7, v8⟩ : l26Rd) 10 v19 c39H) ?_; rintro x σ' ⟨rfl, rfl⟩ <;> ((with_reducible refine behind_go ?_))) | ((with_reducible refine i_call (n := 102) ?_); refine call_open [[0]] ?_) | ((with_reducible refine i_callW (n := 102) ?_); refine callW_use (con_spec_l4Whole v19.2 v20 c40H) ?_; rintro x σ' ⟨rfl, rfl⟩ <;> ((with_reducible refine behind_go ?_))) | exact True.intro | with_reducible assumption | exact fun hf => False.elim hf | (intro hg; first | (simp +contextual [hg]; done) | grind) | omega | simp (decide := true) only [go_sem, reduceIte, Nat.reduceAdd, Int.reduceToNat, Nat.reduceSub, Nat.reduceMul])
                      refine r_cN hk38 (r_ret ?_)
                      refine r_bR hk13 (r_cR hk11 ?_)
                      obtain rfl := Option.some.inj h
                      refine r_eAR hQ rfl rfl ?_
                      simp (decide := true) only [go_sem, reduceIte, Nat.reduceAdd, Int.reduceToNat, Nat.reduceSub, Nat.reduceMul]
                      repeat' (with_reducible refine And.intro ?_ ?_)
                      all_goals first | exact wkEnd_same ⟨rfl, rfl⟩ | exact True.intro
                    · refine sem_cut fun k41 hk41 => ?_
                      simp (decide := true) only [go_sem, reduceIte, Nat.reduceAdd, Int.reduceToNat, Nat.reduceSub, Nat.reduceMul]
                      refine r_cN hk41 ?_
                      refine sem_ifh rfl h ?_ ?_ <;> clear h <;> intro h
                      · refine sem_cut fun k42 hk42 => ?_
                        obtain ⟨v21, c43H, h⟩ := bind_some' h
                        obtain ⟨v22, c44H, h⟩ := bind_some' h
                        repeat' (first | with_reducible refine And.intro ?_ ?_ | ((with_reducible refine i_call (n := 101) ?_); refine call_open [[0]] ?_) | ((with_reducible refine i_callW (n := 101) ?_); refine callW_use (con_spec_l2Arg (⟨v7, v8⟩ : l26Rd) 9 v21 c43H) ?_; rintro x σ' ⟨rfl, rfl⟩ <;> ((with_reducible refine behind_go ?_))) | ((with_reducible refine i_call (n := 103) ?_); refine call_open [[0]] ?_) | ((with_reducible refine i_callW (n := 103) ?_); refine callW_use (con_spec_l4Real v21.2 v22 c44H) ?_; rintro x σ' ⟨rfl, rfl⟩ <;> ((with_reducible refine behind_go ?_))) | exact True.intro | with_reducible assumption | exact fun hf => False.elim hf | (intro hg; first | (simp +contextual [hg]; done) | grind) | omega | simp (decide := true) only [go_sem, reduceIte, Nat.reduceAdd, Int.reduceToNat, Nat.reduceSub, Nat.reduceMul])
                        refine r_cN hk42 (r_ret ?_)
                        refine r_bR hk13 (r_cR hk11 ?_)
                        obtain rfl := Option.some.inj h
                        refine r_eAR hQ rfl rfl ?_
                        simp (decide := true) only [go_sem, reduceIte, Nat.reduceAdd, Int.reduceToNat, Nat.reduceSub, Nat.reduceMul]
                        repeat' (with_reducible refine And.intro ?_ ?_)
                        all_goals first | exact wkEnd_same ⟨rfl, rfl⟩ | exact True.intro
                      · refine r_skip (r_bN hk13 ?_)
                        refine r_cN hk11 (sem_cut fun k45 hk45 => ?_)
                        refine sem_cut fun k46 hk46 => ?_
                        rcases Bool.eq_false_or_eq_true (v2.1 == 35) with g47 | g47
                        · replace h := cond_t h g47
                          repeat' (first | with_reducible refine And.intro ?_ ?_ | exact True.intro | with_reducible assumption | exact fun hf => False.elim hf | (intro hg; first | (simp +contextual [hg]; done) | grind) | omega | simp (decide := true) only [go_sem, reduceIte, Nat.reduceAdd, Int.reduceToNat, Nat.reduceSub, Nat.reduceMul, g47])
                          refine r_cN hk46 (sem_ifT rfl ?_)
                          try replace h := cond_t h rfl
                          refine sem_cut fun k48 hk48 => ?_
                          obtain ⟨v24, c49H, h⟩ := bind_some' h
                          obtain ⟨v25, c50H, h⟩ := bind_some' h
                          obtain ⟨v26, c51H, h⟩ := bind_some' h
                          repeat' (first | with_reducible refine And.intro ?_ ?_ | ((with_reducible refine i_call (n := 101) ?_); refine call_open [[0]] ?_) | ((with_reducible refine i_callW (n := 101) ?_); refine callW_use (con_spec_l2Arg (⟨v7, v8⟩ : l26Rd) 9 v24 c49H) ?_; rintro x σ' ⟨rfl, rfl⟩ <;> ((with_reducible refine behind_go ?_))) | ((with_reducible refine i_call (n := 102) ?_); refine call_open [[0]] ?_) | ((with_reducible refine i_callW (n := 102) ?_); refine callW_use (con_spec_l4Whole v24.2 v25 c50H) ?_; rintro x σ' ⟨rfl, rfl⟩ <;> ((with_reducible refine behind_go ?_))) | ((with_reducible refine i_callW (n := 102) ?_); refine callW_use (con_spec_l4Whole v25.2 v26 c51H) ?_; rintro x σ' ⟨rfl, rfl⟩ <;> ((with_reducible refine behind_go ?_))) | exact True.intro | with_reducible assumption | exact fun hf => False.elim hf | (intro hg; first | (simp +contextual [hg]; done) | grind) | omega | simp (decide := true) only [go_sem, reduceIte, Nat.reduceAdd, Int.reduceToNat, Nat.reduceSub, Nat.reduceMul])
                          refine r_cN hk48 (sem_cut fun k52 hk52 => ?_)
                          obtain ⟨v27, c53H, h⟩ := bind_some' h
                          obtain ⟨g54, h⟩ := gd_some h
                          obtain ⟨g54A, g54B⟩ := dec_and g54
                          repeat' (first | with_reducible refine And.intro ?_ ?_ | ((with_reducible refine i_call (n := 56) ?_); refine call_openF [] ?_) | ((with_reducible refine i_callW (n := 56) ?_); refine callW_use (con_spec_ElemArity v2.1 v27 c53H) ?_; rintro x σ' ⟨rfl, rfl⟩ <;> ((refine ⟨?_, ?_⟩; (focus simp (decide := true) only [go_sem, reduceIte, Nat.reduceAdd, Int.reduceToNat, Nat.reduceSub, Nat.reduceMul, g54A, g54B])); (with_reducible refine behind_go ?_))) | exact True.intro | with_reducible assumption | exact fun hf => False.elim hf | (intro hg; first | (simp +contextual [hg]; done) | grind) | omega | simp (decide := true) only [go_sem, reduceIte, Nat.reduceAdd, Int.reduceToNat, Nat.reduceSub, Nat.reduceMul, g54A, g54B])
                          refine r_cN hk52 (r_ret ?_)
                          refine r_cR hk45 ?_
                          obtain rfl := Option.some.inj h
                          refine r_eAR hQ rfl rfl ?_
                          simp (decide := true) only [go_sem, reduceIte, Nat.reduceAdd, Int.reduceToNat, Nat.reduceSub, Nat.reduceMul]
                          repeat' (with_reducible refine And.intro ?_ ?_)
                          all_goals first | exact wkEnd_same ⟨rfl, rfl⟩ | exact True.intro
                        · replace h := cond_f h g47
                          obtain ⟨v23, c55H, h⟩ := bind_some' h
                          repeat' (first | with_reducible refine And.intro ?_ ?_ | ((with_reducible refine i_call (n := 39) ?_); refine call_open [[0]] ?_) | ((with_reducible refine i_callW (n := 39) ?_); refine callW_use (con_spec_l26Rd_pick (⟨v7, v8⟩ : l26Rd) 2 v23 c55H) ?_; rintro x σ' ⟨rfl, rfl⟩ <;> ((with_reducible refine behind_go ?_))) | exact True.intro | with_reducible assumption | exact fun hf => False.elim hf | (intro hg; first | (simp +contextual [hg]; done) | grind) | omega | simp (decide := true) only [go_sem, reduceIte, Nat.reduceAdd, Int.reduceToNat, Nat.reduceSub, Nat.reduceMul, g47])
                          refine r_cN hk46 ?_
                          refine sem_ifh rfl h ?_ ?_ <;> clear h <;> intro h
                          · refine sem_cut fun k56 hk56 => ?_
                            obtain ⟨v28, c57H, h⟩ := bind_some' h
                            obtain ⟨v29, c58H, h⟩ := bind_some' h
                            obtain ⟨v30, c59H, h⟩ := bind_some' h
                            repeat' (first | with_reducible refine And.intro ?_ ?_ | ((with_reducible refine i_call (n := 101) ?_); refine call_open [[0]] ?_) | ((with_reducible refine i_callW (n := 101) ?_); refine callW_use (con_spec_l2Arg v23.2 9 v28 c57H) ?_; rintro x σ' ⟨rfl, rfl⟩ <;> ((with_reducible refine behind_go ?_))) | ((with_reducible refine i_call (n := 102) ?_); refine call_open [[0]] ?_) | ((with_reducible refine i_callW (n := 102) ?_); refine callW_use (con_spec_l4Whole v28.2 v29 c58H) ?_; rintro x σ' ⟨rfl, rfl⟩ <;> ((with_reducible refine behind_go ?_))) | ((with_reducible refine i_callW (n := 102) ?_); refine callW_use (con_spec_l4Whole v29.2 v30 c59H) ?_; rintro x σ' ⟨rfl, rfl⟩ <;> ((with_reducible refine behind_go ?_))) | exact True.intro | with_reducible assumption | exact fun hf => False.elim hf | (intro hg; first | (simp +contextual [hg]; done) | grind) | omega | simp (decide := true) only [go_sem, reduceIte, Nat.reduceAdd, Int.reduceToNat, Nat.reduceSub, Nat.reduceMul])
                            refine r_cN hk56 (sem_cut fun k60 hk60 => ?_)
                            obtain ⟨v31, c61H, h⟩ := bind_some' h
                            obtain ⟨g62, h⟩ := gd_some h
                            obtain ⟨g62A, g62B⟩ := dec_and g62
                            repeat' (first | with_reducible refine And.intro ?_ ?_ | ((with_reducible refine i_call (n := 56) ?_); refine call_openF [] ?_) | ((with_reducible refine i_callW (n := 56) ?_); refine callW_use (con_spec_ElemArity v2.1 v31 c61H) ?_; rintro x σ' ⟨rfl, rfl⟩ <;> ((refine ⟨?_, ?_⟩; (focus simp (decide := true) only [go_sem, reduceIte, Nat.reduceAdd, Int.reduceToNat, Nat.reduceSub, Nat.reduceMul, g62A, g62B])); (with_reducible refine behind_go ?_))) | exact True.intro | with_reducible assumption | exact fun hf => False.elim hf | (intro hg; first | (simp +contextual [hg]; done) | grind) | omega | simp (decide := true) only [go_sem, reduceIte, Nat.reduceAdd, Int.reduceToNat, Nat.reduceSub, Nat.reduceMul, g62A, g62B])
                            refine r_cN hk60 (r_ret ?_)
                            refine r_cR hk45 ?_
                            obtain rfl := Option.some.inj h
                            refine r_eAR hQ rfl rfl ?_
                            simp (decide := true) only [go_sem, reduceIte, Nat.reduceAdd, Int.reduceToNat, Nat.reduceSub, Nat.reduceMul]
                            repeat' (with_reducible refine And.intro ?_ ?_)
                            all_goals first | exact wkEnd_same ⟨rfl, rfl⟩ | exact True.intro
                          · refine r_skip (r_cN hk45 ?_)
                            refine sem_cut fun k63 hk63 => ?_
                            obtain ⟨v32, c64H, h⟩ := bind_some' h
                            obtain ⟨v33, c65H, h⟩ := bind_some' h
                            obtain ⟨v34, c66H, h⟩ := bind_some' h
                            repeat' (first | with_reducible refine And.intro ?_ ?_ | ((with_reducible refine i_call (n := 101) ?_); refine call_open [[0]] ?_) | ((with_reducible refine i_callW (n := 101) ?_); refine callW_use (con_spec_l2Arg v23.2 10 v32 c64H) ?_; rintro x σ' ⟨rfl, rfl⟩ <;> ((with_reducible refine behind_go ?_))) | ((with_reducible refine i_call (n := 103) ?_); refine call_open [[0]] ?_) | ((with_reducible refine i_callW (n := 103) ?_); refine callW_use (con_spec_l4Real v32.2 v33 c65H) ?_; rintro x σ' ⟨rfl, rfl⟩ <;> ((with_reducible refine behind_go ?_))) | ((with_reducible refine i_callW (n := 103) ?_); refine callW_use (con_spec_l4Real v33.2 v34 c66H) ?_; rintro x σ' ⟨rfl, rfl⟩ <;> ((with_reducible refine behind_go ?_))) | exact True.intro | with_reducible assumption | exact fun hf => False.elim hf | (intro hg; first | (simp +contextual [hg]; done) | grind) | omega | simp (decide := true) only [go_sem, reduceIte, Nat.reduceAdd, Int.reduceToNat, Nat.reduceSub, Nat.reduceMul])
                            refine r_cN hk63 (sem_cut fun k67 hk67 => ?_)
                            obtain ⟨v35, c68H, h⟩ := bind_some' h
                            obtain ⟨g69, h⟩ := gd_some h
                            obtain ⟨g69A, g69B⟩ := dec_and g69
                            repeat' (first | with_reducible refine And.intro ?_ ?_ | ((with_reducible refine i_call (n := 56) ?_); refine call_openF [] ?_) | ((with_reducible refine i_callW (n := 56) ?_); refine callW_use (con_spec_ElemArity v2.1 v35 c68H) ?_; rintro x σ' ⟨rfl, rfl⟩ <;> ((refine ⟨?_, ?_⟩; (focus simp (decide := true) only [go_sem, reduceIte, Nat.reduceAdd, Int.reduceToNat, Nat.reduceSub, Nat.reduceMul, g69A, g69B])); (with_reducible refine behind_go ?_))) | exact True.intro | with_reducible assumption | exact fun hf => False.elim hf | (intro hg; first | (simp +contextual [hg]; done) | grind) | omega | simp (decide := true) only [go_sem, reduceIte, Nat.reduceAdd, Int.reduceToNat, Nat.reduceSub, Nat.reduceMul, g69A, g69B])
                            refine r_cN hk67 (r_ret ?_)
                            obtain rfl := Option.some.inj h
                            refine r_eAR hQ rfl rfl ?_
                            simp (decide := true) only [go_sem, reduceIte, Nat.reduceAdd, Int.reduceToNat, Nat.reduceSub, Nat.reduceMul]
                            repeat' (with_reducible refine And.intro ?_ ?_)
                            all_goals first | exact wkEnd_same ⟨rfl, rfl⟩ | exact True.intro
              · intro k71 hk71 J70
                refine sem_cut fun k72 hk72 => ?_
                simp (decide := true) only [go_sem, reduceIte, Nat.reduceAdd, Int.reduceToNat, Nat.reduceSub, Nat.reduceMul]
                refine r_cN hk72 ?_
                refine sem_ifh rfl h ?_ ?_ <;> clear h <;> intro h
                · refine r_skip (r_joinU J70 [0, 2, 3, 5, 24, 66] () _ rfl rfl ⟨?_, h⟩)
                  first | exact wkSt_same rfl | (simp (decide := true) only [go_sem, reduceIte, Nat.reduceAdd, Int.reduceToNat, Nat.reduceSub, Nat.reduceMul]; exact wkSt_same rfl)
                · refine sem_cut fun k73 hk73 => ?_
                  simp (decide := true) only [go_sem, reduceIte, Nat.reduceAdd, Int.reduceToNat, Nat.reduceSub, Nat.reduceMul]
                  refine r_cN hk73 ?_
                  refine sem_ifh rfl h ?_ ?_ <;> clear h <;> intro h
                  · refine r_skip (r_joinU J70 [0, 2, 3, 5, 24, 66] () _ rfl rfl ⟨?_, h⟩)
                    first | exact wkSt_same rfl | (simp (decide := true) only [go_sem, reduceIte, Nat.reduceAdd, Int.reduceToNat, Nat.reduceSub, Nat.reduceMul]; exact wkSt_same rfl)
                  · simp (decide := true) only [go_sem, reduceIte, Nat.reduceAdd, Int.reduceToNat, Nat.reduceSub, Nat.reduceMul]
                    refine r_joinU J70 [0, 2, 3, 5, 24, 66] () _ rfl rfl ⟨?_, h⟩
                    first | exact wkSt_same rfl | (simp (decide := true) only [go_sem, reduceIte, Nat.reduceAdd, Int.reduceToNat, Nat.reduceSub, Nat.reduceMul]; exact wkSt_same rfl)
  · intro k75 hk75 J74
    refine sem_cut fun k76 hk76 => ?_
    simp (decide := true) only [go_sem, reduceIte, Nat.reduceAdd, Int.reduceToNat, Nat.reduceSub, Nat.reduceMul]
    refine r_cN hk76 ?_
    refine sem_ifh rfl h ?_ ?_ <;> clear h <;> intro h
    · obtain ⟨v36, c77H, h⟩ := bind_some' h
      repeat' (first | with_reducible refine And.intro ?_ ?_ | ((with_reducible refine i_call (n := 39) ?_); refine call_open [[0]] ?_) | ((with_reducible refine i_callW (n := 39) ?_); refine callW_use (con_spec_l26Rd_pick v5.2 9 v36 c77H) ?_; rintro x σ' ⟨rfl, rfl⟩ <;> ((with_reducible refine behind_go ?_))) | exact True.intro | with_reducible assumption | exact fun hf => False.elim hf | (intro hg; first | (simp +contextual [hg]; done) | grind) | omega | simp (decide := true) only [go_sem, reduceIte, Nat.reduceAdd, Int.reduceToNat, Nat.reduceSub, Nat.reduceMul])
      refine r_joinU J74 [0, 2, 3, 4, 5] () _ rfl rfl ⟨?_, h⟩
      first | exact wkSt_same rfl | (simp (decide := true) only [go_sem, reduceIte, Nat.reduceAdd, Int.reduceToNat, Nat.reduceSub, Nat.reduceMul]; exact wkSt_same rfl)
    · refine r_skip (r_joinU J74 [0, 2, 3, 4, 5] () _ rfl rfl ⟨?_, h⟩)
      first | exact wkSt_same rfl | (simp (decide := true) only [go_sem, reduceIte, Nat.reduceAdd, Int.reduceToNat, Nat.reduceSub, Nat.reduceMul]; exact wkSt_same rfl)
noncomputable def spec_l11Play_put_j9 (v1 : l11Play) (v2 : Int) : ((List Int) × Int × Int × (List DevArg)) → Option l11Play
  | (v9, v10, v11, v12) => (gd (apOk ((v1.out ++ [(⟨v2, v11, v12⟩ : Inst)])).length 40) (cond ((v2 == 10) || (v2 == 7)) (some (⟨(⟨v9, v10⟩ : l26Rd), (v1.out ++ [(⟨v2, v11, v12⟩ : Inst)]), v1.bits, v1.forks, true, (v2 == 10)⟩ : l11Play)) (some (⟨(⟨v9, v10⟩ : l26Rd), (v1.out ++ [(⟨v2, v11, v12⟩ : Inst)]), v1.bits, v1.forks, v1.base, (v2 == 10)⟩ : l11Play))))
noncomputable def spec_l11Play_put_j3 (v1 : l11Play) (v2 : Int) : ((List Int) × Int × Int × (List DevArg)) → Option l11Play
  | (v4, v5, v6, v7) => (cond (v2 == 10) (Option.bind (spec_l4Coil (⟨v4, v5⟩ : l26Rd)) fun v13 => (spec_l11Play_put_j9 v1 v2 (v13.2.b, v13.2.p, v13.1.Op, v13.1.Args))) (spec_l11Play_put_j9 v1 v2 (v4, v5, v6, v7)))
noncomputable def spec_l11Play_put (v1 : l11Play) (v2 : Int) : Option l11Play :=
  (cond (decide (v2 ≤ 3)) (Option.bind (spec_l4Contact (⟨v1.r.b, v1.r.p⟩ : l26Rd)) fun v20 => (spec_l11Play_put_j3 v1 v2 (v20.2.b, v20.2.p, v20.1.Op, v20.1.Args))) (spec_l11Play_put_j3 v1 v2 (v1.r.b, v1.r.p, 0, [])))
set_option maxRecDepth 10000 in
set_option maxHeartbeats 4000000 in
theorem con_spec_l11Play_put (v1 : l11Play) (v2 : Int) (res_ : l11Play) (h : spec_l11Play_put v1 v2 = some res_) : Con Try.prog C0 106 [.pt 0 0, .sc (.int .i64 (v2))] [.rc [.pt 1 0, .sl 2 0 ((v1.out).length), .sc (.int .i64 (v1.bits)), .sc (.int .i64 (v1.forks)), .sc (.bool (v1.base)), .sc (.bool (v1.fresh))], .rc [.fz 1 (R e_u8 (v1.r.b)), .sc (.int .i64 (v1.r.p))], .arr true 3 (R e_Inst (v1.out))]
    (fun x σ' => x = .tup [] ∧ σ' = [.rc [.pt 1 0, .sl 3 0 ((res_.out).length), .sc (.int .i64 (res_.bits)), .sc (.int .i64 (res_.forks)), .sc (.bool (res_.base)), .sc (.bool (res_.fresh))], .rc [.fz 1 (R e_u8 (res_.r.b)), .sc (.int .i64 (res_.r.p))], .dead, .arr true 3 (R e_Inst (res_.out))]) := by
  refine con_of_sem hP [0, 1, 4, 8, 16, 43] [] Try.func106 (by unfold Try.f106; rfl) rfl rfl (Nat.le_of_ble_eq_true rfl) rfl ?_
  simp only [enter_cons, enter_nil, List.length_cons, List.length_nil, Nat.reduceAdd]
  generalize hQ : endQ _ _ _ _ = Q
  unfold spec_l11Play_put at h
  refine sem_cut fun k1 hk1 => ?_
  simp (decide := true) only [go_sem, reduceIte, Nat.reduceAdd, Int.reduceToNat, Nat.reduceSub, Nat.reduceMul]
  refine r_cN hk1 (sem_cutJ (fun (i : P2) (x : ((List Int) × Int × Int × (List DevArg))) => match i with | .a => (⟨[(0, .pt 0 0), (1, .sc (.int .i64 (v2))), (4, .pt 3 0)], [.rc [.pt 1 0, .sl 2 0 ((v1.out).length), .sc (.int .i64 (v1.bits)), .sc (.int .i64 (v1.forks)), .sc (.bool (v1.base)), .sc (.bool (v1.fresh))], .rc [.fz 1 (R e_u8 (x.1)), .sc (.int .i64 (x.2.1))], .arr true 3 (R e_Inst (v1.out)), .rc [.sc (.int .i64 (v2)), .sc (.int .i64 (x.2.2.1)), .sl 4 0 ((x.2.2.2).length)], .arr true 3 (R e_DevArg (x.2.2.2))]⟩ : St) | .b => (⟨[(0, .pt 0 0), (1, .sc (.int .i64 (v2))), (4, .pt 3 0)], [.rc [.pt 1 0, .sl 2 0 ((v1.out).length), .sc (.int .i64 (v1.bits)), .sc (.int .i64 (v1.forks)), .sc (.bool (v1.base)), .sc (.bool (v1.fresh))], .rc [.fz 1 (R e_u8 (x.1)), .sc (.int .i64 (x.2.1))], .arr true 3 (R e_Inst (v1.out)), .rc [.sc (.int .i64 (v2)), .sc (.int .i64 (x.2.2.1)), .sc (.slice none 0 0)]]⟩ : St)) (fun (i : P2) (x : ((List Int) × Int × Int × (List DevArg))) => (match i with | .a => True | .b => x.2.2.2 = []) ∧ spec_l11Play_put_j3 v1 v2 x = some res_) ?_ ?_)
  · rintro (_ | _) ⟨v4, v5, v6, v7⟩ ⟨hp, h⟩
    · simp only [spec_l11Play_put_j3] at h
      refine sem_cutJ (fun (i : P2) (x : ((List Int) × Int × Int × (List DevArg))) => match i with | .a => (⟨[(0, .pt 0 0), (1, .sc (.int .i64 (v2))), (4, .pt 3 0)], [.rc [.pt 1 0, .sl 2 0 ((v1.out).length), .sc (.int .i64 (v1.bits)), .sc (.int .i64 (v1.forks)), .sc (.bool (v1.base)), .sc (.bool (v1.fresh))], .rc [.fz 1 (R e_u8 (x.1)), .sc (.int .i64 (x.2.1))], .arr true 3 (R e_Inst (v1.out)), .rc [.sc (.int .i64 (v2)), .sc (.int .i64 (x.2.2.1)), .fz 3 (R e_DevArg (x.2.2.2))]]⟩ : St) | .b => (⟨[(0, .pt 0 0), (1, .sc (.int .i64 (v2))), (4, .pt 3 0)], [.rc [.pt 1 0, .sl 2 0 ((v1.out).length), .sc (.int .i64 (v1.bits)), .sc (.int .i64 (v1.forks)), .sc (.bool (v1.base)), .sc (.bool (v1.fresh))], .rc [.fz 1 (R e_u8 (x.1)), .sc (.int .i64 (x.2.1))], .arr true 3 (R e_Inst (v1.out)), .rc [.sc (.int .i64 (v2)), .sc (.int .i64 (x.2.2.1)), .sl 4 0 ((x.2.2.2).length)], .arr true 3 (R e_DevArg (x.2.2.2))]⟩ : St)) (fun (i : P2) (x : ((List Int) × Int × Int × (List DevArg))) => (match i with | .a => True | .b => True) ∧ spec_l11Play_put_j9 v1 v2 x = some res_) ?_ ?_
      · rintro (_ | _) ⟨v9, v10, v11, v12⟩ ⟨hp, h⟩
        · simp only [spec_l11Play_put_j9] at h
          refine sem_cut fun k6 hk6 => ?_
          obtain ⟨g7, h⟩ := gd_some h
          have g7A := apOk_1 g7; have g7B := apOk_2 g7
          with_reducible refine sem_plan (id := 5) (.take 0 (.take 1 (.take 2 (.take 3 (.take 4 (.take 5 (.one 6 (.one 7 (.take 8 (.take 9 (.last 10 .done))))))))))) [0, 3] ?_ ?_
          focus kernel_rfl
          repeat' (first | with_reducible refine And.intro ?_ ?_ | exact True.intro | with_reducible assumption | exact fun hf => False.elim hf | (intro hg; first | (simp +contextual [hg]; done) | grind) | omega | simp (decide := true) only [go_sem, reduceIte, Nat.reduceAdd, Int.reduceToNat, Nat.reduceSub, Nat.reduceMul, g7A, g7B])
          refine r_cN hk6 (sem_cut fun k8 hk8 => ?_)
          simp (decide := true) only [go_sem, reduceIte, Nat.reduceAdd, Int.reduceToNat, Nat.reduceSub, Nat.reduceMul]
          refine r_cN hk8 (sem_cut fun k9 hk9 => ?_)
          repeat' (first | with_reducible refine And.intro ?_ ?_ | exact True.intro | with_reducible assumption | exact fun hf => False.elim hf | (intro hg; first | (simp +contextual [hg]; done) | grind) | omega | simp (decide := true) only [go_sem, reduceIte, Nat.reduceAdd, Int.reduceToNat, Nat.reduceSub, Nat.reduceMul])
          refine r_cN hk9 ?_
          refine sem_ifh rfl h ?_ ?_ <;> clear h <;> intro h
          · simp (decide := true) only [go_sem, reduceIte, Nat.reduceAdd, Int.reduceToNat, Nat.reduceSub, Nat.reduceMul]
            obtain rfl := Option.some.inj h
            refine r_eAN hQ rfl rfl ?_
            simp (decide := true) only [go_sem, reduceIte, Nat.reduceAdd, Int.reduceToNat, Nat.reduceSub, Nat.reduceMul]
            all_goals first | exact wkEnd_same ⟨rfl, rfl⟩ | exact True.intro
          · refine r_skip ?_
            obtain rfl := Option.some.inj h
            refine r_eAN hQ rfl rfl ?_
            simp (decide := true) only [go_sem, reduceIte, Nat.reduceAdd, Int.reduceToNat, Nat.reduceSub, Nat.reduceMul]
            all_goals first | exact wkEnd_same ⟨rfl, rfl⟩ | exact True.intro
        · simp only [spec_l11Play_put_j9] at h
          refine sem_cut fun k10 hk10 => ?_
          obtain ⟨g11, h⟩ := gd_some h
          have g11A := apOk_1 g11; have g11B := apOk_2 g11
          with_reducible refine sem_plan (id := 5) (.take 0 (.take 1 (.take 2 (.take 3 (.take 4 (.take 5 (.one 6 (.one 7 (.take 8 (.take 9 (.last 10 .done))))))))))) [0, 3] ?_ ?_
          focus kernel_rfl
          repeat' (first | with_reducible refine And.intro ?_ ?_ | exact True.intro | with_reducible assumption | exact fun hf => False.elim hf | (intro hg; first | (simp +contextual [hg]; done) | grind) | omega | simp (decide := true) only [go_sem, reduceIte, Nat.reduceAdd, Int.reduceToNat, Nat.reduceSub, Nat.reduceMul, g11A, g11B])
          refine r_cN hk10 (sem_cut fun k12 hk12 => ?_)
          simp (decide := true) only [go_sem, reduceIte, Nat.reduceAdd, Int.reduceToNat, Nat.reduceSub, Nat.reduceMul]
          refine r_cN hk12 (sem_cut fun k13 hk13 => ?_)
          repeat' (first | with_reducible refine And.intro ?_ ?_ | exact True.intro | with_reducible assumption | exact fun hf => False.elim hf | (intro hg; first | (simp +contextual [hg]; done) | grind) | omega | simp (decide := true) only [go_sem, reduceIte, Nat.reduceAdd, Int.reduceToNat, Nat.reduceSub, Nat.reduceMul])
          refine r_cN hk13 ?_
          refine sem_ifh rfl h ?_ ?_ <;> clear h <;> intro h
          · simp (decide := true) only [go_sem, reduceIte, Nat.reduceAdd, Int.reduceToNat, Nat.reduceSub, Nat.reduceMul]
            obtain rfl := Option.some.inj h
            refine r_eAN hQ rfl rfl ?_
            simp (decide := true) only [go_sem, reduceIte, Nat.reduceAdd, Int.reduceToNat, Nat.reduceSub, Nat.reduceMul]
            all_goals first | exact wkEnd_same ⟨rfl, rfl⟩ | exact True.intro
          · refine r_skip ?_
            obtain rfl := Option.some.inj h
            refine r_eAN hQ rfl rfl ?_
            simp (decide := true) only [go_sem, reduceIte, Nat.reduceAdd, Int.reduceToNat, Nat.reduceSub, Nat.reduceMul]
            all_goals first | exact wkEnd_same ⟨rfl, rfl⟩ | exact True.intro
      · intro k15 hk15 J14
        refine sem_cut fun k16 hk16 => ?_
        simp (decide := true) only [go_sem, reduceIte, Nat.reduceAdd, Int.reduceToNat, Nat.reduceSub, Nat.reduceMul]
        refine r_cN hk16 ?_
        refine sem_ifh rfl h ?_ ?_ <;> clear h <;> intro h
        · obtain ⟨v13, c17H, h⟩ := bind_some' h
          repeat' (first | with_reducible refine And.intro ?_ ?_ | ((with_reducible refine i_call (n := 88) ?_); refine call_open [[0]] ?_) | ((with_reducible refine i_callW (n := 88) ?_); refine callW_use (con_spec_l4Coil (⟨v4, v5⟩ : l26Rd) v13 c17H) ?_; rintro x σ' ⟨rfl, rfl⟩ <;> ((with_reducible refine behind_go ?_))) | exact True.intro | with_reducible assumption | exact fun hf => False.elim hf | (intro hg; first | (simp +contextual [hg]; done) | grind) | omega | simp (decide := true) only [go_sem, reduceIte, Nat.reduceAdd, Int.reduceToNat, Nat.reduceSub, Nat.reduceMul])
          refine r_joinU J14 [0, 1, 4] (.a) (v13.2.b, v13.2.p, v13.1.Op, v13.1.Args) rfl rfl ⟨?_, ⟨trivial, h⟩⟩
          first | exact wkSt_same rfl | (simp (decide := true) only [go_sem, reduceIte, Nat.reduceAdd, Int.reduceToNat, Nat.reduceSub, Nat.reduceMul]; exact wkSt_same rfl)
        · refine r_skip (r_joinU J14 [0, 1, 4] (.b) (v4, v5, v6, v7) rfl rfl ⟨?_, ⟨trivial, h⟩⟩)
          first | exact wkSt_same rfl | (simp (decide := true) only [go_sem, reduceIte, Nat.reduceAdd, Int.reduceToNat, Nat.reduceSub, Nat.reduceMul]; exact wkSt_same rfl)
    · replace hp : v7 = [] := hp
      subst hp
      simp only [spec_l11Play_put_j3] at h
      try simp only [List.nil_append, List.length_nil, Int.natCast_zero] at h
      refine sem_cutJ (fun (_ : Unit) (x : ((List Int) × Int × Int × (List DevArg))) => (⟨[(0, .pt 0 0), (1, .sc (.int .i64 (v2))), (4, .pt 3 0)], [.rc [.pt 1 0, .sl 2 0 ((v1.out).length), .sc (.int .i64 (v1.bits)), .sc (.int .i64 (v1.forks)), .sc (.bool (v1.base)), .sc (.bool (v1.fresh))], .rc [.fz 1 (R e_u8 (x.1)), .sc (.int .i64 (x.2.1))], .arr true 3 (R e_Inst (v1.out)), .rc [.sc (.int .i64 (v2)), .sc (.int .i64 (x.2.2.1)), .fz 3 (R e_DevArg (x.2.2.2))]]⟩ : St)) (fun (_ : Unit) (x : ((List Int) × Int × Int × (List DevArg))) => spec_l11Play_put_j9 v1 v2 x = some res_) ?_ ?_
      · rintro _ ⟨v15, v16, v17, v18⟩ h
        simp only [spec_l11Play_put_j9] at h
        refine sem_cut fun k20 hk20 => ?_
        obtain ⟨g21, h⟩ := gd_some h
        have g21A := apOk_1 g21; have g21B := apOk_2 g21
        with_reducible refine sem_plan (id := 5) (.take 0 (.take 1 (.take 2 (.take 3 (.take 4 (.take 5 (.one 6 (.one 7 (.take 8 (.take 9 (.last 10 .done))))))))))) [0, 3] ?_ ?_
        focus kernel_rfl
        repeat' (first | with_reducible refine And.intro ?_ ?_ | exact True.intro | with_reducible assumption | exact fun hf => False.elim hf | (intro hg; first | (simp +contextual [hg]; done) | grind) | omega | simp (decide := true) only [go_sem, reduceIte, Nat.reduceAdd, Int.reduceToNat, Nat.reduceSub, Nat.reduceMul, g21A, g21B])
        refine r_cN hk20 (sem_cut fun k22 hk22 => ?_)
        simp (decide := true) only [go_sem, reduceIte, Nat.reduceAdd, Int.reduceToNat, Nat.reduceSub, Nat.reduceMul]
        refine r_cN hk22 (sem_cut fun k23 hk23 => ?_)
        repeat' (first | with_reducible refine And.intro ?_ ?_ | exact True.intro | with_reducible assumption | exact fun hf => False.elim hf | (intro hg; first | (simp +contextual [hg]; done) | grind) | omega | simp (decide := true) only [go_sem, reduceIte, Nat.reduceAdd, Int.reduceToNat, Nat.reduceSub, Nat.reduceMul])
        refine r_cN hk23 ?_
        refine sem_ifh rfl h ?_ ?_ <;> clear h <;> intro h
        · simp (decide := true) only [go_sem, reduceIte, Nat.reduceAdd, Int.reduceToNat, Nat.reduceSub, Nat.reduceMul]
          obtain rfl := Option.some.inj h
          refine r_eAN hQ rfl rfl ?_
          simp (decide := true) only [go_sem, reduceIte, Nat.reduceAdd, Int.reduceToNat, Nat.reduceSub, Nat.reduceMul]
          all_goals first | exact wkEnd_same ⟨rfl, rfl⟩ | exact True.intro
        · refine r_skip ?_
          obtain rfl := Option.some.inj h
          refine r_eAN hQ rfl rfl ?_
          simp (decide := true) only [go_sem, reduceIte, Nat.reduceAdd, Int.reduceToNat, Nat.reduceSub, Nat.reduceMul]
          all_goals first | exact wkEnd_same ⟨rfl, rfl⟩ | exact True.intro
      · intro k25 hk25 J24
        refine sem_cut fun k26 hk26 => ?_
        simp (decide := true) only [go_sem, reduceIte, Nat.reduceAdd, Int.reduceToNat, Nat.reduceSub, Nat.reduceMul]
        refine r_cN hk26 ?_
        refine sem_ifh rfl h ?_ ?_ <;> clear h <;> intro h
        · obtain ⟨v19, c27H, h⟩ := bind_some' h
          repeat' (first | with_reducible refine And.intro ?_ ?_ | ((with_reducible refine i_call (n := 88) ?_); refine call_open [[0]] ?_) | ((with_reducible refine i_callW (n := 88) ?_); refine callW_use (con_spec_l4Coil (⟨v4, v5⟩ : l26Rd) v19 c27H) ?_; rintro x σ' ⟨rfl, rfl⟩ <;> ((with_reducible refine behind_go ?_))) | exact True.intro | with_reducible assumption | exact fun hf => False.elim hf | (intro hg; first | (simp +contextual [hg]; done) | grind) | omega | simp (decide := true) only [go_sem, reduceIte, Nat.reduceAdd, Int.reduceToNat, Nat.reduceSub, Nat.reduceMul])
          refine r_joinU J24 [0, 1, 4] () _ rfl rfl ⟨?_, h⟩
          first | exact wkSt_same rfl | (simp (decide := true) only [go_sem, reduceIte, Nat.reduceAdd, Int.reduceToNat, Nat.reduceSub, Nat.reduceMul]; exact wkSt_same rfl)
        · refine r_skip (r_joinU J24 [0, 1, 4] () _ rfl rfl ⟨?_, h⟩)
          simp (decide := true) only [go_sem, reduceIte, Nat.reduceAdd, Int.reduceToNat, Nat.reduceSub, Nat.reduceMul]
          (apply wkSt_mk <;> repeat' (first | exact wkE_nil | (with_reducible apply wkE_cons) | exact wkC_nil _ | exact wkV_nil _ | exact wkA_nil _ | (with_reducible apply wkV_agg) | (with_reducible apply wkV_tup) | (with_reducible apply wkA_agg) | exact wkA_refl _ | exact wkV_refl _ | exact wkS_nil | (with_reducible apply wkS_cons) | (with_reducible apply wkO_rc) | (with_reducible apply wkO_arr) | exact wkO_refl _ | exact wkL_nil | (with_reducible apply wkL_cons) | exact wkC_refl _ | exact wkT_nil | (with_reducible apply wkT_cons) | (with_reducible apply wkR_appR) | (with_reducible apply wkR_consR) | exact wkR_nilR _ | exact wkR_refl _))
  · intro k29 hk29 J28
    refine sem_cut fun k30 hk30 => ?_
    simp (decide := true) only [go_sem, reduceIte, Nat.reduceAdd, Int.reduceToNat, Nat.reduceSub, Nat.reduceMul]
    refine r_cN hk30 ?_
    refine sem_ifh rfl h ?_ ?_ <;> clear h <;> intro h
    · obtain ⟨v20, c31H, h⟩ := bind_some' h
      repeat' (first | with_reducible refine And.intro ?_ ?_ | ((with_reducible refine i_call (n := 87) ?_); refine call_open [[0]] ?_) | ((with_reducible refine i_callW (n := 87) ?_); refine callW_use (con_spec_l4Contact (⟨v1.r.b, v1.r.p⟩ : l26Rd) v20 c31H) ?_; rintro x σ' ⟨rfl, rfl⟩ <;> ((with_reducible refine behind_go ?_))) | exact True.intro | with_reducible assumption | exact fun hf => False.elim hf | (intro hg; first | (simp +contextual [hg]; done) | grind) | omega | simp (decide := true) only [go_sem, reduceIte, Nat.reduceAdd, Int.reduceToNat, Nat.reduceSub, Nat.reduceMul])
      refine r_joinU J28 [0, 1, 4] (.a) (v20.2.b, v20.2.p, v20.1.Op, v20.1.Args) rfl rfl ⟨?_, ⟨trivial, h⟩⟩
      first | exact wkSt_same rfl | (simp (decide := true) only [go_sem, reduceIte, Nat.reduceAdd, Int.reduceToNat, Nat.reduceSub, Nat.reduceMul]; exact wkSt_same rfl)
    · refine r_skip (r_joinU J28 [0, 1, 4] (.b) (v1.r.b, v1.r.p, 0, []) rfl rfl ⟨?_, ⟨rfl, h⟩⟩)
      first | exact wkSt_same rfl | (simp (decide := true) only [go_sem, reduceIte, Nat.reduceAdd, Int.reduceToNat, Nat.reduceSub, Nat.reduceMul]; exact wkSt_same rfl)

end Go.AM
