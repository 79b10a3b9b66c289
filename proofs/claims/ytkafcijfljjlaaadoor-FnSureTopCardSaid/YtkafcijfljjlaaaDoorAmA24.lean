/- Contracts of the program's own tests of operands: kinds, function values. Conditions: none. -/
import Derived.Test.YtkafcijfljjlaaaDoorAmA23
set_option linter.unusedSimpArgs false
set_option linter.unusedVariables false
namespace Go.AM
open Go Go.Proofs
theorem devOk_k {d : Dev} (h : devOk d = true) : 1 ≤ d.k ∧ d.k ≤ 13 := by
  unfold devOk at h
  split at h
  · omega
  split at h
  · omega
  split at h
  · omega
  simp only [Bool.and_eq_true, decide_eq_true_eq] at h
  rcases Int.lt_or_le d.k 1 with h1 | h1
  · rw [devSz_out (.inl h1)] at h; omega
  · rcases Int.lt_or_le 10 d.k with h2 | h2
    · rw [devSz_out (.inr h2)] at h; omega
    · omega
theorem bit_eq (d : Dev) : (devOk d && ([1, 2, 3, 4, 6, 7, 8] : List Int).contains d.k) = isBit d := by
  unfold isBit
  cases h : devOk d with
  | false => rfl
  | true =>
    have := devOk_k h
    rw [Bool.true_and, Bool.true_and, Bool.eq_iff_iff]
    simp
    omega
theorem whole_eq (d : Dev) : (devOk d && ([7, 8, 9, 11] : List Int).contains d.k) = isWhole d := by
  unfold isWhole
  congr 1
  rw [Bool.eq_iff_iff]
  simp
  omega
theorem real_eq (d : Dev) : (devOk d && ([10, 12, 13] : List Int).contains d.k) = isReal d := by
  unfold isReal
  congr 1
  rw [Bool.eq_iff_iff]
  simp
  omega
set_option maxRecDepth 10000 in
set_option maxHeartbeats 4000000 in
theorem con_DevIsBitI (d : Dev)  : Con Tryd.prog C0 54 [.agg (devC d)] []
    (fun x σ' => x = .sc (.bool (isBit d)) ∧ σ' = []) := by
  refine con_of_sem hP [0, 1, 2] [.tmp 2] Tryd.func54 (by unfold Tryd.f54; rfl) rfl rfl (Nat.le_of_ble_eq_true rfl) rfl ?_
  simp only [enter_cons, enter_nil, List.length_cons, List.length_nil, Nat.reduceAdd]
  generalize hQ : endQ _ _ _ _ = Q
  repeat' (first
    | with_reducible refine sem_cut fun k hk => ?_
    | with_reducible refine sem_blk fun k hk => ?_
    | ((first | with_reducible refine r_reg ?_ | ((with_reducible refine i_call (n := 55) ?_); refine call_openF [] ?_) | ((with_reducible refine i_callW (n := 55) ?_); refine callW_use (con_kindIs _ _ (by first | assumption | rfl) (by first | assumption | rfl)) ?_; rintro x σ' ⟨rfl, rfl⟩; (refine ⟨?_, ?_⟩; (focus (simp only [go_sem, reduceIte, Int.reducePow, Nat.reduceEqDiff, Nat.reduceAdd, Nat.reduceLT, Nat.reduceLeDiff, Nat.reduceMul, Nat.reduceSub, Nat.reduceBEq, reduceCtorEq, Int.reduceEq, Int.reduceNe, Int.reduceLT, Int.reduceLE, Int.reduceAdd, Int.reduceSub, Int.reduceMul, Int.reduceToNat, Int.reduceBEq, Int.reduceBNe, Int.reduceGT, Int.reduceGE, Nat.reduceBNe, Nat.reduceGT, decide_true, decide_false, Bool.not_true, Bool.not_false, Int.reduceNeg, beq_true, beq_false, Bool.not_eq_false', takes]; try simp (disch := omega) only [wrap64]))); (with_reducible refine behind_go ?_))); (simp only [go_sem, reduceIte, Int.reducePow, Nat.reduceEqDiff, Nat.reduceAdd, Nat.reduceLT, Nat.reduceLeDiff, Nat.reduceMul, Nat.reduceSub, Nat.reduceBEq, reduceCtorEq, Int.reduceEq, Int.reduceNe, Int.reduceLT, Int.reduceLE, Int.reduceAdd, Int.reduceSub, Int.reduceMul, Int.reduceToNat, Int.reduceBEq, Int.reduceBNe, Int.reduceGT, Int.reduceGE, Nat.reduceBNe, Nat.reduceGT, decide_true, decide_false, Bool.not_true, Bool.not_false, Int.reduceNeg, beq_true, beq_false, Bool.not_eq_false', takes]; try simp (disch := omega) only [wrap64]))
    | with_reducible refine r_skip ?_
    | with_reducible refine r_exit ?_
    | with_reducible refine r_ret ?_
    | with_reducible refine r_codeR ?_
    | with_reducible refine r_codeE ?_
    | with_reducible refine r_blkN ?_
    | with_reducible refine r_blkR ?_
    | with_reducible refine r_blkE ?_
    | with_reducible refine r_blkX rfl ?_
    | ((with_reducible refine r_nil ?_); subst hQ; (first | with_reducible refine end_use_ret [] ?_ ?_ ?_ | with_reducible refine end_use_nrm [] ?_ ?_ ?_); (focus rfl); (focus rfl); (simp only [go_sem, reduceIte, Int.reducePow, Nat.reduceEqDiff, Nat.reduceAdd, Nat.reduceLT, Nat.reduceLeDiff, Nat.reduceMul, Nat.reduceSub, Nat.reduceBEq, reduceCtorEq, Int.reduceEq, Int.reduceNe, Int.reduceLT, Int.reduceLE, Int.reduceAdd, Int.reduceSub, Int.reduceMul, Int.reduceToNat, Int.reduceBEq, Int.reduceBNe, Int.reduceGT, Int.reduceGE, Nat.reduceBNe, Nat.reduceGT, decide_true, decide_false, Bool.not_true, Bool.not_false, Int.reduceNeg, beq_true, beq_false, Bool.not_eq_false', takes]; try simp (disch := omega) only [wrap64]))
    | ((with_reducible refine wkEnd_same ?_); exact ⟨congrArg (fun b => AV.sc (.bool b)) (bit_eq d), rfl⟩)
    | with_reducible refine r_backR ?_
    | with_reducible refine r_backE ?_
    | with_reducible refine r_nil ?_
    | with_reducible refine And.intro ?_ ?_
    | ((with_reducible apply sem_if); (case hb => rfl); all_goals (intro h; try simp only [decide_eq_true_eq, decide_eq_false_iff_not, beq_iff_eq, bne_iff_ne, ne_eq, Bool.not_eq_true', Bool.not_eq_false', beq_eq_false_iff_ne, bne_eq_false_iff_eq, Bool.and_eq_true, Bool.or_eq_true, Bool.or_eq_false_iff, Bool.not_eq_true, Bool.not_eq_false, Int.not_lt, Int.not_le, gt_iff_lt, ge_iff_le, bif_or, bif_and, Bool.and_true, Bool.and_false, Bool.true_and, Bool.false_and, Bool.or_true, Bool.or_false, Bool.true_or, Bool.false_or, Bool.true_eq_false, Bool.false_eq_true, Int.reduceEq, Int.reduceLT, Int.reduceLE, decide_true, decide_false, Bool.not_true, Bool.not_false, not_true_eq_false, not_false_eq_true, Bool.and_eq_false_iff, reduceCtorEq, Classical.not_not, not_and, imp_false, true_and, and_true, Bool.cond_true, Bool.cond_false, Int.reduceNeg] at h))
    | ((fail_if_success with_reducible refine i_call ?_); (fail_if_success with_reducible refine i_loop ?_); (fail_if_success with_reducible refine i_draw ?_); subst hk)
    | exact True.intro
    | exact fun hf => False.elim hf
    | (intro hg; simp +contextual [hg]; done)
    | (intro hg; (simp only [go_sem, reduceIte, Int.reducePow, Nat.reduceEqDiff, Nat.reduceAdd, Nat.reduceLT, Nat.reduceLeDiff, Nat.reduceMul, Nat.reduceSub, Nat.reduceBEq, reduceCtorEq, Int.reduceEq, Int.reduceNe, Int.reduceLT, Int.reduceLE, Int.reduceAdd, Int.reduceSub, Int.reduceMul, Int.reduceToNat, Int.reduceBEq, Int.reduceBNe, Int.reduceGT, Int.reduceGE, Nat.reduceBNe, Nat.reduceGT, decide_true, decide_false, Bool.not_true, Bool.not_false, Int.reduceNeg, beq_true, beq_false, Bool.not_eq_false', takes, hg]; try simp (disch := omega) only [wrap64]); (try simp only [decide_eq_true_eq, decide_eq_false_iff_not, beq_iff_eq, bne_iff_ne, ne_eq, Bool.not_eq_true', Bool.not_eq_false', beq_eq_false_iff_ne, bne_eq_false_iff_eq, Bool.and_eq_true, Bool.or_eq_true, Bool.or_eq_false_iff, Bool.not_eq_true, Bool.not_eq_false, Int.not_lt, Int.not_le, gt_iff_lt, ge_iff_le, bif_or, bif_and, Bool.and_true, Bool.and_false, Bool.true_and, Bool.false_and, Bool.or_true, Bool.or_false, Bool.true_or, Bool.false_or, Bool.true_eq_false, Bool.false_eq_true, Int.reduceEq, Int.reduceLT, Int.reduceLE, decide_true, decide_false, Bool.not_true, Bool.not_false, not_true_eq_false, not_false_eq_true, Bool.and_eq_false_iff, reduceCtorEq, Classical.not_not, not_and, imp_false, true_and, and_true, Bool.cond_true, Bool.cond_false, Int.reduceNeg] at hg))
    | omega
    | (simp only [List.length_append, List.length_cons, List.length_nil, List.length_map, List.length_singleton, List.length_set, List.length_take, List.length_drop, Nat.mul_one, Nat.one_mul] <;> omega))
set_option maxRecDepth 10000 in
set_option maxHeartbeats 4000000 in
theorem con_DevIsWholeI (d : Dev)  : Con Tryd.prog C0 59 [.agg (devC d)] []
    (fun x σ' => x = .sc (.bool (isWhole d)) ∧ σ' = []) := by
  refine con_of_sem hP [0, 1, 2] [.tmp 2] Tryd.func59 (by unfold Tryd.f59; rfl) rfl rfl (Nat.le_of_ble_eq_true rfl) rfl ?_
  simp only [enter_cons, enter_nil, List.length_cons, List.length_nil, Nat.reduceAdd]
  generalize hQ : endQ _ _ _ _ = Q
  repeat' (first
    | with_reducible refine sem_cut fun k hk => ?_
    | with_reducible refine sem_blk fun k hk => ?_
    | ((first | with_reducible refine r_reg ?_ | ((with_reducible refine i_call (n := 55) ?_); refine call_openF [] ?_) | ((with_reducible refine i_callW (n := 55) ?_); refine callW_use (con_kindIs _ _ (by first | assumption | rfl) (by first | assumption | rfl)) ?_; rintro x σ' ⟨rfl, rfl⟩; (refine ⟨?_, ?_⟩; (focus (simp only [go_sem, reduceIte, Int.reducePow, Nat.reduceEqDiff, Nat.reduceAdd, Nat.reduceLT, Nat.reduceLeDiff, Nat.reduceMul, Nat.reduceSub, Nat.reduceBEq, reduceCtorEq, Int.reduceEq, Int.reduceNe, Int.reduceLT, Int.reduceLE, Int.reduceAdd, Int.reduceSub, Int.reduceMul, Int.reduceToNat, Int.reduceBEq, Int.reduceBNe, Int.reduceGT, Int.reduceGE, Nat.reduceBNe, Nat.reduceGT, decide_true, decide_false, Bool.not_true, Bool.not_false, Int.reduceNeg, beq_true, beq_false, Bool.not_eq_false', takes]; try simp (disch := omega) only [wrap64]))); (with_reducible refine behind_go ?_))); (simp only [go_sem, reduceIte, Int.reducePow, Nat.reduceEqDiff, Nat.reduceAdd, Nat.reduceLT, Nat.reduceLeDiff, Nat.reduceMul, Nat.reduceSub, Nat.reduceBEq, reduceCtorEq, Int.reduceEq, Int.reduceNe, Int.reduceLT, Int.reduceLE, Int.reduceAdd, Int.reduceSub, Int.reduceMul, Int.reduceToNat, Int.reduceBEq, Int.reduceBNe, Int.reduceGT, Int.reduceGE, Nat.reduceBNe, Nat.reduceGT, decide_true, decide_false, Bool.not_true, Bool.not_false, Int.reduceNeg, beq_true, beq_false, Bool.not_eq_false', takes]; try simp (disch := omega) only [wrap64]))
    | with_reducible refine r_skip ?_
    | with_reducible refine r_exit ?_
    | with_reducible refine r_ret ?_
    | with_reducible refine r_codeR ?_
    | with_reducible refine r_codeE ?_
    | with_reducible refine r_blkN ?_
    | with_reducible refine r_blkR ?_
    | with_reducible refine r_blkE ?_
    | with_reducible refine r_blkX rfl ?_
    | ((with_reducible refine r_nil ?_); subst hQ; (first | with_reducible refine end_use_ret [] ?_ ?_ ?_ | with_reducible refine end_use_nrm [] ?_ ?_ ?_); (focus rfl); (focus rfl); (simp only [go_sem, reduceIte, Int.reducePow, Nat.reduceEqDiff, Nat.reduceAdd, Nat.reduceLT, Nat.reduceLeDiff, Nat.reduceMul, Nat.reduceSub, Nat.reduceBEq, reduceCtorEq, Int.reduceEq, Int.reduceNe, Int.reduceLT, Int.reduceLE, Int.reduceAdd, Int.reduceSub, Int.reduceMul, Int.reduceToNat, Int.reduceBEq, Int.reduceBNe, Int.reduceGT, Int.reduceGE, Nat.reduceBNe, Nat.reduceGT, decide_true, decide_false, Bool.not_true, Bool.not_false, Int.reduceNeg, beq_true, beq_false, Bool.not_eq_false', takes]; try simp (disch := omega) only [wrap64]))
    | ((with_reducible refine wkEnd_same ?_); exact ⟨congrArg (fun b => AV.sc (.bool b)) (whole_eq d), rfl⟩)
    | with_reducible refine r_backR ?_
    | with_reducible refine r_backE ?_
    | with_reducible refine r_nil ?_
    | with_reducible refine And.intro ?_ ?_
    | ((with_reducible apply sem_if); (case hb => rfl); all_goals (intro h; try simp only [decide_eq_true_eq, decide_eq_false_iff_not, beq_iff_eq, bne_iff_ne, ne_eq, Bool.not_eq_true', Bool.not_eq_false', beq_eq_false_iff_ne, bne_eq_false_iff_eq, Bool.and_eq_true, Bool.or_eq_true, Bool.or_eq_false_iff, Bool.not_eq_true, Bool.not_eq_false, Int.not_lt, Int.not_le, gt_iff_lt, ge_iff_le, bif_or, bif_and, Bool.and_true, Bool.and_false, Bool.true_and, Bool.false_and, Bool.or_true, Bool.or_false, Bool.true_or, Bool.false_or, Bool.true_eq_false, Bool.false_eq_true, Int.reduceEq, Int.reduceLT, Int.reduceLE, decide_true, decide_false, Bool.not_true, Bool.not_false, not_true_eq_false, not_false_eq_true, Bool.and_eq_false_iff, reduceCtorEq, Classical.not_not, not_and, imp_false, true_and, and_true, Bool.cond_true, Bool.cond_false, Int.reduceNeg] at h))
    | ((fail_if_success with_reducible refine i_call ?_); (fail_if_success with_reducible refine i_loop ?_); (fail_if_success with_reducible refine i_draw ?_); subst hk)
    | exact True.intro
    | exact fun hf => False.elim hf
    | (intro hg; simp +contextual [hg]; done)
    | (intro hg; (simp only [go_sem, reduceIte, Int.reducePow, Nat.reduceEqDiff, Nat.reduceAdd, Nat.reduceLT, Nat.reduceLeDiff, Nat.reduceMul, Nat.reduceSub, Nat.reduceBEq, reduceCtorEq, Int.reduceEq, Int.reduceNe, Int.reduceLT, Int.reduceLE, Int.reduceAdd, Int.reduceSub, Int.reduceMul, Int.reduceToNat, Int.reduceBEq, Int.reduceBNe, Int.reduceGT, Int.reduceGE, Nat.reduceBNe, Nat.reduceGT, decide_true, decide_false, Bool.not_true, Bool.not_false, Int.reduceNeg, beq_true, beq_false, Bool.not_eq_false', takes, hg]; try simp (disch := omega) only [wrap64]); (try simp only [decide_eq_true_eq, decide_eq_false_iff_not, beq_iff_eq, bne_iff_ne, ne_eq, Bool.not_eq_true', Bool.not_eq_false', beq_eq_false_iff_ne, bne_eq_false_iff_eq, Bool.and_eq_true, Bool.or_eq_true, Bool.or_eq_false_iff, Bool.not_eq_true, Bool.not_eq_false, Int.not_lt, Int.not_le, gt_iff_lt, ge_iff_le, bif_or, bif_and, Bool.and_true, Bool.and_false, Bool.true_and, Bool.false_and, Bool.or_true, Bool.or_false, Bool.true_or, Bool.false_or, Bool.true_eq_false, Bool.false_eq_true, Int.reduceEq, Int.reduceLT, Int.reduceLE, decide_true, decide_false, Bool.not_true, Bool.not_false, not_true_eq_false, not_false_eq_true, Bool.and_eq_false_iff, reduceCtorEq, Classical.not_not, not_and, imp_false, true_and, and_true, Bool.cond_true, Bool.cond_false, Int.reduceNeg] at hg))
    | omega
    | (simp only [List.length_append, List.length_cons, List.length_nil, List.length_map, List.length_singleton, List.length_set, List.length_take, List.length_drop, Nat.mul_one, Nat.one_mul] <;> omega))
set_option maxRecDepth 10000 in
set_option maxHeartbeats 4000000 in
theorem con_DevIsRealI (d : Dev)  : Con Tryd.prog C0 60 [.agg (devC d)] []
    (fun x σ' => x = .sc (.bool (isReal d)) ∧ σ' = []) := by
  refine con_of_sem hP [0, 1, 2] [.tmp 2] Tryd.func60 (by unfold Tryd.f60; rfl) rfl rfl (Nat.le_of_ble_eq_true rfl) rfl ?_
  simp only [enter_cons, enter_nil, List.length_cons, List.length_nil, Nat.reduceAdd]
  generalize hQ : endQ _ _ _ _ = Q
  repeat' (first
    | with_reducible refine sem_cut fun k hk => ?_
    | with_reducible refine sem_blk fun k hk => ?_
    | ((first | with_reducible refine r_reg ?_ | ((with_reducible refine i_call (n := 55) ?_); refine call_openF [] ?_) | ((with_reducible refine i_callW (n := 55) ?_); refine callW_use (con_kindIs _ _ (by first | assumption | rfl) (by first | assumption | rfl)) ?_; rintro x σ' ⟨rfl, rfl⟩; (refine ⟨?_, ?_⟩; (focus (simp only [go_sem, reduceIte, Int.reducePow, Nat.reduceEqDiff, Nat.reduceAdd, Nat.reduceLT, Nat.reduceLeDiff, Nat.reduceMul, Nat.reduceSub, Nat.reduceBEq, reduceCtorEq, Int.reduceEq, Int.reduceNe, Int.reduceLT, Int.reduceLE, Int.reduceAdd, Int.reduceSub, Int.reduceMul, Int.reduceToNat, Int.reduceBEq, Int.reduceBNe, Int.reduceGT, Int.reduceGE, Nat.reduceBNe, Nat.reduceGT, decide_true, decide_false, Bool.not_true, Bool.not_false, Int.reduceNeg, beq_true, beq_false, Bool.not_eq_false', takes]; try simp (disch := omega) only [wrap64]))); (with_reducible refine behind_go ?_))); (simp only [go_sem, reduceIte, Int.reducePow, Nat.reduceEqDiff, Nat.reduceAdd, Nat.reduceLT, Nat.reduceLeDiff, Nat.reduceMul, Nat.reduceSub, Nat.reduceBEq, reduceCtorEq, Int.reduceEq, Int.reduceNe, Int.reduceLT, Int.reduceLE, Int.reduceAdd, Int.reduceSub, Int.reduceMul, Int.reduceToNat, Int.reduceBEq, Int.reduceBNe, Int.reduceGT, Int.reduceGE, Nat.reduceBNe, Nat.reduceGT, decide_true, decide_false, Bool.not_true, Bool.not_false, Int.reduceNeg, beq_true, beq_false, Bool.not_eq_false', takes]; try simp (disch := omega) only [wrap64]))
    | with_reducible refine r_skip ?_
    | with_reducible refine r_exit ?_
    | with_reducible refine r_ret ?_
    | with_reducible refine r_codeR ?_
    | with_reducible refine r_codeE ?_
    | with_reducible refine r_blkN ?_
    | with_reducible refine r_blkR ?_
    | with_reducible refine r_blkE ?_
    | with_reducible refine r_blkX rfl ?_
    | ((with_reducible refine r_nil ?_); subst hQ; (first | with_reducible refine end_use_ret [] ?_ ?_ ?_ | with_reducible refine end_use_nrm [] ?_ ?_ ?_); (focus rfl); (focus rfl); (simp only [go_sem, reduceIte, Int.reducePow, Nat.reduceEqDiff, Nat.reduceAdd, Nat.reduceLT, Nat.reduceLeDiff, Nat.reduceMul, Nat.reduceSub, Nat.reduceBEq, reduceCtorEq, Int.reduceEq, Int.reduceNe, Int.reduceLT, Int.reduceLE, Int.reduceAdd, Int.reduceSub, Int.reduceMul, Int.reduceToNat, Int.reduceBEq, Int.reduceBNe, Int.reduceGT, Int.reduceGE, Nat.reduceBNe, Nat.reduceGT, decide_true, decide_false, Bool.not_true, Bool.not_false, Int.reduceNeg, beq_true, beq_false, Bool.not_eq_false', takes]; try simp (disch := omega) only [wrap64]))
    | ((with_reducible refine wkEnd_same ?_); exact ⟨congrArg (fun b => AV.sc (.bool b)) (real_eq d), rfl⟩)
    | with_reducible refine r_backR ?_
    | with_reducible refine r_backE ?_
    | with_reducible refine r_nil ?_
    | with_reducible refine And.intro ?_ ?_
    | ((with_reducible apply sem_if); (case hb => rfl); all_goals (intro h; try simp only [decide_eq_true_eq, decide_eq_false_iff_not, beq_iff_eq, bne_iff_ne, ne_eq, Bool.not_eq_true', Bool.not_eq_false', beq_eq_false_iff_ne, bne_eq_false_iff_eq, Bool.and_eq_true, Bool.or_eq_true, Bool.or_eq_false_iff, Bool.not_eq_true, Bool.not_eq_false, Int.not_lt, Int.not_le, gt_iff_lt, ge_iff_le, bif_or, bif_and, Bool.and_true, Bool.and_false, Bool.true_and, Bool.false_and, Bool.or_true, Bool.or_false, Bool.true_or, Bool.false_or, Bool.true_eq_false, Bool.false_eq_true, Int.reduceEq, Int.reduceLT, Int.reduceLE, decide_true, decide_false, Bool.not_true, Bool.not_false, not_true_eq_false, not_false_eq_true, Bool.and_eq_false_iff, reduceCtorEq, Classical.not_not, not_and, imp_false, true_and, and_true, Bool.cond_true, Bool.cond_false, Int.reduceNeg] at h))
    | ((fail_if_success with_reducible refine i_call ?_); (fail_if_success with_reducible refine i_loop ?_); (fail_if_success with_reducible refine i_draw ?_); subst hk)
    | exact True.intro
    | exact fun hf => False.elim hf
    | (intro hg; simp +contextual [hg]; done)
    | (intro hg; (simp only [go_sem, reduceIte, Int.reducePow, Nat.reduceEqDiff, Nat.reduceAdd, Nat.reduceLT, Nat.reduceLeDiff, Nat.reduceMul, Nat.reduceSub, Nat.reduceBEq, reduceCtorEq, Int.reduceEq, Int.reduceNe, Int.reduceLT, Int.reduceLE, Int.reduceAdd, Int.reduceSub, Int.reduceMul, Int.reduceToNat, Int.reduceBEq, Int.reduceBNe, Int.reduceGT, Int.reduceGE, Nat.reduceBNe, Nat.reduceGT, decide_true, decide_false, Bool.not_true, Bool.not_false, Int.reduceNeg, beq_true, beq_false, Bool.not_eq_false', takes, hg]; try simp (disch := omega) only [wrap64]); (try simp only [decide_eq_true_eq, decide_eq_false_iff_not, beq_iff_eq, bne_iff_ne, ne_eq, Bool.not_eq_true', Bool.not_eq_false', beq_eq_false_iff_ne, bne_eq_false_iff_eq, Bool.and_eq_true, Bool.or_eq_true, Bool.or_eq_false_iff, Bool.not_eq_true, Bool.not_eq_false, Int.not_lt, Int.not_le, gt_iff_lt, ge_iff_le, bif_or, bif_and, Bool.and_true, Bool.and_false, Bool.true_and, Bool.false_and, Bool.or_true, Bool.or_false, Bool.true_or, Bool.false_or, Bool.true_eq_false, Bool.false_eq_true, Int.reduceEq, Int.reduceLT, Int.reduceLE, decide_true, decide_false, Bool.not_true, Bool.not_false, not_true_eq_false, not_false_eq_true, Bool.and_eq_false_iff, reduceCtorEq, Classical.not_not, not_and, imp_false, true_and, and_true, Bool.cond_true, Bool.cond_false, Int.reduceNeg] at hg))
    | omega
    | (simp only [List.length_append, List.length_cons, List.length_nil, List.length_map, List.length_singleton, List.length_set, List.length_take, List.length_drop, Nat.mul_one, Nat.one_mul] <;> omega))
set_option maxRecDepth 10000 in
set_option maxHeartbeats 4000000 in
theorem con_all1 (d : Dev) (m : Nat) (p : Dev → Bool) (hp : ∀ d, Con Tryd.prog C0 m [.agg (devC d)] [] (fun x σ' => x = .sc (.bool (p d)) ∧ σ' = [])) : Con Tryd.prog C0 65 [.agg (devC d), .pt 0 0] [.rc [.sc (.func (.func m) #[] #[])]]
    (fun x σ' => x = .sc (.bool (!p d)) ∧ σ' = [.rc [.sc (.func (.func m) #[] #[])]]) := by
  refine con_of_sem hP [0, 1, 2, 3] [.tmp 3] Tryd.func65 (by unfold Tryd.f65; rfl) rfl rfl (Nat.le_of_ble_eq_true rfl) rfl ?_
  simp only [enter_cons, enter_nil, List.length_cons, List.length_nil, Nat.reduceAdd]
  generalize hQ : endQ _ _ _ _ = Q
  repeat' (first
    | with_reducible refine sem_cut fun k hk => ?_
    | with_reducible refine sem_blk fun k hk => ?_
    | ((first | with_reducible refine r_reg ?_ | ((with_reducible refine i_call (n := m) ?_); refine call_openF [] ?_) | ((with_reducible refine i_callW (n := m) ?_); refine callW_use (hp _) ?_; rintro x σ' ⟨rfl, rfl⟩; (refine ⟨?_, ?_⟩; (focus (simp only [go_sem, reduceIte, Int.reducePow, Nat.reduceEqDiff, Nat.reduceAdd, Nat.reduceLT, Nat.reduceLeDiff, Nat.reduceMul, Nat.reduceSub, Nat.reduceBEq, reduceCtorEq, Int.reduceEq, Int.reduceNe, Int.reduceLT, Int.reduceLE, Int.reduceAdd, Int.reduceSub, Int.reduceMul, Int.reduceToNat, Int.reduceBEq, Int.reduceBNe, Int.reduceGT, Int.reduceGE, Nat.reduceBNe, Nat.reduceGT, decide_true, decide_false, Bool.not_true, Bool.not_false, Int.reduceNeg, beq_true, beq_false, Bool.not_eq_false', takes]; try simp (disch := omega) only [wrap64]))); (with_reducible refine behind_go ?_))); (simp only [go_sem, reduceIte, Int.reducePow, Nat.reduceEqDiff, Nat.reduceAdd, Nat.reduceLT, Nat.reduceLeDiff, Nat.reduceMul, Nat.reduceSub, Nat.reduceBEq, reduceCtorEq, Int.reduceEq, Int.reduceNe, Int.reduceLT, Int.reduceLE, Int.reduceAdd, Int.reduceSub, Int.reduceMul, Int.reduceToNat, Int.reduceBEq, Int.reduceBNe, Int.reduceGT, Int.reduceGE, Nat.reduceBNe, Nat.reduceGT, decide_true, decide_false, Bool.not_true, Bool.not_false, Int.reduceNeg, beq_true, beq_false, Bool.not_eq_false', takes]; try simp (disch := omega) only [wrap64]))
    | with_reducible refine r_skip ?_
    | with_reducible refine r_exit ?_
    | with_reducible refine r_ret ?_
    | with_reducible refine r_codeR ?_
    | with_reducible refine r_codeE ?_
    | with_reducible refine r_blkN ?_
    | with_reducible refine r_blkR ?_
    | with_reducible refine r_blkE ?_
    | with_reducible refine r_blkX rfl ?_
    | ((with_reducible refine r_nil ?_); subst hQ; (first | with_reducible refine endA_ret [] ?_ ?_ ?_ | with_reducible refine endA_nrm [] ?_ ?_ ?_); (focus rfl); (focus rfl); (simp only [go_sem, reduceIte, Int.reducePow, Nat.reduceEqDiff, Nat.reduceAdd, Nat.reduceLT, Nat.reduceLeDiff, Nat.reduceMul, Nat.reduceSub, Nat.reduceBEq, reduceCtorEq, Int.reduceEq, Int.reduceNe, Int.reduceLT, Int.reduceLE, Int.reduceAdd, Int.reduceSub, Int.reduceMul, Int.reduceToNat, Int.reduceBEq, Int.reduceBNe, Int.reduceGT, Int.reduceGE, Nat.reduceBNe, Nat.reduceGT, decide_true, decide_false, Bool.not_true, Bool.not_false, Int.reduceNeg, beq_true, beq_false, Bool.not_eq_false', takes]; try simp (disch := omega) only [wrap64]))
    | ((with_reducible refine wkEnd_same ?_); exact ⟨rfl, rfl⟩)
    | with_reducible refine r_backR ?_
    | with_reducible refine r_backE ?_
    | with_reducible refine r_nil ?_
    | with_reducible refine And.intro ?_ ?_
    | ((with_reducible apply sem_if); (case hb => rfl); all_goals (intro h; try simp only [decide_eq_true_eq, decide_eq_false_iff_not, beq_iff_eq, bne_iff_ne, ne_eq, Bool.not_eq_true', Bool.not_eq_false', beq_eq_false_iff_ne, bne_eq_false_iff_eq, Bool.and_eq_true, Bool.or_eq_true, Bool.or_eq_false_iff, Bool.not_eq_true, Bool.not_eq_false, Int.not_lt, Int.not_le, gt_iff_lt, ge_iff_le, bif_or, bif_and, Bool.and_true, Bool.and_false, Bool.true_and, Bool.false_and, Bool.or_true, Bool.or_false, Bool.true_or, Bool.false_or, Bool.true_eq_false, Bool.false_eq_true, Int.reduceEq, Int.reduceLT, Int.reduceLE, decide_true, decide_false, Bool.not_true, Bool.not_false, not_true_eq_false, not_false_eq_true, Bool.and_eq_false_iff, reduceCtorEq, Classical.not_not, not_and, imp_false, true_and, and_true, Bool.cond_true, Bool.cond_false, Int.reduceNeg] at h))
    | ((fail_if_success with_reducible refine i_call ?_); (fail_if_success with_reducible refine i_loop ?_); (fail_if_success with_reducible refine i_draw ?_); subst hk)
    | exact True.intro
    | exact fun hf => False.elim hf
    | (intro hg; simp +contextual [hg]; done)
    | (intro hg; (simp only [go_sem, reduceIte, Int.reducePow, Nat.reduceEqDiff, Nat.reduceAdd, Nat.reduceLT, Nat.reduceLeDiff, Nat.reduceMul, Nat.reduceSub, Nat.reduceBEq, reduceCtorEq, Int.reduceEq, Int.reduceNe, Int.reduceLT, Int.reduceLE, Int.reduceAdd, Int.reduceSub, Int.reduceMul, Int.reduceToNat, Int.reduceBEq, Int.reduceBNe, Int.reduceGT, Int.reduceGE, Nat.reduceBNe, Nat.reduceGT, decide_true, decide_false, Bool.not_true, Bool.not_false, Int.reduceNeg, beq_true, beq_false, Bool.not_eq_false', takes, hg]; try simp (disch := omega) only [wrap64]); (try simp only [decide_eq_true_eq, decide_eq_false_iff_not, beq_iff_eq, bne_iff_ne, ne_eq, Bool.not_eq_true', Bool.not_eq_false', beq_eq_false_iff_ne, bne_eq_false_iff_eq, Bool.and_eq_true, Bool.or_eq_true, Bool.or_eq_false_iff, Bool.not_eq_true, Bool.not_eq_false, Int.not_lt, Int.not_le, gt_iff_lt, ge_iff_le, bif_or, bif_and, Bool.and_true, Bool.and_false, Bool.true_and, Bool.false_and, Bool.or_true, Bool.or_false, Bool.true_or, Bool.false_or, Bool.true_eq_false, Bool.false_eq_true, Int.reduceEq, Int.reduceLT, Int.reduceLE, decide_true, decide_false, Bool.not_true, Bool.not_false, not_true_eq_false, not_false_eq_true, Bool.and_eq_false_iff, reduceCtorEq, Classical.not_not, not_and, imp_false, true_and, and_true, Bool.cond_true, Bool.cond_false, Int.reduceNeg] at hg))
    | omega
    | (simp only [List.length_append, List.length_cons, List.length_nil, List.length_map, List.length_singleton, List.length_set, List.length_take, List.length_drop, Nat.mul_one, Nat.one_mul] <;> omega))
theorem lift_len (l : List Dev) : (l.map devC).length = l.length := List.length_map ..
theorem any_at {l : List Dev} {p : Dev → Bool} {i : Int} (h0 : 0 ≤ i) (h1 : i < l.length) (h : p (l.getD i.toNat dD) = true) : l.any p = true := by
  have hn : i.toNat < l.length := by omega
  have e : l.getD i.toNat dD = l[i.toNat] := by simp [List.getD, hn]
  rw [e] at h
  rw [List.any_eq_true]
  exact ⟨_, List.getElem_mem hn, h⟩
theorem any_none {l : List Dev} {p : Dev → Bool} {i : Int} (h1 : l.length ≤ i) (h : ∀ j : Nat, (j : Int) < i → p (l.getD j dD) = false) : l.any p = false := by
  rw [List.any_eq_false]
  intro d hd
  obtain ⟨k, hk, rfl⟩ := List.mem_iff_getElem.1 hd
  have := h k (by omega)
  have e : l.getD k dD = l[k] := by simp [List.getD, hk]
  rw [e] at this
  simp [this]
set_option maxRecDepth 10000 in
set_option maxHeartbeats 4000000 in
theorem con_IndexFuncD (l : List Dev) (n m : Nat) (p : Dev → Bool) (hp : ∀ d, Con Tryd.prog C0 n [.agg (devC d), .pt 0 0] [.rc [.sc (.func (.func m) #[] #[])]] (fun x σ' => x = .sc (.bool (p d)) ∧ σ' = [.rc [.sc (.func (.func m) #[] #[])]])) (hl : l.length ≤ 1000000) : Con Tryd.prog C0 68 [.fz 3 (l.map devC), .clo n [(0, 0)]] [.rc [.sc (.func (.func m) #[] #[])]]
    (fun x σ' => ∃ r : Int, x = .sc (.int .i64 (r)) ∧ decide (0 ≤ r) = l.any p ∧ σ' = [.rc [.sc (.func (.func m) #[] #[])]]) := by
  refine con_of_sem hP [0, 1, 4, 5, 7, 8, 9, 16] [.tmp 4] Tryd.func68 (by unfold Tryd.f68; rfl) rfl rfl (Nat.le_of_ble_eq_true rfl) rfl ?_
  simp only [enter_cons, enter_nil, List.length_cons, List.length_nil, Nat.reduceAdd]
  generalize hQ : endQ _ _ _ _ = Q
  repeat' (first
    | with_reducible refine sem_cut fun k hk => ?_
    | with_reducible refine sem_blk fun k hk => ?_
    | ((first | with_reducible refine r_reg ?_ | ((with_reducible refine i_call (n := n) ?_); refine call_open [[1]] ?_) | ((with_reducible refine i_callW (n := n) ?_); refine callW_use (hp _) ?_; rintro x σ' ⟨rfl, rfl⟩; (with_reducible refine behind_go ?_))); (simp only [go_sem, reduceIte, Int.reducePow, Nat.reduceEqDiff, Nat.reduceAdd, Nat.reduceLT, Nat.reduceLeDiff, Nat.reduceMul, Nat.reduceSub, Nat.reduceBEq, reduceCtorEq, Int.reduceEq, Int.reduceNe, Int.reduceLT, Int.reduceLE, Int.reduceAdd, Int.reduceSub, Int.reduceMul, Int.reduceToNat, Int.reduceBEq, Int.reduceBNe, Int.reduceGT, Int.reduceGE, Nat.reduceBNe, Nat.reduceGT, decide_true, decide_false, Bool.not_true, Bool.not_false, Int.reduceNeg, beq_true, beq_false, Bool.not_eq_false', takes, List.length_map]; try simp (disch := omega) only [wrap64, devs_get]; try simp only [go_sem, reduceIte, Int.reducePow, Nat.reduceEqDiff, Nat.reduceAdd, Nat.reduceLT, Nat.reduceLeDiff, Nat.reduceMul, Nat.reduceSub, Nat.reduceBEq, reduceCtorEq, Int.reduceEq, Int.reduceNe, Int.reduceLT, Int.reduceLE, Int.reduceAdd, Int.reduceSub, Int.reduceMul, Int.reduceToNat, Int.reduceBEq, Int.reduceBNe, Int.reduceGT, Int.reduceGE, Nat.reduceBNe, Nat.reduceGT, decide_true, decide_false, Bool.not_true, Bool.not_false, Int.reduceNeg, beq_true, beq_false, Bool.not_eq_false', takes, List.length_map]))
    | with_reducible refine r_skip ?_
    | with_reducible refine r_exit ?_
    | with_reducible refine r_ret ?_
    | with_reducible refine r_codeR ?_
    | with_reducible refine r_codeE ?_
    | with_reducible refine r_blkN ?_
    | with_reducible refine r_blkR ?_
    | with_reducible refine r_blkE ?_
    | with_reducible refine r_blkX rfl ?_
    | ((with_reducible refine r_nil ?_); subst hQ; (first | with_reducible refine endA_ret [] ?_ ?_ ?_ | with_reducible refine endA_nrm [] ?_ ?_ ?_); (focus rfl); (focus rfl); (simp only [go_sem, reduceIte, Int.reducePow, Nat.reduceEqDiff, Nat.reduceAdd, Nat.reduceLT, Nat.reduceLeDiff, Nat.reduceMul, Nat.reduceSub, Nat.reduceBEq, reduceCtorEq, Int.reduceEq, Int.reduceNe, Int.reduceLT, Int.reduceLE, Int.reduceAdd, Int.reduceSub, Int.reduceMul, Int.reduceToNat, Int.reduceBEq, Int.reduceBNe, Int.reduceGT, Int.reduceGE, Nat.reduceBNe, Nat.reduceGT, decide_true, decide_false, Bool.not_true, Bool.not_false, Int.reduceNeg, beq_true, beq_false, Bool.not_eq_false', takes, List.length_map]; try simp (disch := omega) only [wrap64, devs_get]; try simp only [go_sem, reduceIte, Int.reducePow, Nat.reduceEqDiff, Nat.reduceAdd, Nat.reduceLT, Nat.reduceLeDiff, Nat.reduceMul, Nat.reduceSub, Nat.reduceBEq, reduceCtorEq, Int.reduceEq, Int.reduceNe, Int.reduceLT, Int.reduceLE, Int.reduceAdd, Int.reduceSub, Int.reduceMul, Int.reduceToNat, Int.reduceBEq, Int.reduceBNe, Int.reduceGT, Int.reduceGE, Nat.reduceBNe, Nat.reduceGT, decide_true, decide_false, Bool.not_true, Bool.not_false, Int.reduceNeg, beq_true, beq_false, Bool.not_eq_false', takes, List.length_map]))
    | ((with_reducible refine wkEnd_same ?_); exact ⟨_, rfl, rfl, rfl⟩)
    | with_reducible refine r_backR ?_
    | with_reducible refine r_backE ?_
    | with_reducible refine r_nil ?_
    | with_reducible refine And.intro ?_ ?_
    | ((with_reducible apply sem_if); (case hb => rfl); all_goals (intro h; try simp only [decide_eq_true_eq, decide_eq_false_iff_not, beq_iff_eq, bne_iff_ne, ne_eq, Bool.not_eq_true', Bool.not_eq_false', beq_eq_false_iff_ne, bne_eq_false_iff_eq, Bool.and_eq_true, Bool.or_eq_true, Bool.or_eq_false_iff, Bool.not_eq_true, Bool.not_eq_false, Int.not_lt, Int.not_le, gt_iff_lt, ge_iff_le, bif_or, bif_and, Bool.and_true, Bool.and_false, Bool.true_and, Bool.false_and, Bool.or_true, Bool.or_false, Bool.true_or, Bool.false_or, Bool.true_eq_false, Bool.false_eq_true, Int.reduceEq, Int.reduceLT, Int.reduceLE, decide_true, decide_false, Bool.not_true, Bool.not_false, not_true_eq_false, not_false_eq_true, Bool.and_eq_false_iff, reduceCtorEq, Classical.not_not, not_and, imp_false, true_and, and_true, Bool.cond_true, Bool.cond_false, Int.reduceNeg] at h))
    | ((fail_if_success with_reducible refine i_call ?_); (fail_if_success with_reducible refine i_loop ?_); (fail_if_success with_reducible refine i_draw ?_); subst hk)
    | exact True.intro
    | exact fun hf => False.elim hf
    | (intro hg; simp +contextual [hg]; done)
    | (intro hg; (simp only [go_sem, reduceIte, Int.reducePow, Nat.reduceEqDiff, Nat.reduceAdd, Nat.reduceLT, Nat.reduceLeDiff, Nat.reduceMul, Nat.reduceSub, Nat.reduceBEq, reduceCtorEq, Int.reduceEq, Int.reduceNe, Int.reduceLT, Int.reduceLE, Int.reduceAdd, Int.reduceSub, Int.reduceMul, Int.reduceToNat, Int.reduceBEq, Int.reduceBNe, Int.reduceGT, Int.reduceGE, Nat.reduceBNe, Nat.reduceGT, decide_true, decide_false, Bool.not_true, Bool.not_false, Int.reduceNeg, beq_true, beq_false, Bool.not_eq_false', takes, List.length_map, hg]; try simp (disch := omega) only [wrap64, devs_get]; try simp only [go_sem, reduceIte, Int.reducePow, Nat.reduceEqDiff, Nat.reduceAdd, Nat.reduceLT, Nat.reduceLeDiff, Nat.reduceMul, Nat.reduceSub, Nat.reduceBEq, reduceCtorEq, Int.reduceEq, Int.reduceNe, Int.reduceLT, Int.reduceLE, Int.reduceAdd, Int.reduceSub, Int.reduceMul, Int.reduceToNat, Int.reduceBEq, Int.reduceBNe, Int.reduceGT, Int.reduceGE, Nat.reduceBNe, Nat.reduceGT, decide_true, decide_false, Bool.not_true, Bool.not_false, Int.reduceNeg, beq_true, beq_false, Bool.not_eq_false', takes, List.length_map, hg]); (try simp only [decide_eq_true_eq, decide_eq_false_iff_not, beq_iff_eq, bne_iff_ne, ne_eq, Bool.not_eq_true', Bool.not_eq_false', beq_eq_false_iff_ne, bne_eq_false_iff_eq, Bool.and_eq_true, Bool.or_eq_true, Bool.or_eq_false_iff, Bool.not_eq_true, Bool.not_eq_false, Int.not_lt, Int.not_le, gt_iff_lt, ge_iff_le, bif_or, bif_and, Bool.and_true, Bool.and_false, Bool.true_and, Bool.false_and, Bool.or_true, Bool.or_false, Bool.true_or, Bool.false_or, Bool.true_eq_false, Bool.false_eq_true, Int.reduceEq, Int.reduceLT, Int.reduceLE, decide_true, decide_false, Bool.not_true, Bool.not_false, not_true_eq_false, not_false_eq_true, Bool.and_eq_false_iff, reduceCtorEq, Classical.not_not, not_and, imp_false, true_and, and_true, Bool.cond_true, Bool.cond_false, Int.reduceNeg] at hg))
    | omega
    | (simp only [List.length_append, List.length_cons, List.length_nil, List.length_map, List.length_singleton, List.length_set, List.length_take, List.length_drop, Nat.mul_one, Nat.one_mul] <;> omega))
  refine sem_loopA [0, 1, 7, 8] (fun ((i : Int)) => (⟨[(0, .fz 3 (l.map devC)), (1, .clo n [(0, 0)]), (7, .sc (.int .i64 (l.length))), (8, .sc (.int .i64 (i)))], [.rc [.sc (.func (.func m) #[] #[])]]⟩ : St)) (fun ((i : Int)) => 0 ≤ i ∧ i ≤ l.length ∧ (∀ j : Nat, (j : Int) < i → p (l.getD j dD) = false)) (fun ((i : Int)) => (l.length - i).toNat)  0 (by rfl) (by rfl) ?_ ?_
  · (simp only [go_sem, reduceIte, Int.reducePow, Nat.reduceEqDiff, Nat.reduceAdd, Nat.reduceLT, Nat.reduceLeDiff, Nat.reduceMul, Nat.reduceSub, Nat.reduceBEq, reduceCtorEq, Int.reduceEq, Int.reduceNe, Int.reduceLT, Int.reduceLE, Int.reduceAdd, Int.reduceSub, Int.reduceMul, Int.reduceToNat, Int.reduceBEq, Int.reduceBNe, Int.reduceGT, Int.reduceGE, Nat.reduceBNe, Nat.reduceGT, decide_true, decide_false, Bool.not_true, Bool.not_false, Int.reduceNeg, beq_true, beq_false, Bool.not_eq_false', takes, List.length_map]; try simp (disch := omega) only [wrap64, devs_get]; try simp only [go_sem, reduceIte, Int.reducePow, Nat.reduceEqDiff, Nat.reduceAdd, Nat.reduceLT, Nat.reduceLeDiff, Nat.reduceMul, Nat.reduceSub, Nat.reduceBEq, reduceCtorEq, Int.reduceEq, Int.reduceNe, Int.reduceLT, Int.reduceLE, Int.reduceAdd, Int.reduceSub, Int.reduceMul, Int.reduceToNat, Int.reduceBEq, Int.reduceBNe, Int.reduceGT, Int.reduceGE, Nat.reduceBNe, Nat.reduceGT, decide_true, decide_false, Bool.not_true, Bool.not_false, Int.reduceNeg, beq_true, beq_false, Bool.not_eq_false', takes, List.length_map])
    refine ⟨(by first | exact wkSt_same rfl | (apply wkSt_mk <;> repeat' (first | exact wkE_nil | (with_reducible apply wkE_cons) | exact wkC_nil 3 | exact wkV_nil 3 | exact wkA_nil 3 | (with_reducible apply wkV_agg) | (with_reducible apply wkV_tup) | (with_reducible apply wkA_agg) | exact wkA_refl _ | exact wkV_refl _ | exact wkS_nil | (with_reducible apply wkS_cons) | (with_reducible apply wkO_rc) | (with_reducible apply wkO_arr) | exact wkO_refl _ | exact wkL_nil | (with_reducible apply wkL_cons) | exact wkC_refl _ | exact wkT_nil | (with_reducible apply wkT_cons) | (with_reducible apply wkR_app (wkR_refl _)) | exact wkR_nil | (with_reducible apply wkR_cons) | exact wkR_refl _))), ?_⟩
    (repeat' (first | with_reducible refine And.intro ?_ ?_ | with_reducible assumption | omega | exact True.intro | exact okRows_nil _ | (simp only [List.length_append, List.length_cons, List.length_nil, List.length_singleton, List.length_set, List.length_take] <;> omega) | (with_reducible intro hf; cases hf; done)))
    all_goals (intro j h; omega)
  · rintro i ⟨hi, hi2, hj⟩
    repeat' (first
      | with_reducible refine sem_cut fun k hk => ?_
      | with_reducible refine sem_blk fun k hk => ?_
      | ((first | with_reducible refine r_reg ?_ | ((with_reducible refine i_call (n := n) ?_); refine call_open [[1]] ?_) | ((with_reducible refine i_callW (n := n) ?_); refine callW_use (hp _) ?_; rintro x σ' ⟨rfl, rfl⟩; (with_reducible refine behind_go ?_))); (simp only [go_sem, reduceIte, Int.reducePow, Nat.reduceEqDiff, Nat.reduceAdd, Nat.reduceLT, Nat.reduceLeDiff, Nat.reduceMul, Nat.reduceSub, Nat.reduceBEq, reduceCtorEq, Int.reduceEq, Int.reduceNe, Int.reduceLT, Int.reduceLE, Int.reduceAdd, Int.reduceSub, Int.reduceMul, Int.reduceToNat, Int.reduceBEq, Int.reduceBNe, Int.reduceGT, Int.reduceGE, Nat.reduceBNe, Nat.reduceGT, decide_true, decide_false, Bool.not_true, Bool.not_false, Int.reduceNeg, beq_true, beq_false, Bool.not_eq_false', takes, List.length_map]; try simp (disch := omega) only [wrap64, devs_get]; try simp only [go_sem, reduceIte, Int.reducePow, Nat.reduceEqDiff, Nat.reduceAdd, Nat.reduceLT, Nat.reduceLeDiff, Nat.reduceMul, Nat.reduceSub, Nat.reduceBEq, reduceCtorEq, Int.reduceEq, Int.reduceNe, Int.reduceLT, Int.reduceLE, Int.reduceAdd, Int.reduceSub, Int.reduceMul, Int.reduceToNat, Int.reduceBEq, Int.reduceBNe, Int.reduceGT, Int.reduceGE, Nat.reduceBNe, Nat.reduceGT, decide_true, decide_false, Bool.not_true, Bool.not_false, Int.reduceNeg, beq_true, beq_false, Bool.not_eq_false', takes, List.length_map]))
      | with_reducible refine r_skip ?_
      | with_reducible refine r_exit ?_
      | with_reducible refine r_ret ?_
      | with_reducible refine r_codeR ?_
      | with_reducible refine r_codeE ?_
      | with_reducible refine r_blkN ?_
      | with_reducible refine r_blkR ?_
      | with_reducible refine r_blkE ?_
      | with_reducible refine r_blkX rfl ?_
      | ((with_reducible refine r_nil ?_); subst hQ; (first | with_reducible refine endA_ret [] ?_ ?_ ?_ | with_reducible refine endA_nrm [] ?_ ?_ ?_); (focus rfl); (focus rfl); (simp only [go_sem, reduceIte, Int.reducePow, Nat.reduceEqDiff, Nat.reduceAdd, Nat.reduceLT, Nat.reduceLeDiff, Nat.reduceMul, Nat.reduceSub, Nat.reduceBEq, reduceCtorEq, Int.reduceEq, Int.reduceNe, Int.reduceLT, Int.reduceLE, Int.reduceAdd, Int.reduceSub, Int.reduceMul, Int.reduceToNat, Int.reduceBEq, Int.reduceBNe, Int.reduceGT, Int.reduceGE, Nat.reduceBNe, Nat.reduceGT, decide_true, decide_false, Bool.not_true, Bool.not_false, Int.reduceNeg, beq_true, beq_false, Bool.not_eq_false', takes, List.length_map]; try simp (disch := omega) only [wrap64, devs_get]; try simp only [go_sem, reduceIte, Int.reducePow, Nat.reduceEqDiff, Nat.reduceAdd, Nat.reduceLT, Nat.reduceLeDiff, Nat.reduceMul, Nat.reduceSub, Nat.reduceBEq, reduceCtorEq, Int.reduceEq, Int.reduceNe, Int.reduceLT, Int.reduceLE, Int.reduceAdd, Int.reduceSub, Int.reduceMul, Int.reduceToNat, Int.reduceBEq, Int.reduceBNe, Int.reduceGT, Int.reduceGE, Nat.reduceBNe, Nat.reduceGT, decide_true, decide_false, Bool.not_true, Bool.not_false, Int.reduceNeg, beq_true, beq_false, Bool.not_eq_false', takes, List.length_map]))
      | (intro j h9; by_cases h8 : (j : Int) < i; exact hj j h8; have e8 : j = i.toNat := (by omega); subst e8; assumption)
      | ((with_reducible refine wkEnd_same ?_); first | exact ⟨_, rfl, by rw [any_at hi (by omega) (by assumption)]; simp; omega, rfl⟩ | exact ⟨_, rfl, by rw [any_none (by omega) hj]; rfl, rfl⟩)
      | (first | ((with_reducible apply back_useA _); (case hk => rfl); (case hb => rfl); (case' h => ((simp only [go_sem, reduceIte, Int.reducePow, Nat.reduceEqDiff, Nat.reduceAdd, Nat.reduceLT, Nat.reduceLeDiff, Nat.reduceMul, Nat.reduceSub, Nat.reduceBEq, reduceCtorEq, Int.reduceEq, Int.reduceNe, Int.reduceLT, Int.reduceLE, Int.reduceAdd, Int.reduceSub, Int.reduceMul, Int.reduceToNat, Int.reduceBEq, Int.reduceBNe, Int.reduceGT, Int.reduceGE, Nat.reduceBNe, Nat.reduceGT, decide_true, decide_false, Bool.not_true, Bool.not_false, Int.reduceNeg, beq_true, beq_false, Bool.not_eq_false', takes, List.length_map]; try simp (disch := omega) only [wrap64, devs_get]; try simp only [go_sem, reduceIte, Int.reducePow, Nat.reduceEqDiff, Nat.reduceAdd, Nat.reduceLT, Nat.reduceLeDiff, Nat.reduceMul, Nat.reduceSub, Nat.reduceBEq, reduceCtorEq, Int.reduceEq, Int.reduceNe, Int.reduceLT, Int.reduceLE, Int.reduceAdd, Int.reduceSub, Int.reduceMul, Int.reduceToNat, Int.reduceBEq, Int.reduceBNe, Int.reduceGT, Int.reduceGE, Nat.reduceBNe, Nat.reduceGT, decide_true, decide_false, Bool.not_true, Bool.not_false, Int.reduceNeg, beq_true, beq_false, Bool.not_eq_false', takes, List.length_map]); refine ⟨?_, ?_⟩; (focus first | exact wkSt_same rfl | (apply wkSt_mk <;> repeat' (first | exact wkE_nil | (with_reducible apply wkE_cons) | exact wkC_nil 3 | exact wkV_nil 3 | exact wkA_nil 3 | (with_reducible apply wkV_agg) | (with_reducible apply wkV_tup) | (with_reducible apply wkA_agg) | exact wkA_refl _ | exact wkV_refl _ | exact wkS_nil | (with_reducible apply wkS_cons) | (with_reducible apply wkO_rc) | (with_reducible apply wkO_arr) | exact wkO_refl _ | exact wkL_nil | (with_reducible apply wkL_cons) | exact wkC_refl _ | exact wkT_nil | (with_reducible apply wkT_cons) | (with_reducible apply wkR_app (wkR_refl _)) | exact wkR_nil | (with_reducible apply wkR_cons) | exact wkR_refl _))); (repeat' (first | with_reducible refine And.intro ?_ ?_ | with_reducible assumption | omega | exact True.intro | exact okRows_nil _ | (simp only [List.length_append, List.length_cons, List.length_nil, List.length_singleton, List.length_set, List.length_take] <;> omega) | (with_reducible intro hf; cases hf; done)))))))
      | with_reducible refine r_backR ?_
      | with_reducible refine r_backE ?_
      | with_reducible refine r_nil ?_
      | with_reducible refine And.intro ?_ ?_
      | ((with_reducible apply sem_if); (case hb => rfl); all_goals (intro h; try simp only [decide_eq_true_eq, decide_eq_false_iff_not, beq_iff_eq, bne_iff_ne, ne_eq, Bool.not_eq_true', Bool.not_eq_false', beq_eq_false_iff_ne, bne_eq_false_iff_eq, Bool.and_eq_true, Bool.or_eq_true, Bool.or_eq_false_iff, Bool.not_eq_true, Bool.not_eq_false, Int.not_lt, Int.not_le, gt_iff_lt, ge_iff_le, bif_or, bif_and, Bool.and_true, Bool.and_false, Bool.true_and, Bool.false_and, Bool.or_true, Bool.or_false, Bool.true_or, Bool.false_or, Bool.true_eq_false, Bool.false_eq_true, Int.reduceEq, Int.reduceLT, Int.reduceLE, decide_true, decide_false, Bool.not_true, Bool.not_false, not_true_eq_false, not_false_eq_true, Bool.and_eq_false_iff, reduceCtorEq, Classical.not_not, not_and, imp_false, true_and, and_true, Bool.cond_true, Bool.cond_false, Int.reduceNeg] at h))
      | ((fail_if_success with_reducible refine i_call ?_); (fail_if_success with_reducible refine i_loop ?_); (fail_if_success with_reducible refine i_draw ?_); subst hk)
      | exact True.intro
      | exact fun hf => False.elim hf
      | (intro hg; simp +contextual [hg]; done)
      | (intro hg; (simp only [go_sem, reduceIte, Int.reducePow, Nat.reduceEqDiff, Nat.reduceAdd, Nat.reduceLT, Nat.reduceLeDiff, Nat.reduceMul, Nat.reduceSub, Nat.reduceBEq, reduceCtorEq, Int.reduceEq, Int.reduceNe, Int.reduceLT, Int.reduceLE, Int.reduceAdd, Int.reduceSub, Int.reduceMul, Int.reduceToNat, Int.reduceBEq, Int.reduceBNe, Int.reduceGT, Int.reduceGE, Nat.reduceBNe, Nat.reduceGT, decide_true, decide_false, Bool.not_true, Bool.not_false, Int.reduceNeg, beq_true, beq_false, Bool.not_eq_false', takes, List.length_map, hg]; try simp (disch := omega) only [wrap64, devs_get]; try simp only [go_sem, reduceIte, Int.reducePow, Nat.reduceEqDiff, Nat.reduceAdd, Nat.reduceLT, Nat.reduceLeDiff, Nat.reduceMul, Nat.reduceSub, Nat.reduceBEq, reduceCtorEq, Int.reduceEq, Int.reduceNe, Int.reduceLT, Int.reduceLE, Int.reduceAdd, Int.reduceSub, Int.reduceMul, Int.reduceToNat, Int.reduceBEq, Int.reduceBNe, Int.reduceGT, Int.reduceGE, Nat.reduceBNe, Nat.reduceGT, decide_true, decide_false, Bool.not_true, Bool.not_false, Int.reduceNeg, beq_true, beq_false, Bool.not_eq_false', takes, List.length_map, hg]); (try simp only [decide_eq_true_eq, decide_eq_false_iff_not, beq_iff_eq, bne_iff_ne, ne_eq, Bool.not_eq_true', Bool.not_eq_false', beq_eq_false_iff_ne, bne_eq_false_iff_eq, Bool.and_eq_true, Bool.or_eq_true, Bool.or_eq_false_iff, Bool.not_eq_true, Bool.not_eq_false, Int.not_lt, Int.not_le, gt_iff_lt, ge_iff_le, bif_or, bif_and, Bool.and_true, Bool.and_false, Bool.true_and, Bool.false_and, Bool.or_true, Bool.or_false, Bool.true_or, Bool.false_or, Bool.true_eq_false, Bool.false_eq_true, Int.reduceEq, Int.reduceLT, Int.reduceLE, decide_true, decide_false, Bool.not_true, Bool.not_false, not_true_eq_false, not_false_eq_true, Bool.and_eq_false_iff, reduceCtorEq, Classical.not_not, not_and, imp_false, true_and, and_true, Bool.cond_true, Bool.cond_false, Int.reduceNeg] at hg))
      | omega
      | (simp only [List.length_append, List.length_cons, List.length_nil, List.length_map, List.length_singleton, List.length_set, List.length_take, List.length_drop, Nat.mul_one, Nat.one_mul] <;> omega))
end Go.AM
