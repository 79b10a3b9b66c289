/- Contracts of the program's own tests of operands, contacts, coils, instructions. Conditions: none. -/
import Derived.Test.YtkafcijfljjlaaaDoorAmA21
set_option linter.unusedSimpArgs false
set_option linter.unusedVariables false
namespace Go.AM
open Go Go.Proofs
set_option maxRecDepth 10000 in
set_option maxHeartbeats 4000000 in
theorem con_in (n lo hi : Int)  : Con Tryd.prog C0 33 [.sc (.int .i64 (n)), .sc (.int .i64 (lo)), .sc (.int .i64 (hi))] []
    (fun x σ' => x = .sc (.bool (decide (lo ≤ n) && decide (n ≤ hi))) ∧ σ' = []) := by
  refine con_of_sem hP [0, 1, 2, 6] [.tmp 6] Tryd.func33 (by unfold Tryd.f33; rfl) rfl rfl (Nat.le_of_ble_eq_true rfl) rfl ?_
  simp only [enter_cons, enter_nil, List.length_cons, List.length_nil, Nat.reduceAdd]
  generalize hQ : endQ _ _ _ _ = Q
  repeat' (first
    | with_reducible refine sem_cut fun k hk => ?_
    | with_reducible refine sem_blk fun k hk => ?_
    | ((first | with_reducible refine r_reg ?_); (simp only [go_sem, reduceIte, Int.reducePow, Nat.reduceEqDiff, Nat.reduceAdd, Nat.reduceLT, Nat.reduceLeDiff, Nat.reduceMul, Nat.reduceSub, Nat.reduceBEq, reduceCtorEq, Int.reduceEq, Int.reduceNe, Int.reduceLT, Int.reduceLE, Int.reduceAdd, Int.reduceSub, Int.reduceMul, Int.reduceToNat, Int.reduceBEq, Int.reduceBNe, Int.reduceGT, Int.reduceGE, Nat.reduceBNe, Nat.reduceGT, decide_true, decide_false, Bool.not_true, Bool.not_false, Int.reduceNeg, beq_true, beq_false, Bool.not_eq_false', takes]; try simp (disch := omega) only [wrap64]))
    | with_reducible refine r_skip ?_
    | with_reducible refine r_exit ?_
    | with_reducible refine r_ret ?_
    | with_reducible refine r_codeR ?_
    | with_reducible refine r_codeE ?_
    | with_reducible refine r_blkN ?_
    | with_reducible refine r_blkR ?_
    | with_reducible refine r_blkE ?_
    | with_reducible refine r_blkX rfl ?_
    | ((with_reducible refine r_nil ?_); subst hQ; (first | with_reducible refine end_use_ret [] ?_ ?_ ?_ | with_reducible refine end_use_nrm [] ?_ ?_ ?_); (focus rfl); (focus rfl); (simp only [go_sem, reduceIte, Int.reducePow, Nat.reduceEqDiff, Nat.reduceAdd, Nat.reduceLT, Nat.reduceLeDiff, Nat.reduceMul, Nat.reduceSub, Nat.reduceBEq, reduceCtorEq, Int.reduceEq, Int.reduceNe, Int.reduceLT, Int.reduceLE, Int.reduceAdd, Int.reduceSub, Int.reduceMul, Int.reduceToNat, Int.reduceBEq, Int.reduceBNe, Int.reduceGT, Int.reduceGE, Nat.reduceBNe, Nat.reduceGT, decide_true, decide_false, Bool.not_true, Bool.not_false, Int.reduceNeg, beq_true, beq_false, Bool.not_eq_false', takes]; try simp (disch := omega) only [wrap64]))
    | ((with_reducible refine wkEnd_same ?_); exact ⟨by simp [*], rfl⟩)
    | with_reducible refine r_backR ?_
    | with_reducible refine r_backE ?_
    | with_reducible refine r_nil ?_
    | with_reducible refine And.intro ?_ ?_
    | ((with_reducible apply sem_if); (case hb => rfl); all_goals (intro h; try simp only [decide_eq_true_eq, decide_eq_false_iff_not, beq_iff_eq, bne_iff_ne, ne_eq, Bool.not_eq_true', Bool.not_eq_false', beq_eq_false_iff_ne, bne_eq_false_iff_eq, Bool.and_eq_true, Bool.or_eq_true, Bool.or_eq_false_iff, Bool.not_eq_true, Bool.not_eq_false, Int.not_lt, Int.not_le, gt_iff_lt, ge_iff_le, bif_or, bif_and, Bool.and_true, Bool.and_false, Bool.true_and, Bool.false_and, Bool.or_true, Bool.or_false, Bool.true_or, Bool.false_or, Bool.true_eq_false, Bool.false_eq_true, Int.reduceEq, Int.reduceLT, Int.reduceLE, decide_true, decide_false, Bool.not_true, Bool.not_false, not_true_eq_false, not_false_eq_true, Bool.and_eq_false_iff, reduceCtorEq, Classical.not_not, not_and, imp_false, true_and, and_true, Bool.cond_true, Bool.cond_false, Int.reduceNeg] at h))
    | ((fail_if_success with_reducible refine i_call ?_); (fail_if_success with_reducible refine i_loop ?_); (fail_if_success with_reducible refine i_draw ?_); subst hk)
    | exact True.intro
    | exact fun hf => False.elim hf
    | (intro hg; simp +contextual [hg]; done)
    | (intro hg; (simp only [go_sem, reduceIte, Int.reducePow, Nat.reduceEqDiff, Nat.reduceAdd, Nat.reduceLT, Nat.reduceLeDiff, Nat.reduceMul, Nat.reduceSub, Nat.reduceBEq, reduceCtorEq, Int.reduceEq, Int.reduceNe, Int.reduceLT, Int.reduceLE, Int.reduceAdd, Int.reduceSub, Int.reduceMul, Int.reduceToNat, Int.reduceBEq, Int.reduceBNe, Int.reduceGT, Int.reduceGE, Nat.reduceBNe, Nat.reduceGT, decide_true, decide_false, Bool.not_true, Bool.not_false, Int.reduceNeg, beq_true, beq_false, Bool.not_eq_false', takes, hg]; try simp (disch := omega) only [wrap64]); (try simp only [decide_eq_true_eq, decide_eq_false_iff_not, beq_iff_eq, bne_iff_ne, ne_eq, Bool.not_eq_true', Bool.not_eq_false', beq_eq_false_iff_ne, bne_eq_false_iff_eq, Bool.and_eq_true, Bool.or_eq_true, Bool.or_eq_false_iff, Bool.not_eq_true, Bool.not_eq_false, Int.not_lt, Int.not_le, gt_iff_lt, ge_iff_le, bif_or, bif_and, Bool.and_true, Bool.and_false, Bool.true_and, Bool.false_and, Bool.or_true, Bool.or_false, Bool.true_or, Bool.false_or, Bool.true_eq_false, Bool.false_eq_true, Int.reduceEq, Int.reduceLT, Int.reduceLE, decide_true, decide_false, Bool.not_true, Bool.not_false, not_true_eq_false, not_false_eq_true, Bool.and_eq_false_iff, reduceCtorEq, Classical.not_not, not_and, imp_false, true_and, and_true, Bool.cond_true, Bool.cond_false, Int.reduceNeg] at hg))
    | omega
    | (simp only [List.length_append, List.length_cons, List.length_nil, List.length_map, List.length_singleton, List.length_set, List.length_take, List.length_drop, Nat.mul_one, Nat.one_mul] <;> omega))
theorem gl_devSizes_at (k : Int) (h0 : 1 ≤ k) (h1 : k ≤ 10) : gl_devSizes.getD k.toNat [] = [.sc (.int .i64 (devSz k))] := by
  have : k = 1 ∨ k = 2 ∨ k = 3 ∨ k = 4 ∨ k = 5 ∨ k = 6 ∨ k = 7 ∨ k = 8 ∨ k = 9 ∨ k = 10 := by omega
  rcases this with rfl | rfl | rfl | rfl | rfl | rfl | rfl | rfl | rfl | rfl <;> rfl
theorem gl_devSizes_len : gl_devSizes.length = 11 := rfl
theorem gl_devWords_len : gl_devWords.length = 4 := rfl
theorem devSz_out {k : Int} (h : k < 1 ∨ 10 < k) : devSz k = 0 := by unfold devSz; (repeat' split) <;> omega
theorem devSz_bd (k : Int) : 0 ≤ devSz k ∧ devSz k ≤ 64 := by unfold devSz; (repeat' split) <;> omega
set_option maxRecDepth 10000 in
set_option maxHeartbeats 4000000 in
theorem con_DevSizeI (k : Int)  : Con Tryd.prog C0 66 [.sc (.int .i64 (k))] []
    (fun x σ' => x = .sc (.int .i64 (devSz k)) ∧ σ' = []) := by
  refine con_of_sem hP [0, 2, 5] [.tmp 2] Tryd.func66 (by unfold Tryd.f66; rfl) rfl rfl (Nat.le_of_ble_eq_true rfl) rfl ?_
  simp only [enter_cons, enter_nil, List.length_cons, List.length_nil, Nat.reduceAdd]
  generalize hQ : endQ _ _ _ _ = Q
  repeat' (first
    | with_reducible refine sem_cut fun k hk => ?_
    | with_reducible refine sem_blk fun k hk => ?_
    | ((first | with_reducible refine r_reg ?_ | ((with_reducible refine i_call (n := 33) ?_); refine call_openF [] ?_) | ((with_reducible refine i_callW (n := 33) ?_); refine callW_use (con_in _ _ _) ?_; rintro x σ' ⟨rfl, rfl⟩; (refine ⟨?_, ?_⟩; (focus (simp only [go_sem, reduceIte, Int.reducePow, Nat.reduceEqDiff, Nat.reduceAdd, Nat.reduceLT, Nat.reduceLeDiff, Nat.reduceMul, Nat.reduceSub, Nat.reduceBEq, reduceCtorEq, Int.reduceEq, Int.reduceNe, Int.reduceLT, Int.reduceLE, Int.reduceAdd, Int.reduceSub, Int.reduceMul, Int.reduceToNat, Int.reduceBEq, Int.reduceBNe, Int.reduceGT, Int.reduceGE, Nat.reduceBNe, Nat.reduceGT, decide_true, decide_false, Bool.not_true, Bool.not_false, Int.reduceNeg, beq_true, beq_false, Bool.not_eq_false', takes, gl_devSizes_len]; try simp (disch := omega) only [wrap64, gl_devSizes_at]; try simp only [go_sem, reduceIte, Int.reducePow, Nat.reduceEqDiff, Nat.reduceAdd, Nat.reduceLT, Nat.reduceLeDiff, Nat.reduceMul, Nat.reduceSub, Nat.reduceBEq, reduceCtorEq, Int.reduceEq, Int.reduceNe, Int.reduceLT, Int.reduceLE, Int.reduceAdd, Int.reduceSub, Int.reduceMul, Int.reduceToNat, Int.reduceBEq, Int.reduceBNe, Int.reduceGT, Int.reduceGE, Nat.reduceBNe, Nat.reduceGT, decide_true, decide_false, Bool.not_true, Bool.not_false, Int.reduceNeg, beq_true, beq_false, Bool.not_eq_false', takes, gl_devSizes_len]))); (with_reducible refine behind_go ?_))); (simp only [go_sem, reduceIte, Int.reducePow, Nat.reduceEqDiff, Nat.reduceAdd, Nat.reduceLT, Nat.reduceLeDiff, Nat.reduceMul, Nat.reduceSub, Nat.reduceBEq, reduceCtorEq, Int.reduceEq, Int.reduceNe, Int.reduceLT, Int.reduceLE, Int.reduceAdd, Int.reduceSub, Int.reduceMul, Int.reduceToNat, Int.reduceBEq, Int.reduceBNe, Int.reduceGT, Int.reduceGE, Nat.reduceBNe, Nat.reduceGT, decide_true, decide_false, Bool.not_true, Bool.not_false, Int.reduceNeg, beq_true, beq_false, Bool.not_eq_false', takes, gl_devSizes_len]; try simp (disch := omega) only [wrap64, gl_devSizes_at]; try simp only [go_sem, reduceIte, Int.reducePow, Nat.reduceEqDiff, Nat.reduceAdd, Nat.reduceLT, Nat.reduceLeDiff, Nat.reduceMul, Nat.reduceSub, Nat.reduceBEq, reduceCtorEq, Int.reduceEq, Int.reduceNe, Int.reduceLT, Int.reduceLE, Int.reduceAdd, Int.reduceSub, Int.reduceMul, Int.reduceToNat, Int.reduceBEq, Int.reduceBNe, Int.reduceGT, Int.reduceGE, Nat.reduceBNe, Nat.reduceGT, decide_true, decide_false, Bool.not_true, Bool.not_false, Int.reduceNeg, beq_true, beq_false, Bool.not_eq_false', takes, gl_devSizes_len]))
    | with_reducible refine r_skip ?_
    | with_reducible refine r_exit ?_
    | with_reducible refine r_ret ?_
    | with_reducible refine r_codeR ?_
    | with_reducible refine r_codeE ?_
    | with_reducible refine r_blkN ?_
    | with_reducible refine r_blkR ?_
    | with_reducible refine r_blkE ?_
    | with_reducible refine r_blkX rfl ?_
    | ((with_reducible refine r_nil ?_); subst hQ; (first | with_reducible refine end_use_ret [] ?_ ?_ ?_ | with_reducible refine end_use_nrm [] ?_ ?_ ?_); (focus rfl); (focus rfl); (simp only [go_sem, reduceIte, Int.reducePow, Nat.reduceEqDiff, Nat.reduceAdd, Nat.reduceLT, Nat.reduceLeDiff, Nat.reduceMul, Nat.reduceSub, Nat.reduceBEq, reduceCtorEq, Int.reduceEq, Int.reduceNe, Int.reduceLT, Int.reduceLE, Int.reduceAdd, Int.reduceSub, Int.reduceMul, Int.reduceToNat, Int.reduceBEq, Int.reduceBNe, Int.reduceGT, Int.reduceGE, Nat.reduceBNe, Nat.reduceGT, decide_true, decide_false, Bool.not_true, Bool.not_false, Int.reduceNeg, beq_true, beq_false, Bool.not_eq_false', takes, gl_devSizes_len]; try simp (disch := omega) only [wrap64, gl_devSizes_at]; try simp only [go_sem, reduceIte, Int.reducePow, Nat.reduceEqDiff, Nat.reduceAdd, Nat.reduceLT, Nat.reduceLeDiff, Nat.reduceMul, Nat.reduceSub, Nat.reduceBEq, reduceCtorEq, Int.reduceEq, Int.reduceNe, Int.reduceLT, Int.reduceLE, Int.reduceAdd, Int.reduceSub, Int.reduceMul, Int.reduceToNat, Int.reduceBEq, Int.reduceBNe, Int.reduceGT, Int.reduceGE, Nat.reduceBNe, Nat.reduceGT, decide_true, decide_false, Bool.not_true, Bool.not_false, Int.reduceNeg, beq_true, beq_false, Bool.not_eq_false', takes, gl_devSizes_len]))
    | ((with_reducible refine wkEnd_same ?_); first | exact ⟨by rw [devSz_out (by omega)], rfl⟩ | exact ⟨rfl, rfl⟩)
    | with_reducible refine r_backR ?_
    | with_reducible refine r_backE ?_
    | with_reducible refine r_nil ?_
    | with_reducible refine And.intro ?_ ?_
    | ((with_reducible apply sem_if); (case hb => rfl); all_goals (intro h; try simp only [decide_eq_true_eq, decide_eq_false_iff_not, beq_iff_eq, bne_iff_ne, ne_eq, Bool.not_eq_true', Bool.not_eq_false', beq_eq_false_iff_ne, bne_eq_false_iff_eq, Bool.and_eq_true, Bool.or_eq_true, Bool.or_eq_false_iff, Bool.not_eq_true, Bool.not_eq_false, Int.not_lt, Int.not_le, gt_iff_lt, ge_iff_le, bif_or, bif_and, Bool.and_true, Bool.and_false, Bool.true_and, Bool.false_and, Bool.or_true, Bool.or_false, Bool.true_or, Bool.false_or, Bool.true_eq_false, Bool.false_eq_true, Int.reduceEq, Int.reduceLT, Int.reduceLE, decide_true, decide_false, Bool.not_true, Bool.not_false, not_true_eq_false, not_false_eq_true, Bool.and_eq_false_iff, reduceCtorEq, Classical.not_not, not_and, imp_false, true_and, and_true, Bool.cond_true, Bool.cond_false, Int.reduceNeg] at h))
    | ((fail_if_success with_reducible refine i_call ?_); (fail_if_success with_reducible refine i_loop ?_); (fail_if_success with_reducible refine i_draw ?_); subst hk)
    | exact True.intro
    | exact fun hf => False.elim hf
    | (intro hg; simp +contextual [hg]; done)
    | (intro hg; (simp only [go_sem, reduceIte, Int.reducePow, Nat.reduceEqDiff, Nat.reduceAdd, Nat.reduceLT, Nat.reduceLeDiff, Nat.reduceMul, Nat.reduceSub, Nat.reduceBEq, reduceCtorEq, Int.reduceEq, Int.reduceNe, Int.reduceLT, Int.reduceLE, Int.reduceAdd, Int.reduceSub, Int.reduceMul, Int.reduceToNat, Int.reduceBEq, Int.reduceBNe, Int.reduceGT, Int.reduceGE, Nat.reduceBNe, Nat.reduceGT, decide_true, decide_false, Bool.not_true, Bool.not_false, Int.reduceNeg, beq_true, beq_false, Bool.not_eq_false', takes, gl_devSizes_len, hg]; try simp (disch := omega) only [wrap64, gl_devSizes_at]; try simp only [go_sem, reduceIte, Int.reducePow, Nat.reduceEqDiff, Nat.reduceAdd, Nat.reduceLT, Nat.reduceLeDiff, Nat.reduceMul, Nat.reduceSub, Nat.reduceBEq, reduceCtorEq, Int.reduceEq, Int.reduceNe, Int.reduceLT, Int.reduceLE, Int.reduceAdd, Int.reduceSub, Int.reduceMul, Int.reduceToNat, Int.reduceBEq, Int.reduceBNe, Int.reduceGT, Int.reduceGE, Nat.reduceBNe, Nat.reduceGT, decide_true, decide_false, Bool.not_true, Bool.not_false, Int.reduceNeg, beq_true, beq_false, Bool.not_eq_false', takes, gl_devSizes_len, hg]); (try simp only [decide_eq_true_eq, decide_eq_false_iff_not, beq_iff_eq, bne_iff_ne, ne_eq, Bool.not_eq_true', Bool.not_eq_false', beq_eq_false_iff_ne, bne_eq_false_iff_eq, Bool.and_eq_true, Bool.or_eq_true, Bool.or_eq_false_iff, Bool.not_eq_true, Bool.not_eq_false, Int.not_lt, Int.not_le, gt_iff_lt, ge_iff_le, bif_or, bif_and, Bool.and_true, Bool.and_false, Bool.true_and, Bool.false_and, Bool.or_true, Bool.or_false, Bool.true_or, Bool.false_or, Bool.true_eq_false, Bool.false_eq_true, Int.reduceEq, Int.reduceLT, Int.reduceLE, decide_true, decide_false, Bool.not_true, Bool.not_false, not_true_eq_false, not_false_eq_true, Bool.and_eq_false_iff, reduceCtorEq, Classical.not_not, not_and, imp_false, true_and, and_true, Bool.cond_true, Bool.cond_false, Int.reduceNeg] at hg))
    | omega
    | (simp only [List.length_append, List.length_cons, List.length_nil, List.length_map, List.length_singleton, List.length_set, List.length_take, List.length_drop, Nat.mul_one, Nat.one_mul] <;> omega))
set_option maxRecDepth 10000 in
set_option maxHeartbeats 4000000 in
theorem con_DevOkI (d : Dev)  : Con Tryd.prog C0 62 [.agg (devC d)] []
    (fun x σ' => x = .sc (.bool (devOk d)) ∧ σ' = []) := by
  refine con_of_sem hP [0, 1, 2, 4, 5, 15, 36] [.tmp 2] Tryd.func62 (by unfold Tryd.f62; rfl) rfl rfl (Nat.le_of_ble_eq_true rfl) rfl ?_
  simp only [enter_cons, enter_nil, List.length_cons, List.length_nil, Nat.reduceAdd]
  generalize hQ : endQ _ _ _ _ = Q
  repeat' (first
    | with_reducible refine sem_cut fun k hk => ?_
    | with_reducible refine sem_blk fun k hk => ?_
    | ((first | with_reducible refine r_reg ?_ | ((with_reducible refine sem_planA (id := 8) (.take 0 (.take 1 (.take 2 (.take 3 (.take 4 (.take 5 (.take 6 (.take 7 (.one 8 (.take 9 (.take 10 (.take 11 (.take 12 (.take 13 (.take 14 (.take 15 (.take 16 .done))))))))))))))))) ?_ ?_); (focus kernel_rfl)) | ((with_reducible refine i_call (n := 33) ?_); refine call_openF [] ?_) | ((with_reducible refine i_call (n := 66) ?_); refine call_openF [] ?_) | ((with_reducible refine i_callW (n := 33) ?_); refine callW_use (con_in _ _ _) ?_; rintro x σ' ⟨rfl, rfl⟩; (refine ⟨?_, ?_⟩; (focus (simp only [go_sem, reduceIte, Int.reducePow, Nat.reduceEqDiff, Nat.reduceAdd, Nat.reduceLT, Nat.reduceLeDiff, Nat.reduceMul, Nat.reduceSub, Nat.reduceBEq, reduceCtorEq, Int.reduceEq, Int.reduceNe, Int.reduceLT, Int.reduceLE, Int.reduceAdd, Int.reduceSub, Int.reduceMul, Int.reduceToNat, Int.reduceBEq, Int.reduceBNe, Int.reduceGT, Int.reduceGE, Nat.reduceBNe, Nat.reduceGT, decide_true, decide_false, Bool.not_true, Bool.not_false, Int.reduceNeg, beq_true, beq_false, Bool.not_eq_false', takes, gl_devWords_len]; try simp (disch := omega) only [wrap64]))); (with_reducible refine behind_go ?_)) | ((with_reducible refine i_callW (n := 66) ?_); refine callW_use (con_DevSizeI _) ?_; rintro x σ' ⟨rfl, rfl⟩; (refine ⟨?_, ?_⟩; (focus (simp only [go_sem, reduceIte, Int.reducePow, Nat.reduceEqDiff, Nat.reduceAdd, Nat.reduceLT, Nat.reduceLeDiff, Nat.reduceMul, Nat.reduceSub, Nat.reduceBEq, reduceCtorEq, Int.reduceEq, Int.reduceNe, Int.reduceLT, Int.reduceLE, Int.reduceAdd, Int.reduceSub, Int.reduceMul, Int.reduceToNat, Int.reduceBEq, Int.reduceBNe, Int.reduceGT, Int.reduceGE, Nat.reduceBNe, Nat.reduceGT, decide_true, decide_false, Bool.not_true, Bool.not_false, Int.reduceNeg, beq_true, beq_false, Bool.not_eq_false', takes, gl_devWords_len]; try simp (disch := omega) only [wrap64]))); (with_reducible refine behind_go ?_))); (simp only [go_sem, reduceIte, Int.reducePow, Nat.reduceEqDiff, Nat.reduceAdd, Nat.reduceLT, Nat.reduceLeDiff, Nat.reduceMul, Nat.reduceSub, Nat.reduceBEq, reduceCtorEq, Int.reduceEq, Int.reduceNe, Int.reduceLT, Int.reduceLE, Int.reduceAdd, Int.reduceSub, Int.reduceMul, Int.reduceToNat, Int.reduceBEq, Int.reduceBNe, Int.reduceGT, Int.reduceGE, Nat.reduceBNe, Nat.reduceGT, decide_true, decide_false, Bool.not_true, Bool.not_false, Int.reduceNeg, beq_true, beq_false, Bool.not_eq_false', takes, gl_devWords_len]; try simp (disch := omega) only [wrap64]))
    | with_reducible refine r_skip ?_
    | with_reducible refine r_exit ?_
    | with_reducible refine r_ret ?_
    | with_reducible refine r_codeR ?_
    | with_reducible refine r_codeE ?_
    | with_reducible refine r_blkN ?_
    | with_reducible refine r_blkR ?_
    | with_reducible refine r_blkE ?_
    | with_reducible refine r_blkX rfl ?_
    | ((with_reducible refine r_nil ?_); subst hQ; (first | with_reducible refine end_use_ret [] ?_ ?_ ?_ | with_reducible refine end_use_nrm [] ?_ ?_ ?_); (focus rfl); (focus rfl); (simp only [go_sem, reduceIte, Int.reducePow, Nat.reduceEqDiff, Nat.reduceAdd, Nat.reduceLT, Nat.reduceLeDiff, Nat.reduceMul, Nat.reduceSub, Nat.reduceBEq, reduceCtorEq, Int.reduceEq, Int.reduceNe, Int.reduceLT, Int.reduceLE, Int.reduceAdd, Int.reduceSub, Int.reduceMul, Int.reduceToNat, Int.reduceBEq, Int.reduceBNe, Int.reduceGT, Int.reduceGE, Nat.reduceBNe, Nat.reduceGT, decide_true, decide_false, Bool.not_true, Bool.not_false, Int.reduceNeg, beq_true, beq_false, Bool.not_eq_false', takes, gl_devWords_len]; try simp (disch := omega) only [wrap64]))
    | ((with_reducible refine wkEnd_same ?_); exact ⟨congrArg (fun b => AV.sc (.bool b)) (by unfold devOk; simp [*] <;> omega), rfl⟩)
    | with_reducible refine r_backR ?_
    | with_reducible refine r_backE ?_
    | with_reducible refine r_nil ?_
    | with_reducible refine And.intro ?_ ?_
    | ((with_reducible apply sem_if); (case hb => rfl); all_goals (intro h; try simp only [decide_eq_true_eq, decide_eq_false_iff_not, beq_iff_eq, bne_iff_ne, ne_eq, Bool.not_eq_true', Bool.not_eq_false', beq_eq_false_iff_ne, bne_eq_false_iff_eq, Bool.and_eq_true, Bool.or_eq_true, Bool.or_eq_false_iff, Bool.not_eq_true, Bool.not_eq_false, Int.not_lt, Int.not_le, gt_iff_lt, ge_iff_le, bif_or, bif_and, Bool.and_true, Bool.and_false, Bool.true_and, Bool.false_and, Bool.or_true, Bool.or_false, Bool.true_or, Bool.false_or, Bool.true_eq_false, Bool.false_eq_true, Int.reduceEq, Int.reduceLT, Int.reduceLE, decide_true, decide_false, Bool.not_true, Bool.not_false, not_true_eq_false, not_false_eq_true, Bool.and_eq_false_iff, reduceCtorEq, Classical.not_not, not_and, imp_false, true_and, and_true, Bool.cond_true, Bool.cond_false, Int.reduceNeg] at h))
    | ((fail_if_success with_reducible refine i_call ?_); (fail_if_success with_reducible refine i_loop ?_); (fail_if_success with_reducible refine i_draw ?_); subst hk)
    | exact True.intro
    | exact fun hf => False.elim hf
    | (intro hg; simp +contextual [hg]; done)
    | (intro hg; (simp only [go_sem, reduceIte, Int.reducePow, Nat.reduceEqDiff, Nat.reduceAdd, Nat.reduceLT, Nat.reduceLeDiff, Nat.reduceMul, Nat.reduceSub, Nat.reduceBEq, reduceCtorEq, Int.reduceEq, Int.reduceNe, Int.reduceLT, Int.reduceLE, Int.reduceAdd, Int.reduceSub, Int.reduceMul, Int.reduceToNat, Int.reduceBEq, Int.reduceBNe, Int.reduceGT, Int.reduceGE, Nat.reduceBNe, Nat.reduceGT, decide_true, decide_false, Bool.not_true, Bool.not_false, Int.reduceNeg, beq_true, beq_false, Bool.not_eq_false', takes, gl_devWords_len, hg]; try simp (disch := omega) only [wrap64]); (try simp only [decide_eq_true_eq, decide_eq_false_iff_not, beq_iff_eq, bne_iff_ne, ne_eq, Bool.not_eq_true', Bool.not_eq_false', beq_eq_false_iff_ne, bne_eq_false_iff_eq, Bool.and_eq_true, Bool.or_eq_true, Bool.or_eq_false_iff, Bool.not_eq_true, Bool.not_eq_false, Int.not_lt, Int.not_le, gt_iff_lt, ge_iff_le, bif_or, bif_and, Bool.and_true, Bool.and_false, Bool.true_and, Bool.false_and, Bool.or_true, Bool.or_false, Bool.true_or, Bool.false_or, Bool.true_eq_false, Bool.false_eq_true, Int.reduceEq, Int.reduceLT, Int.reduceLE, decide_true, decide_false, Bool.not_true, Bool.not_false, not_true_eq_false, not_false_eq_true, Bool.and_eq_false_iff, reduceCtorEq, Classical.not_not, not_and, imp_false, true_and, and_true, Bool.cond_true, Bool.cond_false, Int.reduceNeg] at hg))
    | omega
    | (simp only [List.length_append, List.length_cons, List.length_nil, List.length_map, List.length_singleton, List.length_set, List.length_take, List.length_drop, Nat.mul_one, Nat.one_mul] <;> omega))
theorem int_at (L : List (List AV)) (hL : L = ints (numsOf L)) (k : Int) (h0 : 0 ≤ k) (h1 : k < L.length) : L.getD k.toNat [] = [.sc (.int .i64 ((numsOf L).getD k.toNat 0))] := by
  have hl : (numsOf L).length = L.length := by simp [numsOf]
  have hn : k.toNat < (numsOf L).length := by omega
  have e : (ints (numsOf L)).getD k.toNat [] = [.sc (.int .i64 ((numsOf L).getD k.toNat 0))] := by simp [ints, List.getD, hn]
  rw [← hL] at e
  exact e
theorem nums_len (L : List (List AV)) : (numsOf L).length = L.length := by simp [numsOf]
theorem contains_at {l : List Int} {i v : Int} (h0 : 0 ≤ i) (h1 : i < l.length) (h : v = l.getD i.toNat 0) : l.contains v = true := by
  have hn : i.toNat < l.length := by omega
  have e : l.getD i.toNat 0 = l[i.toNat] := by simp [List.getD, hn]
  rw [h, e]; simp
theorem contains_none {l : List Int} {i v : Int} (h1 : l.length ≤ i) (h : ∀ j : Nat, (j : Int) < i → v ≠ l.getD j 0) : l.contains v = false := by
  rw [← Bool.not_eq_true]
  intro hc
  simp only [List.contains_iff_mem] at hc
  obtain ⟨k, hk, e⟩ := List.mem_iff_getElem.1 hc
  exact h k (by omega) (by simp [List.getD, hk, e])
set_option maxRecDepth 10000 in
set_option maxHeartbeats 4000000 in
theorem con_IndexInt (L : List (List AV)) (v : Int) (hL : L = ints (numsOf L)) (h1 : decide (L.length ≤ 1000) = true) : Con Tryd.prog C0 67 [.fz 1 L, .sc (.int .i64 (v))] []
    (fun x σ' => ∃ r : Int, x = .sc (.int .i64 (r)) ∧ (decide (0 ≤ r)) = (numsOf L).contains v ∧ σ' = []) := by
  refine con_of_sem hP [0, 1, 4, 5, 7, 8, 9, 16] [.tmp 4] Tryd.func67 (by unfold Tryd.f67; rfl) rfl rfl (Nat.le_of_ble_eq_true rfl) rfl ?_
  simp only [enter_cons, enter_nil, List.length_cons, List.length_nil, Nat.reduceAdd]
  generalize hQ : endQ _ _ _ _ = Q
  simp only [decide_eq_true_eq] at h1
  have hl := nums_len L
  repeat' (first
    | with_reducible refine sem_cut fun k hk => ?_
    | with_reducible refine sem_blk fun k hk => ?_
    | ((first | with_reducible refine r_reg ?_); (simp only [go_sem, reduceIte, Int.reducePow, Nat.reduceEqDiff, Nat.reduceAdd, Nat.reduceLT, Nat.reduceLeDiff, Nat.reduceMul, Nat.reduceSub, Nat.reduceBEq, reduceCtorEq, Int.reduceEq, Int.reduceNe, Int.reduceLT, Int.reduceLE, Int.reduceAdd, Int.reduceSub, Int.reduceMul, Int.reduceToNat, Int.reduceBEq, Int.reduceBNe, Int.reduceGT, Int.reduceGE, Nat.reduceBNe, Nat.reduceGT, decide_true, decide_false, Bool.not_true, Bool.not_false, Int.reduceNeg, beq_true, beq_false, Bool.not_eq_false', takes, nums_len]; try simp (disch := omega) only [wrap64, int_at _ hL]; try simp only [go_sem, reduceIte, Int.reducePow, Nat.reduceEqDiff, Nat.reduceAdd, Nat.reduceLT, Nat.reduceLeDiff, Nat.reduceMul, Nat.reduceSub, Nat.reduceBEq, reduceCtorEq, Int.reduceEq, Int.reduceNe, Int.reduceLT, Int.reduceLE, Int.reduceAdd, Int.reduceSub, Int.reduceMul, Int.reduceToNat, Int.reduceBEq, Int.reduceBNe, Int.reduceGT, Int.reduceGE, Nat.reduceBNe, Nat.reduceGT, decide_true, decide_false, Bool.not_true, Bool.not_false, Int.reduceNeg, beq_true, beq_false, Bool.not_eq_false', takes, nums_len]))
    | with_reducible refine r_skip ?_
    | with_reducible refine r_exit ?_
    | with_reducible refine r_ret ?_
    | with_reducible refine r_codeR ?_
    | with_reducible refine r_codeE ?_
    | with_reducible refine r_blkN ?_
    | with_reducible refine r_blkR ?_
    | with_reducible refine r_blkE ?_
    | with_reducible refine r_blkX rfl ?_
    | ((with_reducible refine r_nil ?_); subst hQ; (first | with_reducible refine end_use_ret [] ?_ ?_ ?_ | with_reducible refine end_use_nrm [] ?_ ?_ ?_); (focus rfl); (focus rfl); (simp only [go_sem, reduceIte, Int.reducePow, Nat.reduceEqDiff, Nat.reduceAdd, Nat.reduceLT, Nat.reduceLeDiff, Nat.reduceMul, Nat.reduceSub, Nat.reduceBEq, reduceCtorEq, Int.reduceEq, Int.reduceNe, Int.reduceLT, Int.reduceLE, Int.reduceAdd, Int.reduceSub, Int.reduceMul, Int.reduceToNat, Int.reduceBEq, Int.reduceBNe, Int.reduceGT, Int.reduceGE, Nat.reduceBNe, Nat.reduceGT, decide_true, decide_false, Bool.not_true, Bool.not_false, Int.reduceNeg, beq_true, beq_false, Bool.not_eq_false', takes, nums_len]; try simp (disch := omega) only [wrap64, int_at _ hL]; try simp only [go_sem, reduceIte, Int.reducePow, Nat.reduceEqDiff, Nat.reduceAdd, Nat.reduceLT, Nat.reduceLeDiff, Nat.reduceMul, Nat.reduceSub, Nat.reduceBEq, reduceCtorEq, Int.reduceEq, Int.reduceNe, Int.reduceLT, Int.reduceLE, Int.reduceAdd, Int.reduceSub, Int.reduceMul, Int.reduceToNat, Int.reduceBEq, Int.reduceBNe, Int.reduceGT, Int.reduceGE, Nat.reduceBNe, Nat.reduceGT, decide_true, decide_false, Bool.not_true, Bool.not_false, Int.reduceNeg, beq_true, beq_false, Bool.not_eq_false', takes, nums_len]))
    | ((with_reducible refine wkEnd_same ?_); exact ⟨_, rfl, rfl, rfl⟩)
    | with_reducible refine r_backR ?_
    | with_reducible refine r_backE ?_
    | with_reducible refine r_nil ?_
    | with_reducible refine And.intro ?_ ?_
    | ((with_reducible apply sem_if); (case hb => rfl); all_goals (intro h; try simp only [decide_eq_true_eq, decide_eq_false_iff_not, beq_iff_eq, bne_iff_ne, ne_eq, Bool.not_eq_true', Bool.not_eq_false', beq_eq_false_iff_ne, bne_eq_false_iff_eq, Bool.and_eq_true, Bool.or_eq_true, Bool.or_eq_false_iff, Bool.not_eq_true, Bool.not_eq_false, Int.not_lt, Int.not_le, gt_iff_lt, ge_iff_le, bif_or, bif_and, Bool.and_true, Bool.and_false, Bool.true_and, Bool.false_and, Bool.or_true, Bool.or_false, Bool.true_or, Bool.false_or, Bool.true_eq_false, Bool.false_eq_true, Int.reduceEq, Int.reduceLT, Int.reduceLE, decide_true, decide_false, Bool.not_true, Bool.not_false, not_true_eq_false, not_false_eq_true, Bool.and_eq_false_iff, reduceCtorEq, Classical.not_not, not_and, imp_false, true_and, and_true, Bool.cond_true, Bool.cond_false, Int.reduceNeg] at h))
    | ((fail_if_success with_reducible refine i_call ?_); (fail_if_success with_reducible refine i_loop ?_); (fail_if_success with_reducible refine i_draw ?_); subst hk)
    | exact True.intro
    | exact fun hf => False.elim hf
    | (intro hg; simp +contextual [hg]; done)
    | (intro hg; (simp only [go_sem, reduceIte, Int.reducePow, Nat.reduceEqDiff, Nat.reduceAdd, Nat.reduceLT, Nat.reduceLeDiff, Nat.reduceMul, Nat.reduceSub, Nat.reduceBEq, reduceCtorEq, Int.reduceEq, Int.reduceNe, Int.reduceLT, Int.reduceLE, Int.reduceAdd, Int.reduceSub, Int.reduceMul, Int.reduceToNat, Int.reduceBEq, Int.reduceBNe, Int.reduceGT, Int.reduceGE, Nat.reduceBNe, Nat.reduceGT, decide_true, decide_false, Bool.not_true, Bool.not_false, Int.reduceNeg, beq_true, beq_false, Bool.not_eq_false', takes, nums_len, hg]; try simp (disch := omega) only [wrap64, int_at _ hL]; try simp only [go_sem, reduceIte, Int.reducePow, Nat.reduceEqDiff, Nat.reduceAdd, Nat.reduceLT, Nat.reduceLeDiff, Nat.reduceMul, Nat.reduceSub, Nat.reduceBEq, reduceCtorEq, Int.reduceEq, Int.reduceNe, Int.reduceLT, Int.reduceLE, Int.reduceAdd, Int.reduceSub, Int.reduceMul, Int.reduceToNat, Int.reduceBEq, Int.reduceBNe, Int.reduceGT, Int.reduceGE, Nat.reduceBNe, Nat.reduceGT, decide_true, decide_false, Bool.not_true, Bool.not_false, Int.reduceNeg, beq_true, beq_false, Bool.not_eq_false', takes, nums_len, hg]); (try simp only [decide_eq_true_eq, decide_eq_false_iff_not, beq_iff_eq, bne_iff_ne, ne_eq, Bool.not_eq_true', Bool.not_eq_false', beq_eq_false_iff_ne, bne_eq_false_iff_eq, Bool.and_eq_true, Bool.or_eq_true, Bool.or_eq_false_iff, Bool.not_eq_true, Bool.not_eq_false, Int.not_lt, Int.not_le, gt_iff_lt, ge_iff_le, bif_or, bif_and, Bool.and_true, Bool.and_false, Bool.true_and, Bool.false_and, Bool.or_true, Bool.or_false, Bool.true_or, Bool.false_or, Bool.true_eq_false, Bool.false_eq_true, Int.reduceEq, Int.reduceLT, Int.reduceLE, decide_true, decide_false, Bool.not_true, Bool.not_false, not_true_eq_false, not_false_eq_true, Bool.and_eq_false_iff, reduceCtorEq, Classical.not_not, not_and, imp_false, true_and, and_true, Bool.cond_true, Bool.cond_false, Int.reduceNeg] at hg))
    | omega
    | (simp only [List.length_append, List.length_cons, List.length_nil, List.length_map, List.length_singleton, List.length_set, List.length_take, List.length_drop, Nat.mul_one, Nat.one_mul] <;> omega))
  refine sem_loopA [0, 1, 7, 8] (fun ((i : Int)) => (⟨[(0, .fz 1 L), (1, .sc (.int .i64 (v))), (7, .sc (.int .i64 (L.length))), (8, .sc (.int .i64 (i)))], []⟩ : St)) (fun ((i : Int)) => 0 ≤ i ∧ i ≤ L.length ∧ (∀ j : Nat, (j : Int) < i → v ≠ (numsOf L).getD j 0)) (fun ((i : Int)) => (L.length - i).toNat)  0 (by rfl) (by rfl) ?_ ?_
  · (simp only [go_sem, reduceIte, Int.reducePow, Nat.reduceEqDiff, Nat.reduceAdd, Nat.reduceLT, Nat.reduceLeDiff, Nat.reduceMul, Nat.reduceSub, Nat.reduceBEq, reduceCtorEq, Int.reduceEq, Int.reduceNe, Int.reduceLT, Int.reduceLE, Int.reduceAdd, Int.reduceSub, Int.reduceMul, Int.reduceToNat, Int.reduceBEq, Int.reduceBNe, Int.reduceGT, Int.reduceGE, Nat.reduceBNe, Nat.reduceGT, decide_true, decide_false, Bool.not_true, Bool.not_false, Int.reduceNeg, beq_true, beq_false, Bool.not_eq_false', takes, nums_len]; try simp (disch := omega) only [wrap64, int_at _ hL]; try simp only [go_sem, reduceIte, Int.reducePow, Nat.reduceEqDiff, Nat.reduceAdd, Nat.reduceLT, Nat.reduceLeDiff, Nat.reduceMul, Nat.reduceSub, Nat.reduceBEq, reduceCtorEq, Int.reduceEq, Int.reduceNe, Int.reduceLT, Int.reduceLE, Int.reduceAdd, Int.reduceSub, Int.reduceMul, Int.reduceToNat, Int.reduceBEq, Int.reduceBNe, Int.reduceGT, Int.reduceGE, Nat.reduceBNe, Nat.reduceGT, decide_true, decide_false, Bool.not_true, Bool.not_false, Int.reduceNeg, beq_true, beq_false, Bool.not_eq_false', takes, nums_len])
    refine ⟨(by first | exact wkSt_same rfl | (apply wkSt_mk <;> repeat' (first | exact wkE_nil | (with_reducible apply wkE_cons) | exact wkC_nil 3 | exact wkV_nil 3 | exact wkA_nil 3 | (with_reducible apply wkV_agg) | (with_reducible apply wkV_tup) | (with_reducible apply wkA_agg) | exact wkA_refl _ | exact wkV_refl _ | exact wkS_nil | (with_reducible apply wkS_cons) | (with_reducible apply wkO_rc) | (with_reducible apply wkO_arr) | exact wkO_refl _ | exact wkL_nil | (with_reducible apply wkL_cons) | exact wkC_refl _ | exact wkT_nil | (with_reducible apply wkT_cons) | (with_reducible apply wkR_app (wkR_refl _)) | exact wkR_nil | (with_reducible apply wkR_cons) | exact wkR_refl _))), ?_⟩
    (repeat' (first | with_reducible refine And.intro ?_ ?_ | with_reducible assumption | omega | exact True.intro | exact okRows_nil _ | (simp only [List.length_append, List.length_cons, List.length_nil, List.length_singleton, List.length_set, List.length_take] <;> omega) | (with_reducible intro hf; cases hf; done)))
    all_goals (intro j h; omega)
  · rintro i ⟨hi, hi2, hj⟩
    repeat' (first
      | with_reducible refine sem_cut fun k hk => ?_
      | with_reducible refine sem_blk fun k hk => ?_
      | ((first | with_reducible refine r_reg ?_); (simp only [go_sem, reduceIte, Int.reducePow, Nat.reduceEqDiff, Nat.reduceAdd, Nat.reduceLT, Nat.reduceLeDiff, Nat.reduceMul, Nat.reduceSub, Nat.reduceBEq, reduceCtorEq, Int.reduceEq, Int.reduceNe, Int.reduceLT, Int.reduceLE, Int.reduceAdd, Int.reduceSub, Int.reduceMul, Int.reduceToNat, Int.reduceBEq, Int.reduceBNe, Int.reduceGT, Int.reduceGE, Nat.reduceBNe, Nat.reduceGT, decide_true, decide_false, Bool.not_true, Bool.not_false, Int.reduceNeg, beq_true, beq_false, Bool.not_eq_false', takes, nums_len]; try simp (disch := omega) only [wrap64, int_at _ hL]; try simp only [go_sem, reduceIte, Int.reducePow, Nat.reduceEqDiff, Nat.reduceAdd, Nat.reduceLT, Nat.reduceLeDiff, Nat.reduceMul, Nat.reduceSub, Nat.reduceBEq, reduceCtorEq, Int.reduceEq, Int.reduceNe, Int.reduceLT, Int.reduceLE, Int.reduceAdd, Int.reduceSub, Int.reduceMul, Int.reduceToNat, Int.reduceBEq, Int.reduceBNe, Int.reduceGT, Int.reduceGE, Nat.reduceBNe, Nat.reduceGT, decide_true, decide_false, Bool.not_true, Bool.not_false, Int.reduceNeg, beq_true, beq_false, Bool.not_eq_false', takes, nums_len]))
      | with_reducible refine r_skip ?_
      | with_reducible refine r_exit ?_
      | with_reducible refine r_ret ?_
      | with_reducible refine r_codeR ?_
      | with_reducible refine r_codeE ?_
      | with_reducible refine r_blkN ?_
      | with_reducible refine r_blkR ?_
      | with_reducible refine r_blkE ?_
      | with_reducible refine r_blkX rfl ?_
      | ((with_reducible refine r_nil ?_); subst hQ; (first | with_reducible refine endA_ret [] ?_ ?_ ?_ | with_reducible refine endA_nrm [] ?_ ?_ ?_); (focus rfl); (focus rfl); (simp only [go_sem, reduceIte, Int.reducePow, Nat.reduceEqDiff, Nat.reduceAdd, Nat.reduceLT, Nat.reduceLeDiff, Nat.reduceMul, Nat.reduceSub, Nat.reduceBEq, reduceCtorEq, Int.reduceEq, Int.reduceNe, Int.reduceLT, Int.reduceLE, Int.reduceAdd, Int.reduceSub, Int.reduceMul, Int.reduceToNat, Int.reduceBEq, Int.reduceBNe, Int.reduceGT, Int.reduceGE, Nat.reduceBNe, Nat.reduceGT, decide_true, decide_false, Bool.not_true, Bool.not_false, Int.reduceNeg, beq_true, beq_false, Bool.not_eq_false', takes, nums_len]; try simp (disch := omega) only [wrap64, int_at _ hL]; try simp only [go_sem, reduceIte, Int.reducePow, Nat.reduceEqDiff, Nat.reduceAdd, Nat.reduceLT, Nat.reduceLeDiff, Nat.reduceMul, Nat.reduceSub, Nat.reduceBEq, reduceCtorEq, Int.reduceEq, Int.reduceNe, Int.reduceLT, Int.reduceLE, Int.reduceAdd, Int.reduceSub, Int.reduceMul, Int.reduceToNat, Int.reduceBEq, Int.reduceBNe, Int.reduceGT, Int.reduceGE, Nat.reduceBNe, Nat.reduceGT, decide_true, decide_false, Bool.not_true, Bool.not_false, Int.reduceNeg, beq_true, beq_false, Bool.not_eq_false', takes, nums_len]))
      | (intro j h9; by_cases h8 : (j : Int) < i; exact hj j h8; have e8 : j = i.toNat := (by omega); subst e8; assumption)
      | ((with_reducible refine wkEnd_same ?_); first | exact ⟨_, rfl, by rw [contains_at hi (by omega) (by assumption)]; simp; omega, rfl⟩ | exact ⟨_, rfl, by rw [contains_none (by omega) hj]; rfl, rfl⟩)
      | (first | ((with_reducible apply back_useA _); (case hk => rfl); (case hb => rfl); (case' h => ((simp only [go_sem, reduceIte, Int.reducePow, Nat.reduceEqDiff, Nat.reduceAdd, Nat.reduceLT, Nat.reduceLeDiff, Nat.reduceMul, Nat.reduceSub, Nat.reduceBEq, reduceCtorEq, Int.reduceEq, Int.reduceNe, Int.reduceLT, Int.reduceLE, Int.reduceAdd, Int.reduceSub, Int.reduceMul, Int.reduceToNat, Int.reduceBEq, Int.reduceBNe, Int.reduceGT, Int.reduceGE, Nat.reduceBNe, Nat.reduceGT, decide_true, decide_false, Bool.not_true, Bool.not_false, Int.reduceNeg, beq_true, beq_false, Bool.not_eq_false', takes, nums_len]; try simp (disch := omega) only [wrap64, int_at _ hL]; try simp only [go_sem, reduceIte, Int.reducePow, Nat.reduceEqDiff, Nat.reduceAdd, Nat.reduceLT, Nat.reduceLeDiff, Nat.reduceMul, Nat.reduceSub, Nat.reduceBEq, reduceCtorEq, Int.reduceEq, Int.reduceNe, Int.reduceLT, Int.reduceLE, Int.reduceAdd, Int.reduceSub, Int.reduceMul, Int.reduceToNat, Int.reduceBEq, Int.reduceBNe, Int.reduceGT, Int.reduceGE, Nat.reduceBNe, Nat.reduceGT, decide_true, decide_false, Bool.not_true, Bool.not_false, Int.reduceNeg, beq_true, beq_false, Bool.not_eq_false', takes, nums_len]); refine ⟨?_, ?_⟩; (focus first | exact wkSt_same rfl | (apply wkSt_mk <;> repeat' (first | exact wkE_nil | (with_reducible apply wkE_cons) | exact wkC_nil 3 | exact wkV_nil 3 | exact wkA_nil 3 | (with_reducible apply wkV_agg) | (with_reducible apply wkV_tup) | (with_reducible apply wkA_agg) | exact wkA_refl _ | exact wkV_refl _ | exact wkS_nil | (with_reducible apply wkS_cons) | (with_reducible apply wkO_rc) | (with_reducible apply wkO_arr) | exact wkO_refl _ | exact wkL_nil | (with_reducible apply wkL_cons) | exact wkC_refl _ | exact wkT_nil | (with_reducible apply wkT_cons) | (with_reducible apply wkR_app (wkR_refl _)) | exact wkR_nil | (with_reducible apply wkR_cons) | exact wkR_refl _))); (repeat' (first | with_reducible refine And.intro ?_ ?_ | with_reducible assumption | omega | exact True.intro | exact okRows_nil _ | (simp only [List.length_append, List.length_cons, List.length_nil, List.length_singleton, List.length_set, List.length_take] <;> omega) | (with_reducible intro hf; cases hf; done)))))))
      | with_reducible refine r_backR ?_
      | with_reducible refine r_backE ?_
      | with_reducible refine r_nil ?_
      | with_reducible refine And.intro ?_ ?_
      | ((with_reducible apply sem_if); (case hb => rfl); all_goals (intro h; try simp only [decide_eq_true_eq, decide_eq_false_iff_not, beq_iff_eq, bne_iff_ne, ne_eq, Bool.not_eq_true', Bool.not_eq_false', beq_eq_false_iff_ne, bne_eq_false_iff_eq, Bool.and_eq_true, Bool.or_eq_true, Bool.or_eq_false_iff, Bool.not_eq_true, Bool.not_eq_false, Int.not_lt, Int.not_le, gt_iff_lt, ge_iff_le, bif_or, bif_and, Bool.and_true, Bool.and_false, Bool.true_and, Bool.false_and, Bool.or_true, Bool.or_false, Bool.true_or, Bool.false_or, Bool.true_eq_false, Bool.false_eq_true, Int.reduceEq, Int.reduceLT, Int.reduceLE, decide_true, decide_false, Bool.not_true, Bool.not_false, not_true_eq_false, not_false_eq_true, Bool.and_eq_false_iff, reduceCtorEq, Classical.not_not, not_and, imp_false, true_and, and_true, Bool.cond_true, Bool.cond_false, Int.reduceNeg] at h))
      | ((fail_if_success with_reducible refine i_call ?_); (fail_if_success with_reducible refine i_loop ?_); (fail_if_success with_reducible refine i_draw ?_); subst hk)
      | exact True.intro
      | exact fun hf => False.elim hf
      | (intro hg; simp +contextual [hg]; done)
      | (intro hg; (simp only [go_sem, reduceIte, Int.reducePow, Nat.reduceEqDiff, Nat.reduceAdd, Nat.reduceLT, Nat.reduceLeDiff, Nat.reduceMul, Nat.reduceSub, Nat.reduceBEq, reduceCtorEq, Int.reduceEq, Int.reduceNe, Int.reduceLT, Int.reduceLE, Int.reduceAdd, Int.reduceSub, Int.reduceMul, Int.reduceToNat, Int.reduceBEq, Int.reduceBNe, Int.reduceGT, Int.reduceGE, Nat.reduceBNe, Nat.reduceGT, decide_true, decide_false, Bool.not_true, Bool.not_false, Int.reduceNeg, beq_true, beq_false, Bool.not_eq_false', takes, nums_len, hg]; try simp (disch := omega) only [wrap64, int_at _ hL]; try simp only [go_sem, reduceIte, Int.reducePow, Nat.reduceEqDiff, Nat.reduceAdd, Nat.reduceLT, Nat.reduceLeDiff, Nat.reduceMul, Nat.reduceSub, Nat.reduceBEq, reduceCtorEq, Int.reduceEq, Int.reduceNe, Int.reduceLT, Int.reduceLE, Int.reduceAdd, Int.reduceSub, Int.reduceMul, Int.reduceToNat, Int.reduceBEq, Int.reduceBNe, Int.reduceGT, Int.reduceGE, Nat.reduceBNe, Nat.reduceGT, decide_true, decide_false, Bool.not_true, Bool.not_false, Int.reduceNeg, beq_true, beq_false, Bool.not_eq_false', takes, nums_len, hg]); (try simp only [decide_eq_true_eq, decide_eq_false_iff_not, beq_iff_eq, bne_iff_ne, ne_eq, Bool.not_eq_true', Bool.not_eq_false', beq_eq_false_iff_ne, bne_eq_false_iff_eq, Bool.and_eq_true, Bool.or_eq_true, Bool.or_eq_false_iff, Bool.not_eq_true, Bool.not_eq_false, Int.not_lt, Int.not_le, gt_iff_lt, ge_iff_le, bif_or, bif_and, Bool.and_true, Bool.and_false, Bool.true_and, Bool.false_and, Bool.or_true, Bool.or_false, Bool.true_or, Bool.false_or, Bool.true_eq_false, Bool.false_eq_true, Int.reduceEq, Int.reduceLT, Int.reduceLE, decide_true, decide_false, Bool.not_true, Bool.not_false, not_true_eq_false, not_false_eq_true, Bool.and_eq_false_iff, reduceCtorEq, Classical.not_not, not_and, imp_false, true_and, and_true, Bool.cond_true, Bool.cond_false, Int.reduceNeg] at hg))
      | omega
      | (simp only [List.length_append, List.length_cons, List.length_nil, List.length_map, List.length_singleton, List.length_set, List.length_take, List.length_drop, Nat.mul_one, Nat.one_mul] <;> omega))
set_option maxRecDepth 10000 in
set_option maxHeartbeats 4000000 in
theorem con_ContainsInt (L : List (List AV)) (v : Int) (hL : L = ints (numsOf L)) (h1 : decide (L.length ≤ 1000) = true) : Con Tryd.prog C0 63 [.fz 1 L, .sc (.int .i64 (v))] []
    (fun x σ' => x = .sc (.bool ((numsOf L).contains v)) ∧ σ' = []) := by
  refine con_of_sem hP [0, 1, 4] [.tmp 4] Tryd.func63 (by unfold Tryd.f63; rfl) rfl rfl (Nat.le_of_ble_eq_true rfl) rfl ?_
  simp only [enter_cons, enter_nil, List.length_cons, List.length_nil, Nat.reduceAdd]
  generalize hQ : endQ _ _ _ _ = Q
  repeat' (first
    | with_reducible refine sem_cut fun k hk => ?_
    | with_reducible refine sem_blk fun k hk => ?_
    | ((first | with_reducible refine r_reg ?_ | ((with_reducible refine i_call (n := 67) ?_); refine call_openF [] ?_) | ((with_reducible refine i_callW (n := 67) ?_); refine callW_use (con_IndexInt _ _ (by first | with_reducible assumption | omega | (simp only [List.length_append, List.length_cons, List.length_nil, List.length_map, List.length_set, List.length_take, List.length_drop] <;> omega) | decide) (by first | with_reducible assumption | omega | (simp only [List.length_append, List.length_cons, List.length_nil, List.length_map, List.length_set, List.length_take, List.length_drop] <;> omega) | decide)) ?_; rintro x σ' ⟨r, rfl, hr, rfl⟩; (refine ⟨?_, ?_⟩; (focus (simp only [go_sem, reduceIte, Int.reducePow, Nat.reduceEqDiff, Nat.reduceAdd, Nat.reduceLT, Nat.reduceLeDiff, Nat.reduceMul, Nat.reduceSub, Nat.reduceBEq, reduceCtorEq, Int.reduceEq, Int.reduceNe, Int.reduceLT, Int.reduceLE, Int.reduceAdd, Int.reduceSub, Int.reduceMul, Int.reduceToNat, Int.reduceBEq, Int.reduceBNe, Int.reduceGT, Int.reduceGE, Nat.reduceBNe, Nat.reduceGT, decide_true, decide_false, Bool.not_true, Bool.not_false, Int.reduceNeg, beq_true, beq_false, Bool.not_eq_false', takes]; try simp (disch := omega) only [wrap64]))); (with_reducible refine behind_go ?_))); (simp only [go_sem, reduceIte, Int.reducePow, Nat.reduceEqDiff, Nat.reduceAdd, Nat.reduceLT, Nat.reduceLeDiff, Nat.reduceMul, Nat.reduceSub, Nat.reduceBEq, reduceCtorEq, Int.reduceEq, Int.reduceNe, Int.reduceLT, Int.reduceLE, Int.reduceAdd, Int.reduceSub, Int.reduceMul, Int.reduceToNat, Int.reduceBEq, Int.reduceBNe, Int.reduceGT, Int.reduceGE, Nat.reduceBNe, Nat.reduceGT, decide_true, decide_false, Bool.not_true, Bool.not_false, Int.reduceNeg, beq_true, beq_false, Bool.not_eq_false', takes]; try simp (disch := omega) only [wrap64]))
    | with_reducible refine r_skip ?_
    | with_reducible refine r_exit ?_
    | with_reducible refine r_ret ?_
    | with_reducible refine r_codeR ?_
    | with_reducible refine r_codeE ?_
    | with_reducible refine r_blkN ?_
    | with_reducible refine r_blkR ?_
    | with_reducible refine r_blkE ?_
    | with_reducible refine r_blkX rfl ?_
    | ((with_reducible refine r_nil ?_); subst hQ; (first | with_reducible refine end_use_ret [] ?_ ?_ ?_ | with_reducible refine end_use_nrm [] ?_ ?_ ?_); (focus rfl); (focus rfl); (simp only [go_sem, reduceIte, Int.reducePow, Nat.reduceEqDiff, Nat.reduceAdd, Nat.reduceLT, Nat.reduceLeDiff, Nat.reduceMul, Nat.reduceSub, Nat.reduceBEq, reduceCtorEq, Int.reduceEq, Int.reduceNe, Int.reduceLT, Int.reduceLE, Int.reduceAdd, Int.reduceSub, Int.reduceMul, Int.reduceToNat, Int.reduceBEq, Int.reduceBNe, Int.reduceGT, Int.reduceGE, Nat.reduceBNe, Nat.reduceGT, decide_true, decide_false, Bool.not_true, Bool.not_false, Int.reduceNeg, beq_true, beq_false, Bool.not_eq_false', takes]; try simp (disch := omega) only [wrap64]))
    | ((with_reducible refine wkEnd_same ?_); exact ⟨by rw [← hr], rfl⟩)
    | with_reducible refine r_backR ?_
    | with_reducible refine r_backE ?_
    | with_reducible refine r_nil ?_
    | with_reducible refine And.intro ?_ ?_
    | ((with_reducible apply sem_if); (case hb => rfl); all_goals (intro h; try simp only [decide_eq_true_eq, decide_eq_false_iff_not, beq_iff_eq, bne_iff_ne, ne_eq, Bool.not_eq_true', Bool.not_eq_false', beq_eq_false_iff_ne, bne_eq_false_iff_eq, Bool.and_eq_true, Bool.or_eq_true, Bool.or_eq_false_iff, Bool.not_eq_true, Bool.not_eq_false, Int.not_lt, Int.not_le, gt_iff_lt, ge_iff_le, bif_or, bif_and, Bool.and_true, Bool.and_false, Bool.true_and, Bool.false_and, Bool.or_true, Bool.or_false, Bool.true_or, Bool.false_or, Bool.true_eq_false, Bool.false_eq_true, Int.reduceEq, Int.reduceLT, Int.reduceLE, decide_true, decide_false, Bool.not_true, Bool.not_false, not_true_eq_false, not_false_eq_true, Bool.and_eq_false_iff, reduceCtorEq, Classical.not_not, not_and, imp_false, true_and, and_true, Bool.cond_true, Bool.cond_false, Int.reduceNeg] at h))
    | ((fail_if_success with_reducible refine i_call ?_); (fail_if_success with_reducible refine i_loop ?_); (fail_if_success with_reducible refine i_draw ?_); subst hk)
    | exact True.intro
    | exact fun hf => False.elim hf
    | (intro hg; simp +contextual [hg]; done)
    | (intro hg; (simp only [go_sem, reduceIte, Int.reducePow, Nat.reduceEqDiff, Nat.reduceAdd, Nat.reduceLT, Nat.reduceLeDiff, Nat.reduceMul, Nat.reduceSub, Nat.reduceBEq, reduceCtorEq, Int.reduceEq, Int.reduceNe, Int.reduceLT, Int.reduceLE, Int.reduceAdd, Int.reduceSub, Int.reduceMul, Int.reduceToNat, Int.reduceBEq, Int.reduceBNe, Int.reduceGT, Int.reduceGE, Nat.reduceBNe, Nat.reduceGT, decide_true, decide_false, Bool.not_true, Bool.not_false, Int.reduceNeg, beq_true, beq_false, Bool.not_eq_false', takes, hg]; try simp (disch := omega) only [wrap64]); (try simp only [decide_eq_true_eq, decide_eq_false_iff_not, beq_iff_eq, bne_iff_ne, ne_eq, Bool.not_eq_true', Bool.not_eq_false', beq_eq_false_iff_ne, bne_eq_false_iff_eq, Bool.and_eq_true, Bool.or_eq_true, Bool.or_eq_false_iff, Bool.not_eq_true, Bool.not_eq_false, Int.not_lt, Int.not_le, gt_iff_lt, ge_iff_le, bif_or, bif_and, Bool.and_true, Bool.and_false, Bool.true_and, Bool.false_and, Bool.or_true, Bool.or_false, Bool.true_or, Bool.false_or, Bool.true_eq_false, Bool.false_eq_true, Int.reduceEq, Int.reduceLT, Int.reduceLE, decide_true, decide_false, Bool.not_true, Bool.not_false, not_true_eq_false, not_false_eq_true, Bool.and_eq_false_iff, reduceCtorEq, Classical.not_not, not_and, imp_false, true_and, and_true, Bool.cond_true, Bool.cond_false, Int.reduceNeg] at hg))
    | omega
    | (simp only [List.length_append, List.length_cons, List.length_nil, List.length_map, List.length_singleton, List.length_set, List.length_take, List.length_drop, Nat.mul_one, Nat.one_mul] <;> omega))
set_option maxRecDepth 10000 in
set_option maxHeartbeats 4000000 in
theorem con_kindIs (d : Dev) (L : List (List AV)) (hL : L = ints (numsOf L)) (h1 : decide (L.length ≤ 1000) = true) : Con Tryd.prog C0 55 [.agg (devC d), .fz 1 L] []
    (fun x σ' => x = .sc (.bool (devOk d && (numsOf L).contains d.k)) ∧ σ' = []) := by
  refine con_of_sem hP [0, 1, 2, 4] [.tmp 4] Tryd.func55 (by unfold Tryd.f55; rfl) rfl rfl (Nat.le_of_ble_eq_true rfl) rfl ?_
  simp only [enter_cons, enter_nil, List.length_cons, List.length_nil, Nat.reduceAdd]
  generalize hQ : endQ _ _ _ _ = Q
  repeat' (first
    | with_reducible refine sem_cut fun k hk => ?_
    | with_reducible refine sem_blk fun k hk => ?_
    | ((first | with_reducible refine r_reg ?_ | ((with_reducible refine i_call (n := 62) ?_); refine call_openF [] ?_) | ((with_reducible refine i_call (n := 63) ?_); refine call_openF [] ?_) | ((with_reducible refine i_callW (n := 62) ?_); refine callW_use (con_DevOkI _) ?_; rintro x σ' ⟨rfl, rfl⟩; (refine ⟨?_, ?_⟩; (focus (simp only [go_sem, reduceIte, Int.reducePow, Nat.reduceEqDiff, Nat.reduceAdd, Nat.reduceLT, Nat.reduceLeDiff, Nat.reduceMul, Nat.reduceSub, Nat.reduceBEq, reduceCtorEq, Int.reduceEq, Int.reduceNe, Int.reduceLT, Int.reduceLE, Int.reduceAdd, Int.reduceSub, Int.reduceMul, Int.reduceToNat, Int.reduceBEq, Int.reduceBNe, Int.reduceGT, Int.reduceGE, Nat.reduceBNe, Nat.reduceGT, decide_true, decide_false, Bool.not_true, Bool.not_false, Int.reduceNeg, beq_true, beq_false, Bool.not_eq_false', takes]; try simp (disch := omega) only [wrap64]))); (with_reducible refine behind_go ?_)) | ((with_reducible refine i_callW (n := 63) ?_); refine callW_use (con_ContainsInt _ _ (by first | assumption | rfl) (by first | assumption | rfl)) ?_; rintro x σ' ⟨rfl, rfl⟩; (refine ⟨?_, ?_⟩; (focus (simp only [go_sem, reduceIte, Int.reducePow, Nat.reduceEqDiff, Nat.reduceAdd, Nat.reduceLT, Nat.reduceLeDiff, Nat.reduceMul, Nat.reduceSub, Nat.reduceBEq, reduceCtorEq, Int.reduceEq, Int.reduceNe, Int.reduceLT, Int.reduceLE, Int.reduceAdd, Int.reduceSub, Int.reduceMul, Int.reduceToNat, Int.reduceBEq, Int.reduceBNe, Int.reduceGT, Int.reduceGE, Nat.reduceBNe, Nat.reduceGT, decide_true, decide_false, Bool.not_true, Bool.not_false, Int.reduceNeg, beq_true, beq_false, Bool.not_eq_false', takes]; try simp (disch := omega) only [wrap64]))); (with_reducible refine behind_go ?_))); (simp only [go_sem, reduceIte, Int.reducePow, Nat.reduceEqDiff, Nat.reduceAdd, Nat.reduceLT, Nat.reduceLeDiff, Nat.reduceMul, Nat.reduceSub, Nat.reduceBEq, reduceCtorEq, Int.reduceEq, Int.reduceNe, Int.reduceLT, Int.reduceLE, Int.reduceAdd, Int.reduceSub, Int.reduceMul, Int.reduceToNat, Int.reduceBEq, Int.reduceBNe, Int.reduceGT, Int.reduceGE, Nat.reduceBNe, Nat.reduceGT, decide_true, decide_false, Bool.not_true, Bool.not_false, Int.reduceNeg, beq_true, beq_false, Bool.not_eq_false', takes]; try simp (disch := omega) only [wrap64]))
    | with_reducible refine r_skip ?_
    | with_reducible refine r_exit ?_
    | with_reducible refine r_ret ?_
    | with_reducible refine r_codeR ?_
    | with_reducible refine r_codeE ?_
    | with_reducible refine r_blkN ?_
    | with_reducible refine r_blkR ?_
    | with_reducible refine r_blkE ?_
    | with_reducible refine r_blkX rfl ?_
    | ((with_reducible refine r_nil ?_); subst hQ; (first | with_reducible refine end_use_ret [] ?_ ?_ ?_ | with_reducible refine end_use_nrm [] ?_ ?_ ?_); (focus rfl); (focus rfl); (simp only [go_sem, reduceIte, Int.reducePow, Nat.reduceEqDiff, Nat.reduceAdd, Nat.reduceLT, Nat.reduceLeDiff, Nat.reduceMul, Nat.reduceSub, Nat.reduceBEq, reduceCtorEq, Int.reduceEq, Int.reduceNe, Int.reduceLT, Int.reduceLE, Int.reduceAdd, Int.reduceSub, Int.reduceMul, Int.reduceToNat, Int.reduceBEq, Int.reduceBNe, Int.reduceGT, Int.reduceGE, Nat.reduceBNe, Nat.reduceGT, decide_true, decide_false, Bool.not_true, Bool.not_false, Int.reduceNeg, beq_true, beq_false, Bool.not_eq_false', takes]; try simp (disch := omega) only [wrap64]))
    | ((with_reducible refine wkEnd_same ?_); exact ⟨congrArg (fun b => AV.sc (.bool b)) (by clear hL h1; simp [*]), rfl⟩)
    | with_reducible refine r_backR ?_
    | with_reducible refine r_backE ?_
    | with_reducible refine r_nil ?_
    | with_reducible refine And.intro ?_ ?_
    | ((with_reducible apply sem_if); (case hb => rfl); all_goals (intro h; try simp only [decide_eq_true_eq, decide_eq_false_iff_not, beq_iff_eq, bne_iff_ne, ne_eq, Bool.not_eq_true', Bool.not_eq_false', beq_eq_false_iff_ne, bne_eq_false_iff_eq, Bool.and_eq_true, Bool.or_eq_true, Bool.or_eq_false_iff, Bool.not_eq_true, Bool.not_eq_false, Int.not_lt, Int.not_le, gt_iff_lt, ge_iff_le, bif_or, bif_and, Bool.and_true, Bool.and_false, Bool.true_and, Bool.false_and, Bool.or_true, Bool.or_false, Bool.true_or, Bool.false_or, Bool.true_eq_false, Bool.false_eq_true, Int.reduceEq, Int.reduceLT, Int.reduceLE, decide_true, decide_false, Bool.not_true, Bool.not_false, not_true_eq_false, not_false_eq_true, Bool.and_eq_false_iff, reduceCtorEq, Classical.not_not, not_and, imp_false, true_and, and_true, Bool.cond_true, Bool.cond_false, Int.reduceNeg] at h))
    | ((fail_if_success with_reducible refine i_call ?_); (fail_if_success with_reducible refine i_loop ?_); (fail_if_success with_reducible refine i_draw ?_); subst hk)
    | exact True.intro
    | exact fun hf => False.elim hf
    | (intro hg; simp +contextual [hg]; done)
    | (intro hg; (simp only [go_sem, reduceIte, Int.reducePow, Nat.reduceEqDiff, Nat.reduceAdd, Nat.reduceLT, Nat.reduceLeDiff, Nat.reduceMul, Nat.reduceSub, Nat.reduceBEq, reduceCtorEq, Int.reduceEq, Int.reduceNe, Int.reduceLT, Int.reduceLE, Int.reduceAdd, Int.reduceSub, Int.reduceMul, Int.reduceToNat, Int.reduceBEq, Int.reduceBNe, Int.reduceGT, Int.reduceGE, Nat.reduceBNe, Nat.reduceGT, decide_true, decide_false, Bool.not_true, Bool.not_false, Int.reduceNeg, beq_true, beq_false, Bool.not_eq_false', takes, hg]; try simp (disch := omega) only [wrap64]); (try simp only [decide_eq_true_eq, decide_eq_false_iff_not, beq_iff_eq, bne_iff_ne, ne_eq, Bool.not_eq_true', Bool.not_eq_false', beq_eq_false_iff_ne, bne_eq_false_iff_eq, Bool.and_eq_true, Bool.or_eq_true, Bool.or_eq_false_iff, Bool.not_eq_true, Bool.not_eq_false, Int.not_lt, Int.not_le, gt_iff_lt, ge_iff_le, bif_or, bif_and, Bool.and_true, Bool.and_false, Bool.true_and, Bool.false_and, Bool.or_true, Bool.or_false, Bool.true_or, Bool.false_or, Bool.true_eq_false, Bool.false_eq_true, Int.reduceEq, Int.reduceLT, Int.reduceLE, decide_true, decide_false, Bool.not_true, Bool.not_false, not_true_eq_false, not_false_eq_true, Bool.and_eq_false_iff, reduceCtorEq, Classical.not_not, not_and, imp_false, true_and, and_true, Bool.cond_true, Bool.cond_false, Int.reduceNeg] at hg))
    | omega
    | (simp only [List.length_append, List.length_cons, List.length_nil, List.length_map, List.length_singleton, List.length_set, List.length_take, List.length_drop, Nat.mul_one, Nat.one_mul] <;> omega))
end Go.AM
