/- Contracts of the draws' functions of the operands. Conditions: none. -/
import Derived.Test.YtkafcijfljjlaaaDoorAmA1
set_option linter.unusedSimpArgs false
set_option linter.unusedVariables false
namespace Go.AM
open Go Go.Proofs
def ints (xs : List Int) : List (List AV) := xs.map fun x => [.sc (.int .i64 x)]
def numsOf (L : List (List AV)) : List Int := L.map fun r => numA (r.headD .junk)
def rngB (lo hi : Int) (xs : List Int) : Bool := xs.all fun m => decide (lo ≤ m) && decide (m ≤ hi)
theorem ints_get (xs : List Int) (i : Int) (h0 : 0 ≤ i) (h1 : i < xs.length) : ∃ m ∈ xs, (ints xs).getD i.toNat [] = [.sc (.int .i64 m)] := by
  obtain ⟨n, rfl⟩ := Int.eq_ofNat_of_zero_le h0
  have hn : n < xs.length := by omega
  exact ⟨xs[n], List.getElem_mem hn, by simp [ints, List.getD, hn]⟩
structure Dev where
  k : Int
  n : Int
  p : Int
def devC (d : Dev) : List AV := [.sc (.int .i64 d.k), .sc (.int .i64 d.n), .sc (.int .i64 d.p)]
def okD (d : Dev) : Prop := -8589934592 ≤ d.k ∧ d.k ≤ 8589934592 ∧ -8589934592 ≤ d.n ∧ d.n ≤ 8589934592 ∧ -8589934592 ≤ d.p ∧ d.p ≤ 8589934592
attribute [go_sem] devC
def devSz (k : Int) : Int := if k = 1 ∨ k = 2 ∨ k = 5 ∨ k = 9 then 32 else if k = 3 then 64 else if k = 4 ∨ k = 7 ∨ k = 8 ∨ k = 10 then 16 else if k = 6 then 5 else 0
set_option maxRecDepth 10000 in
set_option maxHeartbeats 4000000 in
theorem con_DevSize (n : Int)  : Con Tryd.prog C0 61 [.sc (.int .i64 (n))] []
    (fun x σ' => ∃ m : Int, x = .sc (.int .i64 (m)) ∧ m = devSz n ∧ 0 ≤ m ∧ m ≤ 64 ∧ σ' = []) := by
  refine con_of_sem hP [0, 2, 3, 4, 9, 11, 16] [.tmp 2] Tryd.func61 (by unfold Tryd.f61; rfl) rfl rfl (Nat.le_of_ble_eq_true rfl) rfl ?_
  simp only [enter_cons, enter_nil, List.length_cons, List.length_nil, Nat.reduceAdd]
  generalize hQ : endQ _ _ _ _ = Q
  repeat' (first
    | with_reducible refine sem_cut fun k hk => ?_
    | with_reducible refine sem_blk fun k hk => ?_
    | ((first | with_reducible refine r_reg ?_); (simp only [go_sem, reduceIte, Int.reducePow, Nat.reduceEqDiff, Nat.reduceAdd, Nat.reduceLT, Nat.reduceLeDiff, Nat.reduceMul, Nat.reduceSub, Nat.reduceBEq, reduceCtorEq, Int.reduceEq, Int.reduceNe, Int.reduceLT, Int.reduceLE, Int.reduceAdd, Int.reduceSub, Int.reduceMul, Int.reduceToNat, Int.reduceBEq, Int.reduceBNe, Int.reduceGT, Int.reduceGE, Nat.reduceBNe, Nat.reduceGT, decide_true, decide_false, Bool.not_true, Bool.not_false, Int.reduceNeg, beq_true, beq_false, Bool.not_eq_false', takes]; try simp (disch := omega) only [wrap64]))
    | with_reducible refine r_skip ?_
    | with_reducible refine r_exit ?_
    | with_reducible refine r_ret ?_
    | with_reducible refine r_codeR ?_
    | with_reducible refine r_codeE ?_
    | with_reducible refine r_blkN ?_
    | with_reducible refine r_blkR ?_
    | with_reducible refine r_blkE ?_
    | with_reducible refine r_blkX rfl ?_
    | ((with_reducible refine r_nil ?_); subst hQ; (first | with_reducible refine end_use_ret [] ?_ ?_ ?_ | with_reducible refine end_use_nrm [] ?_ ?_ ?_); (focus rfl); (focus rfl); (simp only [go_sem, reduceIte, Int.reducePow, Nat.reduceEqDiff, Nat.reduceAdd, Nat.reduceLT, Nat.reduceLeDiff, Nat.reduceMul, Nat.reduceSub, Nat.reduceBEq, reduceCtorEq, Int.reduceEq, Int.reduceNe, Int.reduceLT, Int.reduceLE, Int.reduceAdd, Int.reduceSub, Int.reduceMul, Int.reduceToNat, Int.reduceBEq, Int.reduceBNe, Int.reduceGT, Int.reduceGE, Nat.reduceBNe, Nat.reduceGT, decide_true, decide_false, Bool.not_true, Bool.not_false, Int.reduceNeg, beq_true, beq_false, Bool.not_eq_false', takes]; try simp (disch := omega) only [wrap64]))
    | ((with_reducible refine wkEnd_same ?_); exact ⟨_, rfl, (by unfold devSz; (repeat' split) <;> omega), by omega, by omega, rfl⟩)
    | with_reducible refine r_backR ?_
    | with_reducible refine r_backE ?_
    | with_reducible refine r_nil ?_
    | with_reducible refine And.intro ?_ ?_
    | ((with_reducible apply sem_if); (case hb => rfl); all_goals (intro h; try simp only [decide_eq_true_eq, decide_eq_false_iff_not, beq_iff_eq, bne_iff_ne, ne_eq, Bool.not_eq_true', Bool.not_eq_false', beq_eq_false_iff_ne, bne_eq_false_iff_eq, Bool.and_eq_true, Bool.or_eq_true, Bool.or_eq_false_iff, Bool.not_eq_true, Bool.not_eq_false, Int.not_lt, Int.not_le, gt_iff_lt, ge_iff_le, bif_or, bif_and, Bool.and_true, Bool.and_false, Bool.true_and, Bool.false_and, Bool.or_true, Bool.or_false, Bool.true_or, Bool.false_or, Bool.true_eq_false, Bool.false_eq_true, Int.reduceEq, Int.reduceLT, Int.reduceLE, decide_true, decide_false, Bool.not_true, Bool.not_false, not_true_eq_false, not_false_eq_true, Bool.and_eq_false_iff, reduceCtorEq, Classical.not_not, not_and, imp_false, true_and, and_true, Bool.cond_true, Bool.cond_false, Int.reduceNeg] at h))
    | ((fail_if_success with_reducible refine i_call ?_); (fail_if_success with_reducible refine i_loop ?_); (fail_if_success with_reducible refine i_draw ?_); subst hk)
    | exact True.intro
    | exact fun hf => False.elim hf
    | (intro hg; simp +contextual [hg]; done)
    | (intro hg; (simp only [go_sem, reduceIte, Int.reducePow, Nat.reduceEqDiff, Nat.reduceAdd, Nat.reduceLT, Nat.reduceLeDiff, Nat.reduceMul, Nat.reduceSub, Nat.reduceBEq, reduceCtorEq, Int.reduceEq, Int.reduceNe, Int.reduceLT, Int.reduceLE, Int.reduceAdd, Int.reduceSub, Int.reduceMul, Int.reduceToNat, Int.reduceBEq, Int.reduceBNe, Int.reduceGT, Int.reduceGE, Nat.reduceBNe, Nat.reduceGT, decide_true, decide_false, Bool.not_true, Bool.not_false, Int.reduceNeg, beq_true, beq_false, Bool.not_eq_false', takes, hg]; try simp (disch := omega) only [wrap64]); (try simp only [decide_eq_true_eq, decide_eq_false_iff_not, beq_iff_eq, bne_iff_ne, ne_eq, Bool.not_eq_true', Bool.not_eq_false', beq_eq_false_iff_ne, bne_eq_false_iff_eq, Bool.and_eq_true, Bool.or_eq_true, Bool.or_eq_false_iff, Bool.not_eq_true, Bool.not_eq_false, Int.not_lt, Int.not_le, gt_iff_lt, ge_iff_le, bif_or, bif_and, Bool.and_true, Bool.and_false, Bool.true_and, Bool.false_and, Bool.or_true, Bool.or_false, Bool.true_or, Bool.false_or, Bool.true_eq_false, Bool.false_eq_true, Int.reduceEq, Int.reduceLT, Int.reduceLE, decide_true, decide_false, Bool.not_true, Bool.not_false, not_true_eq_false, not_false_eq_true, Bool.and_eq_false_iff, reduceCtorEq, Classical.not_not, not_and, imp_false, true_and, and_true, Bool.cond_true, Bool.cond_false, Int.reduceNeg] at hg))
    | omega
    | (simp only [List.length_append, List.length_cons, List.length_nil, List.length_map, List.length_singleton, List.length_set, List.length_take, List.length_drop, Nat.mul_one, Nat.one_mul] <;> omega))
set_option maxRecDepth 10000 in
set_option maxHeartbeats 4000000 in
theorem con_Open (bs : List UInt8)  : Con Tryd.prog C0 16 [.fz 1 (bytes bs)] []
    (fun x σ' => ∃ bs', x = .pt 0 0 ∧ σ' = [rdr bs' 0]) := by
  refine con_of_sem hP [0, 2, 5] [.tmp 2] Tryd.func16 (by unfold Tryd.f16; rfl) rfl rfl (Nat.le_of_ble_eq_true rfl) rfl ?_
  simp only [enter_cons, enter_nil, List.length_cons, List.length_nil, Nat.reduceAdd]
  generalize hQ : endQ _ _ _ _ = Q
  repeat' (first
    | with_reducible refine sem_cut fun k hk => ?_
    | with_reducible refine sem_blk fun k hk => ?_
    | ((first | with_reducible refine r_reg ?_); (simp only [go_sem, reduceIte, Int.reducePow, Nat.reduceEqDiff, Nat.reduceAdd, Nat.reduceLT, Nat.reduceLeDiff, Nat.reduceMul, Nat.reduceSub, Nat.reduceBEq, reduceCtorEq, Int.reduceEq, Int.reduceNe, Int.reduceLT, Int.reduceLE, Int.reduceAdd, Int.reduceSub, Int.reduceMul, Int.reduceToNat, Int.reduceBEq, Int.reduceBNe, Int.reduceGT, Int.reduceGE, Nat.reduceBNe, Nat.reduceGT, decide_true, decide_false, Bool.not_true, Bool.not_false, Int.reduceNeg, beq_true, beq_false, Bool.not_eq_false', takes, bytes_take, bytes_len]; try simp (disch := omega) only [wrap64]))
    | with_reducible refine r_skip ?_
    | with_reducible refine r_exit ?_
    | with_reducible refine r_ret ?_
    | with_reducible refine r_codeR ?_
    | with_reducible refine r_codeE ?_
    | with_reducible refine r_blkN ?_
    | with_reducible refine r_blkR ?_
    | with_reducible refine r_blkE ?_
    | with_reducible refine r_blkX rfl ?_
    | ((with_reducible refine r_nil ?_); subst hQ; (first | with_reducible refine end_use_ret [0] ?_ ?_ ?_ | with_reducible refine end_use_nrm [0] ?_ ?_ ?_); (focus rfl); (focus rfl); (simp only [go_sem, reduceIte, Int.reducePow, Nat.reduceEqDiff, Nat.reduceAdd, Nat.reduceLT, Nat.reduceLeDiff, Nat.reduceMul, Nat.reduceSub, Nat.reduceBEq, reduceCtorEq, Int.reduceEq, Int.reduceNe, Int.reduceLT, Int.reduceLE, Int.reduceAdd, Int.reduceSub, Int.reduceMul, Int.reduceToNat, Int.reduceBEq, Int.reduceBNe, Int.reduceGT, Int.reduceGE, Nat.reduceBNe, Nat.reduceGT, decide_true, decide_false, Bool.not_true, Bool.not_false, Int.reduceNeg, beq_true, beq_false, Bool.not_eq_false', takes, bytes_take, bytes_len]; try simp (disch := omega) only [wrap64]))
    | ((with_reducible refine wkEnd_same ?_); exact ⟨_, rfl, rfl⟩)
    | with_reducible refine r_backR ?_
    | with_reducible refine r_backE ?_
    | with_reducible refine r_nil ?_
    | with_reducible refine And.intro ?_ ?_
    | ((with_reducible apply sem_if); (case hb => rfl); all_goals (intro h; try simp only [decide_eq_true_eq, decide_eq_false_iff_not, beq_iff_eq, bne_iff_ne, ne_eq, Bool.not_eq_true', Bool.not_eq_false', beq_eq_false_iff_ne, bne_eq_false_iff_eq, Bool.and_eq_true, Bool.or_eq_true, Bool.or_eq_false_iff, Bool.not_eq_true, Bool.not_eq_false, Int.not_lt, Int.not_le, gt_iff_lt, ge_iff_le, bif_or, bif_and, Bool.and_true, Bool.and_false, Bool.true_and, Bool.false_and, Bool.or_true, Bool.or_false, Bool.true_or, Bool.false_or, Bool.true_eq_false, Bool.false_eq_true, Int.reduceEq, Int.reduceLT, Int.reduceLE, decide_true, decide_false, Bool.not_true, Bool.not_false, not_true_eq_false, not_false_eq_true, Bool.and_eq_false_iff, reduceCtorEq, Classical.not_not, not_and, imp_false, true_and, and_true, Bool.cond_true, Bool.cond_false, Int.reduceNeg] at h))
    | ((fail_if_success with_reducible refine i_call ?_); (fail_if_success with_reducible refine i_loop ?_); (fail_if_success with_reducible refine i_draw ?_); subst hk)
    | exact True.intro
    | exact fun hf => False.elim hf
    | (intro hg; simp +contextual [hg]; done)
    | (intro hg; (simp only [go_sem, reduceIte, Int.reducePow, Nat.reduceEqDiff, Nat.reduceAdd, Nat.reduceLT, Nat.reduceLeDiff, Nat.reduceMul, Nat.reduceSub, Nat.reduceBEq, reduceCtorEq, Int.reduceEq, Int.reduceNe, Int.reduceLT, Int.reduceLE, Int.reduceAdd, Int.reduceSub, Int.reduceMul, Int.reduceToNat, Int.reduceBEq, Int.reduceBNe, Int.reduceGT, Int.reduceGE, Nat.reduceBNe, Nat.reduceGT, decide_true, decide_false, Bool.not_true, Bool.not_false, Int.reduceNeg, beq_true, beq_false, Bool.not_eq_false', takes, bytes_take, bytes_len, hg]; try simp (disch := omega) only [wrap64]); (try simp only [decide_eq_true_eq, decide_eq_false_iff_not, beq_iff_eq, bne_iff_ne, ne_eq, Bool.not_eq_true', Bool.not_eq_false', beq_eq_false_iff_ne, bne_eq_false_iff_eq, Bool.and_eq_true, Bool.or_eq_true, Bool.or_eq_false_iff, Bool.not_eq_true, Bool.not_eq_false, Int.not_lt, Int.not_le, gt_iff_lt, ge_iff_le, bif_or, bif_and, Bool.and_true, Bool.and_false, Bool.true_and, Bool.false_and, Bool.or_true, Bool.or_false, Bool.true_or, Bool.false_or, Bool.true_eq_false, Bool.false_eq_true, Int.reduceEq, Int.reduceLT, Int.reduceLE, decide_true, decide_false, Bool.not_true, Bool.not_false, not_true_eq_false, not_false_eq_true, Bool.and_eq_false_iff, reduceCtorEq, Classical.not_not, not_and, imp_false, true_and, and_true, Bool.cond_true, Bool.cond_false, Int.reduceNeg] at hg))
    | omega
    | (simp only [List.length_append, List.length_cons, List.length_nil, List.length_map, List.length_singleton, List.length_set, List.length_take, List.length_drop, Nat.mul_one, Nat.one_mul] <;> omega))
theorem rngB_mem {lo hi : Int} {xs : List Int} (h : rngB lo hi xs = true) {m : Int} (hm : m ∈ xs) : lo ≤ m ∧ m ≤ hi := by
  simp only [rngB, List.all_eq_true, Bool.and_eq_true, decide_eq_true_eq] at h
  exact h m hm
set_option maxRecDepth 10000 in
set_option maxHeartbeats 4000000 in
theorem con_numR (lo hi : Int) (bs : List UInt8) (p : Int) (L : List (List AV)) (hL : L = ints (numsOf L)) (h1 : (decide (1 ≤ L.length) && decide (L.length ≤ 100)) = true) (hB : rngB lo hi (numsOf L) = true) (hp : 0 ≤ p) (hp2 : p < 100000000000000) : Con Tryd.prog C0 29 [.pt 0 0, .fz 1 L] [rdr bs p]
    (fun x σ' => ∃ m : Int, x = .sc (.int .i64 (m)) ∧ lo ≤ m ∧ m ≤ hi ∧ σ' = [rdr bs (p + 1)]) := by
  refine con_of_sem hP [0, 1, 4] [.tmp 4] Tryd.func29 (by unfold Tryd.f29; rfl) rfl rfl (Nat.le_of_ble_eq_true rfl) rfl ?_
  simp only [enter_cons, enter_nil, List.length_cons, List.length_nil, Nat.reduceAdd]
  generalize hQ : endQ _ _ _ _ = Q
  simp only [Bool.and_eq_true, decide_eq_true_eq] at h1
  obtain ⟨h1, h2⟩ := h1
  have hlen : (numsOf L).length = L.length := by simp [numsOf]
  generalize hX : numsOf L = xs at *
  subst hL
  have hl : (ints xs).length = xs.length := by simp [ints]
  repeat' (first
    | with_reducible refine sem_cut fun k hk => ?_
    | with_reducible refine sem_blk fun k hk => ?_
    | ((first | with_reducible refine r_reg ?_ | ((with_reducible refine i_call (n := 17) ?_); refine call_open [[0]] ?_) | ((with_reducible refine i_callW (n := 17) ?_); refine callW_use (con_pick _ _ _ (by first | with_reducible assumption | omega | (simp only [List.length_append, List.length_cons, List.length_nil, List.length_map, List.length_set, List.length_take, List.length_drop] <;> omega) | decide) (by first | with_reducible assumption | omega | (simp only [List.length_append, List.length_cons, List.length_nil, List.length_map, List.length_set, List.length_take, List.length_drop] <;> omega) | decide)) ?_; rintro x σ' ⟨m, rfl, h0, h1, rfl⟩; (with_reducible refine behind_go ?_))); (simp only [go_sem, reduceIte, Int.reducePow, Nat.reduceEqDiff, Nat.reduceAdd, Nat.reduceLT, Nat.reduceLeDiff, Nat.reduceMul, Nat.reduceSub, Nat.reduceBEq, reduceCtorEq, Int.reduceEq, Int.reduceNe, Int.reduceLT, Int.reduceLE, Int.reduceAdd, Int.reduceSub, Int.reduceMul, Int.reduceToNat, Int.reduceBEq, Int.reduceBNe, Int.reduceGT, Int.reduceGE, Nat.reduceBNe, Nat.reduceGT, decide_true, decide_false, Bool.not_true, Bool.not_false, Int.reduceNeg, beq_true, beq_false, Bool.not_eq_false', takes]; try simp (disch := omega) only [wrap64]))
    | with_reducible refine r_skip ?_
    | with_reducible refine r_exit ?_
    | with_reducible refine r_ret ?_
    | with_reducible refine r_codeR ?_
    | with_reducible refine r_codeE ?_
    | with_reducible refine r_blkN ?_
    | with_reducible refine r_blkR ?_
    | with_reducible refine r_blkE ?_
    | with_reducible refine r_blkX rfl ?_
    | ((with_reducible refine r_nil ?_); subst hQ; (first | with_reducible refine end_use_ret [0] ?_ ?_ ?_ | with_reducible refine end_use_nrm [0] ?_ ?_ ?_); (focus rfl); (focus rfl); (simp only [go_sem, reduceIte, Int.reducePow, Nat.reduceEqDiff, Nat.reduceAdd, Nat.reduceLT, Nat.reduceLeDiff, Nat.reduceMul, Nat.reduceSub, Nat.reduceBEq, reduceCtorEq, Int.reduceEq, Int.reduceNe, Int.reduceLT, Int.reduceLE, Int.reduceAdd, Int.reduceSub, Int.reduceMul, Int.reduceToNat, Int.reduceBEq, Int.reduceBNe, Int.reduceGT, Int.reduceGE, Nat.reduceBNe, Nat.reduceGT, decide_true, decide_false, Bool.not_true, Bool.not_false, Int.reduceNeg, beq_true, beq_false, Bool.not_eq_false', takes]; try simp (disch := omega) only [wrap64]))
    | (obtain ⟨j, hj, e⟩ := ints_get xs m h0 (by omega); rw [e]; exact ⟨rfl, trivial⟩)
    | ((with_reducible refine wkEnd_same ?_); (obtain ⟨j, hj, e⟩ := ints_get xs m h0 (by omega); obtain ⟨b0, b1⟩ := rngB_mem hB hj; rw [e]; exact ⟨_, rfl, b0, b1, rfl⟩))
    | with_reducible refine r_backR ?_
    | with_reducible refine r_backE ?_
    | with_reducible refine r_nil ?_
    | with_reducible refine And.intro ?_ ?_
    | ((with_reducible apply sem_if); (case hb => rfl); all_goals (intro h; try simp only [decide_eq_true_eq, decide_eq_false_iff_not, beq_iff_eq, bne_iff_ne, ne_eq, Bool.not_eq_true', Bool.not_eq_false', beq_eq_false_iff_ne, bne_eq_false_iff_eq, Bool.and_eq_true, Bool.or_eq_true, Bool.or_eq_false_iff, Bool.not_eq_true, Bool.not_eq_false, Int.not_lt, Int.not_le, gt_iff_lt, ge_iff_le, bif_or, bif_and, Bool.and_true, Bool.and_false, Bool.true_and, Bool.false_and, Bool.or_true, Bool.or_false, Bool.true_or, Bool.false_or, Bool.true_eq_false, Bool.false_eq_true, Int.reduceEq, Int.reduceLT, Int.reduceLE, decide_true, decide_false, Bool.not_true, Bool.not_false, not_true_eq_false, not_false_eq_true, Bool.and_eq_false_iff, reduceCtorEq, Classical.not_not, not_and, imp_false, true_and, and_true, Bool.cond_true, Bool.cond_false, Int.reduceNeg] at h))
    | ((fail_if_success with_reducible refine i_call ?_); (fail_if_success with_reducible refine i_loop ?_); (fail_if_success with_reducible refine i_draw ?_); subst hk)
    | exact True.intro
    | exact fun hf => False.elim hf
    | (intro hg; simp +contextual [hg]; done)
    | (intro hg; (simp only [go_sem, reduceIte, Int.reducePow, Nat.reduceEqDiff, Nat.reduceAdd, Nat.reduceLT, Nat.reduceLeDiff, Nat.reduceMul, Nat.reduceSub, Nat.reduceBEq, reduceCtorEq, Int.reduceEq, Int.reduceNe, Int.reduceLT, Int.reduceLE, Int.reduceAdd, Int.reduceSub, Int.reduceMul, Int.reduceToNat, Int.reduceBEq, Int.reduceBNe, Int.reduceGT, Int.reduceGE, Nat.reduceBNe, Nat.reduceGT, decide_true, decide_false, Bool.not_true, Bool.not_false, Int.reduceNeg, beq_true, beq_false, Bool.not_eq_false', takes, hg]; try simp (disch := omega) only [wrap64]); (try simp only [decide_eq_true_eq, decide_eq_false_iff_not, beq_iff_eq, bne_iff_ne, ne_eq, Bool.not_eq_true', Bool.not_eq_false', beq_eq_false_iff_ne, bne_eq_false_iff_eq, Bool.and_eq_true, Bool.or_eq_true, Bool.or_eq_false_iff, Bool.not_eq_true, Bool.not_eq_false, Int.not_lt, Int.not_le, gt_iff_lt, ge_iff_le, bif_or, bif_and, Bool.and_true, Bool.and_false, Bool.true_and, Bool.false_and, Bool.or_true, Bool.or_false, Bool.true_or, Bool.false_or, Bool.true_eq_false, Bool.false_eq_true, Int.reduceEq, Int.reduceLT, Int.reduceLE, decide_true, decide_false, Bool.not_true, Bool.not_false, not_true_eq_false, not_false_eq_true, Bool.and_eq_false_iff, reduceCtorEq, Classical.not_not, not_and, imp_false, true_and, and_true, Bool.cond_true, Bool.cond_false, Int.reduceNeg] at hg))
    | omega
    | (simp only [List.length_append, List.length_cons, List.length_nil, List.length_map, List.length_singleton, List.length_set, List.length_take, List.length_drop, Nat.mul_one, Nat.one_mul] <;> omega))
set_option maxRecDepth 10000 in
set_option maxHeartbeats 4000000 in
theorem con_num (bs : List UInt8) (p : Int) (L : List (List AV)) (hL : L = ints (numsOf L)) (h1 : (decide (1 ≤ L.length) && decide (L.length ≤ 100)) = true) (hB : rngB (-8589934592) 8589934592 (numsOf L) = true) (hp : 0 ≤ p) (hp2 : p < 100000000000000) : Con Tryd.prog C0 29 [.pt 0 0, .fz 1 L] [rdr bs p]
    (fun x σ' => ∃ m : Int, x = .sc (.int .i64 (m)) ∧ (-8589934592) ≤ m ∧ m ≤ 8589934592 ∧ σ' = [rdr bs (p + 1)]) := by
  exact con_numR (-8589934592) 8589934592 bs p L hL h1 hB hp hp2
set_option maxRecDepth 10000 in
set_option maxHeartbeats 4000000 in
theorem con_num1 (bs : List UInt8) (p : Int) (L : List (List AV)) (hL : L = ints (numsOf L)) (h1 : (decide (1 ≤ L.length) && decide (L.length ≤ 100)) = true) (hB : rngB 1 11 (numsOf L) = true) (hp : 0 ≤ p) (hp2 : p < 100000000000000) : Con Tryd.prog C0 29 [.pt 0 0, .fz 1 L] [rdr bs p]
    (fun x σ' => ∃ m : Int, x = .sc (.int .i64 (m)) ∧ 1 ≤ m ∧ m ≤ 11 ∧ σ' = [rdr bs (p + 1)]) := by
  exact con_numR 1 11 bs p L hL h1 hB hp hp2
set_option maxRecDepth 10000 in
set_option maxHeartbeats 4000000 in
theorem con_num21 (bs : List UInt8) (p : Int) (L : List (List AV)) (hL : L = ints (numsOf L)) (h1 : (decide (1 ≤ L.length) && decide (L.length ≤ 100)) = true) (hB : rngB 21 37 (numsOf L) = true) (hp : 0 ≤ p) (hp2 : p < 100000000000000) : Con Tryd.prog C0 29 [.pt 0 0, .fz 1 L] [rdr bs p]
    (fun x σ' => ∃ m : Int, x = .sc (.int .i64 (m)) ∧ 21 ≤ m ∧ m ≤ 37 ∧ σ' = [rdr bs (p + 1)]) := by
  exact con_numR 21 37 bs p L hL h1 hB hp hp2
set_option maxRecDepth 10000 in
set_option maxHeartbeats 4000000 in
theorem con_l2Arg (bs : List UInt8) (p n : Int) (hp : 0 ≤ p) (hp2 : p < 10000000000000) (hn0 : -8589934592 ≤ n) (hn1 : n ≤ 8589934592) : Con Tryd.prog C0 45 [.pt 0 0, .sc (.int .i64 (n))] [rdr bs p]
    (fun x σ' => ∃ d q, x = .agg (devC d) ∧ okD d ∧ p ≤ q ∧ q ≤ p + 3 ∧ σ' = [rdr bs q]) := by
  refine con_of_sem hP [0, 1, 4, 5, 6, 7, 8, 9, 16, 26, 31, 41, 49] [.cell 4 68] Tryd.func45 (by unfold Tryd.f45; rfl) rfl rfl (Nat.le_of_ble_eq_true rfl) rfl ?_
  simp only [enter_cons, enter_nil, List.length_cons, List.length_nil, Nat.reduceAdd]
  generalize hQ : endQ _ _ _ _ = Q
  repeat' (first
    | with_reducible refine sem_cut fun k hk => ?_
    | with_reducible refine sem_blk fun k hk => ?_
    | ((first | with_reducible refine r_reg ?_ | ((with_reducible refine i_call (n := 29) ?_); refine call_open [[0]] ?_) | ((with_reducible refine i_call (n := 17) ?_); refine call_open [[0]] ?_) | ((with_reducible refine i_call (n := 61) ?_); refine call_openF [] ?_) | ((with_reducible refine i_callW (n := 29) ?_); refine callW_use (con_num21 _ _ _ (by first | omega | rfl) (by first | omega | rfl) (by first | omega | rfl) (by first | omega | rfl) (by first | omega | rfl)) ?_; rintro x σ' ⟨m, rfl, hm0, hm1, rfl⟩; (with_reducible refine behind_go ?_)) | ((with_reducible refine i_callW (n := 29) ?_); refine callW_use (con_num1 _ _ _ (by first | omega | rfl) (by first | omega | rfl) (by first | omega | rfl) (by first | omega | rfl) (by first | omega | rfl)) ?_; rintro x σ' ⟨m, rfl, hm0, hm1, rfl⟩; (with_reducible refine behind_go ?_)) | ((with_reducible refine i_callW (n := 29) ?_); refine callW_use (con_num _ _ _ (by first | omega | rfl) (by first | omega | rfl) (by first | omega | rfl) (by first | omega | rfl) (by first | omega | rfl)) ?_; rintro x σ' ⟨m, rfl, hm0, hm1, rfl⟩; (with_reducible refine behind_go ?_)) | ((with_reducible refine i_callW (n := 17) ?_); refine callW_use (con_pick _ _ _ (by first | with_reducible assumption | omega | (simp only [List.length_append, List.length_cons, List.length_nil, List.length_map, List.length_set, List.length_take, List.length_drop] <;> omega) | decide) (by first | with_reducible assumption | omega | (simp only [List.length_append, List.length_cons, List.length_nil, List.length_map, List.length_set, List.length_take, List.length_drop] <;> omega) | decide)) ?_; rintro x σ' ⟨m, rfl, h0, h1, rfl⟩; (with_reducible refine behind_go ?_)) | ((with_reducible refine i_callW (n := 61) ?_); refine callW_use (con_DevSize _) ?_; rintro x σ' ⟨m, rfl, hme, hm0, hm1, rfl⟩; (refine ⟨?_, ?_⟩; (focus (simp only [go_sem, reduceIte, Int.reducePow, Nat.reduceEqDiff, Nat.reduceAdd, Nat.reduceLT, Nat.reduceLeDiff, Nat.reduceMul, Nat.reduceSub, Nat.reduceBEq, reduceCtorEq, Int.reduceEq, Int.reduceNe, Int.reduceLT, Int.reduceLE, Int.reduceAdd, Int.reduceSub, Int.reduceMul, Int.reduceToNat, Int.reduceBEq, Int.reduceBNe, Int.reduceGT, Int.reduceGE, Nat.reduceBNe, Nat.reduceGT, decide_true, decide_false, Bool.not_true, Bool.not_false, Int.reduceNeg, beq_true, beq_false, Bool.not_eq_false', takes]; try simp (disch := omega) only [wrap64]))); (with_reducible refine behind_go ?_))); (simp only [go_sem, reduceIte, Int.reducePow, Nat.reduceEqDiff, Nat.reduceAdd, Nat.reduceLT, Nat.reduceLeDiff, Nat.reduceMul, Nat.reduceSub, Nat.reduceBEq, reduceCtorEq, Int.reduceEq, Int.reduceNe, Int.reduceLT, Int.reduceLE, Int.reduceAdd, Int.reduceSub, Int.reduceMul, Int.reduceToNat, Int.reduceBEq, Int.reduceBNe, Int.reduceGT, Int.reduceGE, Nat.reduceBNe, Nat.reduceGT, decide_true, decide_false, Bool.not_true, Bool.not_false, Int.reduceNeg, beq_true, beq_false, Bool.not_eq_false', takes]; try simp (disch := omega) only [wrap64]))
    | with_reducible refine r_skip ?_
    | with_reducible refine r_exit ?_
    | with_reducible refine r_ret ?_
    | with_reducible refine r_codeR ?_
    | with_reducible refine r_codeE ?_
    | with_reducible refine r_blkN ?_
    | with_reducible refine r_blkR ?_
    | with_reducible refine r_blkE ?_
    | with_reducible refine r_blkX rfl ?_
    | ((with_reducible refine r_nil ?_); subst hQ; (first | with_reducible refine end_use_ret [0] ?_ ?_ ?_ | with_reducible refine end_use_nrm [0] ?_ ?_ ?_); (focus rfl); (focus rfl); (simp only [go_sem, reduceIte, Int.reducePow, Nat.reduceEqDiff, Nat.reduceAdd, Nat.reduceLT, Nat.reduceLeDiff, Nat.reduceMul, Nat.reduceSub, Nat.reduceBEq, reduceCtorEq, Int.reduceEq, Int.reduceNe, Int.reduceLT, Int.reduceLE, Int.reduceAdd, Int.reduceSub, Int.reduceMul, Int.reduceToNat, Int.reduceBEq, Int.reduceBNe, Int.reduceGT, Int.reduceGE, Nat.reduceBNe, Nat.reduceGT, decide_true, decide_false, Bool.not_true, Bool.not_false, Int.reduceNeg, beq_true, beq_false, Bool.not_eq_false', takes]; try simp (disch := omega) only [wrap64]))
    | ((with_reducible refine wkEnd_same ?_); exact ⟨⟨_, _, _⟩, _, rfl, by simp only [okD]; omega, by omega, by omega, rfl⟩)
    | with_reducible refine r_backR ?_
    | with_reducible refine r_backE ?_
    | with_reducible refine r_nil ?_
    | with_reducible refine And.intro ?_ ?_
    | ((with_reducible apply sem_if); (case hb => rfl); all_goals (intro h; try simp only [decide_eq_true_eq, decide_eq_false_iff_not, beq_iff_eq, bne_iff_ne, ne_eq, Bool.not_eq_true', Bool.not_eq_false', beq_eq_false_iff_ne, bne_eq_false_iff_eq, Bool.and_eq_true, Bool.or_eq_true, Bool.or_eq_false_iff, Bool.not_eq_true, Bool.not_eq_false, Int.not_lt, Int.not_le, gt_iff_lt, ge_iff_le, bif_or, bif_and, Bool.and_true, Bool.and_false, Bool.true_and, Bool.false_and, Bool.or_true, Bool.or_false, Bool.true_or, Bool.false_or, Bool.true_eq_false, Bool.false_eq_true, Int.reduceEq, Int.reduceLT, Int.reduceLE, decide_true, decide_false, Bool.not_true, Bool.not_false, not_true_eq_false, not_false_eq_true, Bool.and_eq_false_iff, reduceCtorEq, Classical.not_not, not_and, imp_false, true_and, and_true, Bool.cond_true, Bool.cond_false, Int.reduceNeg] at h))
    | ((fail_if_success with_reducible refine i_call ?_); (fail_if_success with_reducible refine i_loop ?_); (fail_if_success with_reducible refine i_draw ?_); subst hk)
    | exact True.intro
    | exact fun hf => False.elim hf
    | (intro hg; simp +contextual [hg]; done)
    | (intro hg; (simp only [go_sem, reduceIte, Int.reducePow, Nat.reduceEqDiff, Nat.reduceAdd, Nat.reduceLT, Nat.reduceLeDiff, Nat.reduceMul, Nat.reduceSub, Nat.reduceBEq, reduceCtorEq, Int.reduceEq, Int.reduceNe, Int.reduceLT, Int.reduceLE, Int.reduceAdd, Int.reduceSub, Int.reduceMul, Int.reduceToNat, Int.reduceBEq, Int.reduceBNe, Int.reduceGT, Int.reduceGE, Nat.reduceBNe, Nat.reduceGT, decide_true, decide_false, Bool.not_true, Bool.not_false, Int.reduceNeg, beq_true, beq_false, Bool.not_eq_false', takes, hg]; try simp (disch := omega) only [wrap64]); (try simp only [decide_eq_true_eq, decide_eq_false_iff_not, beq_iff_eq, bne_iff_ne, ne_eq, Bool.not_eq_true', Bool.not_eq_false', beq_eq_false_iff_ne, bne_eq_false_iff_eq, Bool.and_eq_true, Bool.or_eq_true, Bool.or_eq_false_iff, Bool.not_eq_true, Bool.not_eq_false, Int.not_lt, Int.not_le, gt_iff_lt, ge_iff_le, bif_or, bif_and, Bool.and_true, Bool.and_false, Bool.true_and, Bool.false_and, Bool.or_true, Bool.or_false, Bool.true_or, Bool.false_or, Bool.true_eq_false, Bool.false_eq_true, Int.reduceEq, Int.reduceLT, Int.reduceLE, decide_true, decide_false, Bool.not_true, Bool.not_false, not_true_eq_false, not_false_eq_true, Bool.and_eq_false_iff, reduceCtorEq, Classical.not_not, not_and, imp_false, true_and, and_true, Bool.cond_true, Bool.cond_false, Int.reduceNeg] at hg))
    | omega
    | (simp only [List.length_append, List.length_cons, List.length_nil, List.length_map, List.length_singleton, List.length_set, List.length_take, List.length_drop, Nat.mul_one, Nat.one_mul] <;> omega))
end Go.AM
