/- Contracts of the draws' first functions. Conditions: none. -/
import Derived.Test.YtkafcijfljjlaaaDoorAmTy
set_option linter.unusedSimpArgs false
set_option linter.unusedVariables false
namespace Go.AM
open Go Go.Proofs
def bytes (bs : List UInt8) : List (List AV) := bs.map fun b => [.sc (.int .u8 (b.toNat : Int))]
def rdr (bs : List UInt8) (p : Int) : AO := .rc [.fz 1 (bytes bs), .sc (.int .i64 p)]
theorem bytes_len (bs : List UInt8) : (bytes bs).length = bs.length := by simp [bytes]
theorem bytes_take (bs : List UInt8) (n : Nat) : (bytes bs).take n = bytes (bs.take n) := by simp [bytes, List.map_take]
theorem bytes_drop (bs : List UInt8) (n : Nat) : (bytes bs).drop n = bytes (bs.drop n) := by simp [bytes, List.map_drop]
theorem rdr_view (ks : List Nat) (os : List AO) (bs : List UInt8) (p : Int) : viewO ks os (rdr bs p) = rdr bs p := rfl
theorem rdr_ren (f : Nat → Nat) (bs : List UInt8) (p : Int) : renO f (rdr bs p) = rdr bs p := rfl
theorem rdr_shown (ks : List Nat) (bs : List UInt8) (p : Int) : shownO ks (rdr bs p) = [] := rfl
theorem isOwn_rdr (bs : List UInt8) (p : Int) : isOwn (some (rdr bs p)) = True := rfl
theorem recN_rdr (i : Nat) (bs : List UInt8) (p : Int) (r : List AO) : recN i (rdr bs p :: r) = recN (i + 1) r := rfl
theorem nmO_rdr (bs : List UInt8) (p : Int) : nmO (some (rdr bs p)) = [] := rfl
theorem isDeadO_rdr (bs : List UInt8) (p : Int) : isDeadO (some (rdr bs p)) = false := rfl
attribute [go_sem] rdr_view rdr_ren rdr_shown isOwn_rdr nmO_rdr isDeadO_rdr recN_rdr
theorem bytes_get (bs : List UInt8) (i : Int) (h0 : 0 ≤ i) (h1 : i < (bytes bs).length) : ∃ b : Int, 0 ≤ b ∧ b < 256 ∧ (bytes bs).getD i.toNat [] = [.sc (.int .u8 b)] := by
  obtain ⟨n, rfl⟩ := Int.eq_ofNat_of_zero_le h0
  have hn : n < bs.length := by simp only [bytes, List.length_map] at h1; omega
  refine ⟨bs[n].toNat, by omega, by have := bs[n].toNat_lt; omega, ?_⟩
  simp [bytes, List.getD, hn]
theorem xor64 (a b : Int) (ha : 0 ≤ a) (ha2 : a < 9223372036854775808) (hb : 0 ≤ b) (hb2 : b < 9223372036854775808) :
    0 ≤ bxor .i64 a b := by
  show 0 ≤ IntKind.i64.wrap (BitVec.ofInt 64 a ^^^ BitVec.ofInt 64 b).toNat
  have h1 : (BitVec.ofInt 64 a ^^^ BitVec.ofInt 64 b).toNat < 2 ^ 63 := by
    rw [BitVec.toNat_xor]
    have e1 : (BitVec.ofInt 64 a).toNat < 2 ^ 63 := by
      simp only [BitVec.toNat_ofInt]; omega
    have e2 : (BitVec.ofInt 64 b).toNat < 2 ^ 63 := by
      simp only [BitVec.toNat_ofInt]; omega
    exact Nat.xor_lt_two_pow e1 e2
  rw [wrap64 (by omega) (by omega)]
  omega
set_option maxRecDepth 10000 in
set_option maxHeartbeats 4000000 in
theorem con_pick (bs : List UInt8) (p n : Int) (hp : 0 ≤ p) (hp2 : p < 1000000000000000) : Con Tryd.prog C0 17 [.pt 0 0, .sc (.int .i64 (n))] [rdr bs p]
    (fun x σ' => ∃ m : Int, x = .sc (.int .i64 (m)) ∧ 0 ≤ m ∧ (1 ≤ n → m < n) ∧ σ' = [rdr bs (p + 1)]) := by
  refine con_of_sem hP [0, 1, 4, 5, 6, 24, 36] [.tmp 4] Tryd.func17 (by unfold Tryd.f17; rfl) rfl rfl (Nat.le_of_ble_eq_true rfl) rfl ?_
  simp only [enter_cons, enter_nil, List.length_cons, List.length_nil, Nat.reduceAdd]
  generalize hQ : endQ _ _ _ _ = Q
  simp only [rdr] at *
  have hb8 : p + 1 - 1 = p := by omega
  by_cases hL : (bytes bs).length = 0
  · repeat' (first
      | with_reducible refine sem_cut fun k hk => ?_
      | with_reducible refine sem_blk fun k hk => ?_
      | ((first | with_reducible refine r_reg ?_ | ((with_reducible refine sem_quiet (id := 7) [0, 1, 2, 3, 4, 5, 6, 7, 8, 9] ?_ ?_); (focus kernel_rfl))); (simp only [go_sem, reduceIte, Int.reducePow, Nat.reduceEqDiff, Nat.reduceAdd, Nat.reduceLT, Nat.reduceLeDiff, Nat.reduceMul, Nat.reduceSub, Nat.reduceBEq, reduceCtorEq, Int.reduceEq, Int.reduceNe, Int.reduceLT, Int.reduceLE, Int.reduceAdd, Int.reduceSub, Int.reduceMul, Int.reduceToNat, Int.reduceBEq, Int.reduceBNe, Int.reduceGT, Int.reduceGE, Nat.reduceBNe, Nat.reduceGT, decide_true, decide_false, Bool.not_true, Bool.not_false, Int.reduceNeg, beq_true, beq_false, Bool.not_eq_false', takes, hb8]; try simp (disch := omega) only [wrap64]))
      | with_reducible refine r_skip ?_
      | with_reducible refine r_exit ?_
      | with_reducible refine r_ret ?_
      | with_reducible refine r_codeR ?_
      | with_reducible refine r_codeE ?_
      | with_reducible refine r_blkN ?_
      | with_reducible refine r_blkR ?_
      | with_reducible refine r_blkE ?_
      | with_reducible refine r_blkX rfl ?_
      | ((with_reducible refine r_nil ?_); subst hQ; (first | with_reducible refine end_use_ret [0] ?_ ?_ ?_ | with_reducible refine end_use_nrm [0] ?_ ?_ ?_); (focus rfl); (focus rfl); (simp only [go_sem, reduceIte, Int.reducePow, Nat.reduceEqDiff, Nat.reduceAdd, Nat.reduceLT, Nat.reduceLeDiff, Nat.reduceMul, Nat.reduceSub, Nat.reduceBEq, reduceCtorEq, Int.reduceEq, Int.reduceNe, Int.reduceLT, Int.reduceLE, Int.reduceAdd, Int.reduceSub, Int.reduceMul, Int.reduceToNat, Int.reduceBEq, Int.reduceBNe, Int.reduceGT, Int.reduceGE, Nat.reduceBNe, Nat.reduceGT, decide_true, decide_false, Bool.not_true, Bool.not_false, Int.reduceNeg, beq_true, beq_false, Bool.not_eq_false', takes, hb8]; try simp (disch := omega) only [wrap64]))
      | ((with_reducible refine wkEnd_same ?_); exact ⟨_, rfl, by omega, by omega, rfl⟩)
      | with_reducible refine r_backR ?_
      | with_reducible refine r_backE ?_
      | with_reducible refine r_nil ?_
      | with_reducible refine And.intro ?_ ?_
      | ((with_reducible apply sem_if); (case hb => rfl); all_goals (intro h; try simp only [decide_eq_true_eq, decide_eq_false_iff_not, beq_iff_eq, bne_iff_ne, ne_eq, Bool.not_eq_true', Bool.not_eq_false', beq_eq_false_iff_ne, bne_eq_false_iff_eq, Bool.and_eq_true, Bool.or_eq_true, Bool.or_eq_false_iff, Bool.not_eq_true, Bool.not_eq_false, Int.not_lt, Int.not_le, gt_iff_lt, ge_iff_le, bif_or, bif_and, Bool.and_true, Bool.and_false, Bool.true_and, Bool.false_and, Bool.or_true, Bool.or_false, Bool.true_or, Bool.false_or, Bool.true_eq_false, Bool.false_eq_true, Int.reduceEq, Int.reduceLT, Int.reduceLE, decide_true, decide_false, Bool.not_true, Bool.not_false, not_true_eq_false, not_false_eq_true, Bool.and_eq_false_iff, reduceCtorEq, Classical.not_not, not_and, imp_false, true_and, and_true, Bool.cond_true, Bool.cond_false, Int.reduceNeg] at h))
      | ((fail_if_success with_reducible refine i_call ?_); (fail_if_success with_reducible refine i_loop ?_); (fail_if_success with_reducible refine i_draw ?_); subst hk)
      | exact True.intro
      | exact fun hf => False.elim hf
      | (intro hg; simp +contextual [hg]; done)
      | (intro hg; (simp only [go_sem, reduceIte, Int.reducePow, Nat.reduceEqDiff, Nat.reduceAdd, Nat.reduceLT, Nat.reduceLeDiff, Nat.reduceMul, Nat.reduceSub, Nat.reduceBEq, reduceCtorEq, Int.reduceEq, Int.reduceNe, Int.reduceLT, Int.reduceLE, Int.reduceAdd, Int.reduceSub, Int.reduceMul, Int.reduceToNat, Int.reduceBEq, Int.reduceBNe, Int.reduceGT, Int.reduceGE, Nat.reduceBNe, Nat.reduceGT, decide_true, decide_false, Bool.not_true, Bool.not_false, Int.reduceNeg, beq_true, beq_false, Bool.not_eq_false', takes, hb8, hg]; try simp (disch := omega) only [wrap64]); (try simp only [decide_eq_true_eq, decide_eq_false_iff_not, beq_iff_eq, bne_iff_ne, ne_eq, Bool.not_eq_true', Bool.not_eq_false', beq_eq_false_iff_ne, bne_eq_false_iff_eq, Bool.and_eq_true, Bool.or_eq_true, Bool.or_eq_false_iff, Bool.not_eq_true, Bool.not_eq_false, Int.not_lt, Int.not_le, gt_iff_lt, ge_iff_le, bif_or, bif_and, Bool.and_true, Bool.and_false, Bool.true_and, Bool.false_and, Bool.or_true, Bool.or_false, Bool.true_or, Bool.false_or, Bool.true_eq_false, Bool.false_eq_true, Int.reduceEq, Int.reduceLT, Int.reduceLE, decide_true, decide_false, Bool.not_true, Bool.not_false, not_true_eq_false, not_false_eq_true, Bool.and_eq_false_iff, reduceCtorEq, Classical.not_not, not_and, imp_false, true_and, and_true, Bool.cond_true, Bool.cond_false, Int.reduceNeg] at hg))
      | omega
      | (simp only [List.length_append, List.length_cons, List.length_nil, List.length_map, List.length_singleton, List.length_set, List.length_take, List.length_drop, Nat.mul_one, Nat.one_mul] <;> omega))
  · by_cases hlt : p < (bytes bs).length
    · obtain ⟨b, hb0, hb1, hb⟩ := bytes_get bs p hp hlt
      have q1 : 0 ≤ b.tmod n := Int.tmod_nonneg _ hb0
      have q2 : 1 ≤ n → b.tmod n < n := fun h => Int.tmod_lt_of_pos _ (by omega)
      repeat' (first
        | with_reducible refine sem_cut fun k hk => ?_
        | with_reducible refine sem_blk fun k hk => ?_
        | ((first | with_reducible refine r_reg ?_ | ((with_reducible refine sem_quiet (id := 7) [0, 1, 2, 3, 4, 5, 6, 7, 8, 9] ?_ ?_); (focus kernel_rfl))); (simp only [go_sem, reduceIte, Int.reducePow, Nat.reduceEqDiff, Nat.reduceAdd, Nat.reduceLT, Nat.reduceLeDiff, Nat.reduceMul, Nat.reduceSub, Nat.reduceBEq, reduceCtorEq, Int.reduceEq, Int.reduceNe, Int.reduceLT, Int.reduceLE, Int.reduceAdd, Int.reduceSub, Int.reduceMul, Int.reduceToNat, Int.reduceBEq, Int.reduceBNe, Int.reduceGT, Int.reduceGE, Nat.reduceBNe, Nat.reduceGT, decide_true, decide_false, Bool.not_true, Bool.not_false, Int.reduceNeg, beq_true, beq_false, Bool.not_eq_false', takes, hb8, hb]; try simp (disch := omega) only [wrap64]))
        | with_reducible refine r_skip ?_
        | with_reducible refine r_exit ?_
        | with_reducible refine r_ret ?_
        | with_reducible refine r_codeR ?_
        | with_reducible refine r_codeE ?_
        | with_reducible refine r_blkN ?_
        | with_reducible refine r_blkR ?_
        | with_reducible refine r_blkE ?_
        | with_reducible refine r_blkX rfl ?_
        | ((with_reducible refine r_nil ?_); subst hQ; (first | with_reducible refine end_use_ret [0] ?_ ?_ ?_ | with_reducible refine end_use_nrm [0] ?_ ?_ ?_); (focus rfl); (focus rfl); (simp only [go_sem, reduceIte, Int.reducePow, Nat.reduceEqDiff, Nat.reduceAdd, Nat.reduceLT, Nat.reduceLeDiff, Nat.reduceMul, Nat.reduceSub, Nat.reduceBEq, reduceCtorEq, Int.reduceEq, Int.reduceNe, Int.reduceLT, Int.reduceLE, Int.reduceAdd, Int.reduceSub, Int.reduceMul, Int.reduceToNat, Int.reduceBEq, Int.reduceBNe, Int.reduceGT, Int.reduceGE, Nat.reduceBNe, Nat.reduceGT, decide_true, decide_false, Bool.not_true, Bool.not_false, Int.reduceNeg, beq_true, beq_false, Bool.not_eq_false', takes, hb8, hb]; try simp (disch := omega) only [wrap64]))
        | ((with_reducible refine wkEnd_same ?_); exact ⟨_, rfl, by omega, by omega, rfl⟩)
        | with_reducible refine r_backR ?_
        | with_reducible refine r_backE ?_
        | with_reducible refine r_nil ?_
        | with_reducible refine And.intro ?_ ?_
        | ((with_reducible apply sem_if); (case hb => rfl); all_goals (intro h; try simp only [decide_eq_true_eq, decide_eq_false_iff_not, beq_iff_eq, bne_iff_ne, ne_eq, Bool.not_eq_true', Bool.not_eq_false', beq_eq_false_iff_ne, bne_eq_false_iff_eq, Bool.and_eq_true, Bool.or_eq_true, Bool.or_eq_false_iff, Bool.not_eq_true, Bool.not_eq_false, Int.not_lt, Int.not_le, gt_iff_lt, ge_iff_le, bif_or, bif_and, Bool.and_true, Bool.and_false, Bool.true_and, Bool.false_and, Bool.or_true, Bool.or_false, Bool.true_or, Bool.false_or, Bool.true_eq_false, Bool.false_eq_true, Int.reduceEq, Int.reduceLT, Int.reduceLE, decide_true, decide_false, Bool.not_true, Bool.not_false, not_true_eq_false, not_false_eq_true, Bool.and_eq_false_iff, reduceCtorEq, Classical.not_not, not_and, imp_false, true_and, and_true, Bool.cond_true, Bool.cond_false, Int.reduceNeg] at h))
        | ((fail_if_success with_reducible refine i_call ?_); (fail_if_success with_reducible refine i_loop ?_); (fail_if_success with_reducible refine i_draw ?_); subst hk)
        | exact True.intro
        | exact fun hf => False.elim hf
        | (intro hg; simp +contextual [hg]; done)
        | (intro hg; (simp only [go_sem, reduceIte, Int.reducePow, Nat.reduceEqDiff, Nat.reduceAdd, Nat.reduceLT, Nat.reduceLeDiff, Nat.reduceMul, Nat.reduceSub, Nat.reduceBEq, reduceCtorEq, Int.reduceEq, Int.reduceNe, Int.reduceLT, Int.reduceLE, Int.reduceAdd, Int.reduceSub, Int.reduceMul, Int.reduceToNat, Int.reduceBEq, Int.reduceBNe, Int.reduceGT, Int.reduceGE, Nat.reduceBNe, Nat.reduceGT, decide_true, decide_false, Bool.not_true, Bool.not_false, Int.reduceNeg, beq_true, beq_false, Bool.not_eq_false', takes, hb8, hb, hg]; try simp (disch := omega) only [wrap64]); (try simp only [decide_eq_true_eq, decide_eq_false_iff_not, beq_iff_eq, bne_iff_ne, ne_eq, Bool.not_eq_true', Bool.not_eq_false', beq_eq_false_iff_ne, bne_eq_false_iff_eq, Bool.and_eq_true, Bool.or_eq_true, Bool.or_eq_false_iff, Bool.not_eq_true, Bool.not_eq_false, Int.not_lt, Int.not_le, gt_iff_lt, ge_iff_le, bif_or, bif_and, Bool.and_true, Bool.and_false, Bool.true_and, Bool.false_and, Bool.or_true, Bool.or_false, Bool.true_or, Bool.false_or, Bool.true_eq_false, Bool.false_eq_true, Int.reduceEq, Int.reduceLT, Int.reduceLE, decide_true, decide_false, Bool.not_true, Bool.not_false, not_true_eq_false, not_false_eq_true, Bool.and_eq_false_iff, reduceCtorEq, Classical.not_not, not_and, imp_false, true_and, and_true, Bool.cond_true, Bool.cond_false, Int.reduceNeg] at hg))
        | omega
        | (simp only [List.length_append, List.length_cons, List.length_nil, List.length_map, List.length_singleton, List.length_set, List.length_take, List.length_drop, Nat.mul_one, Nat.one_mul] <;> omega))
    · have hLp : (0 : Int) < ((bytes bs).length : Int) := by omega
      have q1 : 0 ≤ p.tmod (bytes bs).length := Int.tmod_nonneg _ hp
      have q2 : p.tmod (bytes bs).length < (bytes bs).length := Int.tmod_lt_of_pos _ hLp
      have q3 : 0 ≤ (p * 7 + 3).tmod (bytes bs).length := Int.tmod_nonneg _ (by omega)
      have q4 : (p * 7 + 3).tmod (bytes bs).length < (bytes bs).length := Int.tmod_lt_of_pos _ hLp
      obtain ⟨b, hb0, hb1, hb⟩ := bytes_get bs _ q1 q2
      obtain ⟨d, hd0, hd1, hd⟩ := bytes_get bs _ q3 q4
      have q5 : 0 ≤ p.tdiv (bytes bs).length := Int.tdiv_nonneg hp (by omega)
      have q6 : p.tdiv (bytes bs).length ≤ p := Int.tdiv_le_self _ hp
      obtain ⟨y, hy⟩ : ∃ y, y = p.tdiv (bytes bs).length := ⟨_, rfl⟩
      rw [← hy] at q5 q6
      obtain ⟨X, hX⟩ : ∃ X, X = b * 131 + d * 1117 + p * 29 + y * 53 := ⟨_, rfl⟩
      have hX2 : 0 ≤ X ∧ X < 9223372036854775808 := by omega
      obtain ⟨hX0, hX1⟩ := hX2
      have q7 : 0 ≤ X.tdiv 64 := Int.tdiv_nonneg hX0 (by omega)
      have q7' : X.tdiv 64 ≤ X := Int.tdiv_le_self 64 hX0
      have q8 := xor64 X (X.tdiv 64) hX0 hX1 q7 (by omega)
      have q9 := fun m => Int.tmod_nonneg m q8
      have w7 : IntKind.i64.wrap (p * 7) = p * 7 := wrap64 (by omega) (by omega)
      have w73 : IntKind.i64.wrap (p * 7 + 3) = p * 7 + 3 := wrap64 (by omega) (by omega)
      repeat' (first
        | with_reducible refine sem_cut fun k hk => ?_
        | with_reducible refine sem_blk fun k hk => ?_
        | ((first | with_reducible refine r_reg ?_ | ((with_reducible refine sem_quiet (id := 7) [0, 1, 2, 3, 4, 5, 6, 7, 8, 9] ?_ ?_); (focus kernel_rfl))); (simp only [go_sem, reduceIte, Int.reducePow, Nat.reduceEqDiff, Nat.reduceAdd, Nat.reduceLT, Nat.reduceLeDiff, Nat.reduceMul, Nat.reduceSub, Nat.reduceBEq, reduceCtorEq, Int.reduceEq, Int.reduceNe, Int.reduceLT, Int.reduceLE, Int.reduceAdd, Int.reduceSub, Int.reduceMul, Int.reduceToNat, Int.reduceBEq, Int.reduceBNe, Int.reduceGT, Int.reduceGE, Nat.reduceBNe, Nat.reduceGT, decide_true, decide_false, Bool.not_true, Bool.not_false, Int.reduceNeg, beq_true, beq_false, Bool.not_eq_false', takes, hb8, w7, w73, hb, hd]; try simp (disch := omega) only [wrap64, ← hy, ← hX]; try simp only [go_sem, reduceIte, Int.reducePow, Nat.reduceEqDiff, Nat.reduceAdd, Nat.reduceLT, Nat.reduceLeDiff, Nat.reduceMul, Nat.reduceSub, Nat.reduceBEq, reduceCtorEq, Int.reduceEq, Int.reduceNe, Int.reduceLT, Int.reduceLE, Int.reduceAdd, Int.reduceSub, Int.reduceMul, Int.reduceToNat, Int.reduceBEq, Int.reduceBNe, Int.reduceGT, Int.reduceGE, Nat.reduceBNe, Nat.reduceGT, decide_true, decide_false, Bool.not_true, Bool.not_false, Int.reduceNeg, beq_true, beq_false, Bool.not_eq_false', takes, hb8, w7, w73, hb, hd]))
        | with_reducible refine r_skip ?_
        | with_reducible refine r_exit ?_
        | with_reducible refine r_ret ?_
        | with_reducible refine r_codeR ?_
        | with_reducible refine r_codeE ?_
        | with_reducible refine r_blkN ?_
        | with_reducible refine r_blkR ?_
        | with_reducible refine r_blkE ?_
        | with_reducible refine r_blkX rfl ?_
        | ((with_reducible refine r_nil ?_); subst hQ; (first | with_reducible refine end_use_ret [0] ?_ ?_ ?_ | with_reducible refine end_use_nrm [0] ?_ ?_ ?_); (focus rfl); (focus rfl); (simp only [go_sem, reduceIte, Int.reducePow, Nat.reduceEqDiff, Nat.reduceAdd, Nat.reduceLT, Nat.reduceLeDiff, Nat.reduceMul, Nat.reduceSub, Nat.reduceBEq, reduceCtorEq, Int.reduceEq, Int.reduceNe, Int.reduceLT, Int.reduceLE, Int.reduceAdd, Int.reduceSub, Int.reduceMul, Int.reduceToNat, Int.reduceBEq, Int.reduceBNe, Int.reduceGT, Int.reduceGE, Nat.reduceBNe, Nat.reduceGT, decide_true, decide_false, Bool.not_true, Bool.not_false, Int.reduceNeg, beq_true, beq_false, Bool.not_eq_false', takes, hb8, w7, w73, hb, hd]; try simp (disch := omega) only [wrap64, ← hy, ← hX]; try simp only [go_sem, reduceIte, Int.reducePow, Nat.reduceEqDiff, Nat.reduceAdd, Nat.reduceLT, Nat.reduceLeDiff, Nat.reduceMul, Nat.reduceSub, Nat.reduceBEq, reduceCtorEq, Int.reduceEq, Int.reduceNe, Int.reduceLT, Int.reduceLE, Int.reduceAdd, Int.reduceSub, Int.reduceMul, Int.reduceToNat, Int.reduceBEq, Int.reduceBNe, Int.reduceGT, Int.reduceGE, Nat.reduceBNe, Nat.reduceGT, decide_true, decide_false, Bool.not_true, Bool.not_false, Int.reduceNeg, beq_true, beq_false, Bool.not_eq_false', takes, hb8, w7, w73, hb, hd]))
        | ((with_reducible refine wkEnd_same ?_); first | exact ⟨_, rfl, by omega, by omega, rfl⟩ | exact ⟨_, rfl, q9 _, fun h => Int.tmod_lt_of_pos _ (by omega), rfl⟩)
        | with_reducible refine r_backR ?_
        | with_reducible refine r_backE ?_
        | with_reducible refine r_nil ?_
        | with_reducible refine And.intro ?_ ?_
        | ((with_reducible apply sem_if); (case hb => rfl); all_goals (intro h; try simp only [decide_eq_true_eq, decide_eq_false_iff_not, beq_iff_eq, bne_iff_ne, ne_eq, Bool.not_eq_true', Bool.not_eq_false', beq_eq_false_iff_ne, bne_eq_false_iff_eq, Bool.and_eq_true, Bool.or_eq_true, Bool.or_eq_false_iff, Bool.not_eq_true, Bool.not_eq_false, Int.not_lt, Int.not_le, gt_iff_lt, ge_iff_le, bif_or, bif_and, Bool.and_true, Bool.and_false, Bool.true_and, Bool.false_and, Bool.or_true, Bool.or_false, Bool.true_or, Bool.false_or, Bool.true_eq_false, Bool.false_eq_true, Int.reduceEq, Int.reduceLT, Int.reduceLE, decide_true, decide_false, Bool.not_true, Bool.not_false, not_true_eq_false, not_false_eq_true, Bool.and_eq_false_iff, reduceCtorEq, Classical.not_not, not_and, imp_false, true_and, and_true, Bool.cond_true, Bool.cond_false, Int.reduceNeg] at h))
        | ((fail_if_success with_reducible refine i_call ?_); (fail_if_success with_reducible refine i_loop ?_); (fail_if_success with_reducible refine i_draw ?_); subst hk)
        | exact True.intro
        | exact fun hf => False.elim hf
        | (intro hg; simp +contextual [hg]; done)
        | (intro hg; (simp only [go_sem, reduceIte, Int.reducePow, Nat.reduceEqDiff, Nat.reduceAdd, Nat.reduceLT, Nat.reduceLeDiff, Nat.reduceMul, Nat.reduceSub, Nat.reduceBEq, reduceCtorEq, Int.reduceEq, Int.reduceNe, Int.reduceLT, Int.reduceLE, Int.reduceAdd, Int.reduceSub, Int.reduceMul, Int.reduceToNat, Int.reduceBEq, Int.reduceBNe, Int.reduceGT, Int.reduceGE, Nat.reduceBNe, Nat.reduceGT, decide_true, decide_false, Bool.not_true, Bool.not_false, Int.reduceNeg, beq_true, beq_false, Bool.not_eq_false', takes, hb8, w7, w73, hb, hd, hg]; try simp (disch := omega) only [wrap64, ← hy, ← hX]; try simp only [go_sem, reduceIte, Int.reducePow, Nat.reduceEqDiff, Nat.reduceAdd, Nat.reduceLT, Nat.reduceLeDiff, Nat.reduceMul, Nat.reduceSub, Nat.reduceBEq, reduceCtorEq, Int.reduceEq, Int.reduceNe, Int.reduceLT, Int.reduceLE, Int.reduceAdd, Int.reduceSub, Int.reduceMul, Int.reduceToNat, Int.reduceBEq, Int.reduceBNe, Int.reduceGT, Int.reduceGE, Nat.reduceBNe, Nat.reduceGT, decide_true, decide_false, Bool.not_true, Bool.not_false, Int.reduceNeg, beq_true, beq_false, Bool.not_eq_false', takes, hb8, w7, w73, hb, hd, hg]); (try simp only [decide_eq_true_eq, decide_eq_false_iff_not, beq_iff_eq, bne_iff_ne, ne_eq, Bool.not_eq_true', Bool.not_eq_false', beq_eq_false_iff_ne, bne_eq_false_iff_eq, Bool.and_eq_true, Bool.or_eq_true, Bool.or_eq_false_iff, Bool.not_eq_true, Bool.not_eq_false, Int.not_lt, Int.not_le, gt_iff_lt, ge_iff_le, bif_or, bif_and, Bool.and_true, Bool.and_false, Bool.true_and, Bool.false_and, Bool.or_true, Bool.or_false, Bool.true_or, Bool.false_or, Bool.true_eq_false, Bool.false_eq_true, Int.reduceEq, Int.reduceLT, Int.reduceLE, decide_true, decide_false, Bool.not_true, Bool.not_false, not_true_eq_false, not_false_eq_true, Bool.and_eq_false_iff, reduceCtorEq, Classical.not_not, not_and, imp_false, true_and, and_true, Bool.cond_true, Bool.cond_false, Int.reduceNeg] at hg))
        | omega
        | (simp only [List.length_append, List.length_cons, List.length_nil, List.length_map, List.length_singleton, List.length_set, List.length_take, List.length_drop, Nat.mul_one, Nat.one_mul] <;> omega))
end Go.AM
