/- The law of the sum. Conditions: none. -/
import Derived.Test.YtkafcijfljjlaaaAmA15
import Derived.Test.YtkafcijfljjlaaaAmW
set_option linter.unusedSimpArgs false
set_option linter.unusedVariables false
namespace Go.AM
open Go Go.Proofs
theorem crcL_app : ∀ (a : List UInt8) (s : Int) (b : List UInt8), crcL s (a ++ b) = crcL (crcL s a) b
  | [], s, b => by rw [List.nil_append, crcL_nil]
  | x :: a, s, b => by rw [List.cons_append, crcL_cons, crcL_cons, crcL_app a]
theorem xor_high (s : Nat) : s ^^^ (s / 256 * 256) = s % 256 := by
  apply Nat.eq_of_testBit_eq
  intro i
  have e : s / 256 * 256 = 2 ^ 8 * (s / 2 ^ 8) := by omega
  rw [Nat.testBit_xor, e, Nat.testBit_two_pow_mul, show s % 256 = s % 2 ^ 8 by rfl, Nat.testBit_mod_two_pow, Nat.testBit_div_two_pow]
  by_cases h : i < 8
  · simp [h, show ¬ 8 ≤ i by omega]
  · have e : i - 8 + 8 = i := by omega
    simp [h, e]
    omega
theorem rnds_low {x : Int} (h0 : 0 ≤ x) (h : x < 256) : rnds 8 x = x * 256 := by
  simp only [rnds_succ, rnds_zero]
  rw [rnd_lo (t := x) (by omega), rnd_lo (t := x * 2) (by omega), rnd_lo (t := x * 2 * 2) (by omega), rnd_lo (t := x * 2 * 2 * 2) (by omega), rnd_lo (t := x * 2 * 2 * 2 * 2) (by omega), rnd_lo (t := x * 2 * 2 * 2 * 2 * 2) (by omega), rnd_lo (t := x * 2 * 2 * 2 * 2 * 2 * 2) (by omega), rnd_lo (t := x * 2 * 2 * 2 * 2 * 2 * 2 * 2) (by omega)]
  omega
theorem xorI_self (x : Int) : xorI x x = 0 := by simp [xorI]
theorem crc_zero {s : Int} (h0 : 0 ≤ s) (h : s < 65536) : crcL s [b8 (s / 256), b8 (s % 256)] = 0 := by
  rw [crcL_cons, crcL_cons, crcL_nil, crcB_eq, crcB_eq, b8_eq, b8_eq, show s / 256 % 256 = s / 256 by omega, show s % 256 % 256 = s % 256 by omega]
  have e : xorI s (s / 256 * 256) = s % 256 := by
    obtain ⟨n, rfl⟩ := Int.eq_ofNat_of_zero_le h0
    have e1 : ((n : Int) / 256 * 256).toNat = n / 256 * 256 := by omega
    unfold xorI
    rw [Int.toNat_natCast, e1, xor_high]
    omega
  rw [e, rnds_low (x := s % 256) (by omega) (by omega), xorI_self]
  exact rnds_low (x := 0) (by omega) (by omega)
theorem crc_sum {d : List UInt8} {s : Int} (hs : s = crc d) : crc (d ++ [b8 (s / 256), b8 (s % 256)]) = 0 := by
  have := crc_bd d
  unfold crc
  rw [crcL_app]
  have e : crcL 65535 d = s := hs.symm
  rw [e]
  exact crc_zero (by omega) (by omega)
theorem crc_tail (d : List UInt8) : crc (d ++ [b8 (IntKind.u16.wrap ((crc d).tdiv 256)), b8 ((crc d).tmod 256)]) = 0 := by
  have := crc_bd d
  rw [Int.tdiv_eq_ediv_of_nonneg (by omega), Int.tmod_eq_emod_of_nonneg (by omega), u16_in (by omega) (by omega)]
  exact crc_sum rfl
set_option maxRecDepth 10000 in
set_option maxHeartbeats 4000000 in
theorem con_PicSumN   : Con Try.prog C0 17 [.sc (.slice none 0 0)] []
    (fun x σ' => x = .sc (.int .u16 (65535)) ∧ σ' = []) := by
  exact (con_PicSumI List.nil (by simp)).wk ⟨wkV_nil 1, trivial⟩
set_option maxRecDepth 10000 in
set_option maxHeartbeats 4000000 in
theorem con_FnPicSum (bs : List UInt8) (hl : bs.length ≤ 140737488351232) : Con Try.prog C0 4 [.fz 1 (bytes bs)] []
    (fun x σ' => x = .sc (.bool (true)) ∧ σ' = []) := by
  refine con_of_sem hP [0, 2, 3, 4, 5, 8] [.tmp 2] Try.func4 (by unfold Try.f4; rfl) rfl rfl (Nat.le_of_ble_eq_true rfl) rfl ?_
  simp only [enter_cons, enter_nil, List.length_cons, List.length_nil, Nat.reduceAdd]
  generalize hQ : endQ _ _ _ _ = Q
  repeat' (first
    | with_reducible refine sem_cut fun k hk => ?_
    | with_reducible refine sem_blk fun k hk => ?_
    | ((first | with_reducible refine r_reg ?_ | ((with_reducible refine i_call (n := 16) ?_); refine call_open [] ?_) | ((with_reducible refine i_call (n := 17) ?_); refine call_openF [] ?_) | ((with_reducible refine i_call (n := 18) ?_); refine call_openF [] ?_) | ((with_reducible refine i_callW (n := 16) ?_); refine callW_use (con_DrawPicSum _) ?_; rintro x σ' ⟨d, rfl, hd, rfl⟩; (with_reducible refine behind_go ?_)) | ((with_reducible refine i_callW (n := 17) ?_); refine callW_use (con_PicSumI _ (by first | with_reducible assumption | omega | (simp only [List.length_append, List.length_cons, List.length_nil, List.length_map, List.length_set, List.length_take, List.length_drop] <;> omega) | decide)) ?_; rintro x σ' ⟨rfl, rfl⟩; (refine ⟨?_, ?_⟩; (focus (simp only [go_sem, reduceIte, Int.reducePow, Nat.reduceEqDiff, Nat.reduceAdd, Nat.reduceLT, Nat.reduceLeDiff, Nat.reduceMul, Nat.reduceSub, Nat.reduceBEq, reduceCtorEq, Int.reduceEq, Int.reduceNe, Int.reduceLT, Int.reduceLE, Int.reduceAdd, Int.reduceSub, Int.reduceMul, Int.reduceToNat, Int.reduceBEq, Int.reduceBNe, Int.reduceGT, Int.reduceGE, Nat.reduceBNe, Nat.reduceGT, decide_true, decide_false, Bool.not_true, Bool.not_false, Int.reduceNeg, beq_true, beq_false, Bool.not_eq_false', takes, bytes_len, bytes_eta, bytes_app, bytes_one, bytes_cons, bytes_two, crc_tail]; try simp (disch := omega) only [wrap64, wrap_b8]; try simp only [go_sem, reduceIte, Int.reducePow, Nat.reduceEqDiff, Nat.reduceAdd, Nat.reduceLT, Nat.reduceLeDiff, Nat.reduceMul, Nat.reduceSub, Nat.reduceBEq, reduceCtorEq, Int.reduceEq, Int.reduceNe, Int.reduceLT, Int.reduceLE, Int.reduceAdd, Int.reduceSub, Int.reduceMul, Int.reduceToNat, Int.reduceBEq, Int.reduceBNe, Int.reduceGT, Int.reduceGE, Nat.reduceBNe, Nat.reduceGT, decide_true, decide_false, Bool.not_true, Bool.not_false, Int.reduceNeg, beq_true, beq_false, Bool.not_eq_false', takes, bytes_len, bytes_eta, bytes_app, bytes_one, bytes_cons, bytes_two, crc_tail]))); (with_reducible refine behind_go ?_)) | ((with_reducible refine i_callW (n := 17) ?_); refine callW_use (con_PicSumN) ?_; rintro x σ' ⟨rfl, rfl⟩; (refine ⟨?_, ?_⟩; (focus (simp only [go_sem, reduceIte, Int.reducePow, Nat.reduceEqDiff, Nat.reduceAdd, Nat.reduceLT, Nat.reduceLeDiff, Nat.reduceMul, Nat.reduceSub, Nat.reduceBEq, reduceCtorEq, Int.reduceEq, Int.reduceNe, Int.reduceLT, Int.reduceLE, Int.reduceAdd, Int.reduceSub, Int.reduceMul, Int.reduceToNat, Int.reduceBEq, Int.reduceBNe, Int.reduceGT, Int.reduceGE, Nat.reduceBNe, Nat.reduceGT, decide_true, decide_false, Bool.not_true, Bool.not_false, Int.reduceNeg, beq_true, beq_false, Bool.not_eq_false', takes, bytes_len, bytes_eta, bytes_app, bytes_one, bytes_cons, bytes_two, crc_tail]; try simp (disch := omega) only [wrap64, wrap_b8]; try simp only [go_sem, reduceIte, Int.reducePow, Nat.reduceEqDiff, Nat.reduceAdd, Nat.reduceLT, Nat.reduceLeDiff, Nat.reduceMul, Nat.reduceSub, Nat.reduceBEq, reduceCtorEq, Int.reduceEq, Int.reduceNe, Int.reduceLT, Int.reduceLE, Int.reduceAdd, Int.reduceSub, Int.reduceMul, Int.reduceToNat, Int.reduceBEq, Int.reduceBNe, Int.reduceGT, Int.reduceGE, Nat.reduceBNe, Nat.reduceGT, decide_true, decide_false, Bool.not_true, Bool.not_false, Int.reduceNeg, beq_true, beq_false, Bool.not_eq_false', takes, bytes_len, bytes_eta, bytes_app, bytes_one, bytes_cons, bytes_two, crc_tail]))); (with_reducible refine behind_go ?_)) | ((with_reducible refine i_callW (n := 18) ?_); refine callW_use (con_PicSumS _ (by first | with_reducible assumption | omega | (simp only [List.length_append, List.length_cons, List.length_nil, List.length_map, List.length_set, List.length_take, List.length_drop] <;> omega) | decide)) ?_; rintro x σ' ⟨rfl, rfl⟩; (refine ⟨?_, ?_⟩; (focus (simp only [go_sem, reduceIte, Int.reducePow, Nat.reduceEqDiff, Nat.reduceAdd, Nat.reduceLT, Nat.reduceLeDiff, Nat.reduceMul, Nat.reduceSub, Nat.reduceBEq, reduceCtorEq, Int.reduceEq, Int.reduceNe, Int.reduceLT, Int.reduceLE, Int.reduceAdd, Int.reduceSub, Int.reduceMul, Int.reduceToNat, Int.reduceBEq, Int.reduceBNe, Int.reduceGT, Int.reduceGE, Nat.reduceBNe, Nat.reduceGT, decide_true, decide_false, Bool.not_true, Bool.not_false, Int.reduceNeg, beq_true, beq_false, Bool.not_eq_false', takes, bytes_len, bytes_eta, bytes_app, bytes_one, bytes_cons, bytes_two, crc_tail]; try simp (disch := omega) only [wrap64, wrap_b8]; try simp only [go_sem, reduceIte, Int.reducePow, Nat.reduceEqDiff, Nat.reduceAdd, Nat.reduceLT, Nat.reduceLeDiff, Nat.reduceMul, Nat.reduceSub, Nat.reduceBEq, reduceCtorEq, Int.reduceEq, Int.reduceNe, Int.reduceLT, Int.reduceLE, Int.reduceAdd, Int.reduceSub, Int.reduceMul, Int.reduceToNat, Int.reduceBEq, Int.reduceBNe, Int.reduceGT, Int.reduceGE, Nat.reduceBNe, Nat.reduceGT, decide_true, decide_false, Bool.not_true, Bool.not_false, Int.reduceNeg, beq_true, beq_false, Bool.not_eq_false', takes, bytes_len, bytes_eta, bytes_app, bytes_one, bytes_cons, bytes_two, crc_tail]))); (with_reducible refine behind_go ?_))); (simp only [go_sem, reduceIte, Int.reducePow, Nat.reduceEqDiff, Nat.reduceAdd, Nat.reduceLT, Nat.reduceLeDiff, Nat.reduceMul, Nat.reduceSub, Nat.reduceBEq, reduceCtorEq, Int.reduceEq, Int.reduceNe, Int.reduceLT, Int.reduceLE, Int.reduceAdd, Int.reduceSub, Int.reduceMul, Int.reduceToNat, Int.reduceBEq, Int.reduceBNe, Int.reduceGT, Int.reduceGE, Nat.reduceBNe, Nat.reduceGT, decide_true, decide_false, Bool.not_true, Bool.not_false, Int.reduceNeg, beq_true, beq_false, Bool.not_eq_false', takes, bytes_len, bytes_eta, bytes_app, bytes_one, bytes_cons, bytes_two, crc_tail]; try simp (disch := omega) only [wrap64, wrap_b8]; try simp only [go_sem, reduceIte, Int.reducePow, Nat.reduceEqDiff, Nat.reduceAdd, Nat.reduceLT, Nat.reduceLeDiff, Nat.reduceMul, Nat.reduceSub, Nat.reduceBEq, reduceCtorEq, Int.reduceEq, Int.reduceNe, Int.reduceLT, Int.reduceLE, Int.reduceAdd, Int.reduceSub, Int.reduceMul, Int.reduceToNat, Int.reduceBEq, Int.reduceBNe, Int.reduceGT, Int.reduceGE, Nat.reduceBNe, Nat.reduceGT, decide_true, decide_false, Bool.not_true, Bool.not_false, Int.reduceNeg, beq_true, beq_false, Bool.not_eq_false', takes, bytes_len, bytes_eta, bytes_app, bytes_one, bytes_cons, bytes_two, crc_tail]))
    | with_reducible refine r_skip ?_
    | with_reducible refine r_exit ?_
    | with_reducible refine r_ret ?_
    | with_reducible refine r_codeR ?_
    | with_reducible refine r_codeE ?_
    | with_reducible refine r_blkN ?_
    | with_reducible refine r_blkR ?_
    | with_reducible refine r_blkE ?_
    | with_reducible refine r_blkX rfl ?_
    | ((with_reducible refine r_nil ?_); subst hQ; (first | with_reducible refine endA_ret [] ?_ ?_ ?_ | with_reducible refine endA_nrm [] ?_ ?_ ?_); (focus rfl); (focus rfl); (simp only [go_sem, reduceIte, Int.reducePow, Nat.reduceEqDiff, Nat.reduceAdd, Nat.reduceLT, Nat.reduceLeDiff, Nat.reduceMul, Nat.reduceSub, Nat.reduceBEq, reduceCtorEq, Int.reduceEq, Int.reduceNe, Int.reduceLT, Int.reduceLE, Int.reduceAdd, Int.reduceSub, Int.reduceMul, Int.reduceToNat, Int.reduceBEq, Int.reduceBNe, Int.reduceGT, Int.reduceGE, Nat.reduceBNe, Nat.reduceGT, decide_true, decide_false, Bool.not_true, Bool.not_false, Int.reduceNeg, beq_true, beq_false, Bool.not_eq_false', takes, bytes_len, bytes_eta, bytes_app, bytes_one, bytes_cons, bytes_two, crc_tail]; try simp (disch := omega) only [wrap64, wrap_b8]; try simp only [go_sem, reduceIte, Int.reducePow, Nat.reduceEqDiff, Nat.reduceAdd, Nat.reduceLT, Nat.reduceLeDiff, Nat.reduceMul, Nat.reduceSub, Nat.reduceBEq, reduceCtorEq, Int.reduceEq, Int.reduceNe, Int.reduceLT, Int.reduceLE, Int.reduceAdd, Int.reduceSub, Int.reduceMul, Int.reduceToNat, Int.reduceBEq, Int.reduceBNe, Int.reduceGT, Int.reduceGE, Nat.reduceBNe, Nat.reduceGT, decide_true, decide_false, Bool.not_true, Bool.not_false, Int.reduceNeg, beq_true, beq_false, Bool.not_eq_false', takes, bytes_len, bytes_eta, bytes_app, bytes_one, bytes_cons, bytes_two, crc_tail]))
    | ((with_reducible refine wkEnd_same ?_); exact ⟨rfl, rfl⟩)
    | with_reducible refine r_backR ?_
    | with_reducible refine r_backE ?_
    | with_reducible refine r_nil ?_
    | with_reducible refine And.intro ?_ ?_
    | ((with_reducible apply sem_if); (case hb => rfl); all_goals (intro h; try simp only [decide_eq_true_eq, decide_eq_false_iff_not, beq_iff_eq, bne_iff_ne, ne_eq, Bool.not_eq_true', Bool.not_eq_false', beq_eq_false_iff_ne, bne_eq_false_iff_eq, Bool.and_eq_true, Bool.or_eq_true, Bool.or_eq_false_iff, Bool.not_eq_true, Bool.not_eq_false, Int.not_lt, Int.not_le, gt_iff_lt, ge_iff_le, bif_or, bif_and, Bool.and_true, Bool.and_false, Bool.true_and, Bool.false_and, Bool.or_true, Bool.or_false, Bool.true_or, Bool.false_or, Bool.true_eq_false, Bool.false_eq_true, Int.reduceEq, Int.reduceLT, Int.reduceLE, decide_true, decide_false, Bool.not_true, Bool.not_false, not_true_eq_false, not_false_eq_true, Bool.and_eq_false_iff, reduceCtorEq, Classical.not_not, not_and, imp_false, true_and, and_true, Bool.cond_true, Bool.cond_false, Int.reduceNeg] at h))
    | ((fail_if_success with_reducible refine i_call ?_); (fail_if_success with_reducible refine i_loop ?_); (fail_if_success with_reducible refine i_draw ?_); subst hk)
    | exact True.intro
    | exact fun hf => False.elim hf
    | (intro hg; simp +contextual [hg]; done)
    | (intro hg; (simp only [go_sem, reduceIte, Int.reducePow, Nat.reduceEqDiff, Nat.reduceAdd, Nat.reduceLT, Nat.reduceLeDiff, Nat.reduceMul, Nat.reduceSub, Nat.reduceBEq, reduceCtorEq, Int.reduceEq, Int.reduceNe, Int.reduceLT, Int.reduceLE, Int.reduceAdd, Int.reduceSub, Int.reduceMul, Int.reduceToNat, Int.reduceBEq, Int.reduceBNe, Int.reduceGT, Int.reduceGE, Nat.reduceBNe, Nat.reduceGT, decide_true, decide_false, Bool.not_true, Bool.not_false, Int.reduceNeg, beq_true, beq_false, Bool.not_eq_false', takes, bytes_len, bytes_eta, bytes_app, bytes_one, bytes_cons, bytes_two, crc_tail, hg]; try simp (disch := omega) only [wrap64, wrap_b8]; try simp only [go_sem, reduceIte, Int.reducePow, Nat.reduceEqDiff, Nat.reduceAdd, Nat.reduceLT, Nat.reduceLeDiff, Nat.reduceMul, Nat.reduceSub, Nat.reduceBEq, reduceCtorEq, Int.reduceEq, Int.reduceNe, Int.reduceLT, Int.reduceLE, Int.reduceAdd, Int.reduceSub, Int.reduceMul, Int.reduceToNat, Int.reduceBEq, Int.reduceBNe, Int.reduceGT, Int.reduceGE, Nat.reduceBNe, Nat.reduceGT, decide_true, decide_false, Bool.not_true, Bool.not_false, Int.reduceNeg, beq_true, beq_false, Bool.not_eq_false', takes, bytes_len, bytes_eta, bytes_app, bytes_one, bytes_cons, bytes_two, crc_tail, hg]); (try simp only [decide_eq_true_eq, decide_eq_false_iff_not, beq_iff_eq, bne_iff_ne, ne_eq, Bool.not_eq_true', Bool.not_eq_false', beq_eq_false_iff_ne, bne_eq_false_iff_eq, Bool.and_eq_true, Bool.or_eq_true, Bool.or_eq_false_iff, Bool.not_eq_true, Bool.not_eq_false, Int.not_lt, Int.not_le, gt_iff_lt, ge_iff_le, bif_or, bif_and, Bool.and_true, Bool.and_false, Bool.true_and, Bool.false_and, Bool.or_true, Bool.or_false, Bool.true_or, Bool.false_or, Bool.true_eq_false, Bool.false_eq_true, Int.reduceEq, Int.reduceLT, Int.reduceLE, decide_true, decide_false, Bool.not_true, Bool.not_false, not_true_eq_false, not_false_eq_true, Bool.and_eq_false_iff, reduceCtorEq, Classical.not_not, not_and, imp_false, true_and, and_true, Bool.cond_true, Bool.cond_false, Int.reduceNeg] at hg))
    | omega
    | (simp only [List.length_append, List.length_cons, List.length_nil, List.length_map, List.length_singleton, List.length_set, List.length_take, List.length_drop, Nat.mul_one, Nat.one_mul] <;> omega))
theorem u8s_bytes {zs : List Int} (h : ∀ n ∈ zs, 0 ≤ n ∧ n < 256) : u8s zs = bytes (zs.map b8) := by
  induction zs with
  | nil => rfl
  | cons z zs ih =>
    have h1 := h z (by simp)
    have h2 := ih fun n hn => h n (by simp [hn])
    have e : ((b8 z).toNat : Int) = z := by rw [b8_eq]; omega
    simp only [u8s, bytes, List.map_cons, List.map_map] at *
    rw [h2, e]
end Go.AM
