/- The laws of the verifier: contracts. Conditions: none. -/
import Derived.Test.YtkafcijfljjlaaaDoorAmA26
set_option linter.unusedSimpArgs false
set_option linter.unusedVariables false
namespace Go.AM
open Go Go.Proofs
theorem check_first : ∀ (l : List In) (s : Vs) (j c k : Int), checkFrom s j l = (c, k) → c ≠ 0 → c ≠ 9 → ∃ n : Nat, k = j + n ∧ n < l.length ∧ (checkFrom s j (l.take n) = (0, 0) ∨ checkFrom s j (l.take n) = (9, k)) ∧ ∀ m, checkFrom s j (l.take (n + 1) ++ m) = (c, k)
  | [], s, j, c, k, h, h0, h9 => by
    rw [checkFrom] at h
    split at h
    · injection h with e1 e2; exact absurd e1.symm h9
    · injection h with e1 e2; exact absurd e1.symm h0
  | i :: l, s, j, c, k, h, h0, h9 => by
    rw [checkFrom] at h
    split at h
    · rename_i hw
      injection h with e1 e2
      refine ⟨0, by omega, by simp, ?_, fun m => ?_⟩
      · simp only [List.take_zero, checkFrom]
        split
        · right; rw [e2]
        · left; rfl
      · simp only [Nat.zero_add, List.take_succ_cons, List.take_zero, List.cons_append, List.nil_append]
        rw [checkFrom, if_pos hw, e1, e2]
    · rename_i hw
      obtain ⟨n, q1, q2, q3, q4⟩ := check_first l _ _ _ _ h h0 h9
      refine ⟨n + 1, by omega, by simpa using q2, ?_, fun m => ?_⟩
      · simp only [List.take_succ_cons]
        rw [checkFrom, if_neg hw]
        exact q3
      · simp only [List.take_succ_cons, List.cons_append] at q4 ⊢
        rw [checkFrom, if_neg hw]
        exact q4 m
theorem check_at : ∀ (l : List In) (s : Vs) (j : Int), 0 ≤ j → 0 ≤ (checkFrom s j l).2 ∧ (checkFrom s j l).2 ≤ j + l.length
  | [], s, j, h => by rw [checkFrom]; split <;> simp <;> omega
  | i :: l, s, j, h => by
    rw [checkFrom]
    split
    · simp; omega
    · have := check_at l (nextV s i.c) (j + 1) (by omega)
      simp only [List.length_cons]
      omega
theorem sure_at (l : List In) : 0 ≤ (sureCheck l).2 ∧ (sureCheck l).2 ≤ l.length := by
  unfold sureCheck
  split
  · simp
  · have := check_at l ⟨0, 0, false, false⟩ 0 (by omega)
    omega
theorem sure_first {l : List In} (h0 : (sureCheck l).1 ≠ 0) (h1 : (sureCheck l).1 ≠ 1) (h9 : (sureCheck l).1 ≠ 9) : (sureCheck l).2 < l.length ∧
    ((sureCheck (l.take (sureCheck l).2.toNat)).1 = 0 ∨ (sureCheck (l.take (sureCheck l).2.toNat)) = (9, (sureCheck l).2)) ∧
    ∀ m, (l.take ((sureCheck l).2 + 1).toNat ++ m).length ≤ 1000 → sureCheck (l.take ((sureCheck l).2 + 1).toNat ++ m) = sureCheck l := by
  have hl : ¬ 1000 < l.length := by
    intro hl
    apply h1
    unfold sureCheck; rw [if_pos hl]
  have e : sureCheck l = checkFrom ⟨0, 0, false, false⟩ 0 l := by unfold sureCheck; rw [if_neg hl]
  obtain ⟨n, q1, q2, q3, q4⟩ := check_first l ⟨0, 0, false, false⟩ 0 (sureCheck l).1 (sureCheck l).2 e.symm h0 h9
  have en : (sureCheck l).2.toNat = n := by omega
  have en1 : ((sureCheck l).2 + 1).toNat = n + 1 := by omega
  rw [en, en1]
  refine ⟨by omega, ?_, fun m hm => ?_⟩
  · have hl2 : ¬ 1000 < (l.take n).length := by simp; omega
    have e2 : sureCheck (l.take n) = checkFrom ⟨0, 0, false, false⟩ 0 (l.take n) := by
      rw [sureCheck, if_neg hl2]
    rw [e2]
    rcases q3 with q3 | q3
    · left; rw [q3]
    · right; exact q3
  · have e2 : sureCheck (l.take (n + 1) ++ m) = checkFrom ⟨0, 0, false, false⟩ 0 (l.take (n + 1) ++ m) := by
      rw [sureCheck, if_neg (by omega)]
    rw [e2]; exact q4 m
theorem ins_take (l : List In) (n : Nat) : (l.map insC).take n = (l.take n).map insC := List.map_take.symm
theorem ins_app (l m : List In) : l.map insC ++ m.map insC = (l ++ m).map insC := (List.map_append ..).symm
theorem ins_eta (l : List In) : (l.map insC).take l.length = l.map insC := by rw [ins_take, List.take_length]
theorem ok_take {N : Nat} {l : List In} (h : ∀ i ∈ l, okIn N i) (n : Nat) : ∀ i ∈ l.take n, okIn N i := fun i hi => h i (List.mem_of_mem_take hi)
theorem ok_app {N : Nat} {l m : List In} (h : ∀ i ∈ l, okIn N i) (h2 : ∀ i ∈ m, okIn N i) : ∀ i ∈ l ++ m, okIn N i := fun i hi => (List.mem_append.1 hi).elim (h i) (h2 i)
theorem frz_ins (os : List AO) (l : List In) : (l.map insC).map (fun x => x.map (frz os)) = l.map insC := by simp [insC, frz]
theorem sure_wrap {l : List In} (h : l.length ≤ 31002) : IntKind.i64.wrap ((sureCheck l).2 + 1) = (sureCheck l).2 + 1 := by
  have h1 := sure_at l
  exact wrap64 (by omega) (by omega)
theorem sure_w0 {l : List In} (h : l.length ≤ 31002) : 0 ≤ IntKind.i64.wrap ((sureCheck l).2 + 1) := by
  have h1 := sure_at l; rw [sure_wrap h]; omega
theorem sure_w1 {l : List In} (h : l.length ≤ 31002) (h0 : (¬ (sureCheck l).1 = 0 ∧ ¬ (sureCheck l).1 = 1) ∧ ¬ (sureCheck l).1 = 9) : IntKind.i64.wrap ((sureCheck l).2 + 1) ≤ l.length := by
  have h1 := sure_first h0.1.1 h0.1.2 h0.2; rw [sure_wrap h]; omega
theorem sure_end {l m : List In} (h : l.length ≤ 31002) (h0 : (¬ (sureCheck l).1 = 0 ∧ ¬ (sureCheck l).1 = 1) ∧ ¬ (sureCheck l).1 = 9) (hg : ((l.take (IntKind.i64.wrap ((sureCheck l).2 + 1)).toNat ++ m).length : Int) ≤ 1000) :
    ((sureCheck (l.take (IntKind.i64.wrap ((sureCheck l).2 + 1)).toNat ++ m)).1 == (sureCheck l).1 && (sureCheck (l.take (IntKind.i64.wrap ((sureCheck l).2 + 1)).toNat ++ m)).2 == (sureCheck l).2) = true := by
  have h1 := (sure_first h0.1.1 h0.1.2 h0.2).2.2 m
  rw [sure_wrap h] at hg ⊢
  rw [h1 (by omega)]; simp
theorem sure_mid {l : List In} (h0 : (¬ (sureCheck l).1 = 0 ∧ ¬ (sureCheck l).1 = 1) ∧ ¬ (sureCheck l).1 = 9)
    (h : ¬ (sureCheck (l.take (sureCheck l).2.toNat)).1 = 0 ∧ (¬ (sureCheck (l.take (sureCheck l).2.toNat)).1 = 9 ∨ ¬ (sureCheck (l.take (sureCheck l).2.toNat)).2 = (sureCheck l).2)) : False := by
  rcases (sure_first h0.1.1 h0.1.2 h0.2).2.1 with e | e
  · exact h.1 e
  · rw [e] at h; simp at h
set_option maxRecDepth 10000 in
set_option maxHeartbeats 4000000 in
theorem con_DrawSureCheck (bs : List UInt8)  : Con Tryd.prog C0 5 [.fz 1 (bytes bs)] []
    (fun x σ' => ∃ l : List In, x = .fz 3 (l.map insC) ∧ (∀ i ∈ l, okIn 7 i) ∧ l.length ≤ 31002 ∧ σ' = []) := by
  refine con_of_sem hP [0, 2] [.tmp 2] Tryd.func5 (by unfold Tryd.f5; rfl) rfl rfl (Nat.le_of_ble_eq_true rfl) rfl ?_
  simp only [enter_cons, enter_nil, List.length_cons, List.length_nil, Nat.reduceAdd]
  generalize hQ : endQ _ _ _ _ = Q
  repeat' (first
    | with_reducible refine sem_cut fun k hk => ?_
    | with_reducible refine sem_blk fun k hk => ?_
    | ((first | with_reducible refine r_reg ?_ | ((with_reducible refine i_call (n := 9) ?_); refine call_open [] ?_) | ((with_reducible refine i_callW (n := 9) ?_); refine callW_use (con_l12Half _) ?_; rintro x σ' ⟨l, rfl, hl, hl2, rfl⟩; (with_reducible refine behind_go ?_))); (simp only [go_sem, reduceIte, Int.reducePow, Nat.reduceEqDiff, Nat.reduceAdd, Nat.reduceLT, Nat.reduceLeDiff, Nat.reduceMul, Nat.reduceSub, Nat.reduceBEq, reduceCtorEq, Int.reduceEq, Int.reduceNe, Int.reduceLT, Int.reduceLE, Int.reduceAdd, Int.reduceSub, Int.reduceMul, Int.reduceToNat, Int.reduceBEq, Int.reduceBNe, Int.reduceGT, Int.reduceGE, Nat.reduceBNe, Nat.reduceGT, decide_true, decide_false, Bool.not_true, Bool.not_false, Int.reduceNeg, beq_true, beq_false, Bool.not_eq_false', takes]; try simp (disch := omega) only [wrap64]))
    | with_reducible refine r_skip ?_
    | with_reducible refine r_exit ?_
    | with_reducible refine r_ret ?_
    | with_reducible refine r_codeR ?_
    | with_reducible refine r_codeE ?_
    | with_reducible refine r_blkN ?_
    | with_reducible refine r_blkR ?_
    | with_reducible refine r_blkE ?_
    | with_reducible refine r_blkX rfl ?_
    | ((with_reducible refine r_nil ?_); subst hQ; (first | with_reducible refine endA_ret [] ?_ ?_ ?_ | with_reducible refine endA_nrm [] ?_ ?_ ?_); (focus rfl); (focus rfl); (simp only [go_sem, reduceIte, Int.reducePow, Nat.reduceEqDiff, Nat.reduceAdd, Nat.reduceLT, Nat.reduceLeDiff, Nat.reduceMul, Nat.reduceSub, Nat.reduceBEq, reduceCtorEq, Int.reduceEq, Int.reduceNe, Int.reduceLT, Int.reduceLE, Int.reduceAdd, Int.reduceSub, Int.reduceMul, Int.reduceToNat, Int.reduceBEq, Int.reduceBNe, Int.reduceGT, Int.reduceGE, Nat.reduceBNe, Nat.reduceGT, decide_true, decide_false, Bool.not_true, Bool.not_false, Int.reduceNeg, beq_true, beq_false, Bool.not_eq_false', takes]; try simp (disch := omega) only [wrap64]))
    | ((with_reducible refine wkEnd_same ?_); exact ⟨_, rfl, hl, hl2, rfl⟩)
    | with_reducible refine r_backR ?_
    | with_reducible refine r_backE ?_
    | with_reducible refine r_nil ?_
    | with_reducible refine And.intro ?_ ?_
    | ((with_reducible apply sem_if); (case hb => rfl); all_goals (intro h; try simp only [decide_eq_true_eq, decide_eq_false_iff_not, beq_iff_eq, bne_iff_ne, ne_eq, Bool.not_eq_true', Bool.not_eq_false', beq_eq_false_iff_ne, bne_eq_false_iff_eq, Bool.and_eq_true, Bool.or_eq_true, Bool.or_eq_false_iff, Bool.not_eq_true, Bool.not_eq_false, Int.not_lt, Int.not_le, gt_iff_lt, ge_iff_le, bif_or, bif_and, Bool.and_true, Bool.and_false, Bool.true_and, Bool.false_and, Bool.or_true, Bool.or_false, Bool.true_or, Bool.false_or, Bool.true_eq_false, Bool.false_eq_true, Int.reduceEq, Int.reduceLT, Int.reduceLE, decide_true, decide_false, Bool.not_true, Bool.not_false, not_true_eq_false, not_false_eq_true, Bool.and_eq_false_iff, reduceCtorEq, Classical.not_not, not_and, imp_false, true_and, and_true, Bool.cond_true, Bool.cond_false, Int.reduceNeg] at h))
    | ((fail_if_success with_reducible refine i_call ?_); (fail_if_success with_reducible refine i_loop ?_); (fail_if_success with_reducible refine i_draw ?_); subst hk)
    | exact True.intro
    | exact fun hf => False.elim hf
    | (intro hg; simp +contextual [hg]; done)
    | (intro hg; (simp only [go_sem, reduceIte, Int.reducePow, Nat.reduceEqDiff, Nat.reduceAdd, Nat.reduceLT, Nat.reduceLeDiff, Nat.reduceMul, Nat.reduceSub, Nat.reduceBEq, reduceCtorEq, Int.reduceEq, Int.reduceNe, Int.reduceLT, Int.reduceLE, Int.reduceAdd, Int.reduceSub, Int.reduceMul, Int.reduceToNat, Int.reduceBEq, Int.reduceBNe, Int.reduceGT, Int.reduceGE, Nat.reduceBNe, Nat.reduceGT, decide_true, decide_false, Bool.not_true, Bool.not_false, Int.reduceNeg, beq_true, beq_false, Bool.not_eq_false', takes, hg]; try simp (disch := omega) only [wrap64]); (try simp only [decide_eq_true_eq, decide_eq_false_iff_not, beq_iff_eq, bne_iff_ne, ne_eq, Bool.not_eq_true', Bool.not_eq_false', beq_eq_false_iff_ne, bne_eq_false_iff_eq, Bool.and_eq_true, Bool.or_eq_true, Bool.or_eq_false_iff, Bool.not_eq_true, Bool.not_eq_false, Int.not_lt, Int.not_le, gt_iff_lt, ge_iff_le, bif_or, bif_and, Bool.and_true, Bool.and_false, Bool.true_and, Bool.false_and, Bool.or_true, Bool.or_false, Bool.true_or, Bool.false_or, Bool.true_eq_false, Bool.false_eq_true, Int.reduceEq, Int.reduceLT, Int.reduceLE, decide_true, decide_false, Bool.not_true, Bool.not_false, not_true_eq_false, not_false_eq_true, Bool.and_eq_false_iff, reduceCtorEq, Classical.not_not, not_and, imp_false, true_and, and_true, Bool.cond_true, Bool.cond_false, Int.reduceNeg] at hg))
    | omega
    | (simp only [List.length_append, List.length_cons, List.length_nil, List.length_map, List.length_singleton, List.length_set, List.length_take, List.length_drop, Nat.mul_one, Nat.one_mul] <;> omega))
set_option maxRecDepth 10000 in
set_option maxHeartbeats 4000000 in
theorem con_FnSureFirst (bs cs : List UInt8) (hl : bs.length ≤ 140737488351232) (hl2 : cs.length ≤ 140737488351232) : Con Tryd.prog C0 3 [.fz 1 (bytes bs), .fz 1 (bytes cs)] []
    (fun x σ' => x = .sc (.bool (true)) ∧ σ' = []) := by
  refine con_of_sem hP [0, 1, 4, 5, 6, 7, 8, 16, 24, 37, 52] [.tmp 4] Tryd.func3 (by unfold Tryd.f3; rfl) rfl rfl (Nat.le_of_ble_eq_true rfl) rfl ?_
  simp only [enter_cons, enter_nil, List.length_cons, List.length_nil, Nat.reduceAdd]
  generalize hQ : endQ _ _ _ _ = Q
  repeat' (first
    | with_reducible refine sem_cut fun k hk => ?_
    | with_reducible refine sem_blk fun k hk => ?_
    | ((first | with_reducible refine r_reg ?_ | ((with_reducible refine sem_planA (id := 5) (.take 0 (.take 1 (.one 2 (.take 3 .done)))) ?_ ?_); (focus kernel_rfl)) | ((with_reducible refine sem_planA (id := 13) (.take 0 (.take 1 (.take 2 (.take 3 (.take 4 (.take 6 (.one 5 (.take 7 (.take 8 (.take 9 .done)))))))))) ?_ ?_); (focus kernel_rfl)) | ((with_reducible refine i_call (n := 5) ?_); refine call_open [] ?_) | ((with_reducible refine i_call (n := 6) ?_); refine call_openF [] ?_) | ((with_reducible refine i_call (n := 7) ?_); refine call_openF [] ?_) | ((with_reducible refine i_callW (n := 5) ?_); refine callW_use (con_DrawSureCheck _) ?_; rintro x σ' ⟨l, rfl, hl, hl2, rfl⟩; (with_reducible refine behind_go ?_)) | ((with_reducible refine i_callW (n := 6) ?_); refine callW_use (con_SureCheckI _ _ (by first | exact hl | exact ok_take (by assumption) _ | exact ok_app (ok_take (by assumption) _) (by assumption) | with_reducible assumption | omega | (simp only [List.length_append, List.length_cons, List.length_nil, List.length_map, List.length_set, List.length_take, List.length_drop] <;> omega) | decide) (by first | exact hl | exact ok_take (by assumption) _ | exact ok_app (ok_take (by assumption) _) (by assumption) | with_reducible assumption | omega | (simp only [List.length_append, List.length_cons, List.length_nil, List.length_map, List.length_set, List.length_take, List.length_drop] <;> omega) | decide)) ?_; rintro x σ' ⟨rfl, rfl⟩; (refine ⟨?_, ?_⟩; (focus (simp only [go_sem, reduceIte, Int.reducePow, Nat.reduceEqDiff, Nat.reduceAdd, Nat.reduceLT, Nat.reduceLeDiff, Nat.reduceMul, Nat.reduceSub, Nat.reduceBEq, reduceCtorEq, Int.reduceEq, Int.reduceNe, Int.reduceLT, Int.reduceLE, Int.reduceAdd, Int.reduceSub, Int.reduceMul, Int.reduceToNat, Int.reduceBEq, Int.reduceBNe, Int.reduceGT, Int.reduceGE, Nat.reduceBNe, Nat.reduceGT, decide_true, decide_false, Bool.not_true, Bool.not_false, Int.reduceNeg, beq_true, beq_false, Bool.not_eq_false', takes, bytes_len, List.take_length, List.length_map, ins_take, ins_app, ins_eta, frz_ins]; try simp (disch := omega) only [wrap64]))); (with_reducible refine behind_go ?_)) | ((with_reducible refine i_callW (n := 7) ?_); refine callW_use (con_SureCheckS _ _ (by first | exact hl | exact ok_take (by assumption) _ | exact ok_app (ok_take (by assumption) _) (by assumption) | with_reducible assumption | omega | (simp only [List.length_append, List.length_cons, List.length_nil, List.length_map, List.length_set, List.length_take, List.length_drop] <;> omega) | decide) (by first | exact hl | exact ok_take (by assumption) _ | exact ok_app (ok_take (by assumption) _) (by assumption) | with_reducible assumption | omega | (simp only [List.length_append, List.length_cons, List.length_nil, List.length_map, List.length_set, List.length_take, List.length_drop] <;> omega) | decide)) ?_; rintro x σ' ⟨rfl, rfl⟩; (refine ⟨?_, ?_⟩; (focus (simp only [go_sem, reduceIte, Int.reducePow, Nat.reduceEqDiff, Nat.reduceAdd, Nat.reduceLT, Nat.reduceLeDiff, Nat.reduceMul, Nat.reduceSub, Nat.reduceBEq, reduceCtorEq, Int.reduceEq, Int.reduceNe, Int.reduceLT, Int.reduceLE, Int.reduceAdd, Int.reduceSub, Int.reduceMul, Int.reduceToNat, Int.reduceBEq, Int.reduceBNe, Int.reduceGT, Int.reduceGE, Nat.reduceBNe, Nat.reduceGT, decide_true, decide_false, Bool.not_true, Bool.not_false, Int.reduceNeg, beq_true, beq_false, Bool.not_eq_false', takes, bytes_len, List.take_length, List.length_map, ins_take, ins_app, ins_eta, frz_ins]; try simp (disch := omega) only [wrap64]))); (with_reducible refine behind_go ?_))); (simp only [go_sem, reduceIte, Int.reducePow, Nat.reduceEqDiff, Nat.reduceAdd, Nat.reduceLT, Nat.reduceLeDiff, Nat.reduceMul, Nat.reduceSub, Nat.reduceBEq, reduceCtorEq, Int.reduceEq, Int.reduceNe, Int.reduceLT, Int.reduceLE, Int.reduceAdd, Int.reduceSub, Int.reduceMul, Int.reduceToNat, Int.reduceBEq, Int.reduceBNe, Int.reduceGT, Int.reduceGE, Nat.reduceBNe, Nat.reduceGT, decide_true, decide_false, Bool.not_true, Bool.not_false, Int.reduceNeg, beq_true, beq_false, Bool.not_eq_false', takes, bytes_len, List.take_length, List.length_map, ins_take, ins_app, ins_eta, frz_ins, if_true]; try simp (disch := omega) only [wrap64]))
    | with_reducible refine r_skip ?_
    | with_reducible refine r_exit ?_
    | with_reducible refine r_ret ?_
    | with_reducible refine r_codeR ?_
    | with_reducible refine r_codeE ?_
    | with_reducible refine r_blkN ?_
    | with_reducible refine r_blkR ?_
    | with_reducible refine r_blkE ?_
    | with_reducible refine r_blkX rfl ?_
    | ((with_reducible refine r_nil ?_); subst hQ; (first | with_reducible refine endA_ret [] ?_ ?_ ?_ | with_reducible refine endA_nrm [] ?_ ?_ ?_); (focus rfl); (focus rfl); (simp only [go_sem, reduceIte, Int.reducePow, Nat.reduceEqDiff, Nat.reduceAdd, Nat.reduceLT, Nat.reduceLeDiff, Nat.reduceMul, Nat.reduceSub, Nat.reduceBEq, reduceCtorEq, Int.reduceEq, Int.reduceNe, Int.reduceLT, Int.reduceLE, Int.reduceAdd, Int.reduceSub, Int.reduceMul, Int.reduceToNat, Int.reduceBEq, Int.reduceBNe, Int.reduceGT, Int.reduceGE, Nat.reduceBNe, Nat.reduceGT, decide_true, decide_false, Bool.not_true, Bool.not_false, Int.reduceNeg, beq_true, beq_false, Bool.not_eq_false', takes, bytes_len, List.take_length, List.length_map, ins_take, ins_app, ins_eta, frz_ins, if_true]; try simp (disch := omega) only [wrap64]))
    | exact (sure_at _).1 | exact (sure_at _).2 | exact sure_w0 (by assumption) | exact sure_w1 (by assumption) (by assumption)
    | ((with_reducible refine wkEnd_same ?_); first | exact ⟨rfl, rfl⟩ | (rw [sure_end (by assumption) (by assumption) (by assumption)]; exact ⟨rfl, rfl⟩) | exact (sure_mid (by assumption) (by assumption)).elim)
    | with_reducible refine r_backR ?_
    | with_reducible refine r_backE ?_
    | with_reducible refine r_nil ?_
    | with_reducible refine And.intro ?_ ?_
    | ((with_reducible apply sem_if); (case hb => rfl); all_goals (intro h; try simp only [decide_eq_true_eq, decide_eq_false_iff_not, beq_iff_eq, bne_iff_ne, ne_eq, Bool.not_eq_true', Bool.not_eq_false', beq_eq_false_iff_ne, bne_eq_false_iff_eq, Bool.and_eq_true, Bool.or_eq_true, Bool.or_eq_false_iff, Bool.not_eq_true, Bool.not_eq_false, Int.not_lt, Int.not_le, gt_iff_lt, ge_iff_le, bif_or, bif_and, Bool.and_true, Bool.and_false, Bool.true_and, Bool.false_and, Bool.or_true, Bool.or_false, Bool.true_or, Bool.false_or, Bool.true_eq_false, Bool.false_eq_true, Int.reduceEq, Int.reduceLT, Int.reduceLE, decide_true, decide_false, Bool.not_true, Bool.not_false, not_true_eq_false, not_false_eq_true, Bool.and_eq_false_iff, reduceCtorEq, Classical.not_not, not_and, imp_false, true_and, and_true, Bool.cond_true, Bool.cond_false, Int.reduceNeg] at h))
    | ((fail_if_success with_reducible refine i_call ?_); (fail_if_success with_reducible refine i_loop ?_); (fail_if_success with_reducible refine i_draw ?_); subst hk)
    | exact True.intro
    | exact fun hf => False.elim hf
    | (intro hg; simp +contextual [hg]; done)
    | (intro hg; (simp only [go_sem, reduceIte, Int.reducePow, Nat.reduceEqDiff, Nat.reduceAdd, Nat.reduceLT, Nat.reduceLeDiff, Nat.reduceMul, Nat.reduceSub, Nat.reduceBEq, reduceCtorEq, Int.reduceEq, Int.reduceNe, Int.reduceLT, Int.reduceLE, Int.reduceAdd, Int.reduceSub, Int.reduceMul, Int.reduceToNat, Int.reduceBEq, Int.reduceBNe, Int.reduceGT, Int.reduceGE, Nat.reduceBNe, Nat.reduceGT, decide_true, decide_false, Bool.not_true, Bool.not_false, Int.reduceNeg, beq_true, beq_false, Bool.not_eq_false', takes, bytes_len, List.take_length, List.length_map, ins_take, ins_app, ins_eta, frz_ins, if_true, hg]; try simp (disch := omega) only [wrap64]); (try simp only [decide_eq_true_eq, decide_eq_false_iff_not, beq_iff_eq, bne_iff_ne, ne_eq, Bool.not_eq_true', Bool.not_eq_false', beq_eq_false_iff_ne, bne_eq_false_iff_eq, Bool.and_eq_true, Bool.or_eq_true, Bool.or_eq_false_iff, Bool.not_eq_true, Bool.not_eq_false, Int.not_lt, Int.not_le, gt_iff_lt, ge_iff_le, bif_or, bif_and, Bool.and_true, Bool.and_false, Bool.true_and, Bool.false_and, Bool.or_true, Bool.or_false, Bool.true_or, Bool.false_or, Bool.true_eq_false, Bool.false_eq_true, Int.reduceEq, Int.reduceLT, Int.reduceLE, decide_true, decide_false, Bool.not_true, Bool.not_false, not_true_eq_false, not_false_eq_true, Bool.and_eq_false_iff, reduceCtorEq, Classical.not_not, not_and, imp_false, true_and, and_true, Bool.cond_true, Bool.cond_false, Int.reduceNeg] at hg))
    | omega
    | (simp only [List.length_append, List.length_cons, List.length_nil, List.length_map, List.length_singleton, List.length_set, List.length_take, List.length_drop, Nat.mul_one, Nat.one_mul] <;> omega))
end Go.AM
