/- The definition of what is verified, and FnSureTop: contracts. Conditions: none. -/
import Derived.Test.YtkafcijfljjlaaaDoorAmA27
set_option linter.unusedSimpArgs false
set_option linter.unusedVariables false
namespace Go.AM
open Go Go.Proofs
def wsBad (s : Vs) (i : In) : Bool := listOk i == false || decide (behB i.c s.b < 0) || decide (16 < behB i.c s.b) || decide (behF i.c s.f < 0) || decide (8 < behF i.c s.f) ||
  (i.c != 1 && s.b == 0) || ((i.c == 4 || i.c == 5) && decide (s.b < 2)) || (decide (7 ≤ i.c) && s.b != 1) || (s.ba && (i.c == 3 || i.c == 6) && s.b == 1) || (s.ba && i.c == 5 && s.b == 2) ||
  (i.c == 8 && s.f == 0) || ((i.c == 8 || i.c == 9 || i.c == 11) && !s.co) || (i.c == 11 && (behB i.c s.b != 0 || behF i.c s.f != 0))
def wsNext (s : Vs) (c : Int) : Vs := ⟨behB c s.b, behF c s.f, c != 11 && (s.ba || c == 10 || c == 7), c == 10⟩
def wsFrom : Vs → List In → Bool
  | s, [] => s.b == 0 && s.f == 0
  | s, i :: l => !wsBad s i && wsFrom (wsNext s i.c) l
def wsOk (l : List In) : Bool := if 1000 < l.length then false else wsFrom ⟨0, 0, false, false⟩ l
theorem ws_bad (s : Vs) (i : In) (hb : 0 ≤ s.b) (hb2 : s.b ≤ 16) (hf : 0 ≤ s.f) (hf2 : s.f ≤ 8) (h0 : s.b = 0 → s.f = 0) : wsBad s i = decide (0 < wrongAt s i) := by
  unfold wsBad wrongAt needs behB behF; grind (splits := 40)
theorem ws_inv (s : Vs) (i : In) (hb : 0 ≤ s.b) (hb2 : s.b ≤ 16) (hf : 0 ≤ s.f) (hf2 : s.f ≤ 8) (h0 : s.b = 0 → s.f = 0) (h : ¬ 0 < wrongAt s i) : nextV s i.c = wsNext s i.c ∧
    0 ≤ (nextV s i.c).b ∧ (nextV s i.c).b ≤ 16 ∧ 0 ≤ (nextV s i.c).f ∧ (nextV s i.c).f ≤ 8 ∧ ((nextV s i.c).b = 0 → (nextV s i.c).f = 0) := by
  obtain ⟨b, f, ba, co⟩ := s
  have e := nextV_eq (by omega : wrongAt ⟨b, f, ba, co⟩ i ≤ 0) hb hb2 hf hf2
  refine ⟨e, ?_⟩
  unfold nextV
  have h1 := h
  unfold wrongAt needs at h1
  simp only at hb hb2 hf hf2 h0
  unfold behB behF
  grind (splits := 40)
theorem ws_check : ∀ (l : List In) (s : Vs) (k : Int), 0 ≤ s.b → s.b ≤ 16 → 0 ≤ s.f → s.f ≤ 8 → (s.b = 0 → s.f = 0) → wsFrom s l = decide ((checkFrom s k l).1 = 0)
  | [], s, k, hb, _, _, _, h0 => by
    rw [wsFrom, checkFrom]; split
    · grind
    · have : s.b = 0 := by omega
      simp [this, h0 this]
  | i :: l, s, k, hb, hb2, hf, hf2, h0 => by
    rw [wsFrom, checkFrom, ws_bad s i hb hb2 hf hf2 h0]
    by_cases h : 0 < wrongAt s i
    · rw [if_pos h]; simp [h]; omega
    · obtain ⟨e, q1, q2, q3, q4, q5⟩ := ws_inv s i hb hb2 hf hf2 h0 h
      rw [if_neg h, ← e, ws_check l _ (k + 1) q1 q2 q3 q4 q5]; simp [h]
theorem ws_sure (l : List In) : wsOk l = decide ((sureCheck l).1 = 0) := by
  unfold wsOk sureCheck; split
  · rfl
  · exact ws_check l _ 0 (by simp) (by simp) (by simp) (by simp) (by simp)
theorem ws_next {s : Vs} {i : Int} {l : List In} (h0 : 0 ≤ i) (h1 : i < l.length) : wsFrom s (l.drop i.toNat) = (!wsBad s (l.getD i.toNat dI) && wsFrom (wsNext s (l.getD i.toNat dI).c) (l.drop (i + 1).toNat)) := by
  rw [drop_at l dI h0 h1, wsFrom]
theorem ws_end {s : Vs} {i : Int} {l : List In} (h1 : l.length ≤ i) : wsFrom s (l.drop i.toNat) = (s.b == 0 && s.f == 0) := by
  rw [List.drop_eq_nil_of_le (by omega), wsFrom]
theorem ws_tr {T : List (Int × Int)} {b f i : Int} {l : List In} (h0 : 0 ≤ i) (h1 : i < l.length) (h : T.drop i.toNat = traceFrom b f (l.drop i.toNat)) : i < T.length ∧
    (T.getD i.toNat (0, 0)).1 = behB (l.getD i.toNat dI).c b ∧ (T.getD i.toNat (0, 0)).2 = behF (l.getD i.toNat dI).c f ∧ T.drop (i + 1).toNat = traceFrom (behB (l.getD i.toNat dI).c b) (behF (l.getD i.toNat dI).c f) (l.drop (i + 1).toNat) := by
  rw [trace_next h0 h1] at h
  have hl : i.toNat < T.length := by
    rcases Nat.lt_or_ge i.toNat T.length with q | q
    · exact q
    · rw [List.drop_eq_nil_of_le q] at h; cases h
  rw [List.drop_eq_getElem_cons hl] at h
  injection h with e1 e2
  have e3 : (i + 1).toNat = i.toNat + 1 := by omega
  refine ⟨by omega, ?_, ?_, by rw [e3]; rw [e3] at e2; exact e2⟩
  · simp [List.getD, hl, e1]
  · simp [List.getD, hl, e1]
theorem sureTrace_len2 (l : List In) (h : l.length ≤ 1000) : (sureTrace l).length = l.length := by
  unfold sureTrace; rw [if_neg (by omega), traceFrom_len]
theorem ws_iff {s : Vs} {i : In} {x y : Int} (t2 : x = behB i.c s.b) (t3 : y = behF i.c s.f) : wsBad s i = true ↔
    ((((listOk i = false ∨ x < 0) ∨ 16 < x) ∨ y < 0) ∨ 8 < y) ∨ (¬ i.c = 1 ∧ s.b = 0 ∨ (i.c = 4 ∨ i.c = 5) ∧ s.b < 2) ∨ (7 ≤ i.c ∧ ¬ s.b = 1) ∨ ((s.ba = true ∧ (i.c = 3 ∨ i.c = 6)) ∧ s.b = 1 ∨ (s.ba = true ∧ i.c = 5) ∧ s.b = 2) ∨
    (i.c = 8 ∧ s.f = 0) ∨ (((i.c = 8 ∨ i.c = 9) ∨ i.c = 11) ∧ s.co = false) ∨ (i.c = 11 ∧ (¬ x = 0 ∨ ¬ y = 0)) := by
  subst t2 t3
  simp [wsBad, or_assoc, and_assoc]
theorem ws_co {i c : Int} (h : i = 0 ∨ ¬ c = 10) : (!decide (i = 0) && c == 10) = false := by grind
theorem ws_co2 {i c : Int} (h : ¬ i = 0 ∧ c = 10) : (!decide (i = 0) && c == 10) = true := by grind
theorem ws_good {s : Vs} {i : In} {x y : Int} (t2 : x = behB i.c s.b) (t3 : y = behF i.c s.f) (hA : (((listOk i = true ∧ 0 ≤ x) ∧ x ≤ 16) ∧ 0 ≤ y) ∧ y ≤ 8) (hB : (i.c = 1 ∨ ¬ s.b = 0) ∧ (¬ i.c = 4 ∧ ¬ i.c = 5 ∨ 2 ≤ s.b))
    (hC : i.c < 7 ∨ s.b = 1) (hD : ((s.ba = false ∨ ¬ i.c = 3 ∧ ¬ i.c = 6) ∨ ¬ s.b = 1) ∧ ((s.ba = false ∨ ¬ i.c = 5) ∨ ¬ s.b = 2)) (hE : ¬ i.c = 8 ∨ ¬ s.f = 0) (hF : ((i.c = 8 ∨ i.c = 9) ∨ i.c = 11) → s.co = true)
    (hG : ¬ i.c = 11 ∨ x = 0 ∧ y = 0) : wsBad s i = false := by
  rw [Bool.eq_false_iff, Ne, ws_iff t2 t3]
  clear t2 t3
  rintro (q | q | q | q | q | q | q)
  · clear hB hC hD hE hF hG; grind
  · clear hA hC hD hE hF hG; grind
  · clear hA hB hD hE hF hG; grind
  · clear hA hB hC hE hF hG; grind
  · clear hA hB hC hD hF hG; grind
  · clear hA hB hC hD hE hG; grind
  · clear hA hB hC hD hE hF; grind
theorem ws_no {c : Int} {p : Prop} (h : (¬ c = 8 ∧ ¬ c = 9) ∧ ¬ c = 11) (q : (c = 8 ∨ c = 9) ∨ c = 11) : p := by omega
set_option maxRecDepth 10000 in
set_option maxHeartbeats 4000000 in
theorem con_wsHolds (l : List In) (N : Nat) (hl : ∀ i ∈ l, okIn N i) (hl2 : l.length ≤ 1000000) : Con Tryd.prog C0 8 [.fz 3 (l.map insC)] []
    (fun x σ' => x = .sc (.bool (wsOk l)) ∧ σ' = []) := by
  refine con_of_sem hP [0, 2, 3, 4, 5, 6, 7, 8, 20, 25, 62, 82, 89, 115, 122, 132, 143, 155] [.tmp 2] Tryd.func8 (by unfold Tryd.f8; rfl) rfl rfl (Nat.le_of_ble_eq_true rfl) rfl ?_
  simp only [enter_cons, enter_nil, List.length_cons, List.length_nil, Nat.reduceAdd]
  generalize hQ : endQ _ _ _ _ = Q
  have hlen := sureTrace_len2 l
  repeat' (first
    | with_reducible refine sem_cut fun k hk => ?_
    | with_reducible refine sem_blk fun k hk => ?_
    | ((first | with_reducible refine r_reg ?_ | ((with_reducible refine i_call (n := 14) ?_); refine call_open [] ?_) | ((with_reducible refine i_call (n := 15) ?_); refine call_openF [] ?_) | ((with_reducible refine i_callW (n := 14) ?_); refine callW_use (con_SureTraceI _ _ (by first | with_reducible assumption | omega | (simp only [List.length_append, List.length_cons, List.length_nil, List.length_map, List.length_set, List.length_take, List.length_drop] <;> omega) | decide) (by first | with_reducible assumption | omega | (simp only [List.length_append, List.length_cons, List.length_nil, List.length_map, List.length_set, List.length_take, List.length_drop] <;> omega) | decide)) ?_; rintro x σ' ⟨rfl, rfl⟩; (with_reducible refine behind_go ?_)) | ((with_reducible refine i_callW (n := 15) ?_); refine callW_use (con_ListOkS _ (by first | with_reducible assumption | omega | (simp only [List.length_append, List.length_cons, List.length_nil, List.length_map, List.length_set, List.length_take, List.length_drop] <;> omega) | decide)) ?_; rintro x σ' ⟨rfl, rfl⟩; (refine ⟨?_, ?_⟩; (focus (simp only [go_sem, reduceIte, Int.reducePow, Nat.reduceEqDiff, Nat.reduceAdd, Nat.reduceLT, Nat.reduceLeDiff, Nat.reduceMul, Nat.reduceSub, Nat.reduceBEq, reduceCtorEq, Int.reduceEq, Int.reduceNe, Int.reduceLT, Int.reduceLE, Int.reduceAdd, Int.reduceSub, Int.reduceMul, Int.reduceToNat, Int.reduceBEq, Int.reduceBNe, Int.reduceGT, Int.reduceGE, Nat.reduceBNe, Nat.reduceGT, decide_true, decide_false, Bool.not_true, Bool.not_false, Int.reduceNeg, beq_true, beq_false, Bool.not_eq_false', takes, List.length_map, ps_len]; try simp (disch := omega) only [wrap64, ins_get, ps_at]; try simp only [go_sem, reduceIte, Int.reducePow, Nat.reduceEqDiff, Nat.reduceAdd, Nat.reduceLT, Nat.reduceLeDiff, Nat.reduceMul, Nat.reduceSub, Nat.reduceBEq, reduceCtorEq, Int.reduceEq, Int.reduceNe, Int.reduceLT, Int.reduceLE, Int.reduceAdd, Int.reduceSub, Int.reduceMul, Int.reduceToNat, Int.reduceBEq, Int.reduceBNe, Int.reduceGT, Int.reduceGE, Nat.reduceBNe, Nat.reduceGT, decide_true, decide_false, Bool.not_true, Bool.not_false, Int.reduceNeg, beq_true, beq_false, Bool.not_eq_false', takes, List.length_map, ps_len]))); (with_reducible refine behind_go ?_))); (simp only [go_sem, reduceIte, Int.reducePow, Nat.reduceEqDiff, Nat.reduceAdd, Nat.reduceLT, Nat.reduceLeDiff, Nat.reduceMul, Nat.reduceSub, Nat.reduceBEq, reduceCtorEq, Int.reduceEq, Int.reduceNe, Int.reduceLT, Int.reduceLE, Int.reduceAdd, Int.reduceSub, Int.reduceMul, Int.reduceToNat, Int.reduceBEq, Int.reduceBNe, Int.reduceGT, Int.reduceGE, Nat.reduceBNe, Nat.reduceGT, decide_true, decide_false, Bool.not_true, Bool.not_false, Int.reduceNeg, beq_true, beq_false, Bool.not_eq_false', takes, List.length_map, ps_len]; try simp (disch := omega) only [wrap64, ins_get, ps_at]; try simp only [go_sem, reduceIte, Int.reducePow, Nat.reduceEqDiff, Nat.reduceAdd, Nat.reduceLT, Nat.reduceLeDiff, Nat.reduceMul, Nat.reduceSub, Nat.reduceBEq, reduceCtorEq, Int.reduceEq, Int.reduceNe, Int.reduceLT, Int.reduceLE, Int.reduceAdd, Int.reduceSub, Int.reduceMul, Int.reduceToNat, Int.reduceBEq, Int.reduceBNe, Int.reduceGT, Int.reduceGE, Nat.reduceBNe, Nat.reduceGT, decide_true, decide_false, Bool.not_true, Bool.not_false, Int.reduceNeg, beq_true, beq_false, Bool.not_eq_false', takes, List.length_map, ps_len]))
    | with_reducible refine r_skip ?_
    | with_reducible refine r_exit ?_
    | with_reducible refine r_ret ?_
    | with_reducible refine r_codeR ?_
    | with_reducible refine r_codeE ?_
    | with_reducible refine r_blkN ?_
    | with_reducible refine r_blkR ?_
    | with_reducible refine r_blkE ?_
    | with_reducible refine r_blkX rfl ?_
    | ((with_reducible refine r_nil ?_); subst hQ; (first | with_reducible refine endA_ret [] ?_ ?_ ?_ | with_reducible refine endA_nrm [] ?_ ?_ ?_); (focus rfl); (focus rfl); (simp only [go_sem, reduceIte, Int.reducePow, Nat.reduceEqDiff, Nat.reduceAdd, Nat.reduceLT, Nat.reduceLeDiff, Nat.reduceMul, Nat.reduceSub, Nat.reduceBEq, reduceCtorEq, Int.reduceEq, Int.reduceNe, Int.reduceLT, Int.reduceLE, Int.reduceAdd, Int.reduceSub, Int.reduceMul, Int.reduceToNat, Int.reduceBEq, Int.reduceBNe, Int.reduceGT, Int.reduceGE, Nat.reduceBNe, Nat.reduceGT, decide_true, decide_false, Bool.not_true, Bool.not_false, Int.reduceNeg, beq_true, beq_false, Bool.not_eq_false', takes, List.length_map, ps_len]; try simp (disch := omega) only [wrap64, ins_get, ps_at]; try simp only [go_sem, reduceIte, Int.reducePow, Nat.reduceEqDiff, Nat.reduceAdd, Nat.reduceLT, Nat.reduceLeDiff, Nat.reduceMul, Nat.reduceSub, Nat.reduceBEq, reduceCtorEq, Int.reduceEq, Int.reduceNe, Int.reduceLT, Int.reduceLE, Int.reduceAdd, Int.reduceSub, Int.reduceMul, Int.reduceToNat, Int.reduceBEq, Int.reduceBNe, Int.reduceGT, Int.reduceGE, Nat.reduceBNe, Nat.reduceGT, decide_true, decide_false, Bool.not_true, Bool.not_false, Int.reduceNeg, beq_true, beq_false, Bool.not_eq_false', takes, List.length_map, ps_len]))
    | ((with_reducible refine wkEnd_same ?_); (refine ⟨?_, rfl⟩; rw [wsOk, if_pos (by rcases Nat.lt_or_ge 1000 l.length with hq | hq; (exact hq); (have := hlen hq; omega))]))
    | with_reducible refine r_backR ?_
    | with_reducible refine r_backE ?_
    | with_reducible refine r_nil ?_
    | with_reducible refine And.intro ?_ ?_
    | ((with_reducible apply sem_if); (case hb => rfl); all_goals (intro h; try simp only [decide_eq_true_eq, decide_eq_false_iff_not, beq_iff_eq, bne_iff_ne, ne_eq, Bool.not_eq_true', Bool.not_eq_false', beq_eq_false_iff_ne, bne_eq_false_iff_eq, Bool.and_eq_true, Bool.or_eq_true, Bool.or_eq_false_iff, Bool.not_eq_true, Bool.not_eq_false, Int.not_lt, Int.not_le, gt_iff_lt, ge_iff_le, bif_or, bif_and, Bool.and_true, Bool.and_false, Bool.true_and, Bool.false_and, Bool.or_true, Bool.or_false, Bool.true_or, Bool.false_or, Bool.true_eq_false, Bool.false_eq_true, Int.reduceEq, Int.reduceLT, Int.reduceLE, decide_true, decide_false, Bool.not_true, Bool.not_false, not_true_eq_false, not_false_eq_true, Bool.and_eq_false_iff, reduceCtorEq, Classical.not_not, not_and, imp_false, true_and, and_true, Bool.cond_true, Bool.cond_false, Int.reduceNeg] at h))
    | ((fail_if_success with_reducible refine i_call ?_); (fail_if_success with_reducible refine i_loop ?_); (fail_if_success with_reducible refine i_draw ?_); subst hk)
    | exact True.intro
    | exact fun hf => False.elim hf
    | (intro hg; simp +contextual [hg]; done)
    | (intro hg; (simp only [go_sem, reduceIte, Int.reducePow, Nat.reduceEqDiff, Nat.reduceAdd, Nat.reduceLT, Nat.reduceLeDiff, Nat.reduceMul, Nat.reduceSub, Nat.reduceBEq, reduceCtorEq, Int.reduceEq, Int.reduceNe, Int.reduceLT, Int.reduceLE, Int.reduceAdd, Int.reduceSub, Int.reduceMul, Int.reduceToNat, Int.reduceBEq, Int.reduceBNe, Int.reduceGT, Int.reduceGE, Nat.reduceBNe, Nat.reduceGT, decide_true, decide_false, Bool.not_true, Bool.not_false, Int.reduceNeg, beq_true, beq_false, Bool.not_eq_false', takes, List.length_map, ps_len, hg]; try simp (disch := omega) only [wrap64, ins_get, ps_at]; try simp only [go_sem, reduceIte, Int.reducePow, Nat.reduceEqDiff, Nat.reduceAdd, Nat.reduceLT, Nat.reduceLeDiff, Nat.reduceMul, Nat.reduceSub, Nat.reduceBEq, reduceCtorEq, Int.reduceEq, Int.reduceNe, Int.reduceLT, Int.reduceLE, Int.reduceAdd, Int.reduceSub, Int.reduceMul, Int.reduceToNat, Int.reduceBEq, Int.reduceBNe, Int.reduceGT, Int.reduceGE, Nat.reduceBNe, Nat.reduceGT, decide_true, decide_false, Bool.not_true, Bool.not_false, Int.reduceNeg, beq_true, beq_false, Bool.not_eq_false', takes, List.length_map, ps_len, hg]); (try simp only [decide_eq_true_eq, decide_eq_false_iff_not, beq_iff_eq, bne_iff_ne, ne_eq, Bool.not_eq_true', Bool.not_eq_false', beq_eq_false_iff_ne, bne_eq_false_iff_eq, Bool.and_eq_true, Bool.or_eq_true, Bool.or_eq_false_iff, Bool.not_eq_true, Bool.not_eq_false, Int.not_lt, Int.not_le, gt_iff_lt, ge_iff_le, bif_or, bif_and, Bool.and_true, Bool.and_false, Bool.true_and, Bool.false_and, Bool.or_true, Bool.or_false, Bool.true_or, Bool.false_or, Bool.true_eq_false, Bool.false_eq_true, Int.reduceEq, Int.reduceLT, Int.reduceLE, decide_true, decide_false, Bool.not_true, Bool.not_false, not_true_eq_false, not_false_eq_true, Bool.and_eq_false_iff, reduceCtorEq, Classical.not_not, not_and, imp_false, true_and, and_true, Bool.cond_true, Bool.cond_false, Int.reduceNeg] at hg))
    | omega
    | (simp only [List.length_append, List.length_cons, List.length_nil, List.length_map, List.length_singleton, List.length_set, List.length_take, List.length_drop, Nat.mul_one, Nat.one_mul] <;> omega))
  refine sem_loopA [0, 3, 4, 5, 6] (fun (i, b, f, ba) => (⟨[(0, .fz 3 (l.map insC)), (3, .fz 2 (psR (sureTrace l))), (4, .pt 0 0), (5, .sc (.bool (ba))), (6, .sc (.int .i64 (i)))], [.rc [.sc (.int .i64 (b)), .sc (.int .i64 (f))]]⟩ : St)) (fun (i, b, f, ba) => 0 ≤ i ∧ i ≤ l.length ∧ -i ≤ b ∧ b ≤ i ∧ -i ≤ f ∧ f ≤ i ∧ (sureTrace l).drop i.toNat = traceFrom b f (l.drop i.toNat) ∧ wsFrom ⟨b, f, ba, !decide (i = 0) && (l.getD (i - 1).toNat dI).c == 10⟩ (l.drop i.toNat) = wsOk l) (fun (i, b, f, ba) => (l.length - i).toNat)  (0, 0, 0, false) (by rfl) (by rfl) ?_ ?_
  · have hg : l.length ≤ 1000 := by omega
    (simp only [go_sem, reduceIte, Int.reducePow, Nat.reduceEqDiff, Nat.reduceAdd, Nat.reduceLT, Nat.reduceLeDiff, Nat.reduceMul, Nat.reduceSub, Nat.reduceBEq, reduceCtorEq, Int.reduceEq, Int.reduceNe, Int.reduceLT, Int.reduceLE, Int.reduceAdd, Int.reduceSub, Int.reduceMul, Int.reduceToNat, Int.reduceBEq, Int.reduceBNe, Int.reduceGT, Int.reduceGE, Nat.reduceBNe, Nat.reduceGT, decide_true, decide_false, Bool.not_true, Bool.not_false, Int.reduceNeg, beq_true, beq_false, Bool.not_eq_false', takes, List.length_map, ps_len]; try simp (disch := omega) only [wrap64, ins_get, ps_at]; try simp only [go_sem, reduceIte, Int.reducePow, Nat.reduceEqDiff, Nat.reduceAdd, Nat.reduceLT, Nat.reduceLeDiff, Nat.reduceMul, Nat.reduceSub, Nat.reduceBEq, reduceCtorEq, Int.reduceEq, Int.reduceNe, Int.reduceLT, Int.reduceLE, Int.reduceAdd, Int.reduceSub, Int.reduceMul, Int.reduceToNat, Int.reduceBEq, Int.reduceBNe, Int.reduceGT, Int.reduceGE, Nat.reduceBNe, Nat.reduceGT, decide_true, decide_false, Bool.not_true, Bool.not_false, Int.reduceNeg, beq_true, beq_false, Bool.not_eq_false', takes, List.length_map, ps_len])
    refine ⟨(by first | exact wkSt_same rfl | (apply wkSt_mk <;> repeat' (first | exact wkE_nil | (with_reducible apply wkE_cons) | exact wkC_nil 3 | exact wkV_nil 3 | exact wkA_nil 3 | (with_reducible apply wkV_agg) | (with_reducible apply wkV_tup) | (with_reducible apply wkA_agg) | exact wkA_refl _ | exact wkV_refl _ | exact wkS_nil | (with_reducible apply wkS_cons) | (with_reducible apply wkO_rc) | (with_reducible apply wkO_arr) | exact wkO_refl _ | exact wkL_nil | (with_reducible apply wkL_cons) | exact wkC_refl _ | exact wkT_nil | (with_reducible apply wkT_cons) | (with_reducible apply wkR_app (wkR_refl _)) | exact wkR_nil | (with_reducible apply wkR_cons) | exact wkR_refl _))), ?_⟩
    (repeat' (first | with_reducible refine And.intro ?_ ?_ | with_reducible assumption | omega | exact True.intro | exact okRows_nil _ | (simp only [List.length_append, List.length_cons, List.length_nil, List.length_singleton, List.length_set, List.length_take] <;> omega) | (with_reducible intro hf; cases hf; done)))
    all_goals first | (simp [wsOk, hg]; done) | (rw [sureTrace, if_neg (by omega)]; done)
  · rintro ⟨i, b, f, ba⟩ ⟨hi, hi2, hb, hb2, hf, hf2, ht, he⟩
    have hok := okIn_getD hl i.toNat
    have hok2 := okIn_getD hl (i - 1).toNat
    have hb' := behB_bd (l.getD i.toNat dI).c b
    have hf' := behF_bd (l.getD i.toNat dI).c f
    obtain ⟨p1, p2, p3, p4, p5, p6, p7⟩ := hok
    obtain ⟨q1, q2, q3, q4, q5, q6, q7⟩ := hok2
    have hT := fun h => ws_tr (T := sureTrace l) (b := b) (f := f) hi h ht
    have bad : ∀ hlt : i < l.length, wsBad ⟨b, f, ba, !decide (i = 0) && (l.getD (i - 1).toNat dI).c == 10⟩ (l.getD i.toNat dI) = true → false = wsOk l := fun hlt hw => by rw [← he, ws_next hi hlt, hw]; rfl
    have good : ∀ hlt : i < l.length, wsBad ⟨b, f, ba, !decide (i = 0) && (l.getD (i - 1).toNat dI).c == 10⟩ (l.getD i.toNat dI) = false → wsFrom (wsNext ⟨b, f, ba, !decide (i = 0) && (l.getD (i - 1).toNat dI).c == 10⟩ (l.getD i.toNat dI).c) (l.drop (i + 1).toNat) = wsOk l := fun hlt hw => by rw [← he, ws_next hi hlt, hw]; rfl
    have fin : l.length ≤ i → (b == 0 && f == 0) = wsOk l := fun h => by rw [← he, ws_end h]
    repeat' (first
      | with_reducible refine sem_cut fun k hk => ?_
      | with_reducible refine sem_blk fun k hk => ?_
      | ((first | with_reducible refine r_reg ?_ | ((with_reducible refine i_call (n := 14) ?_); refine call_open [] ?_) | ((with_reducible refine i_call (n := 15) ?_); refine call_openF [] ?_) | ((with_reducible refine i_callW (n := 14) ?_); refine callW_use (con_SureTraceI _ _ (by first | with_reducible assumption | omega | (simp only [List.length_append, List.length_cons, List.length_nil, List.length_map, List.length_set, List.length_take, List.length_drop] <;> omega) | decide) (by first | with_reducible assumption | omega | (simp only [List.length_append, List.length_cons, List.length_nil, List.length_map, List.length_set, List.length_take, List.length_drop] <;> omega) | decide)) ?_; rintro x σ' ⟨rfl, rfl⟩; (with_reducible refine behind_go ?_)) | ((with_reducible refine i_callW (n := 15) ?_); refine callW_use (con_ListOkS _ (by first | with_reducible assumption | omega | (simp only [List.length_append, List.length_cons, List.length_nil, List.length_map, List.length_set, List.length_take, List.length_drop] <;> omega) | decide)) ?_; rintro x σ' ⟨rfl, rfl⟩; (refine ⟨?_, ?_⟩; (focus (simp only [go_sem, reduceIte, Int.reducePow, Nat.reduceEqDiff, Nat.reduceAdd, Nat.reduceLT, Nat.reduceLeDiff, Nat.reduceMul, Nat.reduceSub, Nat.reduceBEq, reduceCtorEq, Int.reduceEq, Int.reduceNe, Int.reduceLT, Int.reduceLE, Int.reduceAdd, Int.reduceSub, Int.reduceMul, Int.reduceToNat, Int.reduceBEq, Int.reduceBNe, Int.reduceGT, Int.reduceGE, Nat.reduceBNe, Nat.reduceGT, decide_true, decide_false, Bool.not_true, Bool.not_false, Int.reduceNeg, beq_true, beq_false, Bool.not_eq_false', takes, List.length_map, ps_len]; try simp (disch := omega) only [wrap64, ins_get, ps_at]; try simp only [go_sem, reduceIte, Int.reducePow, Nat.reduceEqDiff, Nat.reduceAdd, Nat.reduceLT, Nat.reduceLeDiff, Nat.reduceMul, Nat.reduceSub, Nat.reduceBEq, reduceCtorEq, Int.reduceEq, Int.reduceNe, Int.reduceLT, Int.reduceLE, Int.reduceAdd, Int.reduceSub, Int.reduceMul, Int.reduceToNat, Int.reduceBEq, Int.reduceBNe, Int.reduceGT, Int.reduceGE, Nat.reduceBNe, Nat.reduceGT, decide_true, decide_false, Bool.not_true, Bool.not_false, Int.reduceNeg, beq_true, beq_false, Bool.not_eq_false', takes, List.length_map, ps_len]))); (with_reducible refine behind_go ?_))); (simp only [go_sem, reduceIte, Int.reducePow, Nat.reduceEqDiff, Nat.reduceAdd, Nat.reduceLT, Nat.reduceLeDiff, Nat.reduceMul, Nat.reduceSub, Nat.reduceBEq, reduceCtorEq, Int.reduceEq, Int.reduceNe, Int.reduceLT, Int.reduceLE, Int.reduceAdd, Int.reduceSub, Int.reduceMul, Int.reduceToNat, Int.reduceBEq, Int.reduceBNe, Int.reduceGT, Int.reduceGE, Nat.reduceBNe, Nat.reduceGT, decide_true, decide_false, Bool.not_true, Bool.not_false, Int.reduceNeg, beq_true, beq_false, Bool.not_eq_false', takes, List.length_map, ps_len]; try simp (disch := omega) only [wrap64, ins_get, ps_at]; try simp only [go_sem, reduceIte, Int.reducePow, Nat.reduceEqDiff, Nat.reduceAdd, Nat.reduceLT, Nat.reduceLeDiff, Nat.reduceMul, Nat.reduceSub, Nat.reduceBEq, reduceCtorEq, Int.reduceEq, Int.reduceNe, Int.reduceLT, Int.reduceLE, Int.reduceAdd, Int.reduceSub, Int.reduceMul, Int.reduceToNat, Int.reduceBEq, Int.reduceBNe, Int.reduceGT, Int.reduceGE, Nat.reduceBNe, Nat.reduceGT, decide_true, decide_false, Bool.not_true, Bool.not_false, Int.reduceNeg, beq_true, beq_false, Bool.not_eq_false', takes, List.length_map, ps_len]))
      | with_reducible refine r_skip ?_
      | with_reducible refine r_exit ?_
      | with_reducible refine r_ret ?_
      | with_reducible refine r_codeR ?_
      | with_reducible refine r_codeE ?_
      | with_reducible refine r_blkN ?_
      | with_reducible refine r_blkR ?_
      | with_reducible refine r_blkE ?_
      | with_reducible refine r_blkX rfl ?_
      | ((with_reducible refine r_nil ?_); subst hQ; (first | with_reducible refine endA_ret [] ?_ ?_ ?_ | with_reducible refine endA_nrm [] ?_ ?_ ?_); (focus rfl); (focus rfl); (simp only [go_sem, reduceIte, Int.reducePow, Nat.reduceEqDiff, Nat.reduceAdd, Nat.reduceLT, Nat.reduceLeDiff, Nat.reduceMul, Nat.reduceSub, Nat.reduceBEq, reduceCtorEq, Int.reduceEq, Int.reduceNe, Int.reduceLT, Int.reduceLE, Int.reduceAdd, Int.reduceSub, Int.reduceMul, Int.reduceToNat, Int.reduceBEq, Int.reduceBNe, Int.reduceGT, Int.reduceGE, Nat.reduceBNe, Nat.reduceGT, decide_true, decide_false, Bool.not_true, Bool.not_false, Int.reduceNeg, beq_true, beq_false, Bool.not_eq_false', takes, List.length_map, ps_len]; try simp (disch := omega) only [wrap64, ins_get, ps_at]; try simp only [go_sem, reduceIte, Int.reducePow, Nat.reduceEqDiff, Nat.reduceAdd, Nat.reduceLT, Nat.reduceLeDiff, Nat.reduceMul, Nat.reduceSub, Nat.reduceBEq, reduceCtorEq, Int.reduceEq, Int.reduceNe, Int.reduceLT, Int.reduceLE, Int.reduceAdd, Int.reduceSub, Int.reduceMul, Int.reduceToNat, Int.reduceBEq, Int.reduceBNe, Int.reduceGT, Int.reduceGE, Nat.reduceBNe, Nat.reduceGT, decide_true, decide_false, Bool.not_true, Bool.not_false, Int.reduceNeg, beq_true, beq_false, Bool.not_eq_false', takes, List.length_map, ps_len]))
      | ((with_reducible refine wkEnd_same ?_); exact ⟨rfl, rfl⟩)
      | (first | ((with_reducible apply back_useA (_, _, _, _)); (case hk => rfl); (case hb => rfl); (case' h => ((simp only [go_sem, reduceIte, Int.reducePow, Nat.reduceEqDiff, Nat.reduceAdd, Nat.reduceLT, Nat.reduceLeDiff, Nat.reduceMul, Nat.reduceSub, Nat.reduceBEq, reduceCtorEq, Int.reduceEq, Int.reduceNe, Int.reduceLT, Int.reduceLE, Int.reduceAdd, Int.reduceSub, Int.reduceMul, Int.reduceToNat, Int.reduceBEq, Int.reduceBNe, Int.reduceGT, Int.reduceGE, Nat.reduceBNe, Nat.reduceGT, decide_true, decide_false, Bool.not_true, Bool.not_false, Int.reduceNeg, beq_true, beq_false, Bool.not_eq_false', takes, List.length_map, ps_len]; try simp (disch := omega) only [wrap64, ins_get, ps_at]; try simp only [go_sem, reduceIte, Int.reducePow, Nat.reduceEqDiff, Nat.reduceAdd, Nat.reduceLT, Nat.reduceLeDiff, Nat.reduceMul, Nat.reduceSub, Nat.reduceBEq, reduceCtorEq, Int.reduceEq, Int.reduceNe, Int.reduceLT, Int.reduceLE, Int.reduceAdd, Int.reduceSub, Int.reduceMul, Int.reduceToNat, Int.reduceBEq, Int.reduceBNe, Int.reduceGT, Int.reduceGE, Nat.reduceBNe, Nat.reduceGT, decide_true, decide_false, Bool.not_true, Bool.not_false, Int.reduceNeg, beq_true, beq_false, Bool.not_eq_false', takes, List.length_map, ps_len]); refine ⟨?_, ?_⟩; (focus first | exact wkSt_same rfl | (apply wkSt_mk <;> repeat' (first | exact wkE_nil | (with_reducible apply wkE_cons) | exact wkC_nil 3 | exact wkV_nil 3 | exact wkA_nil 3 | (with_reducible apply wkV_agg) | (with_reducible apply wkV_tup) | (with_reducible apply wkA_agg) | exact wkA_refl _ | exact wkV_refl _ | exact wkS_nil | (with_reducible apply wkS_cons) | (with_reducible apply wkO_rc) | (with_reducible apply wkO_arr) | exact wkO_refl _ | exact wkL_nil | (with_reducible apply wkL_cons) | exact wkC_refl _ | exact wkT_nil | (with_reducible apply wkT_cons) | (with_reducible apply wkR_app (wkR_refl _)) | exact wkR_nil | (with_reducible apply wkR_cons) | exact wkR_refl _))); (repeat' (first | with_reducible refine And.intro ?_ ?_ | with_reducible assumption | omega | exact True.intro | exact okRows_nil _ | (simp only [List.length_append, List.length_cons, List.length_nil, List.length_singleton, List.length_set, List.length_take] <;> omega) | (with_reducible intro hf; cases hf; done)))))))
      | with_reducible refine r_backR ?_
      | with_reducible refine r_backE ?_
      | with_reducible refine r_nil ?_
      | with_reducible refine And.intro ?_ ?_
      | ((with_reducible apply sem_if); (case hb => rfl); all_goals (intro h; try simp only [decide_eq_true_eq, decide_eq_false_iff_not, beq_iff_eq, bne_iff_ne, ne_eq, Bool.not_eq_true', Bool.not_eq_false', beq_eq_false_iff_ne, bne_eq_false_iff_eq, Bool.and_eq_true, Bool.or_eq_true, Bool.or_eq_false_iff, Bool.not_eq_true, Bool.not_eq_false, Int.not_lt, Int.not_le, gt_iff_lt, ge_iff_le, bif_or, bif_and, Bool.and_true, Bool.and_false, Bool.true_and, Bool.false_and, Bool.or_true, Bool.or_false, Bool.true_or, Bool.false_or, Bool.true_eq_false, Bool.false_eq_true, Int.reduceEq, Int.reduceLT, Int.reduceLE, decide_true, decide_false, Bool.not_true, Bool.not_false, not_true_eq_false, not_false_eq_true, Bool.and_eq_false_iff, reduceCtorEq, Classical.not_not, not_and, imp_false, true_and, and_true, Bool.cond_true, Bool.cond_false, Int.reduceNeg] at h))
      | ((fail_if_success with_reducible refine i_call ?_); (fail_if_success with_reducible refine i_loop ?_); (fail_if_success with_reducible refine i_draw ?_); subst hk)
      | exact True.intro
      | exact fun hf => False.elim hf
      | (intro hg; simp +contextual [hg]; done)
      | (intro hg; (simp only [go_sem, reduceIte, Int.reducePow, Nat.reduceEqDiff, Nat.reduceAdd, Nat.reduceLT, Nat.reduceLeDiff, Nat.reduceMul, Nat.reduceSub, Nat.reduceBEq, reduceCtorEq, Int.reduceEq, Int.reduceNe, Int.reduceLT, Int.reduceLE, Int.reduceAdd, Int.reduceSub, Int.reduceMul, Int.reduceToNat, Int.reduceBEq, Int.reduceBNe, Int.reduceGT, Int.reduceGE, Nat.reduceBNe, Nat.reduceGT, decide_true, decide_false, Bool.not_true, Bool.not_false, Int.reduceNeg, beq_true, beq_false, Bool.not_eq_false', takes, List.length_map, ps_len, hg]; try simp (disch := omega) only [wrap64, ins_get, ps_at]; try simp only [go_sem, reduceIte, Int.reducePow, Nat.reduceEqDiff, Nat.reduceAdd, Nat.reduceLT, Nat.reduceLeDiff, Nat.reduceMul, Nat.reduceSub, Nat.reduceBEq, reduceCtorEq, Int.reduceEq, Int.reduceNe, Int.reduceLT, Int.reduceLE, Int.reduceAdd, Int.reduceSub, Int.reduceMul, Int.reduceToNat, Int.reduceBEq, Int.reduceBNe, Int.reduceGT, Int.reduceGE, Nat.reduceBNe, Nat.reduceGT, decide_true, decide_false, Bool.not_true, Bool.not_false, Int.reduceNeg, beq_true, beq_false, Bool.not_eq_false', takes, List.length_map, ps_len, hg]); (try simp only [decide_eq_true_eq, decide_eq_false_iff_not, beq_iff_eq, bne_iff_ne, ne_eq, Bool.not_eq_true', Bool.not_eq_false', beq_eq_false_iff_ne, bne_eq_false_iff_eq, Bool.and_eq_true, Bool.or_eq_true, Bool.or_eq_false_iff, Bool.not_eq_true, Bool.not_eq_false, Int.not_lt, Int.not_le, gt_iff_lt, ge_iff_le, bif_or, bif_and, Bool.and_true, Bool.and_false, Bool.true_and, Bool.false_and, Bool.or_true, Bool.or_false, Bool.true_or, Bool.false_or, Bool.true_eq_false, Bool.false_eq_true, Int.reduceEq, Int.reduceLT, Int.reduceLE, decide_true, decide_false, Bool.not_true, Bool.not_false, not_true_eq_false, not_false_eq_true, Bool.and_eq_false_iff, reduceCtorEq, Classical.not_not, not_and, imp_false, true_and, and_true, Bool.cond_true, Bool.cond_false, Int.reduceNeg] at hg))
      | omega
      | (simp only [List.length_append, List.length_cons, List.length_nil, List.length_map, List.length_singleton, List.length_set, List.length_take, List.length_drop, Nat.mul_one, Nat.one_mul] <;> omega))
    all_goals first
      | (refine wkEnd_same ?_
         refine ⟨congrArg (fun n => AV.sc (.bool n)) (fin (by omega)), rfl⟩)
      | (have hlt : i < l.length := by omega
         obtain ⟨t1, t2, t3, t4⟩ := hT hlt
         first
          | (rw [t2, t3]; exact t4)
          | (rw [show decide (i + 1 = 0) = false from decide_eq_false (by omega), show i + 1 - 1 = i by omega]; simp only [Bool.not_false, Bool.true_and]; refine Eq.trans ?_ (good hlt ?_)
             · rw [t2, t3]; rfl
             · first
                | exact ws_good t2 t3 (by assumption) (by assumption) (by assumption) (by assumption) (by assumption) (fun _ => ws_co2 (by assumption)) (by assumption)
                | exact ws_good t2 t3 (by assumption) (by assumption) (by assumption) (by assumption) (by assumption) (ws_no (by assumption)) (by assumption))
          | (refine wkEnd_same ?_
             refine ⟨congrArg (fun n => AV.sc (.bool n)) (bad hlt ((ws_iff t2 t3).2 ?_)), rfl⟩
             first
              | exact .inl (by assumption)
              | exact .inr (.inl (by assumption))
              | exact .inr (.inr (.inl (by assumption)))
              | exact .inr (.inr (.inr (.inl (by assumption))))
              | exact .inr (.inr (.inr (.inr (.inl (by assumption)))))
              | exact .inr (.inr (.inr (.inr (.inr (.inl ⟨by assumption, ws_co (by assumption)⟩)))))
              | exact .inr (.inr (.inr (.inr (.inr (.inr (by assumption)))))))) 
set_option maxRecDepth 10000 in
set_option maxHeartbeats 4000000 in
theorem con_FnSureTop (bs : List UInt8) (hl : bs.length ≤ 140737488351232) : Con Tryd.prog C0 4 [.fz 1 (bytes bs)] []
    (fun x σ' => x = .sc (.bool (true)) ∧ σ' = []) := by
  refine con_of_sem hP [0, 2, 3, 4, 7] [.tmp 2] Tryd.func4 (by unfold Tryd.f4; rfl) rfl rfl (Nat.le_of_ble_eq_true rfl) rfl ?_
  simp only [enter_cons, enter_nil, List.length_cons, List.length_nil, Nat.reduceAdd]
  generalize hQ : endQ _ _ _ _ = Q
  repeat' (first
    | with_reducible refine sem_cut fun k hk => ?_
    | with_reducible refine sem_blk fun k hk => ?_
    | ((first | with_reducible refine r_reg ?_ | ((with_reducible refine sem_planA (id := 5) (.take 0 (.take 1 (.one 2 (.take 3 (.take 4 (.take 5 (.take 6 (.take 7 (.take 8 (.one 9 (.take 10 (.take 11 (.take 12 (.take 13 (.take 14 (.take 15 (.take 16 (.take 17 (.take 18 (.take 19 (.take 20 (.take 21 (.take 22 (.take 23 (.take 24 .done))))))))))))))))))))))))) ?_ ?_); (focus kernel_rfl)) | ((with_reducible refine i_call (n := 5) ?_); refine call_open [] ?_) | ((with_reducible refine i_call (n := 6) ?_); refine call_openF [] ?_) | ((with_reducible refine i_call (n := 7) ?_); refine call_openF [] ?_) | ((with_reducible refine i_call (n := 8) ?_); refine call_openF [] ?_) | ((with_reducible refine i_callW (n := 5) ?_); refine callW_use (con_DrawSureCheck _) ?_; rintro x σ' ⟨l, rfl, hl, hl2, rfl⟩; (with_reducible refine behind_go ?_)) | ((with_reducible refine i_callW (n := 6) ?_); refine callW_use (con_SureCheckI _ _ (by first | exact hl | with_reducible assumption | omega | (simp only [List.length_append, List.length_cons, List.length_nil, List.length_map, List.length_set, List.length_take, List.length_drop] <;> omega) | decide) (by first | exact hl | with_reducible assumption | omega | (simp only [List.length_append, List.length_cons, List.length_nil, List.length_map, List.length_set, List.length_take, List.length_drop] <;> omega) | decide)) ?_; rintro x σ' ⟨rfl, rfl⟩; (refine ⟨?_, ?_⟩; (focus (simp only [go_sem, reduceIte, Int.reducePow, Nat.reduceEqDiff, Nat.reduceAdd, Nat.reduceLT, Nat.reduceLeDiff, Nat.reduceMul, Nat.reduceSub, Nat.reduceBEq, reduceCtorEq, Int.reduceEq, Int.reduceNe, Int.reduceLT, Int.reduceLE, Int.reduceAdd, Int.reduceSub, Int.reduceMul, Int.reduceToNat, Int.reduceBEq, Int.reduceBNe, Int.reduceGT, Int.reduceGE, Nat.reduceBNe, Nat.reduceGT, decide_true, decide_false, Bool.not_true, Bool.not_false, Int.reduceNeg, beq_true, beq_false, Bool.not_eq_false', takes, bytes_len, List.length_map, frz_ins]; try simp (disch := omega) only [wrap64]))); (with_reducible refine behind_go ?_)) | ((with_reducible refine i_callW (n := 7) ?_); refine callW_use (con_SureCheckS _ _ (by first | exact hl | with_reducible assumption | omega | (simp only [List.length_append, List.length_cons, List.length_nil, List.length_map, List.length_set, List.length_take, List.length_drop] <;> omega) | decide) (by first | exact hl | with_reducible assumption | omega | (simp only [List.length_append, List.length_cons, List.length_nil, List.length_map, List.length_set, List.length_take, List.length_drop] <;> omega) | decide)) ?_; rintro x σ' ⟨rfl, rfl⟩; (refine ⟨?_, ?_⟩; (focus (simp only [go_sem, reduceIte, Int.reducePow, Nat.reduceEqDiff, Nat.reduceAdd, Nat.reduceLT, Nat.reduceLeDiff, Nat.reduceMul, Nat.reduceSub, Nat.reduceBEq, reduceCtorEq, Int.reduceEq, Int.reduceNe, Int.reduceLT, Int.reduceLE, Int.reduceAdd, Int.reduceSub, Int.reduceMul, Int.reduceToNat, Int.reduceBEq, Int.reduceBNe, Int.reduceGT, Int.reduceGE, Nat.reduceBNe, Nat.reduceGT, decide_true, decide_false, Bool.not_true, Bool.not_false, Int.reduceNeg, beq_true, beq_false, Bool.not_eq_false', takes, bytes_len, List.length_map, frz_ins]; try simp (disch := omega) only [wrap64]))); (with_reducible refine behind_go ?_)) | ((with_reducible refine i_callW (n := 8) ?_); refine callW_use (con_wsHolds _ _ (by first | exact hl | with_reducible assumption | omega | (simp only [List.length_append, List.length_cons, List.length_nil, List.length_map, List.length_set, List.length_take, List.length_drop] <;> omega) | decide) (by first | exact hl | with_reducible assumption | omega | (simp only [List.length_append, List.length_cons, List.length_nil, List.length_map, List.length_set, List.length_take, List.length_drop] <;> omega) | decide)) ?_; rintro x σ' ⟨rfl, rfl⟩; (refine ⟨?_, ?_⟩; (focus (simp only [go_sem, reduceIte, Int.reducePow, Nat.reduceEqDiff, Nat.reduceAdd, Nat.reduceLT, Nat.reduceLeDiff, Nat.reduceMul, Nat.reduceSub, Nat.reduceBEq, reduceCtorEq, Int.reduceEq, Int.reduceNe, Int.reduceLT, Int.reduceLE, Int.reduceAdd, Int.reduceSub, Int.reduceMul, Int.reduceToNat, Int.reduceBEq, Int.reduceBNe, Int.reduceGT, Int.reduceGE, Nat.reduceBNe, Nat.reduceGT, decide_true, decide_false, Bool.not_true, Bool.not_false, Int.reduceNeg, beq_true, beq_false, Bool.not_eq_false', takes, bytes_len, List.length_map, frz_ins]; try simp (disch := omega) only [wrap64]))); (with_reducible refine behind_go ?_))); (simp only [go_sem, reduceIte, Int.reducePow, Nat.reduceEqDiff, Nat.reduceAdd, Nat.reduceLT, Nat.reduceLeDiff, Nat.reduceMul, Nat.reduceSub, Nat.reduceBEq, reduceCtorEq, Int.reduceEq, Int.reduceNe, Int.reduceLT, Int.reduceLE, Int.reduceAdd, Int.reduceSub, Int.reduceMul, Int.reduceToNat, Int.reduceBEq, Int.reduceBNe, Int.reduceGT, Int.reduceGE, Nat.reduceBNe, Nat.reduceGT, decide_true, decide_false, Bool.not_true, Bool.not_false, Int.reduceNeg, beq_true, beq_false, Bool.not_eq_false', takes, bytes_len, List.length_map, frz_ins, if_true]; try simp (disch := omega) only [wrap64]))
    | with_reducible refine r_skip ?_
    | with_reducible refine r_exit ?_
    | with_reducible refine r_ret ?_
    | with_reducible refine r_codeR ?_
    | with_reducible refine r_codeE ?_
    | with_reducible refine r_blkN ?_
    | with_reducible refine r_blkR ?_
    | with_reducible refine r_blkE ?_
    | with_reducible refine r_blkX rfl ?_
    | ((with_reducible refine r_nil ?_); subst hQ; (first | with_reducible refine endA_ret [] ?_ ?_ ?_ | with_reducible refine endA_nrm [] ?_ ?_ ?_); (focus rfl); (focus rfl); (simp only [go_sem, reduceIte, Int.reducePow, Nat.reduceEqDiff, Nat.reduceAdd, Nat.reduceLT, Nat.reduceLeDiff, Nat.reduceMul, Nat.reduceSub, Nat.reduceBEq, reduceCtorEq, Int.reduceEq, Int.reduceNe, Int.reduceLT, Int.reduceLE, Int.reduceAdd, Int.reduceSub, Int.reduceMul, Int.reduceToNat, Int.reduceBEq, Int.reduceBNe, Int.reduceGT, Int.reduceGE, Nat.reduceBNe, Nat.reduceGT, decide_true, decide_false, Bool.not_true, Bool.not_false, Int.reduceNeg, beq_true, beq_false, Bool.not_eq_false', takes, bytes_len, List.length_map, frz_ins, if_true]; try simp (disch := omega) only [wrap64]))
    | ((with_reducible refine wkEnd_same ?_); exact ⟨rfl, rfl⟩)
    | with_reducible refine r_backR ?_
    | with_reducible refine r_backE ?_
    | with_reducible refine r_nil ?_
    | with_reducible refine And.intro ?_ ?_
    | ((with_reducible apply sem_if); (case hb => rfl); all_goals (intro h; try simp only [decide_eq_true_eq, decide_eq_false_iff_not, beq_iff_eq, bne_iff_ne, ne_eq, Bool.not_eq_true', Bool.not_eq_false', beq_eq_false_iff_ne, bne_eq_false_iff_eq, Bool.and_eq_true, Bool.or_eq_true, Bool.or_eq_false_iff, Bool.not_eq_true, Bool.not_eq_false, Int.not_lt, Int.not_le, gt_iff_lt, ge_iff_le, bif_or, bif_and, Bool.and_true, Bool.and_false, Bool.true_and, Bool.false_and, Bool.or_true, Bool.or_false, Bool.true_or, Bool.false_or, Bool.true_eq_false, Bool.false_eq_true, Int.reduceEq, Int.reduceLT, Int.reduceLE, decide_true, decide_false, Bool.not_true, Bool.not_false, not_true_eq_false, not_false_eq_true, Bool.and_eq_false_iff, reduceCtorEq, Classical.not_not, not_and, imp_false, true_and, and_true, Bool.cond_true, Bool.cond_false, Int.reduceNeg] at h))
    | ((fail_if_success with_reducible refine i_call ?_); (fail_if_success with_reducible refine i_loop ?_); (fail_if_success with_reducible refine i_draw ?_); subst hk)
    | exact True.intro
    | exact fun hf => False.elim hf
    | (intro hg; simp +contextual [hg]; done)
    | (intro hg; (simp only [go_sem, reduceIte, Int.reducePow, Nat.reduceEqDiff, Nat.reduceAdd, Nat.reduceLT, Nat.reduceLeDiff, Nat.reduceMul, Nat.reduceSub, Nat.reduceBEq, reduceCtorEq, Int.reduceEq, Int.reduceNe, Int.reduceLT, Int.reduceLE, Int.reduceAdd, Int.reduceSub, Int.reduceMul, Int.reduceToNat, Int.reduceBEq, Int.reduceBNe, Int.reduceGT, Int.reduceGE, Nat.reduceBNe, Nat.reduceGT, decide_true, decide_false, Bool.not_true, Bool.not_false, Int.reduceNeg, beq_true, beq_false, Bool.not_eq_false', takes, bytes_len, List.length_map, frz_ins, if_true, hg]; try simp (disch := omega) only [wrap64]); (try simp only [decide_eq_true_eq, decide_eq_false_iff_not, beq_iff_eq, bne_iff_ne, ne_eq, Bool.not_eq_true', Bool.not_eq_false', beq_eq_false_iff_ne, bne_eq_false_iff_eq, Bool.and_eq_true, Bool.or_eq_true, Bool.or_eq_false_iff, Bool.not_eq_true, Bool.not_eq_false, Int.not_lt, Int.not_le, gt_iff_lt, ge_iff_le, bif_or, bif_and, Bool.and_true, Bool.and_false, Bool.true_and, Bool.false_and, Bool.or_true, Bool.or_false, Bool.true_or, Bool.false_or, Bool.true_eq_false, Bool.false_eq_true, Int.reduceEq, Int.reduceLT, Int.reduceLE, decide_true, decide_false, Bool.not_true, Bool.not_false, not_true_eq_false, not_false_eq_true, Bool.and_eq_false_iff, reduceCtorEq, Classical.not_not, not_and, imp_false, true_and, and_true, Bool.cond_true, Bool.cond_false, Int.reduceNeg] at hg))
    | omega
    | (simp only [List.length_append, List.length_cons, List.length_nil, List.length_map, List.length_singleton, List.length_set, List.length_take, List.length_drop, Nat.mul_one, Nat.one_mul] <;> omega))
  all_goals
    refine wkEnd_same ⟨?_, rfl⟩
    obtain ⟨s1, s2⟩ := sure_at l
    rw [ws_sure]
    simp [s1, s2]
    rfl
end Go.AM
