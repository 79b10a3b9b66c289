/- Verified lists can be joined and cut: the law. Conditions: none. -/
import Derived.Test.YtkafcijfljjlaabDoorAmPuK
set_option linter.unusedSimpArgs false
set_option linter.unusedVariables false
namespace Go.AM
open Go
def okRun : l12At → List Inst → Option l12At
  | s, [] => some s
  | s, i :: l => if 0 < wrongAt s i then none else okRun (nextV s i.Code) l
def okZ (s : l12At) : Prop := okS s ∧ (s = s0 ∨ 1 ≤ s.bits)
theorem okZ_next {s : l12At} {i : Inst} (hs : okZ s) (h : ¬ 0 < wrongAt s i) : okZ (nextV s i.Code) ∧ (i.Code = 11 → nextV s i.Code = s0) ∧ (i.Code ≠ 11 → 1 ≤ (nextV s i.Code).bits) := by
  have h' : wrongAt s i ≤ 0 := by omega
  have h1 := okS_next hs.1 h'
  obtain ⟨q1, q2, q3, q4⟩ := right_facts h'
  have h3 : i.Code ≠ 11 → 1 ≤ (nextV s i.Code).bits := by
    intro hc
    obtain ⟨⟨a, b, c, d⟩, e⟩ := hs
    unfold nextV behB
    unfold needs at q1
    rcases e with rfl | e
    · unfold s0 at *; grind
    · grind
  refine ⟨⟨h1, ?_⟩, fun hc => by unfold nextV; rw [if_pos hc]; rfl, h3⟩
  by_cases hc : i.Code = 11
  · left; unfold nextV; rw [if_pos hc]; rfl
  · exact .inr (h3 hc)
theorem s0_Z : okZ s0 := ⟨s0_ok, .inl rfl⟩
theorem check_run : ∀ (l : List Inst) (s : l12At) (k : Int), okZ s → ((checkFrom s k l).Code = 0 ↔ okRun s l = some s0)
  | [], s, k, hs => by
    rw [checkFrom, okRun]
    rcases hs.2 with rfl | h
    · simp [s0]
    · rw [if_pos (by omega)]
      constructor
      · intro h; cases h
      · intro e; injection e with e; rw [e] at h; unfold s0 at h; simp at h
  | i :: l, s, k, hs => by
    rw [checkFrom, okRun]
    split
    · rename_i h
      constructor
      · intro e; dsimp only at e; omega
      · intro e; cases e
    · rename_i h
      exact check_run l _ _ (okZ_next hs h).1
theorem check_zero : ∀ (l : List Inst) (s : l12At) (k : Int), (checkFrom s k l).Code = 0 → (checkFrom s k l).At = 0
  | [], s, k => by rw [checkFrom]; split <;> simp
  | i :: l, s, k => by
    rw [checkFrom]; split
    · intro e; dsimp only at e; omega
    · exact check_zero l _ _
theorem check_nn : ∀ (l : List Inst) (s : l12At) (k : Int), 0 ≤ (checkFrom s k l).Code
  | [], s, k => by rw [checkFrom]; split <;> simp
  | i :: l, s, k => by
    rw [checkFrom]; split
    · dsimp only; omega
    · exact check_nn l _ _
theorem sure_nn (l : List Inst) : 0 ≤ (sureCheck l).Code := by
  unfold sureCheck; split
  · simp
  · exact check_nn _ _ _
theorem ver_iff (l : List Inst) : verified l = true ↔ (sureCheck l).Code = 0 := by
  unfold verified
  constructor
  · intro h; simp at h; exact h.1
  · intro h
    have : (sureCheck l).At = 0 := by
      unfold sureCheck at h ⊢; split
      · rfl
      · rename_i q; rw [if_neg q] at h; exact check_zero _ _ _ h
    simp [h, this]
theorem sure_iff (l : List Inst) : (sureCheck l).Code = 0 ↔ l.length ≤ 1000 ∧ okRun s0 l = some s0 := by
  unfold sureCheck; split
  · simp; omega
  · rw [check_run _ _ _ s0_Z]; constructor
    · intro h; exact ⟨by omega, h⟩
    · intro h; exact h.2
theorem run_app : ∀ (l m : List Inst) (s : l12At), okRun s (l ++ m) = (okRun s l).bind fun t => okRun t m
  | [], m, s => rfl
  | i :: l, m, s => by
    simp only [List.cons_append, okRun]; split
    · rfl
    · exact run_app l m _
theorem rungs_one : ∀ (m acc : List Inst) (i : Inst), (∀ j ∈ m, j.Code ≠ 11) → i.Code = 11 → rungsFrom acc (m ++ [i]) = [acc ++ m ++ [i]]
  | [], acc, i, _, h => by simp [rungsFrom, h]
  | j :: m, acc, i, hm, h => by
    have hj := hm j (by simp)
    rw [List.cons_append, rungsFrom, if_neg hj, rungs_one m _ i (fun k hk => hm k (by simp [hk])) h]
    simp
theorem rungs_all : ∀ (l acc : List Inst) (s : l12At), okZ s → okRun s0 acc = some s → (∀ j ∈ acc, j.Code ≠ 11) → (s = s0 → acc = []) → okRun s l = some s0 →
    (∀ r ∈ rungsFrom acc l, okRun s0 r = some s0 ∧ rungsFrom [] r = [r]) ∧ (rungsFrom acc l).flatten = acc ++ l ∧ ∀ m, rungsFrom acc (l ++ m) = rungsFrom acc l ++ rungsFrom [] m
  | [], acc, s, hs, h1, h2, h3, h4 => by
    rw [okRun] at h4
    injection h4 with h4
    have := h3 h4; subst this
    exact ⟨fun r hr => by simp [rungsFrom] at hr, rfl, fun m => rfl⟩
  | i :: l, acc, s, hs, h1, h2, h3, h4 => by
    rw [okRun] at h4
    split at h4
    · cases h4
    · rename_i hw
      obtain ⟨z1, z2, z3⟩ := okZ_next hs hw
      have hrun : okRun s0 (acc ++ [i]) = some (nextV s i.Code) := by
        rw [run_app, h1]; show okRun s [i] = _; rw [okRun, if_neg hw]; rfl
      rw [rungsFrom]
      by_cases hc : i.Code = 11
      · rw [if_pos hc]
        have e := z2 hc
        rw [e] at h4 z1 hrun
        obtain ⟨r1, r2, r3⟩ := rungs_all l [] s0 z1 rfl (by simp) (fun _ => rfl) h4
        refine ⟨fun r hr => ?_, ?_, fun m => ?_⟩
        · rcases List.mem_cons.1 hr with rfl | hr
          · exact ⟨hrun, by have := rungs_one acc [] i h2 hc; simpa using this⟩
          · exact r1 r hr
        · rw [List.flatten_cons, r2]; simp
        · rw [List.cons_append, rungsFrom, if_pos hc, r3]; rfl
      · rw [if_neg hc]
        have hb := z3 hc
        obtain ⟨r1, r2, r3⟩ := rungs_all l (acc ++ [i]) _ z1 hrun (fun j hj => by
          rcases List.mem_append.1 hj with q | q
          · exact h2 j q
          · simp at q; subst q; exact hc) (fun e => by rw [e] at hb; unfold s0 at hb; simp at hb) h4
        refine ⟨r1, by rw [r2]; simp, fun m => ?_⟩
        rw [List.cons_append, rungsFrom, if_neg hc, r3]
theorem rungs_ok {l : List Inst} (h : okRun s0 l = some s0) : (∀ r ∈ rungsFrom [] l, okRun s0 r = some s0 ∧ rungsFrom [] r = [r]) ∧ (rungsFrom [] l).flatten = l ∧ ∀ m, rungsFrom [] (l ++ m) = rungsFrom [] l ++ rungsFrom [] m := by
  have := rungs_all l [] s0 s0_Z rfl (by simp) (fun _ => rfl) h
  simpa using this
theorem mem_flatten_len {α : Type} {L : List (List α)} {r : List α} (h : r ∈ L) : r.length ≤ L.flatten.length := by
  induction L with
  | nil => simp at h
  | cons a L ih =>
    rw [List.flatten_cons, List.length_append]
    rcases List.mem_cons.1 h with rfl | h
    · omega
    · have := ih h; omega
theorem DrawRungs_ok {bs : List Int} (h : ∀ y ∈ bs, 0 ≤ y ∧ y < 256) : OK (spec_DrawSureRungs bs) (fun l => okArgs l ∧ l.length ≤ 12000) := by
  unfold spec_DrawSureRungs
  refine OK.bind (l12Half_ok h) ?_
  intro l hl
  exact OK.mk ⟨fun i hi => by have := hl.2 i hi; omega, hl.1⟩
theorem law_SureJoin (xs ys : List Int) (hx : ∀ y ∈ xs, 0 ≤ y ∧ y < 256) (hy : ∀ y ∈ ys, 0 ≤ y ∧ y < 256) : laws_FnSureJoin xs ys = some true := by
  refine OK.eq ?_
  unfold laws_FnSureJoin
  refine OK.cond (fun _ => OK.mk rfl) (fun _ => ?_)
  refine OK.bind (DrawRungs_ok hx) ?_
  rintro a ⟨ha, ha2⟩
  refine OK.bind (DrawRungs_ok hy) ?_
  rintro b ⟨hb, hb2⟩
  rw [iSureRungs a ha (by omega), Option.bind_some, sSure a ha (by omega), Option.bind_some]
  by_cases hv : (sureCheck a).Code = 0
  · have hv2 := (ver_iff a).2 hv
    obtain ⟨al, ar⟩ := (sure_iff a).1 hv
    obtain ⟨R1, R2, R3⟩ := rungs_ok ar
    rw [if_pos hv2]
    have hrl := rungsFrom_len a []
    have sub : ∀ r ∈ rungsFrom [] a, okArgs r ∧ r.length ≤ 1000 := fun r hr => ⟨fun i hi => ha i (by rw [← R2]; exact List.mem_flatten.2 ⟨r, hr, hi⟩), by have := mem_flatten_len hr; rw [R2] at this; omega⟩
    refine OK.loop (Q := fun z : Unit ⊕ List Inst => z = .inr a) (fun z : List Inst × Int => 0 ≤ z.2 ∧ z.2 ≤ (rungsFrom [] a).length ∧ z.1 ++ ((rungsFrom [] a).drop z.2.toNat).flatten = a) (fun z => ((rungsFrom [] a).length - z.2).toNat) ?_ ?_ ?_
    · exact ⟨Int.le_refl _, by dsimp only; omega, by simpa using R2⟩
    · rintro ⟨o, i⟩ ⟨i0, i1, he⟩
      dsimp only at i0 i1 he
      simp only [laws_FnSureJoin_s25]
      refine OK.cond (fun hi => ?_) (fun hi => ?_)
      · simp only [decide_eq_true_eq] at hi
        have hm := getD_mem (l := rungsFrom [] a) (n := i.toNat) (by omega)
        obtain ⟨q1, q2⟩ := sub _ hm
        obtain ⟨p1, p2⟩ := R1 _ hm
        rw [idx_eq i0 hi, Option.bind_some, iSure _ q1 (by omega), Option.bind_some]
        have hz := (sure_iff _).2 ⟨q2, p1⟩
        rw [iSureRungs _ q1 (by omega), if_pos ((ver_iff _).2 hz), p2, hz]
        rw [drop_at i0 hi, List.flatten_cons, ← List.append_assoc] at he
        have hol : (o ++ (rungsFrom [] a).getD i.toNat default).length ≤ 1000 := by
          have := congrArg List.length he
          simp only [List.length_append] at this ⊢
          omega
        have e : IntKind.i64.wrap (i + 1) = i + 1 := w64 (by omega) (by omega)
        rw [e]
        refine OK.cond (fun hh => by simp at hh) (fun _ => ?_)
        rw [Option.bind_some]
        refine OK.cond (fun hh => by simp at hh) (fun _ => ?_)
        rw [Option.bind_some]
        refine OK.gd (apOk_of (by omega) (by omega)) ?_
        exact OK.mk ⟨⟨by dsimp only; omega, by dsimp only; omega, he⟩, by dsimp only; omega⟩
      · simp only [decide_eq_false_iff_not] at hi
        have : i = (rungsFrom [] a).length := by omega
        subst this
        rw [drop_end] at he
        simp at he
        subst he
        exact OK.mk rfl
    · rintro z rfl
      simp only [Sum.elim_inr, laws_FnSureJoin_j21]
      refine OK.cond (fun hh => by simp [hv] at hh) (fun _ => ?_)
      rw [iListSame a ha (by omega), Option.bind_some]
      refine OK.cond (fun hh => by simp at hh) (fun _ => ?_)
      rw [sSure b hb (by omega), Option.bind_some]
      have e : IntKind.i64.wrap ((a.length : Int) + b.length) = a.length + b.length := w64 (by omega) (by omega)
      rw [e]
      refine OK.cond (fun _ => OK.mk rfl) (fun hh => ?_)
      simp only [Bool.or_eq_false_iff, decide_eq_false_iff_not] at hh
      have hbc : (sureCheck b).Code = 0 := by have := sure_nn b; omega
      obtain ⟨bl, br⟩ := (sure_iff b).1 hbc
      have hab : okArgs (a ++ b) := fun i hi => by
        rcases List.mem_append.1 hi with q | q
        · exact ha i q
        · exact hb i q
      have hl : (a ++ b).length ≤ 1000 := by simp; omega
      have hrun : okRun s0 (a ++ b) = some s0 := by rw [run_app, ar]; exact br
      have hz := (sure_iff _).2 ⟨hl, hrun⟩
      refine OK.gd (apOk_of (by omega) (by omega)) (OK.gd (apOk_of (by omega) (by omega)) ?_)
      rw [iSure _ hab (by omega), Option.bind_some, hz]
      refine OK.cond (fun _ => ?_) (fun hh => by simp at hh)
      have hbl := rungsFrom_len b []
      rw [iSureRungs _ hab (by omega), if_pos ((ver_iff _).2 hz), Option.bind_some, iSureRungs b hb (by omega), if_pos ((ver_iff _).2 hbc), Option.bind_some, R3]
      have e : IntKind.i64.wrap (((rungsFrom [] a).length : Int) + (rungsFrom [] b).length) = (rungsFrom [] a).length + (rungsFrom [] b).length := w64 (by omega) (by omega)
      rw [e]
      exact OK.mk (by simp)
  · have hv2 : ¬ verified a = true := fun h => hv ((ver_iff a).1 h)
    rw [if_neg hv2]
    have hp : 0 < (sureCheck a).Code := by have := sure_nn a; omega
    have e : loop (laws_FnSureJoin_s25 []) ([], 0) = some (.inr []) := loop_out (by simp [laws_FnSureJoin_s25])
    rw [e, Option.bind_some]
    simp only [Sum.elim_inr, laws_FnSureJoin_j21]
    refine OK.cond (fun _ => ?_) (fun hh => by simp at hh; exact absurd hh hv)
    rw [iSure a ha (by omega), Option.bind_some]
    refine OK.cond (fun _ => OK.mk (by simpa using hp)) (fun hh => by simp at hh)
end Go.AM
