/- The optimiser keeps edges, timers, counters and arithmetic steps. Conditions: none. -/
import Derived.Test.YtbmoclfnkefomaaDoorAmPuL
import Derived.Test.YtbmoclfnkefomaaDoorAmPuGd
set_option linter.unusedSimpArgs false
set_option linter.unusedVariables false
namespace Go.AM
open Go
def kp (op : Int) : Bool := ((op == 3) || (op == 4)) || (((op == 24) || ((decide (op ≥ 26)) && (decide (op ≤ 29)))) || ((decide (op ≥ 31)) && (decide (op ≤ 35))))
def keepI (i : Inst) : List Inst := if kp i.One_Op = true then [⟨10, i.One_Op, i.One_Args⟩] else []
def keepL (l : List Inst) : List Inst := l.flatMap keepI
theorem keepL_app (l m : List Inst) : keepL (l ++ m) = keepL l ++ keepL m := List.flatMap_append
theorem keepL_cons (i : Inst) (l : List Inst) : keepL (i :: l) = keepI i ++ keepL l := List.flatMap_cons
theorem keepI_no {i : Inst} (h : kp i.One_Op = false) : keepI i = [] := by rw [keepI, if_neg (by rw [h]; simp)]
theorem kp_of {op : Int} (h : op = 0 ∨ op = 1 ∨ op = 2 ∨ (5 ≤ op ∧ op ≤ 10) ∨ op = 21 ∨ op = 22 ∨ op = 23 ∨ op = 25 ∨ op = 30 ∨ op = 36 ∨ op = 37) : kp op = false := by
  unfold kp
  simp only [Bool.or_eq_false_iff, Bool.and_eq_false_iff, beq_eq_false_iff_ne, decide_eq_false_iff_not]
  omega
def Jk (i : Inst) : Prop := i.One_Args.length ≤ 1000 ∧ 1 ≤ i.Code ∧ i.Code ≤ 11 ∧ ((4 ≤ i.Code ∧ i.Code ≤ 9) → i.One_Op = 0) ∧ (i.Code ≤ 3 → 1 ≤ i.One_Op ∧ i.One_Op ≤ 10)
theorem take1H {α : Type} [Inhabited α] {l : List α} {i : Int} (h0 : 0 ≤ i) (h1 : i < l.length) {y : α} (hy : l.getD i.toNat default = y) : l.take (i + 1).toNat = l.take i.toNat ++ [y] := by
  have e : (i + 1).toNat = i.toNat + 1 := by omega
  have hlt : i.toNat < l.length := by omega
  rw [e, List.take_succ_eq_append_getElem hlt, ← hy, List.getD_eq_getElem?_getD, List.getElem?_eq_getElem hlt]
  rfl
theorem keepL_len (l : List Inst) : (keepL l).length ≤ l.length := by
  induction l with
  | nil => simp [keepL]
  | cons i l ih =>
    rw [keepL_cons, List.length_append, List.length_cons]
    have : (keepI i).length ≤ 1 := by unfold keepI; split <;> simp
    omega
theorem wpKeep_ok {l : List Inst} (hl : l.length ≤ 1000000) : laws_wpKeep l = some (keepL l) := by
  refine OK.eq ?_
  unfold laws_wpKeep
  refine OK.loop (Q := fun b => b = keepL l) (fun z : List Inst × Int => 0 ≤ z.2 ∧ z.2 ≤ l.length ∧ z.1 = keepL (l.take z.2.toNat)) (fun z => (l.length - z.2).toNat) ⟨Int.le_refl _, by dsimp only; omega, rfl⟩ ?_ ?_
  · rintro ⟨b, k⟩ ⟨h1, h2, h3⟩
    dsimp only at h1 h2 h3
    subst h3
    simp only [laws_wpKeep_s9]
    have hlen := keepL_len (l.take k.toNat)
    rw [List.length_take] at hlen
    refine OK.cond (fun hc => ?_) (fun hc => ?_)
    · simp only [decide_eq_true_eq] at hc
      have e : IntKind.i64.wrap (k + 1) = k + 1 := w64 (by omega) (by omega)
      refine OK.idx h1 hc fun i hi hid => ?_
      have ht : keepL (l.take (k + 1).toNat) = keepL (l.take k.toNat) ++ keepI i := by
        rw [take1H h1 hc hid, keepL_app, keepL_cons]; simp [keepL]
      have hcond : ∀ b, (((i.One_Op == 3) || (i.One_Op == 4)) || (((i.One_Op == 24) || ((decide (i.One_Op ≥ 26)) && (decide (i.One_Op ≤ 29)))) || ((decide (i.One_Op ≥ 31)) && (decide (i.One_Op ≤ 35))))) = b → kp i.One_Op = b := fun b h => h
      refine OK.cond (fun hk => ?_) (fun hk => ?_)
      · have hk := hcond _ hk
        refine OK.idx h1 hc fun j hj hjd => ?_
        obtain rfl : j = i := by rw [← hid, ← hjd]
        have hki : keepI j = [⟨10, j.One_Op, j.One_Args⟩] := by rw [keepI, if_pos hk]
        refine OK.gd (apOk_of (by simp; omega) (by simp; omega)) ?_
        simp only [laws_wpKeep_j16]
        rw [e]
        exact OK.mk ⟨⟨by dsimp only; omega, by dsimp only; omega, by dsimp only; rw [ht, hki]⟩, by dsimp only; omega⟩
      · have hk := hcond _ hk
        simp only [laws_wpKeep_j16]
        rw [e]
        exact OK.mk ⟨⟨by dsimp only; omega, by dsimp only; omega, by dsimp only; rw [ht, keepI_no hk, List.append_nil]⟩, by dsimp only; omega⟩
    · simp only [decide_eq_false_iff_not] at hc
      refine OK.mk (show _ = keepL l from ?_)
      rw [List.take_of_length_le (by omega)]
  · rintro b rfl
    simp only [laws_wpKeep_j5]
    exact OK.mk rfl
theorem contact_facts {o : Int} {l : List DevArg} (h : isContact o l = true) : 1 ≤ o ∧ o ≤ 10 ∧ 1 ≤ l.length ∧ (3 ≤ o → o ≠ 3 → o ≠ 4 → 2 ≤ l.length) := by
  unfold isContact at h
  simp only [Bool.and_eq_true, decide_eq_true_eq, beq_iff_eq] at h
  obtain ⟨⟨⟨h1, h2⟩, h3⟩, _⟩ := h
  have := arity_facts o
  refine ⟨h1, h2, by have := this.1 h1 h2; omega, fun q _ _ => ?_⟩
  have := this.2.2.1 q h2
  omega
theorem iWholes (e : Elem) (hl : e.Args.length ≤ 1000000) : impl_Elem_wholes e = some (isContact e.Op e.Args && (decide (5 ≤ e.Op) && decide (e.Op ≤ 10)) && e.Args.all isWhole) := by
  unfold impl_Elem_wholes
  rw [iContact e hl, Option.bind_some, iIn, Option.bind_some, iAllW _ hl]
  cases isContact e.Op e.Args <;> cases (decide (5 ≤ e.Op) && decide (e.Op ≤ 10)) <;> rfl
theorem wcmp_ok (a b c : Int) : OK (impl_WholeCmp a b c) (fun _ => True) := by
  unfold impl_WholeCmp impl_test_int16
  refine OK.bind (Q := fun _ => True) ?_ (fun _ _ => OK.mk trivial)
  repeat' (first | exact OK.mk trivial | refine OK.cond (fun _ => ?_) (fun _ => ?_))
theorem pSure_ok (e : Elem) (hl : e.Args.length ≤ 1000) : OK (impl_PeepSure e) (fun x => x = 1 ∨ x = -1 → kp e.Op = false) := by
  have j5 : ∀ b, kp e.Op = false → OK (impl_PeepSure_j5 b) (fun x => x = 1 ∨ x = -1 → kp e.Op = false) := by
    intro b hb
    simp only [impl_PeepSure_j5]
    exact OK.cond (fun _ => OK.mk fun _ => hb) (fun _ => OK.mk fun _ => hb)
  unfold impl_PeepSure
  rw [iContact e (by omega), Option.bind_some]
  refine OK.cond (fun _ => OK.mk (by rintro (h | h) <;> simp at h)) (fun hc => ?_)
  simp only [Bool.not_eq_false'] at hc
  obtain ⟨o1, o2, o3, o4⟩ := contact_facts hc
  have j21 : ∀ b, 5 ≤ e.Op → OK (impl_PeepSure_j21 e b) (fun x => x = 1 ∨ x = -1 → kp e.Op = false) := by
    intro b hb
    have hk : kp e.Op = false := kp_of (by omega)
    simp only [impl_PeepSure_j21]
    refine OK.cond (fun _ => ?_) (fun _ => OK.mk (by rintro (h | h) <;> simp at h))
    refine OK.idx (by omega) (by omega) fun _ _ _ => OK.idx (by omega) (by have := o4 (by omega) (by omega) (by omega); omega) fun _ _ _ => ?_
    exact OK.bind (wcmp_ok _ _ _) fun b _ => j5 b hk
  have j17 : ∀ b, (b = true → 5 ≤ e.Op) → OK (impl_PeepSure_j17 e b) (fun x => x = 1 ∨ x = -1 → kp e.Op = false) := by
    intro b hb
    simp only [impl_PeepSure_j17]
    refine OK.cond (fun q => ?_) (fun _ => ?_)
    · have hk : kp e.Op = false := kp_of (by have := hb q; omega)
      exact OK.bind (wcmp_ok _ _ _) fun b _ => j5 b hk
    · rw [iWholes e (by omega), Option.bind_some]
      refine OK.cond (fun q => ?_) (fun q => ?_)
      · simp only [Bool.and_eq_true, decide_eq_true_eq] at q
        refine OK.idx (by omega) (by omega) fun _ _ _ => ?_
        refine OK.cond (fun _ => ?_) (fun _ => j21 _ q.1.2.1)
        exact OK.idx (by omega) (by have := o4 (by omega) (by omega) (by omega); omega) fun _ _ _ => j21 _ q.1.2.1
      · simp only [impl_PeepSure_j21]
        exact OK.cond (fun h => by cases h) (fun _ => OK.mk (by rintro (h | h) <;> simp at h))
  have j13 : ∀ b, (b = true → e.Op = 1 ∨ e.Op = 2) → OK (impl_PeepSure_j13 e b) (fun x => x = 1 ∨ x = -1 → kp e.Op = false) := by
    intro b hb
    simp only [impl_PeepSure_j13]
    refine OK.cond (fun q => ?_) (fun _ => ?_)
    · have hk : kp e.Op = false := kp_of (by have := hb q; omega)
      exact OK.idx (by omega) (by omega) fun _ _ _ => j5 _ hk
    · rw [iWholes e (by omega), Option.bind_some]
      refine OK.cond (fun q => ?_) (fun q => j17 _ (fun h => by cases h))
      simp only [Bool.and_eq_true, decide_eq_true_eq] at q
      exact OK.idx (by omega) (by omega) fun _ _ _ => OK.idx (by omega) (by have := o4 (by omega) (by omega) (by omega); omega) fun _ _ _ => j17 _ (fun _ => q.1.2.1)
  refine OK.cond (fun q => ?_) (fun _ => ?_)
  · simp only [beq_iff_eq] at q
    exact OK.idx (by omega) (by omega) fun _ _ _ => OK.cond (fun _ => j13 _ fun _ => .inl q) (fun _ => j13 _ fun _ => .inl q)
  · refine OK.cond (fun q => ?_) (fun _ => j13 _ (fun h => by cases h))
    simp only [beq_iff_eq] at q
    exact OK.idx (by omega) (by omega) fun _ _ _ => OK.cond (fun _ => j13 _ fun _ => .inr q) (fun _ => j13 _ fun _ => .inr q)
theorem flip_ok {o : Int} (h1 : 5 ≤ o) (h2 : o ≤ 10) : OK (impl_CmpFlip (IntKind.i64.wrap (IntKind.i64.wrap (o - 5) + 1))) (fun f => 1 ≤ f ∧ f ≤ 6) := by
  have ho : o = 5 ∨ o = 6 ∨ o = 7 ∨ o = 8 ∨ o = 9 ∨ o = 10 := by omega
  rw [w64 (n := o - 5) (by omega) (by omega), w64 (by omega) (by omega)]
  unfold impl_CmpFlip impl_isCmp
  rw [iIn, Option.bind_some, Option.bind_some]
  refine OK.cond (fun q => ?_) (fun _ => ?_)
  · simp only [Bool.not_eq_true', Bool.and_eq_false_iff, decide_eq_false_iff_not] at q; omega
  · refine OK.idx (by omega) (by show _ < ((pt_cmpFlips.length : Nat) : Int); simp [pt_cmpFlips]; omega) fun f hf hfd => OK.mk ?_
    rcases ho with rfl | rfl | rfl | rfl | rfl | rfl <;> (subst hfd; decide)
theorem turn_ok (e : Elem) (hl : e.Args.length ≤ 1000) : OK (impl_PeepTurn e) (fun x => x.2 = true → kp e.Op = false ∧ kp x.1.Op = false ∧ x.1.Args.length ≤ 1000 ∧ 1 ≤ x.1.Op ∧ x.1.Op ≤ 10) := by
  unfold impl_PeepTurn
  rw [iCopyE e (by omega), Option.bind_some, iContact e (by omega), Option.bind_some]
  refine OK.cond (fun _ => OK.mk fun h => by cases h) (fun _ => ?_)
  have fin : ∀ o, kp e.Op = false → kp o = false → 1 ≤ o → o ≤ 10 → OK (impl_PeepTurn_j5 e o) (fun x => x.2 = true → kp e.Op = false ∧ kp x.1.Op = false ∧ x.1.Args.length ≤ 1000 ∧ 1 ≤ x.1.Op ∧ x.1.Op ≤ 10) := by
    intro o h1 h2 h3 h4
    simp only [impl_PeepTurn_j5]
    exact OK.mk fun _ => ⟨h1, h2, hl, h3, h4⟩
  refine OK.cond (fun q => ?_) (fun _ => OK.cond (fun q => ?_) (fun _ => ?_))
  · simp only [beq_iff_eq] at q
    exact fin 2 (kp_of (by omega)) rfl (by omega) (by omega)
  · simp only [beq_iff_eq] at q
    exact fin 1 (kp_of (by omega)) rfl (by omega) (by omega)
  · rw [iWholes e (by omega), Option.bind_some]
    refine OK.cond (fun q => ?_) (fun _ => OK.mk fun h => by cases h)
    simp only [Bool.and_eq_true, decide_eq_true_eq] at q
    refine OK.bind (flip_ok q.1.2.1 q.1.2.2) ?_
    rintro f ⟨f1, f2⟩
    rw [w64 (n := f - 1) (by omega) (by omega), w64 (by omega) (by omega)]
    exact fin _ (kp_of (by omega)) (kp_of (by omega)) (by omega) (by omega)
theorem eqArgs_ok (l m : List DevArg) (hl : l.length ≤ 1000000) : OK (slices_Equal_impl_DevArg_impl_DevArg l m) (fun _ => True) := by
  unfold slices_Equal_impl_DevArg_impl_DevArg
  refine OK.cond (fun _ => OK.mk trivial) (fun hc => ?_)
  simp only [bne_eq_false_iff_eq] at hc
  refine OK.loop (Q := fun _ => True) (fun i : Int => 0 ≤ i ∧ i ≤ l.length) (fun i => (l.length - i).toNat) ⟨Int.le_refl _, by omega⟩ ?_ ?_
  · rintro i ⟨i0, i1⟩
    simp only [slices_Equal_impl_DevArg_impl_DevArg_s15]
    refine OK.cond (fun hi => ?_) (fun _ => OK.mk trivial)
    simp only [decide_eq_true_eq] at hi
    refine OK.idx i0 hi fun _ _ _ => OK.idx i0 (by omega) fun _ _ _ => ?_
    refine OK.cond (fun _ => OK.mk trivial) (fun _ => ?_)
    rw [w64 (n := i + 1) (by omega) (by omega)]
    exact OK.mk ⟨⟨by omega, by omega⟩, by omega⟩
  · rintro (_ | _) _
    · exact OK.mk trivial
    · exact OK.mk trivial
theorem same_ok (a b : Elem) (hl : a.Args.length ≤ 1000000) : OK (impl_elemSame a b) (fun r => r = true → a.Op = b.Op) := by
  unfold impl_elemSame
  refine OK.cond (fun q => ?_) (fun _ => OK.mk fun h => by cases h)
  simp only [beq_iff_eq] at q
  exact OK.bind (eqArgs_ok _ _ hl) fun _ _ => OK.mk fun _ => q
theorem once_ok {o : Int} (h : pt_once.contains o = true) : kp o = false := by
  refine kp_of ?_
  simp only [pt_once, List.contains_eq_mem, List.mem_cons, List.not_mem_nil, or_false, decide_eq_true_eq] at h
  omega
/-- What takes the place of two. -/
def Q2 (v : Inst) (c o : Int) (a : List DevArg) (x : List Inst × Int) : Prop := x.2 = -1 ∨ (c ≠ 0 ∧ x.2 = 2 ∧ x.1.length ≤ 1 ∧ keepL x.1 = keepL [v, ⟨c, o, a⟩] ∧ (∀ i ∈ x.1, Jk i) ∧ v.Code ≠ 11 ∧ c ≠ 11)
section
variable {v : Inst} {c o : Int} {a : List DevArg}
theorem keep2 {v w : Inst} : keepL [v, w] = keepI v ++ keepI w := by simp [keepL]
theorem keep1 {v : Inst} : keepL [v] = keepI v := by simp [keepL]
theorem q2_108 (hv : Jk v) (b : Bool) (hb : b = true → c ≠ 0 ∧ c ≠ 11 ∧ v.Code ≠ 11 ∧ kp v.One_Op = false ∧ kp o = false) : OK (impl_shorter_j108 v b) (Q2 v c o a) := by
  simp only [impl_shorter_j108]
  refine OK.cond (fun q => OK.mk (.inr ?_)) (fun _ => OK.mk (.inl rfl))
  obtain ⟨h1, h2, h3, h4, h5⟩ := hb q
  exact ⟨h1, rfl, by simp, by rw [keep1, keep2, keepI_no h4, keepI_no (i := ⟨c, o, a⟩) h5]; rfl, fun i hi => by simp at hi; subst hi; exact hv, h3, h2⟩
theorem q2_102 (hv : Jk v) (ha : a.length ≤ 1000) (b : Bool) (hb : b = true → c ≠ 0 ∧ c ≠ 11 ∧ v.Code ≠ 11 ∧ kp v.One_Op = false ∧ kp o = false) : OK (impl_shorter_j102 v c o a b) (Q2 v c o a) := by
  simp only [impl_shorter_j102]
  refine OK.cond (fun q => ?_) (fun _ => ?_)
  · obtain ⟨h1, h2, h3, h4, h5⟩ := hb q
    exact OK.mk (.inr ⟨h1, rfl, by simp, by rw [keep1, keep2, keepI_no h4, keepI_no (i := ⟨c, o, a⟩) h5]; rfl, fun i hi => by simp at hi; subst hi; exact hv, h3, h2⟩)
  · refine OK.cond (fun q1 => ?_) (fun _ => q2_108 hv false (fun h => by cases h))
    refine OK.cond (fun q2 => ?_) (fun _ => q2_108 hv false (fun h => by cases h))
    simp only [beq_iff_eq] at q1 q2
    refine OK.bind (same_ok _ _ (by have := hv.1; dsimp only; omega)) ?_
    intro r hr
    refine OK.cond (fun q3 => ?_) (fun _ => q2_108 hv false (fun h => by cases h))
    have he : v.One_Op = o := hr q3
    rw [iContains _ _ (by simp [pt_once]), Option.bind_some]
    exact q2_108 hv _ fun h => ⟨by omega, by omega, by omega, once_ok h, by rw [← he]; exact once_ok h⟩
theorem q2_96 (hv : Jk v) (hw : c ≠ 0 → Jk ⟨c, o, a⟩) (ha : a.length ≤ 1000) (b1 b2 : Bool) (h1 : b1 = true → c = 2 ∨ c = 3) (h2 : b2 = true → (c = 2 ∨ c = 3) ∧ v.Code = 1 ∧ kp v.One_Op = false) : OK (impl_shorter_j96 v c o a (b1, b2)) (Q2 v c o a) := by
  simp only [impl_shorter_j96]
  refine OK.cond (fun q => ?_) (fun _ => ?_)
  · obtain ⟨g1, g2, g3⟩ := h2 q
    obtain ⟨w1, w2, w3, w4, w5⟩ := hw (by omega)
    dsimp only at w1 w2 w3 w4 w5
    refine OK.mk (.inr ⟨by omega, rfl, by simp, ?_, fun i hi => ?_, by omega, by omega⟩)
    · rw [keep1, keep2, keepI_no g3]; rfl
    · simp at hi; subst hi
      exact ⟨w1, by show (1 : Int) ≤ 1; omega, by show (1 : Int) ≤ 11; omega, fun h => (by have : (4 : Int) ≤ 1 := h.1; omega), fun _ => w5 (by omega)⟩
  · rw [iIn, Option.bind_some]
    refine OK.cond (fun q => ?_) (fun _ => q2_102 hv ha false (fun h => by cases h))
    simp only [Bool.and_eq_true, decide_eq_true_eq] at q
    refine OK.cond (fun q1 => ?_) (fun _ => q2_102 hv ha false (fun h => by cases h))
    refine OK.bind (same_ok _ _ (by have := hv.1; dsimp only; omega)) ?_
    intro r hr
    refine q2_102 hv ha _ fun h => ?_
    simp only [Bool.and_eq_true, bne_iff_ne, ne_eq] at h
    have he : v.One_Op = o := hr h.1.1.1
    have hvo := hv.2.2.2.2 q.2
    have hk : kp v.One_Op = false := kp_of (by omega)
    exact ⟨by have := h1 q1; omega, by have := h1 q1; omega, by omega, hk, by rw [← he]; exact hk⟩
theorem q2_80 (hv : Jk v) (hw : c ≠ 0 → Jk ⟨c, o, a⟩) (ha : a.length ≤ 1000) : OK (impl_shorter_j80 v c o a ()) (Q2 v c o a) := by
  simp only [impl_shorter_j80]
  have hlk : ((c == 2) || (c == 3)) = true → c = 2 ∨ c = 3 := fun h => by simpa using h
  refine OK.cond (fun q => ?_) (fun _ => q2_96 hv hw ha _ _ hlk (fun h => by cases h))
  simp only [beq_iff_eq] at q
  refine OK.bind (pSure_ok _ hv.1) ?_
  intro s hs
  dsimp only at hs
  refine OK.cond (fun q1 => ?_) (fun _ => ?_)
  · simp only [beq_iff_eq] at q1
    refine OK.cond (fun q2 => ?_) (fun _ => ?_)
    · simp only [beq_iff_eq] at q2
      exact q2_96 hv hw ha _ _ (fun _ => .inl q2) (fun _ => ⟨.inl q2, q, hs (.inl q1)⟩)
    · refine q2_96 hv hw ha _ _ (fun h => .inr (by simpa using h)) (fun h => ?_)
      simp only [Bool.and_eq_true, beq_iff_eq] at h
      exact ⟨.inr h.2, q, hs (.inr h.1)⟩
  · refine q2_96 hv hw ha _ _ hlk (fun h => ?_)
    simp only [Bool.and_eq_true, beq_iff_eq] at h
    exact ⟨.inr h.2, q, hs (.inr h.1)⟩
theorem q2_51 (hv : Jk v) (hw : c ≠ 0 → Jk ⟨c, o, a⟩) (ha : a.length ≤ 1000) : OK (impl_shorter_j51 v (c, o, a)) (Q2 v c o a) := by
  simp only [impl_shorter_j51]
  have hnew : ∀ k : Int, 1 ≤ k → k ≤ 3 → v.Code = 1 → (c = 4 ∨ c = 5) → Q2 v c o a ([⟨k, v.One_Op, v.One_Args⟩], 2) := by
    intro k k1 k2 h1 h2
    have hw := hw (by omega)
    have hwo : o = 0 := hw.2.2.2.1 ⟨by show 4 ≤ c; omega, by show c ≤ 9; omega⟩
    refine .inr ⟨by omega, rfl, by simp, ?_, fun i hi => ?_, by omega, by omega⟩
    · rw [keep1, keep2, keepI_no (i := ⟨c, o, a⟩) (kp_of (by dsimp only; omega)), List.append_nil]; rfl
    · simp at hi; subst hi
      exact ⟨hv.1, k1, (by show k ≤ 11; omega), fun h => (by have : 4 ≤ k := h.1; omega), fun _ => hv.2.2.2.2 (by omega)⟩
  refine OK.cond (fun q => ?_) (fun _ => ?_)
  · simp only [Bool.and_eq_true, beq_iff_eq] at q
    have h1 : v.One_Op = 0 := hv.2.2.2.1 ⟨by omega, by omega⟩
    have h2 : o = 0 := (hw (by omega)).2.2.2.1 ⟨by show 4 ≤ c; omega, by show c ≤ 9; omega⟩
    exact OK.mk (.inr ⟨by omega, rfl, by simp, by rw [keep2, keepI_no (i := v) (kp_of (by omega)), keepI_no (i := ⟨c, o, a⟩) (kp_of (by dsimp only; omega))]; rfl, fun i hi => (by cases hi), by omega, by omega⟩)
  refine OK.cond (fun q => ?_) (fun _ => ?_)
  · simp only [Bool.and_eq_true, beq_iff_eq] at q
    exact OK.mk (hnew 2 (by omega) (by omega) q.1 (.inl q.2))
  refine OK.cond (fun q => ?_) (fun _ => ?_)
  · simp only [Bool.and_eq_true, beq_iff_eq] at q
    exact OK.mk (hnew 3 (by omega) (by omega) q.1 (.inr q.2))
  refine OK.cond (fun q => ?_) (fun _ => q2_80 hv hw ha)
  simp only [Bool.and_eq_true, beq_iff_eq] at q
  refine OK.bind (turn_ok _ hv.1) ?_
  rintro ⟨e, f⟩ he
  refine OK.cond (fun q1 => OK.mk (.inr ?_)) (fun _ => q2_80 hv hw ha)
  obtain ⟨e1, e2, e3, e4, e5⟩ := he q1
  have h2 : o = 0 := (hw (by omega)).2.2.2.1 ⟨by show 4 ≤ c; omega, by show c ≤ 9; omega⟩
  refine ⟨by omega, rfl, by simp, ?_, fun i hi => ?_, by omega, by omega⟩
  · rw [keep1, keep2, keepI_no (i := v) e1, keepI_no (i := ⟨c, o, a⟩) (kp_of (by dsimp only; omega)), keepI_no (i := ⟨1, e.Op, e.Args⟩) e2]; rfl
  · simp at hi; subst hi
    exact ⟨e3, (by show (1 : Int) ≤ 1; omega), (by show (1 : Int) ≤ 11; omega), fun h => (by have : (4 : Int) ≤ 1 := h.1; omega), fun _ => ⟨e4, e5⟩⟩
end
end Go.AM
