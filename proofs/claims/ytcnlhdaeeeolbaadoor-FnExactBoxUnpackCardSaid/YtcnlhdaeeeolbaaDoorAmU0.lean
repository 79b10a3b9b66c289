/- Several texts in one. Conditions: none. -/
import Derived.Test.YtcnlhdaeeeolbaaDoorAmB6
import Derived.Test.YtcnlhdaeeeolbaaDoorAmQa2
set_option linter.unusedSimpArgs false
set_option linter.unusedVariables false
section
/- Pure programs that end well: rules. Conditions: none. -/
namespace Go.AM
open Go
def OK {α : Type} (o : Option α) (P : α → Prop) : Prop := ∃ x, o = some x ∧ P x
section
variable {α β : Type} {P : α → Prop} {Q : β → Prop}
theorem OK.mk {x : α} (h : P x) : OK (some x) P := ⟨x, rfl, h⟩
theorem OK.bind {o : Option β} {k : β → Option α} (h : OK o Q) (hk : ∀ x, Q x → OK (k x) P) : OK (o.bind k) P := by
  obtain ⟨x, rfl, hx⟩ := h
  exact hk x hx
theorem OK.cond {b : Bool} {x y : Option α} (h1 : b = true → OK x P) (h2 : b = false → OK y P) : OK (cond b x y) P := by
  cases b
  · exact h2 rfl
  · exact h1 rfl
theorem OK.gd {b : Bool} {k : Option α} (hb : b = true) (h : OK k P) : OK (gd b k) P := by subst hb; exact h
theorem OK.idx [Inhabited β] {l : List β} {i : Int} {k : β → Option α} (h0 : 0 ≤ i) (h1 : i < l.length) (h : ∀ x, x ∈ l → l.getD i.toNat default = x → OK (k x) P) : OK ((idx l i).bind k) P := by
  have hn : i.toNat < l.length := by omega
  have e : Go.AM.idx l i = some (l.getD i.toNat default) := by unfold Go.AM.idx; simp [h0, h1]
  rw [e]
  refine h _ ?_ rfl
  simp [List.getD, hn]
theorem OK.prt {l : List β} {a b : Int} {k : List β → Option α} (h0 : 0 ≤ a) (h1 : a ≤ b) (h2 : b ≤ l.length) (h : OK (k ((l.take b.toNat).drop a.toNat)) P) : OK ((prt l a b).bind k) P := by
  have e : Go.AM.prt l a b = some ((l.take b.toNat).drop a.toNat) := by unfold Go.AM.prt; simp [h0, h1, h2]
  rw [e]; exact h
theorem OK.prtH {l : List β} {b : Int} {k : List β → Option α} (h1 : 0 ≤ b) (h2 : b ≤ l.length) (h : OK (k (l.take b.toNat)) P) : OK ((prtH l b).bind k) P := by
  have e : Go.AM.prtH l b = some (l.take b.toNat) := by unfold Go.AM.prtH; simp [h1, h2]
  rw [e]; exact h
theorem OK.prtL {l : List β} {b : Int} {k : List β → Option α} (h1 : 0 ≤ b) (h2 : b ≤ l.length) (h : OK (k (l.drop b.toNat)) P) : OK ((prtL l b).bind k) P := by
  have e : Go.AM.prtL l b = some (l.drop b.toNat) := by unfold Go.AM.prtL; simp [h1, h2]
  rw [e]; exact h
theorem OK.loop {γ : Type} {f : γ → Option (γ ⊕ β)} {k : β → Option α} (I : γ → Prop) (μ : γ → Nat) {a : γ} (h0 : I a) (h : ∀ a, I a → OK (f a) (Sum.elim (fun a' => I a' ∧ μ a' < μ a) Q)) (hk : ∀ x, Q x → OK (k x) P) : OK ((loop f a).bind k) P := by
  refine OK.bind (Q := Q) ?_ hk
  refine loop_inv I μ Q (fun a ha => ?_) a h0
  obtain ⟨x, e, hx⟩ := h a ha
  cases x with
  | inl a' => exact .inl ⟨a', e, hx⟩
  | inr b => exact .inr ⟨b, e, hx⟩
theorem OK.eq {o : Option α} {x : α} (h : OK o (fun y => y = x)) : o = some x := by
  obtain ⟨y, e, rfl⟩ := h; exact e
end
theorem apOk_of {n b : Nat} (h1 : n * b ≤ 140737488355328) (h2 : n ≤ 140737488355328) : apOk n b = true := by simp [apOk, h1, h2]
theorem mkOk_of {l m : Int} {b : Nat} (h0 : 0 ≤ l) (h1 : l ≤ m) (h2 : b * m ≤ 281474976710656) (h3 : m ≤ 9223372036854775807) : mkOk l m b = true := by simp [mkOk, h0, h1, h2, h3]
theorem w64 {n : Int} (h1 : -9223372036854775808 ≤ n) (h2 : n ≤ 9223372036854775807) : IntKind.i64.wrap n = n := wrap64 h1 h2
theorem getD_mem {α : Type} [Inhabited α] {l : List α} {n : Nat} (h : n < l.length) : l.getD n default ∈ l := by
  simp [List.getD, h]
theorem idx_eq {α : Type} [Inhabited α] {l : List α} {i : Int} (h0 : 0 ≤ i) (h1 : i < l.length) : idx l i = some (l.getD i.toNat default) := by
  unfold idx; simp [h0, h1]
end Go.AM
end
section
/- The draws end well. Conditions: none. -/
namespace Go.AM
open Go
end Go.AM
end
section
/- Copies of lists and lists that are the same. Conditions: none. -/
namespace Go.AM
open Go
def okArgs (l : List Inst) : Prop := ∀ i ∈ l, i.One_Args.length ≤ 1000
theorem iClone (l : List DevArg) (h : l.length ≤ 100000) : impl_clone_impl_DevArg l = some l := by
  unfold impl_clone_impl_DevArg slices_Clone_impl_DevArg_impl_DevArg slices_Clip_impl_DevArg_impl_DevArg
  have e1 : nilq l (fun v2 => cond v2 (some []) (gd (apOk l.length 24) (some l))) = some l := by
    refine nilq_eq ?_ ?_
    · rw [apOk_of (by omega) (by omega)]; rfl
    · rintro rfl; rfl
  have e2 : prtH l l.length = some l := by unfold prtH; simp
  rw [e1, Option.bind_some]
  first | (rw [e2]; rfl) | simp [gd]
theorem iCopyE (e : Elem) (h : e.Args.length ≤ 100000) : impl_Elem_copyOf e = some e := by
  unfold impl_Elem_copyOf; rw [iClone _ h]; rfl
theorem take_set {α : Type} [Inhabited α] {o l : List α} {i : Nat} (h1 : i < o.length) (h2 : i < l.length) (h : o.take i = l.take i) : (o.set i (l.getD i default)).take (i + 1) = l.take (i + 1) := by
  rw [List.take_succ_eq_append_getElem (by simpa using h1), List.take_set, h, List.set_eq_of_length_le (by simp; omega), List.take_succ_eq_append_getElem h2]
  simp [List.getD, h2]
theorem iCopyList (l : List Inst) (hl : okArgs l) (hl2 : l.length ≤ 1000000) : impl_copyList l = some l := by
  refine OK.eq ?_
  unfold impl_copyList
  refine OK.gd (mkOk_of (by omega) (Int.le_refl _) (by omega) (by omega)) ?_
  refine OK.loop (Q := fun b : List Inst => b = l) (fun z : List Inst × Int => 0 ≤ z.2 ∧ z.2 ≤ l.length ∧ z.1.length = l.length ∧ z.1.take z.2.toNat = l.take z.2.toNat) (fun z => (l.length - z.2).toNat) ?_ ?_ ?_
  · exact ⟨Int.le_refl _, by dsimp only; omega, by simp, by simp⟩
  · rintro ⟨o, i⟩ ⟨i0, i1, ho, he⟩
    dsimp only at i0 i1 ho he
    simp only [impl_copyList_s9]
    refine OK.cond (fun hi => ?_) (fun hi => ?_)
    · simp only [decide_eq_true_eq] at hi
      have hm := getD_mem (l := l) (n := i.toNat) (by omega)
      have hh := hl _ hm
      first
        | rw [idx_eq (l := l) i0 hi, Option.bind_some, iCopyE _ (by dsimp only; omega), Option.bind_some, idx_eq (l := o) i0 (by omega), Option.bind_some]
        | rw [idx_eq (l := o) i0 (by omega), Option.bind_some, idx_eq (l := l) i0 hi, Option.bind_some, iCopyE _ (by dsimp only; omega), Option.bind_some, Option.bind_some]
      have e : IntKind.i64.wrap (i + 1) = i + 1 := w64 (by omega) (by omega)
      rw [e]
      refine OK.mk ⟨⟨by dsimp only; omega, by dsimp only; omega, by simpa using ho, ?_⟩, by dsimp only; omega⟩
      dsimp only
      rw [show (i + 1).toNat = i.toNat + 1 by omega]
      exact take_set (by omega) (by omega) he
    · simp only [decide_eq_false_iff_not] at hi
      have : i = l.length := by omega
      subst this
      refine OK.mk ?_
      show o = l
      simp at he
      rw [← he, List.take_of_length_le (by omega)]
  · rintro b rfl; exact OK.mk rfl
theorem same_loop' {n : Nat} {f : Int → Option (Int ⊕ (Unit ⊕ Unit))} (hn : n ≤ 1048576) (h : ∀ i : Int, 0 ≤ i → i < n → f i = some (.inl (IntKind.i64.wrap (i + 1)))) (he : f n = some (.inr (.inr ()))) :
    (loop f 0).bind (Sum.elim (fun _ => some false) (fun _ => some true)) = some true := by
  refine OK.eq ?_
  refine OK.loop (Q := fun b : Unit ⊕ Unit => b = .inr ()) (fun i : Int => 0 ≤ i ∧ i ≤ n) (fun i : Int => (n - i).toNat) ⟨Int.le_refl _, by omega⟩ ?_ ?_
  · rintro i ⟨i0, i1⟩
    by_cases hi : i < n
    · rw [h i i0 hi, w64 (by omega) (by omega)]
      exact OK.mk ⟨⟨by omega, by omega⟩, by omega⟩
    · have : i = n := by omega
      subst this
      rw [he]; exact OK.mk rfl
  · rintro b rfl; exact OK.mk rfl
end Go.AM
end
section
/- Ladders: sizes, what is wrong with them; loops through lists. Conditions: none. -/
namespace Go.AM
open Go
theorem w1 {k n : Nat} (h : k < n) (hn : n ≤ 1000000000) : IntKind.i64.wrap ((k : Int) + 1) = (k : Int) + 1 := w64 (by omega) (by omega)
end Go.AM
end
section
/- The draws end well: elements. Conditions: none. -/
namespace Go.AM
open Go
def okI (i : Inst) : Prop := i.One_Args.length ≤ 5
end Go.AM
end
section
/- The draws end well: lists. Conditions: none. -/
namespace Go.AM
open Go
end Go.AM
end
section
/- The draws end well: rungs and lists. Conditions: none. -/
namespace Go.AM
open Go
end Go.AM
end
section
/- The draws end well: drawn lists. Conditions: none. -/
namespace Go.AM
open Go
def okM (L : Nat) (l : List Inst) : Prop := l.length ≤ L ∧ ∀ i ∈ l, okI i
theorem okM.app {L M : Nat} {l m : List Inst} (h : okM L l) (h2 : okM M m) : okM (L + M) (l ++ m) := ⟨by have := h.1; have := h2.1; simp; omega, fun j hj => by
  rcases List.mem_append.1 hj with q | q
  · exact h.2 j q
  · exact h2.2 j q⟩
theorem okM.take {L : Nat} {l : List Inst} (h : okM L l) (n : Nat) : okM L (l.take n) := ⟨by have := h.1; simp; omega, fun j hj => h.2 j (List.mem_of_mem_take hj)⟩
theorem okM.drop {L : Nat} {l : List Inst} (h : okM L l) (n : Nat) : okM L (l.drop n) := ⟨by have := h.1; simp; omega, fun j hj => h.2 j (List.mem_of_mem_drop hj)⟩
theorem okM.set {L : Nat} {l : List Inst} (h : okM L l) (n : Nat) {i : Inst} (hi : okI i) : okM L (l.set n i) := ⟨by have := h.1; simp; omega, fun j hj => by
  rcases List.mem_or_eq_of_mem_set hj with q | rfl
  · exact h.2 j q
  · exact hi⟩
end Go.AM
end
section
/- The draws end well: spoilt lists. Conditions: none. -/
namespace Go.AM
open Go
def okW (L : Nat) (l : List Inst) : Prop := l.length ≤ L ∧ ∀ i ∈ l, i.One_Args.length ≤ 10
theorem okW.set {L : Nat} {l : List Inst} (h : okW L l) (n : Nat) {i : Inst} (hi : i.One_Args.length ≤ 10) : okW L (l.set n i) := ⟨by have := h.1; simp; omega, fun j hj => by
  rcases List.mem_or_eq_of_mem_set hj with q | rfl
  · exact h.2 j q
  · exact hi⟩
end Go.AM
end
section
/- What is ok: operands, contacts, coils, instructions; both packages say the same. Conditions: none. -/
namespace Go.AM
open Go
def devSz (k : Int) : Int := if k = 1 ∨ k = 2 ∨ k = 5 ∨ k = 9 then 32 else if k = 3 then 64 else if k = 4 ∨ k = 7 ∨ k = 8 ∨ k = 10 then 16 else if k = 6 then 5 else 0
def arity (n : Int) : Int := if n = 1 ∨ n = 2 ∨ n = 21 ∨ n = 22 ∨ n = 23 ∨ n = 25 then 1 else if n = 31 ∨ n = 32 ∨ n = 33 ∨ n = 34 ∨ n = 35 then 3 else if (1 ≤ n ∧ n ≤ 10) ∨ (21 ≤ n ∧ n ≤ 37) then 2 else 0
def devOk (d : DevArg) : Bool := if d.Kind = 11 then decide (-32768 ≤ d.N) && decide (d.N ≤ 32767) && (d.P == 0)
  else if d.Kind = 12 then decide (-999999999 ≤ d.N) && decide (d.N ≤ 999999999) && decide (1 ≤ d.P) && decide (d.P ≤ 6) && ((d.P == 1) || (d.N.tmod 10 != 0))
  else if d.Kind = 13 then decide (0 ≤ d.N) && decide (d.N ≤ 3) && (d.P == 0)
  else decide (0 ≤ d.N) && decide (d.N < devSz d.Kind) && (d.P == 0)
def isBit (d : DevArg) : Bool := devOk d && (decide (d.Kind ≤ 4) || (d.Kind == 6) || (d.Kind == 7) || (d.Kind == 8))
def isWhole (d : DevArg) : Bool := devOk d && ((d.Kind == 7) || (d.Kind == 8) || (d.Kind == 9) || (d.Kind == 11))
def isReal (d : DevArg) : Bool := devOk d && ((d.Kind == 10) || (d.Kind == 12) || (d.Kind == 13))
def kind2 (d : DevArg) (k o : Int) : Bool := devOk d && ((d.Kind == k) || (d.Kind == o))
def a0 (l : List DevArg) : DevArg := l.getD 0 default
def a1 (l : List DevArg) : DevArg := l.getD 1 default
def isContact (o : Int) (l : List DevArg) : Bool := decide (1 ≤ o) && decide (o ≤ 10) && ((l.length : Int) == arity o) &&
  (if o ≤ 2 then isBit (a0 l) else if o ≤ 4 then isBit (a0 l) && devOk (a1 l) && ((a1 l).Kind == 5) else (isWhole (a0 l) && isWhole (a1 l)) || (isReal (a0 l) && isReal (a1 l)))
def calcB (o : Int) (l : List DevArg) : Bool := kind2 (a0 l) 9 10 && (if (a0 l).Kind = 9 then l.tail.all isWhole else l.tail.all isReal && !(o == 35))
def isCoil (o : Int) (l : List DevArg) : Bool := decide (21 ≤ o) && decide (o ≤ 37) && ((l.length : Int) == arity o) &&
  (if o = 21 then kind2 (a0 l) 2 3 else if o = 22 then kind2 (a0 l) 2 3 || kind2 (a0 l) 4 4 else if o = 23 then kind2 (a0 l) 2 3 || kind2 (a0 l) 4 7 || kind2 (a0 l) 8 8
  else if o = 24 then kind2 (a0 l) 2 3 && kind2 (a1 l) 5 5 else if o = 25 then kind2 (a0 l) 4 4 else if o = 26 ∨ o = 27 ∨ o = 28 then kind2 (a0 l) 7 7 && kind2 (a1 l) 11 11 && decide (0 ≤ (a1 l).N)
  else if o = 29 then kind2 (a0 l) 8 8 && kind2 (a1 l) 11 11 && decide (0 ≤ (a1 l).N) else if o = 36 then kind2 (a0 l) 10 10 && isWhole (a1 l) else if o = 37 then kind2 (a0 l) 9 9 && isReal (a1 l) else calcB o l)
def listOk (i : Inst) : Bool := decide (1 ≤ i.Code) && decide (i.Code ≤ 11) && (if i.Code ≤ 3 then isContact i.One_Op i.One_Args else if i.Code = 10 then isCoil i.One_Op i.One_Args else (i.One_Op == 0) && ((i.One_Args.length : Int) == 0))
theorem sDevSize (k : Int) : spec_DevSize k = some (devSz k) := by
  unfold spec_DevSize spec_DevSize_j7 spec_DevSize_j31 devSz
  simp only [Bool.cond_eq_ite]
  grind
theorem sDevOk (d : DevArg) : spec_DevOk d = some (devOk d) := by
  unfold spec_DevOk devOk
  simp only [Bool.cond_eq_ite, sDevSize, Option.bind_some]
  grind
theorem sBit (d : DevArg) : spec_DevIsBit d = some (isBit d) := by
  unfold spec_DevIsBit isBit; simp only [sDevOk, Option.bind_some]
theorem sWhole (d : DevArg) : spec_DevIsWhole d = some (isWhole d) := by
  unfold spec_DevIsWhole isWhole; simp only [sDevOk, Option.bind_some]
theorem sReal (d : DevArg) : spec_DevIsReal d = some (isReal d) := by
  unfold spec_DevIsReal isReal; simp only [sDevOk, Option.bind_some]
theorem sKind (d : DevArg) (k o : Int) : spec_l4Kind d k o = some (kind2 d k o) := by
  unfold spec_l4Kind kind2; simp only [sDevOk, Option.bind_some]
theorem sArity (k : Int) : spec_ElemArity k = some (arity k) := by
  unfold spec_ElemArity spec_ElemArity_j7 spec_ElemArity_j33 arity
  simp only [Bool.cond_eq_ite]
  grind (splits := 60)
theorem arity_facts (n : Int) : (1 ≤ n → n ≤ 10 → 1 ≤ arity n) ∧ (21 ≤ n → n ≤ 37 → 1 ≤ arity n) ∧ (3 ≤ n → n ≤ 10 → arity n = 2) ∧ (n = 24 → arity n = 2) ∧ (26 ≤ n → n ≤ 30 → arity n = 2) ∧ (31 ≤ n → n ≤ 35 → arity n = 3) ∧ (36 ≤ n → n ≤ 37 → arity n = 2) := by
  unfold arity; (repeat' split) <;> omega
theorem idx0 {l : List DevArg} (h : 0 < l.length) : idx l 0 = some (a0 l) := by
  unfold idx a0; simp [h]
theorem idx1 {l : List DevArg} (h : 1 < l.length) : idx l 1 = some (a1 l) := by
  have : (1 : Int) < l.length := by omega
  unfold idx a1; simp [this]
theorem sContact (e : Elem) : spec_ElemIsContact e = some (isContact e.Op e.Args) := by
  obtain ⟨o, l⟩ := e
  unfold spec_ElemIsContact isContact
  simp only [sArity, Option.bind_some, sBit, sWhole, sReal, sDevOk]
  obtain ⟨f1, _, f3, _⟩ := arity_facts o
  by_cases h1 : o < 1
  · have : ¬ 1 ≤ o := by omega
    simp [h1, this]
  by_cases h2 : o > 10
  · have : ¬ o ≤ 10 := by omega
    simp [h1, h2, this]
  by_cases h3 : (l.length : Int) = arity o
  · have g1 : 1 ≤ o := by omega
    have g2 : o ≤ 10 := by omega
    have i0 := idx0 (l := l) (by have := f1 g1 g2; omega)
    by_cases h4 : o ≤ 2
    · simp [h1, h2, h3, h4, g1, g2, i0]
    · have i1 := idx1 (l := l) (by have := f3 (by omega) g2; omega)
      simp only [h1, h2, h3, h4, g1, g2, i0, i1, decide_true, decide_false, cond_false, bne_self_eq_false, Option.bind_some, Bool.true_and, beq_self_eq_true, if_false]
      by_cases h5 : o ≤ 4
      · simp only [h5, decide_true, cond_true, if_true]
        cases isBit (a0 l) <;> cases devOk (a1 l) <;> simp
      · simp only [h5, decide_false, cond_false, if_false]
        cases isWhole (a0 l) <;> cases isWhole (a1 l) <;> cases isReal (a0 l) <;> cases isReal (a1 l) <;> rfl
  · have h4 : ((l.length : Int) == arity o) = false := by simpa using h3
    simp only [h1, h2, bne, h4, decide_false, Bool.not_false, cond_true, cond_false, Bool.and_false, Bool.false_and]
theorem drop_at {α : Type} [Inhabited α] {l : List α} {i : Int} (h0 : 0 ≤ i) (h1 : i < l.length) : l.drop i.toNat = l.getD i.toNat default :: l.drop (i + 1).toNat := by
  have hn : i.toNat < l.length := by omega
  rw [List.drop_eq_getElem_cons hn, show (i + 1).toNat = i.toNat + 1 by omega]
  simp [List.getD, hn]
theorem drop_end {α : Type} (l : List α) : l.drop (l.length : Int).toNat = [] := by simp
theorem sCalc (o : Int) (l : List DevArg) (h : 0 < l.length) (hl : l.length ≤ 1000000) : spec_l4Calc ⟨o, l⟩ = some (calcB o l) := by
  unfold spec_l4Calc calcB
  simp only [idx0 h, Option.bind_some, sKind]
  cases hk : kind2 (a0 l) 9 10 with
  | false => rfl
  | true =>
    simp only [Bool.not_true, cond_false]
    have key : ∀ w : Bool, loop (spec_l4Calc_s17 ⟨o, l⟩) (w, 1) = some (if (l.drop 1).all (fun d => if w then isWhole d else isReal d) then .inr w else .inl ()) := by
      intro w
      obtain ⟨b, e, hb⟩ := loop_inv (f := spec_l4Calc_s17 ⟨o, l⟩) (fun z => z.1 = w ∧ 1 ≤ z.2 ∧ z.2 ≤ l.length ∧ (l.drop z.2.toNat).all (fun d => if w then isWhole d else isReal d) = (l.drop 1).all (fun d => if w then isWhole d else isReal d)) (fun z => (l.length - z.2).toNat)
        (fun b => b = if (l.drop 1).all (fun d => if w then isWhole d else isReal d) then .inr w else .inl ()) (by
          rintro ⟨w', i⟩ ⟨rfl, i0, i1, he⟩
          simp only [spec_l4Calc_s17]
          dsimp only at i0 i1 he
          by_cases hi : i < l.length
          · have e : IntKind.i64.wrap (i + 1) = i + 1 := w64 (by omega) (by omega)
            rw [drop_at (by omega) hi, List.all_cons] at he
            simp only [hi, decide_true, cond_true, idx_eq (show 0 ≤ i by omega) hi, Option.bind_some, sWhole, sReal, e]
            cases w'
            · simp only [cond_false, Bool.false_eq_true, if_false] at he ⊢
              cases hw : isReal (l.getD i.toNat default)
              · rw [hw, Bool.false_and] at he
                rw [← he]; exact .inr ⟨_, rfl, rfl⟩
              · rw [hw, Bool.true_and] at he
                exact .inl ⟨_, rfl, ⟨rfl, by dsimp only; omega, by dsimp only; omega, he⟩, by dsimp only; omega⟩
            · simp only [cond_true, if_true] at he ⊢
              cases hw : isWhole (l.getD i.toNat default)
              · rw [hw, Bool.false_and] at he
                rw [← he]; exact .inr ⟨_, rfl, rfl⟩
              · rw [hw, Bool.true_and] at he
                exact .inl ⟨_, rfl, ⟨rfl, by dsimp only; omega, by dsimp only; omega, he⟩, by dsimp only; omega⟩
          · have : i = l.length := by omega
            subst this
            rw [drop_end] at he
            rw [← he]
            simp) (w, 1) ⟨rfl, Int.le_refl _, by dsimp only; omega, rfl⟩
      rw [e, hb]
    rw [key]
    simp only [Option.bind_some, List.drop_one]
    by_cases h9 : (a0 l).Kind = 9
    · simp only [h9, beq_self_eq_true, if_true]
      cases hh : l.tail.all fun d => isWhole d with
      | true => simp [spec_l4Calc_j13, hh]
      | false => simp [hh]
    · have : ((a0 l).Kind == 9) = false := by simpa using h9
      simp only [this, h9, if_false, Bool.false_eq_true]
      cases hh : l.tail.all fun d => isReal d with
      | true => simp [spec_l4Calc_j13, hh]; rfl
      | false => simp [hh]
end Go.AM
end
section
/- What is ok: coils and instructions; the program says the same as the reference. Conditions: none. -/
namespace Go.AM
open Go
theorem sCoil (e : Elem) (hl : e.Args.length ≤ 1000000) : spec_ElemIsCoil e = some (isCoil e.Op e.Args) := by
  obtain ⟨o, l⟩ := e
  dsimp only at hl
  unfold spec_ElemIsCoil isCoil
  simp only [sArity, Option.bind_some, sKind]
  obtain ⟨_, f2, _, f4, f5, f6, f7⟩ := arity_facts o
  by_cases h1 : o < 21
  · have : ¬ 21 ≤ o := by omega
    simp [h1, this]
  by_cases h2 : o > 37
  · have : ¬ o ≤ 37 := by omega
    simp [h1, h2, this]
  by_cases h3 : (l.length : Int) = arity o
  · have g1 : 21 ≤ o := by omega
    have g2 : o ≤ 37 := by omega
    have hl0 : 0 < l.length := by have := f2 g1 g2; omega
    have i0 := idx0 hl0
    have i1 : 24 ≤ o → o ≠ 25 → idx l 1 = some (a1 l) := fun q1 q2 => idx1 (by
      rcases (by omega : o = 24 ∨ (26 ≤ o ∧ o ≤ 30) ∨ (31 ≤ o ∧ o ≤ 35) ∨ (36 ≤ o ∧ o ≤ 37)) with q | q | q | q
      · have := f4 q; omega
      · have := f5 q.1 q.2; omega
      · have := f6 q.1 q.2; omega
      · have := f7 q.1 q.2; omega)
    have hc := sCalc o l hl0 hl
    simp only [h1, h2, h3, g1, g2, i0, decide_true, decide_false, cond_false, bne_self_eq_false, Option.bind_some, Bool.true_and, beq_self_eq_true]
    have cases_o : o = 21 ∨ o = 22 ∨ o = 23 ∨ o = 24 ∨ o = 25 ∨ o = 26 ∨ o = 27 ∨ o = 28 ∨ o = 29 ∨ o = 36 ∨ o = 37 ∨ (30 ≤ o ∧ o ≤ 35) := by omega
    rcases cases_o with rfl | rfl | rfl | rfl | rfl | rfl | rfl | rfl | rfl | rfl | rfl | ⟨q1, q2⟩
    · rfl
    · cases kind2 (a0 l) 2 3 <;> rfl
    · cases kind2 (a0 l) 2 3 <;> cases kind2 (a0 l) 4 7 <;> rfl
    · have := i1 (by omega) (by omega); simp [this]; cases kind2 (a0 l) 2 3 <;> rfl
    · rfl
    · have := i1 (by omega) (by omega); simp [spec_ElemIsCoil_j47, this, sKind]; cases kind2 (a0 l) 7 7 <;> cases kind2 (a1 l) 11 11 <;> simp
    · have := i1 (by omega) (by omega); simp [spec_ElemIsCoil_j47, this, sKind]; cases kind2 (a0 l) 7 7 <;> cases kind2 (a1 l) 11 11 <;> simp
    · have := i1 (by omega) (by omega); simp [spec_ElemIsCoil_j47, this, sKind]; cases kind2 (a0 l) 7 7 <;> cases kind2 (a1 l) 11 11 <;> simp
    · have := i1 (by omega) (by omega); simp [spec_ElemIsCoil_j47, this, sKind]; cases kind2 (a0 l) 8 8 <;> cases kind2 (a1 l) 11 11 <;> simp
    · have := i1 (by omega) (by omega); simp [spec_ElemIsCoil_j47, this, sKind, sWhole]; cases kind2 (a0 l) 10 10 <;> rfl
    · have := i1 (by omega) (by omega); simp [spec_ElemIsCoil_j47, this, sKind, sReal]; cases kind2 (a0 l) 9 9 <;> rfl
    · have e : ∀ k : Int, k < 30 ∨ 35 < k → (o == k) = false := fun k hk => by simp; omega
      have e2 : ∀ k : Int, k < 30 ∨ 35 < k → ¬ o = k := fun k hk => by omega
      simp [spec_ElemIsCoil_j47, e, e2, hc]
  · have h4 : ((l.length : Int) == arity o) = false := by simpa using h3
    simp only [h1, h2, bne, h4, decide_false, Bool.not_false, cond_true, cond_false, Bool.and_false, Bool.false_and]
theorem sListOk (i : Inst) (hl : i.One_Args.length ≤ 1000000) : spec_ListOk i = some (listOk i) := by
  unfold spec_ListOk listOk
  simp only [sContact, sCoil ⟨i.One_Op, i.One_Args⟩ hl, Option.bind_some]
  by_cases h1 : i.Code < 1
  · have : ¬ 1 ≤ i.Code := by omega
    simp [h1, this]
  by_cases h2 : i.Code > 11
  · have : ¬ i.Code ≤ 11 := by omega
    simp [h1, h2, this]
  have g1 : 1 ≤ i.Code := by omega
  have g2 : i.Code ≤ 11 := by omega
  simp only [h1, h2, g1, g2, decide_true, decide_false, Bool.or_self, cond_false, Bool.true_and]
  by_cases h3 : i.Code ≤ 3
  · simp [h3]
  · by_cases h4 : i.Code = 10
    · simp [h4]
    · have : (i.Code == 10) = false := by simpa using h4
      simp [h3, h4, this]
-- the program's
theorem iIn (a b c : Int) : impl_in a b c = some (decide (b ≤ a) && decide (a ≤ c)) := rfl
theorem iArity (k : Int) : impl_ElemArity k = some (arity k) := by
  unfold impl_ElemArity impl_ElemArity_j5 impl_ElemArity_j29 arity
  simp only [Bool.cond_eq_ite, iIn, Option.bind_some]
  grind (splits := 60)
theorem devSz_at (k : Int) (h0 : 1 ≤ k) (h1 : k ≤ 10) : idx pt_devSizes k = some (devSz k) := by
  have : k = 1 ∨ k = 2 ∨ k = 3 ∨ k = 4 ∨ k = 5 ∨ k = 6 ∨ k = 7 ∨ k = 8 ∨ k = 9 ∨ k = 10 := by omega
  rcases this with rfl | rfl | rfl | rfl | rfl | rfl | rfl | rfl | rfl | rfl <;> rfl
theorem devSz_out {k : Int} (h : k < 1 ∨ 10 < k) : devSz k = 0 := by unfold devSz; (repeat' split) <;> omega
theorem iDevSize (k : Int) : impl_DevSize k = some (devSz k) := by
  unfold impl_DevSize
  simp only [iIn, Option.bind_some]
  by_cases h : 1 ≤ k ∧ k ≤ 10
  · simp [h.1, h.2, devSz_at k h.1 h.2]
  · have : (decide (1 ≤ k) && decide (k ≤ 10)) = false := by simpa using h
    rw [this, devSz_out (by omega)]; rfl
theorem iDevOk (d : DevArg) : impl_DevOk d = some (devOk d) := by
  unfold impl_DevOk devOk
  have e : IntKind.i64.wrap (((pt_devWords).length : Int) - 1) = 3 := by decide
  simp only [Bool.cond_eq_ite, iDevSize, iIn, Option.bind_some, e]
  grind
theorem iIndex (l : List Int) (v : Int) (hl : l.length ≤ 1000000) : OK (slices_Index_int_int l v) (fun i => (decide (0 ≤ i)) = l.contains v) := by
  unfold slices_Index_int_int
  refine OK.loop (Q := fun b : Int ⊕ Unit => Sum.elim (fun i => 0 ≤ i ∧ l.contains v = true) (fun _ => l.contains v = false) b) (fun i : Int => 0 ≤ i ∧ i ≤ l.length ∧ (l.drop i.toNat).contains v = l.contains v) (fun i : Int => (l.length - i).toNat) ?_ ?_ ?_
  · exact ⟨Int.le_refl _, by omega, rfl⟩
  · rintro i ⟨i0, i1, he⟩
    simp only [slices_Index_int_int_s7]
    refine OK.cond (fun hc => ?_) (fun hc => ?_)
    · simp only [decide_eq_true_eq] at hc
      rw [drop_at i0 hc, List.contains_cons] at he
      refine OK.idx i0 hc fun x _ hx => ?_
      rw [hx] at he
      refine OK.cond (fun hv => ?_) (fun hv => ?_)
      · rw [hv, Bool.true_or] at he
        exact OK.mk ⟨i0, he.symm⟩
      · rw [hv, Bool.false_or] at he
        have e : IntKind.i64.wrap (i + 1) = i + 1 := w64 (by omega) (by omega)
        rw [e]
        exact OK.mk ⟨⟨by omega, by omega, he⟩, by omega⟩
    · simp only [decide_eq_false_iff_not] at hc
      have : i = l.length := by omega
      subst this
      rw [drop_end] at he
      exact OK.mk he.symm
  · intro b hb
    cases b with
    | inl i => exact OK.mk (by simp only [Sum.elim_inl] at hb; simp [hb.1]; simpa using hb.2)
    | inr u => exact OK.mk (by simp only [Sum.elim_inr] at hb; rw [hb]; rfl)
theorem iContains (l : List Int) (v : Int) (hl : l.length ≤ 1000000) : slices_Contains_int_int l v = some (l.contains v) := by
  refine OK.eq ?_
  unfold slices_Contains_int_int
  refine OK.bind (iIndex l v hl) ?_
  intro i hi
  exact OK.mk hi
theorem iKindIs (d : DevArg) (l : List Int) (hl : l.length ≤ 1000000) : impl_DevArg_kindIs d l = some (devOk d && l.contains d.Kind) := by
  unfold impl_DevArg_kindIs
  simp only [iDevOk, Option.bind_some, iContains _ _ hl]
  cases devOk d <;> rfl
theorem devOk_k {d : DevArg} (h : devOk d = true) : 1 ≤ d.Kind ∧ d.Kind ≤ 13 := by
  unfold devOk devSz at h
  grind
theorem iBit (d : DevArg) : impl_DevIsBit d = some (isBit d) := by
  unfold impl_DevIsBit
  simp only [iKindIs d [1, 2, 3, 4, 6, 7, 8] (by simp), Option.bind_some]
  congr 1
  unfold isBit
  cases h : devOk d with
  | false => rfl
  | true => have := devOk_k h; simp; grind
theorem iWhole (d : DevArg) : impl_DevIsWhole d = some (isWhole d) := by
  unfold impl_DevIsWhole
  simp only [iKindIs d [7, 8, 9, 11] (by simp), Option.bind_some]
  congr 1
  unfold isWhole
  cases h : devOk d with
  | false => rfl
  | true => simp; grind
theorem iReal (d : DevArg) : impl_DevIsReal d = some (isReal d) := by
  unfold impl_DevIsReal
  simp only [iKindIs d [10, 12, 13] (by simp), Option.bind_some]
  congr 1
  unfold isReal
  cases h : devOk d with
  | false => rfl
  | true => simp; grind
theorem any_search {f : Int → Option (Int ⊕ (Int ⊕ Unit))} {l : List DevArg} {p : DevArg → Bool} (hl : l.length ≤ 1000000)
    (hf : ∀ i : Int, 0 ≤ i → i < l.length → f i = some (if p (l.getD i.toNat default) then .inr (.inl i) else .inl (i + 1))) (he : f l.length = some (.inr (.inr ()))) :
    OK ((loop f 0).bind (Sum.elim (fun v => some v) (fun _ => some (-1)))) (fun i => decide (0 ≤ i) = l.any p) := by
  refine OK.loop (Q := fun b : Int ⊕ Unit => Sum.elim (fun i => 0 ≤ i ∧ l.any p = true) (fun _ => l.any p = false) b) (fun i : Int => 0 ≤ i ∧ i ≤ l.length ∧ (l.drop i.toNat).any p = l.any p) (fun i : Int => (l.length - i).toNat) ?_ ?_ ?_
  · exact ⟨Int.le_refl _, by omega, rfl⟩
  · rintro i ⟨i0, i1, hh⟩
    by_cases hi : i < l.length
    · rw [hf i i0 hi]
      rw [drop_at i0 hi, List.any_cons] at hh
      cases hp : p (l.getD i.toNat default) with
      | true => rw [hp, Bool.true_or] at hh; exact OK.mk ⟨i0, hh.symm⟩
      | false => rw [hp, Bool.false_or] at hh; exact OK.mk ⟨⟨by omega, by omega, hh⟩, by omega⟩
    · have : i = l.length := by omega
      subst this
      rw [he]
      rw [drop_end] at hh
      exact OK.mk hh.symm
  · intro b hb
    cases b with
    | inl i => exact OK.mk (by simp only [Sum.elim_inl] at hb; simp [hb.1]; simpa using hb.2)
    | inr u => exact OK.mk (by simp only [Sum.elim_inr] at hb; rw [hb]; rfl)
theorem any_all (l : List DevArg) (p : DevArg → Bool) : (!(l.any fun d => !p d)) = l.all p := by
  induction l with
  | nil => rfl
  | cons d l ih => simp only [List.any_cons, List.all_cons, ← ih]; cases p d <;> simp
theorem iAllW (l : List DevArg) (hl : l.length ≤ 1000000) : impl_all_fimpl_DevIsWhole l = some (l.all isWhole) := by
  refine OK.eq ?_
  unfold impl_all_fimpl_DevIsWhole slices_ContainsFunc_impl_DevArg_impl_DevArg_fimpl_all_1_impl_DevIsWhole slices_IndexFunc_impl_DevArg_impl_DevArg_fimpl_all_1_impl_DevIsWhole
  refine OK.bind (Q := fun b : Bool => b = l.any fun d => !isWhole d) ?_ ?_
  · refine OK.bind (Q := fun i : Int => decide (0 ≤ i) = l.any fun d => !isWhole d) (any_search (p := fun d => !isWhole d) hl ?_ ?_) ?_
    · intro i i0 i1
      have e : IntKind.i64.wrap (i + 1) = i + 1 := w64 (by omega) (by omega)
      simp only [slices_IndexFunc_impl_DevArg_impl_DevArg_fimpl_all_1_impl_DevIsWhole_s7, i1, decide_true, cond_true, idx_eq i0 i1, Option.bind_some, impl_all_1_fimpl_DevIsWhole, iWhole, e]
      cases isWhole (l.getD i.toNat default) <;> rfl
    · simp [slices_IndexFunc_impl_DevArg_impl_DevArg_fimpl_all_1_impl_DevIsWhole_s7]
    · intro i hi; exact OK.mk hi
  · rintro b rfl; exact OK.mk (any_all l isWhole)
theorem iAllR (l : List DevArg) (hl : l.length ≤ 1000000) : impl_all_fimpl_DevIsReal l = some (l.all isReal) := by
  refine OK.eq ?_
  unfold impl_all_fimpl_DevIsReal slices_ContainsFunc_impl_DevArg_impl_DevArg_fimpl_all_1_impl_DevIsReal slices_IndexFunc_impl_DevArg_impl_DevArg_fimpl_all_1_impl_DevIsReal
  refine OK.bind (Q := fun b : Bool => b = l.any fun d => !isReal d) ?_ ?_
  · refine OK.bind (Q := fun i : Int => decide (0 ≤ i) = l.any fun d => !isReal d) (any_search (p := fun d => !isReal d) hl ?_ ?_) ?_
    · intro i i0 i1
      have e : IntKind.i64.wrap (i + 1) = i + 1 := w64 (by omega) (by omega)
      simp only [slices_IndexFunc_impl_DevArg_impl_DevArg_fimpl_all_1_impl_DevIsReal_s7, i1, decide_true, cond_true, idx_eq i0 i1, Option.bind_some, impl_all_1_fimpl_DevIsReal, iReal, e]
      cases isReal (l.getD i.toNat default) <;> rfl
    · simp [slices_IndexFunc_impl_DevArg_impl_DevArg_fimpl_all_1_impl_DevIsReal_s7]
    · intro i hi; exact OK.mk hi
  · rintro b rfl; exact OK.mk (any_all l isReal)
theorem iNumbers (l : List DevArg) (hl : l.length ≤ 1000000) : impl_numbers l = some (l.all isWhole || l.all isReal) := by
  unfold impl_numbers
  simp only [iAllW l hl, iAllR l hl, Option.bind_some]
  cases l.all isWhole <;> rfl
theorem all2 (l : List DevArg) (p : DevArg → Bool) (h : l.length = 2) : l.all p = (p (a0 l) && p (a1 l)) := by
  match l, h with
  | [a, b], _ => simp [a0, a1]
theorem iContact (e : Elem) (hl : e.Args.length ≤ 1000000) : impl_ElemIsContact e = some (isContact e.Op e.Args) := by
  obtain ⟨o, l⟩ := e
  dsimp only at hl
  unfold impl_ElemIsContact isContact
  simp only [iIn, iArity, Option.bind_some]
  obtain ⟨f1, _, f3, _⟩ := arity_facts o
  by_cases h1 : 1 ≤ o ∧ o ≤ 10
  · obtain ⟨g1, g2⟩ := h1
    simp only [g1, g2, decide_true, Bool.and_self, cond_true, Bool.true_and]
    by_cases h3 : (l.length : Int) = arity o
    · have i0 := idx0 (l := l) (by have := f1 g1 g2; omega)
      simp only [h3, bne_self_eq_false, cond_false, beq_self_eq_true, Bool.true_and]
      have : o = 1 ∨ o = 2 ∨ o = 3 ∨ o = 4 ∨ 5 ≤ o := by omega
      rcases this with rfl | rfl | rfl | rfl | h5
      · simp [impl_ElemIsContact_j15, i0, iBit]
      · simp [impl_ElemIsContact_j15, i0, iBit]
      · have i1 := idx1 (l := l) (by have := f3 (by omega) g2; omega)
        simp [impl_ElemIsContact_j15, impl_ElemIsContact_j25, i0, i1, iBit, iKindIs]
        cases isBit (a0 l) <;> simp <;> rfl
      · have i1 := idx1 (l := l) (by have := f3 (by omega) g2; omega)
        simp [impl_ElemIsContact_j15, impl_ElemIsContact_j25, i0, i1, iBit, iKindIs]
        cases isBit (a0 l) <;> simp <;> rfl
      · have e : ∀ k : Int, k < 5 → (o == k) = false := fun k hk => by simp; omega
        have e1 : ¬ o ≤ 2 := by omega
        have e2 : ¬ o ≤ 4 := by omega
        have hl2 : l.length = 2 := by have := f3 (by omega) g2; omega
        simp [impl_ElemIsContact_j15, impl_ElemIsContact_j25, e, e1, e2, iNumbers l hl, all2 l _ hl2]
    · have h4 : ((l.length : Int) == arity o) = false := by simpa using h3
      simp [bne, h4]
  · have : (decide (1 ≤ o) && decide (o ≤ 10)) = false := by simpa using h1
    simp only [this, cond_false, Bool.false_and]
theorem iCoil1 (l : List DevArg) (h : 0 < l.length) : impl_ElemIsCoil_1 l = some (kind2 (a0 l) 11 11 && decide (0 ≤ (a0 l).N), l) := by
  unfold impl_ElemIsCoil_1 kind2
  simp only [idx0 h, Option.bind_some, iKindIs (a0 l) [11] (by simp)]
  cases devOk (a0 l) <;> simp
  cases h : ((a0 l).Kind == 11) <;> simp_all
theorem iKind1 (d : DevArg) (k : Int) : impl_DevArg_kindIs d [k] = some (kind2 d k k) := by
  rw [iKindIs d [k] (by simp)]; unfold kind2; simp; rfl
theorem iKindD (d : DevArg) (k j : Int) : impl_DevArg_kindIs d [k, j] = some (kind2 d k j) := by
  rw [iKindIs d [k, j] (by simp)]; unfold kind2; simp; rfl
theorem iCoil (e : Elem) (hl : e.Args.length ≤ 1000000) : impl_ElemIsCoil e = some (isCoil e.Op e.Args) := by
  obtain ⟨o, l⟩ := e
  dsimp only at hl
  unfold impl_ElemIsCoil isCoil
  simp only [iIn, iArity, Option.bind_some]
  obtain ⟨_, f2, _, f4, f5, f6, f7⟩ := arity_facts o
  by_cases h1 : 21 ≤ o ∧ o ≤ 37
  · obtain ⟨g1, g2⟩ := h1
    simp only [g1, g2, decide_true, Bool.and_self, cond_true, Bool.true_and]
    by_cases h3 : (l.length : Int) = arity o
    · have hl0 : 0 < l.length := by have := f2 g1 g2; omega
      have i0 := idx0 hl0
      have ht : prtL l 1 = some l.tail := by
        have : (1 : Int) ≤ l.length := by omega
        unfold prtL; simp [this, List.drop_one]
      have hl1 : 24 ≤ o → o ≠ 25 → 1 < l.length := fun q1 q2 => by
        rcases (by omega : o = 24 ∨ (26 ≤ o ∧ o ≤ 30) ∨ (31 ≤ o ∧ o ≤ 35) ∨ (36 ≤ o ∧ o ≤ 37)) with q | q | q | q
        · have := f4 q; omega
        · have := f5 q.1 q.2; omega
        · have := f6 q.1 q.2; omega
        · have := f7 q.1 q.2; omega
      have i1 : 24 ≤ o → o ≠ 25 → idx l.tail 0 = some (a1 l) := fun q1 q2 => by
        have := hl1 q1 q2
        match l, this with
        | a :: b :: r, _ => rw [idx_eq (by omega) (by simp)]; rfl
      have c1 : 24 ≤ o → o ≠ 25 → impl_ElemIsCoil_1 l.tail = some (kind2 (a1 l) 11 11 && decide (0 ≤ (a1 l).N), l.tail) := fun q1 q2 => by
        have := hl1 q1 q2
        rw [iCoil1 l.tail (by simp; omega)]
        match l, this with
        | a :: b :: r, _ => rfl
      have hw := iAllW l.tail (by simp; omega)
      have hr := iAllR l.tail (by simp; omega)
      simp only [h3, bne_self_eq_false, cond_false, beq_self_eq_true, Bool.true_and, i0, ht, Option.bind_some]
      have cases_o : o = 21 ∨ o = 22 ∨ o = 23 ∨ o = 24 ∨ o = 25 ∨ o = 26 ∨ o = 27 ∨ o = 28 ∨ o = 29 ∨ o = 36 ∨ o = 37 ∨ o = 35 ∨ (30 ≤ o ∧ o ≤ 34) := by omega
      rcases cases_o with rfl | rfl | rfl | rfl | rfl | rfl | rfl | rfl | rfl | rfl | rfl | rfl | ⟨q1, q2⟩
      · simp [iKindD]
      · simp [iKindIs, kind2]; grind
      · simp [iKindIs, kind2]; grind
      · simp [i1, iKindD, iKind1]; cases kind2 (a0 l) 2 3 <;> rfl
      · simp [iKind1]
      · simp [impl_ElemIsCoil_j49, iKind1, c1]; cases kind2 (a0 l) 7 7 <;> simp
      · simp [impl_ElemIsCoil_j49, iKind1, c1]; cases kind2 (a0 l) 7 7 <;> simp
      · simp [impl_ElemIsCoil_j49, iKind1, c1]; cases kind2 (a0 l) 7 7 <;> simp
      · simp [impl_ElemIsCoil_j49, iKind1, c1]; cases kind2 (a0 l) 8 8 <;> simp
      · simp [impl_ElemIsCoil_j49, iKind1, i1, iWhole]; cases kind2 (a0 l) 10 10 <;> rfl
      · simp [impl_ElemIsCoil_j49, iKind1, i1, iReal]; cases kind2 (a0 l) 9 9 <;> rfl
      · simp [impl_ElemIsCoil_j49, iKind1, hw, calcB, kind2]; grind
      · have e : ∀ k : Int, k < 30 ∨ 34 < k → (o == k) = false := fun k hk => by simp; omega
        have e2 : ∀ k : Int, k < 30 ∨ 34 < k → ¬ o = k := fun k hk => by omega
        simp [impl_ElemIsCoil_j49, e, e2, iKind1, hw, hr, calcB, kind2]; grind
    · have h4 : ((l.length : Int) == arity o) = false := by simpa using h3
      simp [bne, h4]
  · have : (decide (21 ≤ o) && decide (o ≤ 37)) = false := by simpa using h1
    simp only [this, cond_false, Bool.false_and]
theorem iListOk (i : Inst) (hl : i.One_Args.length ≤ 1000000) : impl_ListOk i = some (listOk i) := by
  unfold impl_ListOk listOk impl_Elem_bare
  simp only [iContact ⟨i.One_Op, i.One_Args⟩ hl, iCoil ⟨i.One_Op, i.One_Args⟩ hl, iIn, Option.bind_some]
  by_cases h1 : 1 ≤ i.Code
  · by_cases h3 : i.Code ≤ 3
    · have : i.Code ≤ 11 := by omega
      simp [h1, h3, this]
    · by_cases h4 : i.Code = 10
      · simp [h4]
      · have q : (i.Code == 10) = false := by simpa using h4
        have r : 4 ≤ i.Code := by omega
        by_cases h5 : i.Code ≤ 11 <;> simp [h1, h3, h4, q, r, h5]
  · have q : (i.Code == 10) = false := by simp; omega
    have r : ¬ 4 ≤ i.Code := by omega
    simp [h1, q, r]
end Go.AM
end
section
/- The verifier: both packages say the same. Conditions: none. -/
namespace Go.AM
open Go
def needs (c : Int) : Int := if c = 1 then 0 else if c = 4 ∨ c = 5 then 2 else 1
def wrongAt (s : l12At) (i : Inst) : Int := if listOk i = false then 2 else if s.bits < needs i.Code then 3 else if i.Code = 1 ∧ s.bits = 16 then 4 else if 7 ≤ i.Code ∧ 1 < s.bits then 5
  else if s.base = true ∧ s.bits = (if i.Code = 5 then 2 else 1) ∧ (i.Code = 3 ∨ i.Code = 6 ∨ i.Code = 5) then 6 else if (i.Code = 7 ∧ s.forks = 8) ∨ ((i.Code = 8 ∨ i.Code = 9) ∧ s.forks = 0) ∨ (i.Code = 11 ∧ 0 < s.forks) then 7
  else if (i.Code = 8 ∨ i.Code = 9 ∨ i.Code = 11) ∧ s.coil = false then 8 else 0
def behB (c b : Int) : Int := if c = 1 then b + 1 else if c = 4 ∨ c = 5 ∨ c = 11 then b - 1 else b
def behF (c f : Int) : Int := if c = 7 then f + 1 else if c = 9 then f - 1 else f
def nextV (s : l12At) (c : Int) : l12At := if c = 11 then ⟨0, 0, false, false⟩ else ⟨behB c s.bits, behF c s.forks, s.base || c == 10 || c == 7, c == 10⟩
def checkFrom : l12At → Int → List Inst → SureFault
  | s, k, [] => if 0 < s.bits then ⟨9, k⟩ else ⟨0, 0⟩
  | s, k, i :: l => if 0 < wrongAt s i then ⟨wrongAt s i, k⟩ else checkFrom (nextV s i.Code) (k + 1) l
def s0 : l12At := ⟨0, 0, false, false⟩
def sureCheck (l : List Inst) : SureFault := if 1000 < l.length then ⟨1, 0⟩ else checkFrom s0 0 l
theorem wrongAt_nn (s : l12At) (i : Inst) : 0 ≤ wrongAt s i := by unfold wrongAt; (repeat' split) <;> omega
theorem right_facts {s : l12At} {i : Inst} (h : wrongAt s i ≤ 0) : needs i.Code ≤ s.bits ∧ ¬ (i.Code = 1 ∧ s.bits = 16) ∧ ¬ (7 ≤ i.Code ∧ 1 < s.bits) ∧ ¬ ((i.Code = 7 ∧ s.forks = 8) ∨ ((i.Code = 8 ∨ i.Code = 9) ∧ s.forks = 0) ∨ (i.Code = 11 ∧ 0 < s.forks)) := by
  unfold wrongAt at h
  (repeat' split at h) <;> first | omega | (refine ⟨by omega, by assumption, by assumption, by assumption⟩)
def okS (s : l12At) : Prop := 0 ≤ s.bits ∧ s.bits ≤ 16 ∧ 0 ≤ s.forks ∧ s.forks ≤ 8
theorem okS_next {s : l12At} {i : Inst} (hs : okS s) (h : wrongAt s i ≤ 0) : okS (nextV s i.Code) := by
  obtain ⟨h1, h2, h3, h4⟩ := right_facts h
  obtain ⟨a, b, c, d⟩ := hs
  unfold okS nextV behB behF
  unfold needs at h1
  grind
theorem s0_ok : okS s0 := by unfold okS s0; simp
theorem sNeeds (c : Int) : spec_l12Needs c = some (needs c) := by
  unfold spec_l12Needs spec_l12Needs_j13 needs; simp only [Bool.cond_eq_ite]; grind
theorem iNeeds (c : Int) : impl_needs c = some (needs c) := by
  unfold impl_needs impl_needs_j13 needs; simp only [Bool.cond_eq_ite]; grind
theorem sWrong (s : l12At) (i : Inst) (h : i.One_Args.length ≤ 1000) : spec_l12Wrong s i = some (wrongAt s i) := by
  unfold spec_l12Wrong spec_l12Wrong_j9 wrongAt
  simp only [sListOk i (by omega), sNeeds, Option.bind_some, Bool.cond_eq_ite]
  grind (splits := 40)
theorem iWrong (s : l12At) (i : Inst) (h : i.One_Args.length ≤ 1000) (hs : okS s) : impl_SureState_wrong ⟨s.bits, s.forks⟩ i s.base s.coil = some (wrongAt s i) := by
  obtain ⟨a, b, c, d⟩ := hs
  unfold impl_SureState_wrong impl_SureState_wrong_j37 wrongAt
  simp only [iListOk i (by omega), iNeeds, Option.bind_some, Bool.cond_eq_ite]
  grind (splits := 40)
theorem sNext (s : l12At) (c : Int) (hs : okS s) : spec_l12Next s c = some (nextV s c) := by
  obtain ⟨h1, h2, h3, h4⟩ := hs
  have e1 : IntKind.i64.wrap (s.bits + 1) = s.bits + 1 := w64 (by omega) (by omega)
  have e2 : IntKind.i64.wrap (s.bits - 1) = s.bits - 1 := w64 (by omega) (by omega)
  have e3 : IntKind.i64.wrap (s.forks + 1) = s.forks + 1 := w64 (by omega) (by omega)
  have e4 : IntKind.i64.wrap (s.forks - 1) = s.forks - 1 := w64 (by omega) (by omega)
  unfold spec_l12Next spec_l12Next_j11 spec_l12Next_j3 nextV behB behF
  simp only [e1, e2, e3, e4, Bool.cond_eq_ite]
  grind
theorem iBehind (b f c : Int) (h1 : 0 ≤ b) (h2 : b ≤ 1000) (h3 : 0 ≤ f) (h4 : f ≤ 1000) : impl_SureState_behind ⟨b, f⟩ c = some ⟨behB c b, behF c f⟩ := by
  have e1 : IntKind.i64.wrap (b + 1) = b + 1 := w64 (by omega) (by omega)
  have e2 : IntKind.i64.wrap (b - 1) = b - 1 := w64 (by omega) (by omega)
  have e3 : IntKind.i64.wrap (f + 1) = f + 1 := w64 (by omega) (by omega)
  have e4 : IntKind.i64.wrap (f - 1) = f - 1 := w64 (by omega) (by omega)
  unfold impl_SureState_behind impl_SureState_behind_j11 impl_SureState_behind_j3 behB behF
  simp only [e1, e2, e3, e4, Bool.cond_eq_ite]
  grind
theorem next_eq {s : l12At} {i : Inst} (hs : okS s) (h : wrongAt s i ≤ 0) : nextV s i.Code = ⟨behB i.Code s.bits, behF i.Code s.forks, (i.Code != 11) && ((s.base || i.Code == 10) || i.Code == 7), i.Code == 10⟩ := by
  obtain ⟨h1, h2, h3, h4⟩ := right_facts h
  obtain ⟨a, b, c, d⟩ := hs
  unfold nextV
  split
  · rename_i e
    rw [e] at h1 h3 h4 ⊢
    unfold needs at h1
    have hb : s.bits = 1 := by simp at h1 h3; omega
    have hf : s.forks = 0 := by simp at h4; omega
    rw [hb, hf]; rfl
  · rename_i e
    have : (i.Code != 11) = true := by simpa using e
    rw [this]; rfl
theorem sSure (l : List Inst) (hl : okArgs l) (hl2 : l.length ≤ 1000000) : spec_SureCheck l = some (sureCheck l) := by
  refine OK.eq ?_
  unfold spec_SureCheck sureCheck
  refine OK.cond (fun hc => ?_) (fun hc => ?_)
  · simp only [decide_eq_true_eq] at hc
    rw [if_pos (by omega)]; exact OK.mk rfl
  · simp only [decide_eq_false_iff_not] at hc
    rw [if_neg (by omega)]
    refine OK.loop (Q := fun b : (Int × Int) ⊕ (Int × Int × Bool × Bool) => checkFrom s0 0 l = Sum.elim (fun v => ⟨v.1, v.2⟩) (fun v => if 0 < v.1 then ⟨9, l.length⟩ else ⟨0, 0⟩) b)
      (fun z : Int × Int × Bool × Bool × Int => okS ⟨z.1, z.2.1, z.2.2.1, z.2.2.2.1⟩ ∧ 0 ≤ z.2.2.2.2 ∧ z.2.2.2.2 ≤ l.length ∧ checkFrom ⟨z.1, z.2.1, z.2.2.1, z.2.2.2.1⟩ z.2.2.2.2 (l.drop z.2.2.2.2.toNat) = checkFrom s0 0 l) (fun z => (l.length - z.2.2.2.2).toNat) ?_ ?_ ?_
    · exact ⟨s0_ok, Int.le_refl _, by dsimp only; omega, rfl⟩
    · rintro ⟨b, f, ba, co, i⟩ ⟨hs, i0, i1, he⟩
      dsimp only at hs i0 i1 he
      simp only [spec_SureCheck_s17]
      refine OK.cond (fun hi => ?_) (fun hi => ?_)
      · simp only [decide_eq_true_eq] at hi
        have hm := getD_mem (l := l) (n := i.toNat) (by omega)
        simp only [idx_eq i0 hi, Option.bind_some, sWrong _ _ (hl _ hm), sNext _ _ hs]
        rw [drop_at i0 hi, checkFrom] at he
        refine OK.cond (fun hw => ?_) (fun hw => ?_)
        · simp only [decide_eq_true_eq] at hw
          rw [if_pos hw] at he
          exact OK.mk he.symm
        · simp only [decide_eq_false_iff_not] at hw
          rw [if_neg hw] at he
          have e : IntKind.i64.wrap (i + 1) = i + 1 := w64 (by omega) (by omega)
          rw [e]
          exact OK.mk ⟨⟨okS_next hs (by omega), by dsimp only; omega, by dsimp only; omega, he⟩, by dsimp only; omega⟩
      · simp only [decide_eq_false_iff_not] at hi
        have : i = l.length := by omega
        subst this
        rw [drop_end, checkFrom] at he
        exact OK.mk he.symm
    · intro b hb
      rw [hb]
      cases b with
      | inl v => exact OK.mk rfl
      | inr v =>
        obtain ⟨b, f, ba, co⟩ := v
        simp only [Sum.elim_inr, spec_SureCheck_j13]
        refine OK.cond (fun hw => ?_) (fun hw => ?_)
        · simp only [decide_eq_true_eq] at hw
          rw [if_pos hw]; exact OK.mk rfl
        · simp only [decide_eq_false_iff_not] at hw
          rw [if_neg hw]; exact OK.mk rfl
theorem iSure (l : List Inst) (hl : okArgs l) (hl2 : l.length ≤ 1000000) : impl_SureCheck l = some (sureCheck l) := by
  refine OK.eq ?_
  unfold impl_SureCheck sureCheck
  refine OK.cond (fun hc => ?_) (fun hc => ?_)
  · simp only [decide_eq_true_eq] at hc
    rw [if_pos (by omega)]; exact OK.mk rfl
  · simp only [decide_eq_false_iff_not] at hc
    rw [if_neg (by omega)]
    refine OK.loop (Q := fun b : (Int × Int) ⊕ (Int × Int) => checkFrom s0 0 l = Sum.elim (fun v => ⟨v.1, v.2⟩) (fun v => if 0 < v.1 then ⟨9, l.length⟩ else ⟨0, 0⟩) b ∧ Sum.elim (fun _ => True) (fun v => 0 ≤ v.1) b)
      (fun z : Int × Int × Bool × Bool × Int => okS ⟨z.1, z.2.1, z.2.2.1, z.2.2.2.1⟩ ∧ 0 ≤ z.2.2.2.2 ∧ z.2.2.2.2 ≤ l.length ∧ checkFrom ⟨z.1, z.2.1, z.2.2.1, z.2.2.2.1⟩ z.2.2.2.2 (l.drop z.2.2.2.2.toNat) = checkFrom s0 0 l) (fun z => (l.length - z.2.2.2.2).toNat) ?_ ?_ ?_
    · exact ⟨s0_ok, Int.le_refl _, by dsimp only; omega, rfl⟩
    · rintro ⟨b, f, ba, co, i⟩ ⟨hs, i0, i1, he⟩
      dsimp only at hs i0 i1 he
      simp only [impl_SureCheck_s19]
      refine OK.cond (fun hi => ?_) (fun hi => ?_)
      · simp only [decide_eq_true_eq] at hi
        have hm := getD_mem (l := l) (n := i.toNat) (by omega)
        have hw' := iWrong ⟨b, f, ba, co⟩ (l.getD i.toNat default) (hl _ hm) hs
        have hb' := iBehind b f (l.getD i.toNat default).Code hs.1 (by have := hs.2.1; dsimp only at this; omega) hs.2.2.1 (by have := hs.2.2.2; dsimp only at this; omega)
        dsimp only at hw'
        simp only [idx_eq i0 hi, Option.bind_some, hw', hb']
        rw [drop_at i0 hi, checkFrom] at he
        refine OK.cond (fun hw => ?_) (fun hw => ?_)
        · simp only [bne_iff_ne, ne_eq] at hw
          have := wrongAt_nn ⟨b, f, ba, co⟩ (l.getD i.toNat default)
          rw [if_pos (by omega)] at he
          exact OK.mk ⟨he.symm, trivial⟩
        · simp only [bne_eq_false_iff_eq] at hw
          rw [if_neg (by omega), next_eq hs (by omega)] at he
          have e : IntKind.i64.wrap (i + 1) = i + 1 := w64 (by omega) (by omega)
          rw [e]
          have q := okS_next hs (show wrongAt ⟨b, f, ba, co⟩ (l.getD i.toNat default) ≤ 0 by omega)
          rw [next_eq hs (by omega)] at q
          exact OK.mk ⟨⟨q, by dsimp only; omega, by dsimp only; omega, he⟩, by dsimp only; omega⟩
      · simp only [decide_eq_false_iff_not] at hi
        have : i = l.length := by omega
        subst this
        rw [drop_end, checkFrom] at he
        exact OK.mk ⟨he.symm, hs.1⟩
    · rintro b ⟨hb, hb2⟩
      rw [hb]
      cases b with
      | inl v => exact OK.mk rfl
      | inr v =>
        obtain ⟨b, f⟩ := v
        simp only [Sum.elim_inr, impl_SureCheck_j15] at hb2 ⊢
        refine OK.cond (fun hw => ?_) (fun hw => ?_)
        · simp only [bne_iff_ne, ne_eq] at hw
          rw [if_pos (by omega)]; exact OK.mk rfl
        · simp only [bne_eq_false_iff_eq] at hw
          rw [if_neg (by omega)]; exact OK.mk rfl
end Go.AM
end
section
/- Ladders: what the document finds wrong with them. Conditions: none. -/
namespace Go.AM
open Go
end Go.AM
end
section
/- Ladders: normal forms are made. Conditions: none. -/
namespace Go.AM
open Go
end Go.AM
end
section
/- Ladders: their lists are made. Conditions: none. -/
namespace Go.AM
open Go
theorem okArgs.app {l m : List Inst} (h : okArgs l) (k : okArgs m) : okArgs (l ++ m) := fun i hi => by
  rcases List.mem_append.1 hi with q | q
  · exact h i q
  · exact k i q
end Go.AM
end
section
/- The draws end well: images. Conditions: none. -/
namespace Go.AM
open Go
def by8 (l : List Int) : Prop := ∀ y ∈ l, 0 ≤ y ∧ y < 256
theorem u8w_eq (n : Int) : IntKind.u8.wrap n = n % 256 := by simp [IntKind.wrap, IntKind.bits, IntKind.signed]
theorem u8w (n : Int) : 0 ≤ IntKind.u8.wrap n ∧ IntKind.u8.wrap n < 256 := by rw [u8w_eq]; omega
theorem by8.app {l m : List Int} (h : by8 l) (k : by8 m) : by8 (l ++ m) := fun y hy => by
  rcases List.mem_append.1 hy with q | q
  · exact h y q
  · exact k y q
theorem by8.set {l : List Int} (h : by8 l) (k : Nat) (n : Int) : by8 (l.set k (IntKind.u8.wrap n)) := fun y hy => by
  rcases List.mem_or_eq_of_mem_set hy with q | rfl
  · exact h y q
  · exact u8w n
end Go.AM
end
section
/- Ladders that are drawn. Conditions: none. -/
namespace Go.AM
open Go
end Go.AM
end
section
/- Sums of images: the program's and the document's are the same. Conditions: none. -/
namespace Go.AM
open Go
theorem bxor16 {a b : Int} (ha : 0 ≤ a) (ha2 : a < 65536) (hb : 0 ≤ b) (hb2 : b < 65536) : bxor .u16 a b = ((a.toNat ^^^ b.toNat : Nat) : Int) := by
  show IntKind.u16.wrap (BitVec.ofInt 16 a ^^^ BitVec.ofInt 16 b).toNat = _
  have h1 : (BitVec.ofInt 16 a).toNat = a.toNat := by rw [BitVec.toNat_ofInt]; omega
  have h2 : (BitVec.ofInt 16 b).toNat = b.toNat := by rw [BitVec.toNat_ofInt]; omega
  rw [BitVec.toNat_xor, h1, h2]
  have h3 : a.toNat ^^^ b.toNat < 2 ^ 16 := Nat.xor_lt_two_pow (by omega) (by omega)
  simp [IntKind.wrap, IntKind.bits, IntKind.signed]
  omega
theorem xor_step (x y k : Nat) : (x ^^^ y) % 2 ^ (k + 1) = (x ^^^ y) % 2 ^ k + (if x / 2 ^ k % 2 = y / 2 ^ k % 2 then 0 else 2 ^ k) := by
  have h0 : (x ^^^ y) / 2 ^ k % 2 = if x / 2 ^ k % 2 = y / 2 ^ k % 2 then 0 else 1 := by
    have h := Nat.testBit_xor x y k
    rw [Nat.testBit_eq_decide_div_mod_eq, Nat.testBit_eq_decide_div_mod_eq, Nat.testBit_eq_decide_div_mod_eq] at h
    have h1 : x / 2 ^ k % 2 = 0 ∨ x / 2 ^ k % 2 = 1 := by omega
    have h2 : y / 2 ^ k % 2 = 0 ∨ y / 2 ^ k % 2 = 1 := by omega
    have h3 : (x ^^^ y) / 2 ^ k % 2 = 0 ∨ (x ^^^ y) / 2 ^ k % 2 = 1 := by omega
    rcases h1 with h1 | h1 <;> rcases h2 with h2 | h2 <;> rcases h3 with h3 | h3 <;> simp [h1, h2, h3] at h ⊢
  rw [Nat.mod_pow_succ, h0]
  split <;> simp
theorem half {u : Nat} (h : u < 65536) : IntKind.i64.wrap (((u : Nat) : Int).tdiv 2) = ((u / 2 : Nat) : Int) := by
  rw [Int.tdiv_eq_ediv_of_nonneg (by omega), w64 (by omega) (by omega)]; omega
theorem dbl {u : Nat} (h : u < 65536) : IntKind.i64.wrap (((u : Nat) : Int) * 2) = ((u * 2 : Nat) : Int) := by
  rw [w64 (by omega) (by omega)]; omega
theorem pls {u v : Nat} (h : u < 65536) (h2 : v < 65536) : IntKind.i64.wrap ((u : Int) + (v : Int)) = ((u + v : Nat) : Int) := by
  rw [w64 (by omega) (by omega)]; omega
theorem bitne {u v : Nat} : (((u : Int)).tmod 2 != ((v : Int)).tmod 2) = !decide (u % 2 = v % 2) := by
  rw [Int.tmod_eq_emod_of_nonneg (by omega), Int.tmod_eq_emod_of_nonneg (by omega)]
  by_cases h : u % 2 = v % 2
  · simp [h]; omega
  · simp [h]; omega
theorem sXor_ok {a b : Int} (ha : 0 ≤ a) (ha2 : a < 65536) (hb : 0 ≤ b) (hb2 : b < 65536) : OK (spec_l17Xor a b) (fun x => x = bxor .u16 a b) := by
  rw [bxor16 ha ha2 hb hb2]
  obtain ⟨x, rfl⟩ := Int.eq_ofNat_of_zero_le ha
  obtain ⟨y, rfl⟩ := Int.eq_ofNat_of_zero_le hb
  simp only [Int.toNat_natCast]
  have hx : x ^^^ y < 2 ^ 16 := Nat.xor_lt_two_pow (by omega) (by omega)
  unfold spec_l17Xor
  refine OK.loop (Q := fun o => o = ((x ^^^ y : Nat) : Int)) (fun z : Int × Int × Int × Int => ∃ k : Nat, k ≤ 16 ∧ z.2.2.2 = ((2 ^ k : Nat) : Int) ∧ z.1 = ((x / 2 ^ k : Nat) : Int) ∧ z.2.1 = ((y / 2 ^ k : Nat) : Int) ∧ z.2.2.1 = (((x ^^^ y) % 2 ^ k : Nat) : Int)) (fun z => (65536 - z.2.2.2).toNat) ⟨0, by omega, by simp, by simp, by simp, by simp [Nat.mod_one]⟩ ?_ ?_
  · rintro ⟨p, q, o, m⟩ ⟨k, hk, e1, e2, e3, e4⟩
    dsimp only at e1 e2 e3 e4
    subst e1 e2 e3 e4
    simp only [spec_l17Xor_s9]
    refine OK.cond (fun hc => ?_) (fun hc => ?_)
    · simp only [decide_eq_true_eq] at hc
      have hk16 : k < 16 := by
        rcases Nat.lt_or_ge k 16 with q | q
        · exact q
        · have : k = 16 := by omega
          subst this; simp at hc
      have hp : (2 : Nat) ^ k ≤ 2 ^ 15 := Nat.pow_le_pow_right (by omega) (by omega)
      have hpos : 0 < (2 : Nat) ^ k := Nat.pow_pos (by omega)
      have hxk : x / 2 ^ k ≤ x := Nat.div_le_self _ _
      have hyk : y / 2 ^ k ≤ y := Nat.div_le_self _ _
      have hmo : (x ^^^ y) % 2 ^ k < 2 ^ k := Nat.mod_lt _ hpos
      have fin : ∀ o2 : Int, o2 = (((x ^^^ y) % 2 ^ (k + 1) : Nat) : Int) → OK (spec_l17Xor_j17 ((x / 2 ^ k : Nat) : Int) ((y / 2 ^ k : Nat) : Int) ((2 ^ k : Nat) : Int) o2) (Sum.elim (fun a' => (∃ k : Nat, k ≤ 16 ∧ a'.2.2.2 = ((2 ^ k : Nat) : Int) ∧ a'.1 = ((x / 2 ^ k : Nat) : Int) ∧ a'.2.1 = ((y / 2 ^ k : Nat) : Int) ∧ a'.2.2.1 = (((x ^^^ y) % 2 ^ k : Nat) : Int)) ∧ (65536 - a'.2.2.2).toNat < (65536 - ((2 ^ k : Nat) : Int)).toNat) (fun o => o = ((x ^^^ y : Nat) : Int))) := by
        intro o2 ho2
        simp only [spec_l17Xor_j17]
        have e1 := half (u := x / 2 ^ k) (by omega)
        have e2 := half (u := y / 2 ^ k) (by omega)
        have e3 := dbl (u := 2 ^ k) (by omega)
        rw [Nat.div_div_eq_div_mul, ← Nat.pow_succ] at e1 e2
        rw [← Nat.pow_succ] at e3
        rw [e1, e2, e3]
        refine OK.mk ⟨⟨k + 1, by omega, rfl, rfl, rfl, ho2⟩, ?_⟩
        show (65536 - ((2 ^ (k + 1) : Nat) : Int)).toNat < _
        rw [Nat.pow_succ]
        generalize (2 : Nat) ^ k = m at *
        omega
      rw [bitne]
      have hs := xor_step x y k
      refine OK.cond (fun hd => ?_) (fun hd => ?_)
      · refine fin _ ?_
        have hd : ¬ (x / 2 ^ k % 2 = y / 2 ^ k % 2) := by simpa using hd
        rw [if_neg hd] at hs
        rw [hs, pls (by omega) (by omega)]
      · refine fin _ ?_
        have hd : x / 2 ^ k % 2 = y / 2 ^ k % 2 := by simpa using hd
        rw [if_pos hd] at hs
        rw [hs, Nat.add_zero]
    · simp only [decide_eq_false_iff_not] at hc
      refine OK.mk ?_
      have : k = 16 := by
        rcases Nat.lt_or_ge k 16 with q | q
        · exfalso
          have hp : (2 : Nat) ^ k ≤ 2 ^ 15 := Nat.pow_le_pow_right (by omega) (by omega)
          omega
        · omega
      subst this
      show (((x ^^^ y) % 2 ^ 16 : Nat) : Int) = _
      rw [Nat.mod_eq_of_lt hx]
  · rintro o rfl
    exact OK.mk rfl
def rnd (s : Int) : Int := if s < 32768 then s * 2 else bxor .u16 (s * 2 - 65536) 4129
def iter (f : Int → Int) : Nat → Int → Int
  | 0, s => s
  | n + 1, s => f (iter f n s)
theorem iter_succ (f : Int → Int) (n : Nat) (s : Int) : iter f (n + 1) s = f (iter f n s) := rfl
theorem iter_zero (f : Int → Int) (s : Int) : iter f 0 s = s := rfl
attribute [irreducible] iter
def sumL (s : Int) : List Int → Int
  | [] => s
  | y :: r => sumL (iter rnd 8 (bxor .u16 s (y * 256))) r
theorem bxor_bd {a b : Int} (ha : 0 ≤ a) (ha2 : a < 65536) (hb : 0 ≤ b) (hb2 : b < 65536) : 0 ≤ bxor .u16 a b ∧ bxor .u16 a b < 65536 := by
  rw [bxor16 ha ha2 hb hb2]
  have h3 : a.toNat ^^^ b.toNat < 2 ^ 16 := Nat.xor_lt_two_pow (by omega) (by omega)
  omega
theorem rnd_bd {s : Int} (h0 : 0 ≤ s) (h1 : s < 65536) : 0 ≤ rnd s ∧ rnd s < 65536 := by
  unfold rnd
  split
  · omega
  · exact bxor_bd (by omega) (by omega) (by omega) (by omega)
theorem iter_bd {s : Int} (h0 : 0 ≤ s) (h1 : s < 65536) : ∀ n, 0 ≤ iter rnd n s ∧ iter rnd n s < 65536
  | 0 => by rw [iter_zero]; exact ⟨h0, h1⟩
  | n + 1 => by rw [iter_succ]; exact rnd_bd (iter_bd h0 h1 n).1 (iter_bd h0 h1 n).2
theorem sumL_app (s : Int) (l m : List Int) : sumL s (l ++ m) = sumL (sumL s l) m := by
  induction l generalizing s with
  | nil => rfl
  | cons y l ih => exact ih _
theorem sumL_bd {l : List Int} (hl : by8 l) : ∀ {s : Int}, 0 ≤ s → s < 65536 → 0 ≤ sumL s l ∧ sumL s l < 65536 := by
  induction l with
  | nil => intro s h0 h1; exact ⟨h0, h1⟩
  | cons y l ih =>
    intro s h0 h1
    have hy := hl y (.head _)
    have hb := bxor_bd h0 h1 (show 0 ≤ y * 256 by omega) (by omega)
    have hi := iter_bd hb.1 hb.2 8
    exact ih (fun z hz => hl z (.tail _ hz)) hi.1 hi.2
theorem take1' {l : List Int} {i : Int} (h0 : 0 ≤ i) (h1 : i < l.length) {y : Int} (hy : l.getD i.toNat default = y) : l.take (i + 1).toNat = l.take i.toNat ++ [y] := by
  have e : (i + 1).toNat = i.toNat + 1 := by omega
  have hlt : i.toNat < l.length := by omega
  rw [e, List.take_succ_eq_append_getElem hlt, ← hy, List.getD_eq_getElem?_getD, List.getElem?_eq_getElem hlt]
  rfl
theorem sRound_ok {s : Int} (h0 : 0 ≤ s) (h1 : s < 65536) : OK (spec_l17Round s) (fun x => x = rnd s) := by
  unfold spec_l17Round
  have e : IntKind.i64.wrap (s * 2) = s * 2 := w64 (by omega) (by omega)
  rw [e]
  refine OK.cond (fun hc => ?_) (fun hc => ?_)
  · simp only [decide_eq_true_eq] at hc
    rw [w64 (by omega) (by omega)]
    refine OK.bind (sXor_ok (by omega) (by omega) (by omega) (by omega)) ?_
    rintro x rfl
    exact OK.mk (by rw [rnd, if_neg (by omega)])
  · simp only [decide_eq_false_iff_not] at hc
    exact OK.mk (by rw [rnd, if_pos (by omega)])
theorem sSum_ok {l : List Int} (hl : by8 l) (hlen : l.length ≤ 1000000) : OK (spec_PicSum l) (fun x => x = sumL 65535 l) := by
  unfold spec_PicSum
  refine OK.loop (Q := fun x => x = sumL 65535 l) (fun z : Int × Int => 0 ≤ z.2 ∧ z.2 ≤ l.length ∧ z.1 = sumL 65535 (l.take z.2.toNat)) (fun z => (l.length - z.2).toNat) ⟨Int.le_refl _, by dsimp only; omega, rfl⟩ ?_ ?_
  · rintro ⟨s, i⟩ ⟨h1, h2, h3⟩
    dsimp only at h1 h2 h3
    have hsb : 0 ≤ s ∧ s < 65536 := by rw [h3]; exact sumL_bd (fun y hy => hl y (List.mem_of_mem_take hy)) (by omega) (by omega)
    simp only [spec_PicSum_s9]
    refine OK.cond (fun hc => ?_) (fun hc => ?_)
    · simp only [decide_eq_true_eq] at hc
      refine OK.idx h1 hc fun y hy hyd => ?_
      have hyb := hl y hy
      have e1 : IntKind.i64.wrap y = y := w64 (by omega) (by omega)
      have e2 : IntKind.i64.wrap (y * 256) = y * 256 := w64 (by omega) (by omega)
      rw [e1, e2]
      refine OK.bind (sXor_ok hsb.1 hsb.2 (by omega) (by omega)) ?_
      rintro t rfl
      have hb := bxor_bd hsb.1 hsb.2 (show 0 ≤ y * 256 by omega) (by omega)
      refine OK.loop (Q := fun x => x = iter rnd 8 (bxor .u16 s (y * 256))) (fun z : Int × Int => 0 ≤ z.2 ∧ z.2 ≤ 8 ∧ z.1 = iter rnd z.2.toNat (bxor .u16 s (y * 256))) (fun z => (8 - z.2).toNat) ⟨Int.le_refl _, by dsimp only; omega, (iter_zero _ _).symm⟩ ?_ ?_
      · rintro ⟨t, j⟩ ⟨j1, j2, j3⟩
        dsimp only at j1 j2 j3
        simp only [spec_PicSum_s23]
        refine OK.cond (fun hd => ?_) (fun hd => ?_)
        · simp only [decide_eq_true_eq] at hd
          have ht := iter_bd hb.1 hb.2 j.toNat
          rw [← j3] at ht
          refine OK.bind (sRound_ok ht.1 ht.2) ?_
          rintro u rfl
          have e : IntKind.i64.wrap (j + 1) = j + 1 := w64 (by omega) (by omega)
          rw [e]
          refine OK.mk ⟨⟨by dsimp only; omega, by dsimp only; omega, ?_⟩, by dsimp only; omega⟩
          dsimp only
          rw [show (j + 1).toNat = j.toNat + 1 by omega, j3, iter_succ]
        · simp only [decide_eq_false_iff_not] at hd
          have : j = 8 := by omega
          subst this
          exact OK.mk j3
      · rintro t rfl
        simp only [spec_PicSum_j16]
        have e : IntKind.i64.wrap (i + 1) = i + 1 := w64 (by omega) (by omega)
        rw [e]
        refine OK.mk ⟨⟨by dsimp only; omega, by dsimp only; omega, ?_⟩, by dsimp only; omega⟩
        dsimp only
        rw [take1' h1 hc hyd, sumL_app, ← h3]
        rfl
    · simp only [decide_eq_false_iff_not] at hc
      refine OK.mk (show s = _ from ?_)
      rw [h3, List.take_of_length_le (by omega)]
  · rintro x rfl
    simp only [spec_PicSum_j5]
    refine OK.mk ?_
    have hb := sumL_bd hl (s := 65535) (by omega) (by omega)
    simp [IntKind.wrap, IntKind.bits, IntKind.signed]
    omega
theorem u16w {n : Int} (h0 : 0 ≤ n) (h1 : n < 65536) : IntKind.u16.wrap n = n := by simp [IntKind.wrap, IntKind.bits, IntKind.signed]; omega
theorem iSum_ok {l : List Int} (hl : by8 l) (hlen : l.length ≤ 1000000) : OK (impl_PicSum l) (fun x => x = sumL 65535 l) := by
  unfold impl_PicSum
  refine OK.loop (Q := fun x => x = sumL 65535 l) (fun z : Int × Int => 0 ≤ z.2 ∧ z.2 ≤ l.length ∧ z.1 = sumL 65535 (l.take z.2.toNat)) (fun z => (l.length - z.2).toNat) ⟨Int.le_refl _, by dsimp only; omega, rfl⟩ ?_ ?_
  · rintro ⟨s, i⟩ ⟨h1, h2, h3⟩
    dsimp only at h1 h2 h3
    have hsb : 0 ≤ s ∧ s < 65536 := by rw [h3]; exact sumL_bd (fun y hy => hl y (List.mem_of_mem_take hy)) (by omega) (by omega)
    simp only [impl_PicSum_s9]
    refine OK.cond (fun hc => ?_) (fun hc => ?_)
    · simp only [decide_eq_true_eq] at hc
      refine OK.idx h1 hc fun y hy hyd => ?_
      have hyb := hl y hy
      have e1 : IntKind.u16.wrap y = y := u16w (by omega) (by omega)
      have e2 : IntKind.u16.wrap (y * 256) = y * 256 := u16w (by omega) (by omega)
      rw [e1, e2]
      have hb := bxor_bd hsb.1 hsb.2 (show 0 ≤ y * 256 by omega) (by omega)
      refine OK.loop (Q := fun x => x = iter rnd 8 (bxor .u16 s (y * 256))) (fun z : Int × Int => 0 ≤ z.2 ∧ z.2 ≤ 8 ∧ z.1 = iter rnd z.2.toNat (bxor .u16 s (y * 256))) (fun z => (8 - z.2).toNat) ⟨Int.le_refl _, by dsimp only; omega, (iter_zero _ _).symm⟩ ?_ ?_
      · rintro ⟨t, j⟩ ⟨j1, j2, j3⟩
        dsimp only at j1 j2 j3
        simp only [impl_PicSum_s25]
        refine OK.cond (fun hd => ?_) (fun hd => ?_)
        · simp only [decide_eq_true_eq] at hd
          have ht := iter_bd hb.1 hb.2 j.toNat
          rw [← j3] at ht
          have e : IntKind.i64.wrap (j + 1) = j + 1 := w64 (by omega) (by omega)
          have fin : ∀ u, u = rnd t → OK (impl_PicSum_j32 j u) (Sum.elim (fun a' => (0 ≤ a'.2 ∧ a'.2 ≤ 8 ∧ a'.1 = iter rnd a'.2.toNat (bxor .u16 s (y * 256))) ∧ (8 - a'.2).toNat < (8 - j).toNat) (fun x => x = iter rnd 8 (bxor .u16 s (y * 256)))) := by
            rintro u rfl
            simp only [impl_PicSum_j32, e]
            refine OK.mk ⟨⟨by dsimp only; omega, by dsimp only; omega, ?_⟩, by dsimp only; omega⟩
            dsimp only
            rw [show (j + 1).toNat = j.toNat + 1 by omega, j3, iter_succ]
          have q1 : t.fdiv 32768 = t / 32768 := Int.fdiv_eq_ediv_of_nonneg _ (by omega)
          rw [q1]
          refine OK.cond (fun hx => ?_) (fun hx => ?_)
          · simp only [beq_iff_eq] at hx
            refine fin _ ?_
            rw [rnd, if_neg (by omega)]
            have : IntKind.u16.wrap (t * 2) = t * 2 - 65536 := by simp [IntKind.wrap, IntKind.bits, IntKind.signed]; omega
            rw [this]
          · simp only [beq_eq_false_iff_ne] at hx
            refine fin _ ?_
            rw [rnd, if_pos (by omega), u16w (by omega) (by omega)]
        · simp only [decide_eq_false_iff_not] at hd
          have : j = 8 := by omega
          subst this
          exact OK.mk j3
      · rintro t rfl
        simp only [impl_PicSum_j16]
        have e : IntKind.i64.wrap (i + 1) = i + 1 := w64 (by omega) (by omega)
        rw [e]
        refine OK.mk ⟨⟨by dsimp only; omega, by dsimp only; omega, ?_⟩, by dsimp only; omega⟩
        dsimp only
        rw [take1' h1 hc hyd, sumL_app, ← h3]
        rfl
    · simp only [decide_eq_false_iff_not] at hc
      refine OK.mk (show s = _ from ?_)
      rw [h3, List.take_of_length_le (by omega)]
  · rintro x rfl
    exact OK.mk rfl
end Go.AM
end
section
/- Images: how both packages write instructions. Conditions: none. -/
namespace Go.AM
open Go
def be2 (v : Int) : List Int := [v / 256 % 256, v % 256]
def be4 (v : Int) : List Int := [v / 16777216 % 256, v / 65536 % 256, v / 256 % 256, v % 256]
def ar (op : Int) : Int := if op = 1 ∨ op = 2 ∨ op = 21 ∨ op = 22 ∨ op = 23 ∨ op = 25 then 1 else if 31 ≤ op ∧ op ≤ 35 then 3 else if (1 ≤ op ∧ op ≤ 10) ∨ (21 ≤ op ∧ op ≤ 37) then 2 else 0
def isHas (c : Int) : Bool := c == 1 || c == 2 || c == 3 || c == 10
def known (c op : Int) : Bool := if c = 10 then decide (21 ≤ op ∧ op ≤ 37) else decide (1 ≤ op ∧ op ≤ 10)
def argOk (a : DevArg) : Bool :=
  if a.Kind = 11 then decide (-32768 ≤ a.N ∧ a.N ≤ 32767 ∧ a.P = 0)
  else if a.Kind = 12 then decide (-2147483648 ≤ a.N ∧ a.N ≤ 2147483647 ∧ 0 ≤ a.P ∧ a.P ≤ 255)
  else decide (((1 ≤ a.Kind ∧ a.Kind ≤ 10) ∨ a.Kind = 13) ∧ 0 ≤ a.N ∧ a.N ≤ 255 ∧ a.P = 0)
def encA (a : DevArg) : List Int := a.Kind % 256 :: (if a.Kind = 11 then be2 a.N else if a.Kind = 12 then be4 a.N ++ [a.P % 256] else [a.N % 256])
def encI (i : Inst) : List Int := i.Code % 256 :: (if isHas i.Code = true then i.One_Op % 256 :: i.One_Args.flatMap encA else [])
def wro (i : Inst) : Int :=
  if i.Code < 1 ∨ i.Code > 11 then 2
  else if isHas i.Code = false then (if i.One_Op ≠ 0 ∨ i.One_Args.length > 0 then 2 else 0)
  else if known i.Code i.One_Op = false ∨ (i.One_Args.length : Int) ≠ ar i.One_Op then 2
  else if i.One_Args.all argOk = true then 0 else 3
theorem ar_bd (op : Int) : 0 ≤ ar op ∧ ar op ≤ 3 := by unfold ar; repeat' split <;> omega
theorem sArity_ok (op : Int) : OK (spec_ElemArity op) (fun x => x = ar op) := by
  unfold spec_ElemArity
  repeat' (first
    | (refine OK.mk ?_; simp only [beq_iff_eq, beq_eq_false_iff_ne, ne_eq, Bool.or_eq_true, Bool.and_eq_true, decide_eq_true_eq, Bool.or_eq_false_iff, Bool.and_eq_false_iff, decide_eq_false_iff_not] at *; unfold ar; repeat' split <;> omega)
    | simp only [spec_ElemArity_j7, spec_ElemArity_j33]
    | refine OK.cond (fun _ => ?_) (fun _ => ?_))
theorem in_eq (a b c : Int) : impl_in a b c = some (decide (b ≤ a ∧ a ≤ c)) := by unfold impl_in; simp [Bool.decide_and]
theorem iArity_ok (op : Int) : OK (impl_ElemArity op) (fun x => x = ar op) := by
  unfold impl_ElemArity
  simp only [in_eq, Option.bind_some]
  repeat' (first
    | (refine OK.mk ?_; simp only [beq_iff_eq, beq_eq_false_iff_ne, ne_eq, Bool.or_eq_true, Bool.and_eq_true, decide_eq_true_eq, Bool.or_eq_false_iff, Bool.and_eq_false_iff, decide_eq_false_iff_not] at *; unfold ar; repeat' split <;> omega)
    | simp only [impl_ElemArity_j5, impl_ElemArity_j29, in_eq, Option.bind_some]
    | refine OK.cond (fun _ => ?_) (fun _ => ?_))
theorem sHas_eq (c : Int) : spec_l17Has c = some (isHas c) := rfl
theorem iHas_eq (c : Int) : impl_hasOne c = some (isHas c) := by
  unfold impl_hasOne
  rw [in_eq, Option.bind_some]
  congr 1
  unfold isHas
  rw [Bool.eq_iff_iff]
  simp
  omega
theorem sKnown_eq (c op : Int) : spec_l17Known c op = some (known c op) := by
  refine OK.eq ?_
  unfold spec_l17Known known
  refine OK.cond (fun h => OK.mk ?_) (fun h => OK.mk ?_)
  · rw [if_pos (by simpa using h)]; simp [Bool.decide_and]
  · rw [if_neg (by simpa using h)]; simp [Bool.decide_and]
theorem iFits_eq (c op : Int) : impl_opFits c op = some (known c op) := by
  refine OK.eq ?_
  unfold impl_opFits known
  simp only [in_eq, Option.bind_some]
  refine OK.cond (fun h => OK.mk ?_) (fun h => OK.mk ?_)
  · rw [if_pos (by simpa using h)]
  · rw [if_neg (by simpa using h)]
/-! numbers in bytes -/
/-! an operand, an instruction -/
theorem encA_len (a : DevArg) : 2 ≤ (encA a).length ∧ (encA a).length ≤ 6 := by
  unfold encA
  split
  · simp [be2]
  · split <;> simp [be4]
theorem encA_by8 (a : DevArg) : by8 (encA a) := by
  unfold encA
  intro y hy
  split at hy
  · simp [be2] at hy; omega
  · split at hy
    · simp [be4] at hy; omega
    · simp at hy; omega
end Go.AM
end
section
/- Images: how both packages write lists. Conditions: none. -/
namespace Go.AM
open Go
theorem fm_len {l : List DevArg} : (l.flatMap encA).length ≤ 6 * l.length := by
  induction l with
  | nil => simp
  | cons a l ih => have := encA_len a; rw [List.flatMap_cons, List.length_append, List.length_cons]; omega
theorem fm_by8 (l : List DevArg) : by8 (l.flatMap encA) := fun y hy => by
  obtain ⟨a, _, ha⟩ := List.mem_flatMap.1 hy
  exact encA_by8 a y ha
theorem encI_by8 (i : Inst) : by8 (encI i) := by
  unfold encI
  intro y hy
  rcases List.mem_cons.1 hy with rfl | hy
  · omega
  · split at hy
    · rcases List.mem_cons.1 hy with rfl | hy
      · omega
      · exact fm_by8 _ y hy
    · cases hy
theorem wro_zero {i : Inst} (h : wro i = 0) : 1 ≤ i.Code ∧ i.Code ≤ 11 ∧ (isHas i.Code = false → i.One_Op = 0 ∧ i.One_Args = []) ∧ (isHas i.Code = true → known i.Code i.One_Op = true ∧ (i.One_Args.length : Int) = ar i.One_Op ∧ i.One_Args.all argOk = true) := by
  unfold wro at h
  split at h
  · cases h
  · rename_i h1
    split at h
    · rename_i h2
      split at h
      · cases h
      · rename_i h3
        refine ⟨by omega, by omega, fun _ => ⟨by omega, List.eq_nil_of_length_eq_zero (by omega)⟩, fun e => (by rw [h2] at e; cases e)⟩
    · rename_i h2
      split at h
      · cases h
      · rename_i h3
        split at h
        · rename_i h4
          refine ⟨by omega, by omega, fun e => absurd e h2, fun _ => ⟨by simpa using fun e => h3 (.inl e), by
            rcases Decidable.em ((i.One_Args.length : Int) = ar i.One_Op) with q | q
            · exact q
            · exact absurd (.inr q) h3, h4⟩⟩
        · cases h
theorem encI_len {i : Inst} (h : wro i = 0) : 1 ≤ (encI i).length ∧ (encI i).length ≤ 20 := by
  obtain ⟨_, _, h3, h4⟩ := wro_zero h
  unfold encI
  split
  · rename_i hh
    have := (h4 hh).2.1
    have := ar_bd i.One_Op
    have := @fm_len i.One_Args
    simp only [List.length_cons]; omega
  · simp
end Go.AM
end
section
/- Images: how both packages read operands. Conditions: none. -/
namespace Go.AM
open Go
def s2 (a b : Int) : Int := if a ≥ 128 then a * 256 + b - 65536 else a * 256 + b
def s4 (a b c d : Int) : Int := if a ≥ 128 then a * 16777216 + b * 65536 + c * 256 + d - 4294967296 else a * 16777216 + b * 65536 + c * 256 + d
def rN (k : Int) : List Int → Int ⊕ (DevArg × List Int)
  | n :: r => .inr (⟨k, n, 0⟩, r)
  | [] => .inl 6
def rW : List Int → Int ⊕ (DevArg × List Int)
  | a :: b :: r => .inr (⟨11, s2 a b, 0⟩, r)
  | _ => .inl 6
def rD : List Int → Int ⊕ (DevArg × List Int)
  | a :: b :: c :: d :: p :: r => .inr (⟨12, s4 a b c d, p⟩, r)
  | _ => .inl 6
def rK (k : Int) (r : List Int) : Int ⊕ (DevArg × List Int) := if k < 1 ∨ k > 13 then .inl 3 else if k = 11 then rW r else if k = 12 then rD r else rN k r
def rA : List Int → Int ⊕ (DevArg × List Int)
  | [] => .inl 6
  | k :: r => rK k r
theorem by8.hd {x : Int} {l : List Int} (h : by8 (x :: l)) : 0 ≤ x ∧ x < 256 := h x (.head _)
theorem by8.tl {x : Int} {l : List Int} (h : by8 (x :: l)) : by8 l := fun y hy => h y (.tail _ hy)
theorem rA_enc {l : List Int} {a : DevArg} {r : List Int} (hl : by8 l) (h : rA l = .inr (a, r)) : l = encA a ++ r ∧ argOk a = true := by
  cases l with
  | nil => cases h
  | cons k l =>
    have hk := hl.hd
    simp only [rA, rK] at h
    split at h
    · cases h
    rename_i h1
    split at h
    · rename_i h2
      match l, h with
      | a :: b :: r', h =>
        cases h
        have ha := hl.tl.hd
        have hb := hl.tl.tl.hd
        refine ⟨?_, ?_⟩
        · simp only [encA, be2, if_pos, List.cons_append, List.nil_append, List.cons.injEq, and_true]
          refine ⟨by omega, ?_, ?_⟩ <;> (unfold s2; split <;> omega)
        · have h1 : -32768 ≤ s2 a b := by unfold s2; split <;> omega
          have h2 : s2 a b ≤ 32767 := by unfold s2; split <;> omega
          unfold argOk
          rw [if_pos rfl, decide_eq_true_eq]
          exact ⟨h1, h2, rfl⟩
    rename_i h2
    split at h
    · rename_i h3
      match l, h with
      | a :: b :: c :: d :: p :: r', h =>
        cases h
        have ha := hl.tl.hd
        have hb := hl.tl.tl.hd
        have hc := hl.tl.tl.tl.hd
        have hd := hl.tl.tl.tl.tl.hd
        have hp := hl.tl.tl.tl.tl.tl.hd
        refine ⟨?_, ?_⟩
        · rw [encA, if_neg (show ¬ (12 : Int) = 11 by decide), if_pos rfl]
          simp only [be4, List.cons_append, List.nil_append, List.cons.injEq, and_true]
          refine ⟨by omega, ?_, ?_, ?_, ?_, by omega⟩ <;> (unfold s4; split <;> omega)
        · unfold argOk s4
          rw [if_neg (show ¬ (12 : Int) = 11 by decide), if_pos rfl, decide_eq_true_eq]
          dsimp only
          split <;> omega
    rename_i h3
    match l, h with
    | n :: r', h =>
      cases h
      have hn := hl.tl.hd
      refine ⟨?_, ?_⟩
      · rw [encA, if_neg h2, if_neg h3]
        simp only [List.cons_append, List.nil_append, List.cons.injEq, and_true]
        omega
      · unfold argOk
        rw [if_neg h2, if_neg h3, decide_eq_true_eq]
        dsimp only
        omega
theorem rA_dec {a : DevArg} (h : argOk a = true) (r : List Int) : rA (encA a ++ r) = .inr (a, r) := by
  obtain ⟨k, n, p⟩ := a
  unfold argOk at h
  unfold encA
  dsimp only at h ⊢
  split at h
  · rename_i h1
    subst h1
    simp only [decide_eq_true_eq] at h
    rw [if_pos rfl]
    simp only [be2, List.cons_append, List.nil_append, rA, rK]
    rw [if_neg (by omega), if_pos (by omega), rW]
    have e : s2 (n / 256 % 256) (n % 256) = n := by
      unfold s2
      split <;> omega
    rw [e, h.2.2]
  rename_i h1
  split at h
  · rename_i h2
    subst h2
    simp only [decide_eq_true_eq] at h
    rw [if_neg h1, if_pos rfl]
    simp only [be4, List.cons_append, List.nil_append, rA, rK]
    rw [if_neg (by omega), if_neg (by omega), if_pos (by omega), rD]
    have e : s4 (n / 16777216 % 256) (n / 65536 % 256) (n / 256 % 256) (n % 256) = n := by
      unfold s4
      split <;> omega
    have e2 : p % 256 = p := by omega
    rw [e, e2]
  rename_i h2
  simp only [decide_eq_true_eq] at h
  rw [if_neg h1, if_neg h2]
  simp only [List.cons_append, List.nil_append, rA, rK]
  have e1 : k % 256 = k := by omega
  have e2 : n % 256 = n := by omega
  rw [e1, e2, if_neg (by omega), if_neg (by omega), if_neg (by omega), rN, h.2.2.2]
/-! bytes as numbers -/
theorem bor_byte {x y : Int} (hx : 0 ≤ x) (hx2 : x < 1099511627776) (hy : 0 ≤ y) (hy2 : y < 256) : bor .i64 (IntKind.i64.wrap (x * 256)) (IntKind.i64.wrap y) = x * 256 + y := by
  rw [w64 (by omega) (by omega), w64 (by omega) (by omega)]
  show IntKind.i64.wrap (BitVec.ofInt 64 (x * 256) ||| BitVec.ofInt 64 y).toNat = _
  have h1 : (BitVec.ofInt 64 (x * 256)).toNat = 2 ^ 8 * x.toNat := by rw [BitVec.toNat_ofInt]; omega
  have h2 : (BitVec.ofInt 64 y).toNat = y.toNat := by rw [BitVec.toNat_ofInt]; omega
  rw [BitVec.toNat_or, h1, h2, ← Nat.two_pow_add_eq_or_of_lt (by omega), w64 (by omega) (by omega)]
  omega
theorem fb_on {l : List Int} {x i y : Int} (h0 : 0 ≤ i) (h1 : i < l.length) (hl : l.length ≤ 1000) (hx : 0 ≤ x) (hx2 : x < 1099511627776) (hy : l.getD i.toNat default = y) (hy0 : 0 ≤ y) (hy2 : y < 256) : impl_fromBig_s9 l (x, i) = some (.inl (x * 256 + y, i + 1)) := by
  refine OK.eq ?_
  simp only [impl_fromBig_s9]
  refine OK.cond (fun _ => ?_) (fun hc => ?_)
  · refine OK.idx h0 h1 fun z _ hz => ?_
    rw [hy] at hz
    subst hz
    rw [bor_byte hx hx2 hy0 hy2, w64 (by omega) (by omega)]
    exact OK.mk rfl
  · simp only [decide_eq_false_iff_not] at hc; omega
theorem fb_out {l : List Int} {x i : Int} (h : ¬ i < l.length) : impl_fromBig_s9 l (x, i) = some (.inr x) := by
  simp only [impl_fromBig_s9]
  rw [decide_eq_false h]; rfl
theorem fb2 {a b : Int} (h : by8 [a, b]) : impl_fromBig [a, b] = some (a * 256 + b) := by
  have ha := h.hd
  have hb := h.tl.hd
  unfold impl_fromBig
  rw [loop_on (fb_on (y := a) (by omega) (by simp) (by simp) (by omega) (by omega) rfl ha.1 ha.2), loop_on (fb_on (y := b) (by omega) (by simp) (by simp) (by omega) (by omega) rfl hb.1 hb.2), loop_out (fb_out (by simp))]
  simp [impl_fromBig_j5]
theorem fb4 {a b c d : Int} (h : by8 [a, b, c, d]) : impl_fromBig [a, b, c, d] = some (a * 16777216 + b * 65536 + c * 256 + d) := by
  have ha := h.hd
  have hb := h.tl.hd
  have hc := h.tl.tl.hd
  have hd := h.tl.tl.tl.hd
  unfold impl_fromBig
  rw [loop_on (fb_on (y := a) (by omega) (by simp) (by simp) (by omega) (by omega) rfl ha.1 ha.2), loop_on (fb_on (y := b) (by omega) (by simp) (by simp) (by omega) (by omega) rfl hb.1 hb.2),
    loop_on (fb_on (y := c) (by omega) (by simp) (by simp) (by omega) (by omega) rfl hc.1 hc.2), loop_on (fb_on (y := d) (by omega) (by simp) (by simp) (by omega) (by omega) rfl hd.1 hd.2), loop_out (fb_out (by simp))]
  simp only [impl_fromBig_j5, Option.bind_some, Option.some.injEq]
  omega
theorem sg2 {a b : Int} (h : by8 [a, b]) : impl_signed [a, b] = some (s2 a b) := by
  have ha := h.hd
  have hb := h.tl.hd
  refine OK.eq ?_
  unfold impl_signed
  rw [fb2 h, Option.bind_some]
  refine OK.idx (by omega) (by simp) fun y _ hy => ?_
  obtain rfl : a = y := hy
  have e0 : IntKind.i64.wrap (8 * (([a, b].length : Nat) : Int)) = 16 := by rfl
  have e : IntKind.i64.wrap (1 * pw .i64 16) = 65536 := by decide
  rw [e0, e, show decide ((0 : Int) ≤ 16) = true by decide, gd_t]
  simp only [impl_signed_j5]
  refine OK.cond (fun hc => OK.mk ?_) (fun hc => OK.mk ?_)
  · simp only [decide_eq_true_eq] at hc
    rw [w64 (by omega) (by omega), s2, if_pos hc]
  · simp only [decide_eq_false_iff_not] at hc
    rw [s2, if_neg hc]
theorem sg4 {a b c d : Int} (h : by8 [a, b, c, d]) : impl_signed [a, b, c, d] = some (s4 a b c d) := by
  have ha := h.hd
  have hb := h.tl.hd
  have hc := h.tl.tl.hd
  have hd := h.tl.tl.tl.hd
  refine OK.eq ?_
  unfold impl_signed
  rw [fb4 h, Option.bind_some]
  refine OK.idx (by omega) (by simp) fun y _ hy => ?_
  obtain rfl : a = y := hy
  have e0 : IntKind.i64.wrap (8 * (([a, b, c, d].length : Nat) : Int)) = 32 := by rfl
  have e : IntKind.i64.wrap (1 * pw .i64 32) = 4294967296 := by decide
  rw [e0, e, show decide ((0 : Int) ≤ 32) = true by decide, gd_t]
  simp only [impl_signed_j5]
  refine OK.cond (fun hc => OK.mk ?_) (fun hc => OK.mk ?_)
  · simp only [decide_eq_true_eq] at hc
    rw [w64 (by omega) (by omega), s4, if_pos hc]
  · simp only [decide_eq_false_iff_not] at hc
    rw [s4, if_neg hc]
theorem sv_on {l : List Int} {x p i y : Int} (h0 : 0 ≤ i) (h1 : i < l.length) (hl : l.length ≤ 1000) (hx : 0 ≤ x) (hx2 : x < 1099511627776) (hp : 0 ≤ p) (hp2 : p < 1099511627776) (hy : l.getD i.toNat default = y) (hy0 : 0 ≤ y) (hy2 : y < 256) : spec_l17Val_s11 l (x, p, i) = some (.inl (x * 256 + y, p * 256, i + 1)) := by
  refine OK.eq ?_
  simp only [spec_l17Val_s11]
  refine OK.cond (fun _ => ?_) (fun hc => ?_)
  · refine OK.idx h0 h1 fun z _ hz => ?_
    rw [hy] at hz
    subst hz
    rw [w64 (n := i + 1) (by omega) (by omega), w64 (n := y) (by omega) (by omega), w64 (n := x * 256) (by omega) (by omega), w64 (by omega) (by omega), w64 (by omega) (by omega)]
    exact OK.mk rfl
  · simp only [decide_eq_false_iff_not] at hc; omega
theorem sv_out {l : List Int} {x p i : Int} (h : ¬ i < l.length) : spec_l17Val_s11 l (x, p, i) = some (.inr (x, p)) := by
  simp only [spec_l17Val_s11]
  rw [decide_eq_false h]; rfl
theorem sv1 {a : Int} (h : by8 [a]) : spec_l17Val [a] = some a := by
  have ha := h.hd
  unfold spec_l17Val
  rw [loop_on (sv_on (y := a) (by omega) (by simp) (by simp) (by omega) (by omega) (by omega) (by omega) rfl ha.1 ha.2), loop_out (sv_out (by simp))]
  simp [spec_l17Val_j7, spec_l17Val_j24]
theorem sv2 {a b : Int} (h : by8 [a, b]) : spec_l17Val [a, b] = some (s2 a b) := by
  have ha := h.hd
  have hb := h.tl.hd
  refine OK.eq ?_
  unfold spec_l17Val
  rw [loop_on (sv_on (y := a) (by omega) (by simp) (by simp) (by omega) (by omega) (by omega) (by omega) rfl ha.1 ha.2), loop_on (sv_on (y := b) (by omega) (by simp) (by simp) (by omega) (by omega) (by omega) (by omega) rfl hb.1 hb.2), loop_out (sv_out (by simp)), Option.bind_some]
  simp only [spec_l17Val_j7, spec_l17Val_j24]
  refine OK.cond (fun _ => OK.idx (by omega) (by simp) fun y _ hy => ?_) (fun hc => by simp at hc)
  obtain rfl : a = y := hy
  refine OK.cond (fun hc => OK.mk ?_) (fun hc => OK.mk ?_)
  · simp only [decide_eq_true_eq] at hc
    rw [w64 (by omega) (by omega), s2, if_pos hc]; omega
  · simp only [decide_eq_false_iff_not] at hc
    rw [s2, if_neg hc]; omega
theorem sv4 {a b c d : Int} (h : by8 [a, b, c, d]) : spec_l17Val [a, b, c, d] = some (s4 a b c d) := by
  have ha := h.hd
  have hb := h.tl.hd
  have hc := h.tl.tl.hd
  have hd := h.tl.tl.tl.hd
  refine OK.eq ?_
  unfold spec_l17Val
  rw [loop_on (sv_on (y := a) (by omega) (by simp) (by simp) (by omega) (by omega) (by omega) (by omega) rfl ha.1 ha.2), loop_on (sv_on (y := b) (by omega) (by simp) (by simp) (by omega) (by omega) (by omega) (by omega) rfl hb.1 hb.2),
    loop_on (sv_on (y := c) (by omega) (by simp) (by simp) (by omega) (by omega) (by omega) (by omega) rfl hc.1 hc.2), loop_on (sv_on (y := d) (by omega) (by simp) (by simp) (by omega) (by omega) (by omega) (by omega) rfl hd.1 hd.2), loop_out (sv_out (by simp)), Option.bind_some]
  simp only [spec_l17Val_j7, spec_l17Val_j24]
  refine OK.cond (fun _ => OK.idx (by omega) (by simp) fun y _ hy => ?_) (fun hc => by simp at hc)
  obtain rfl : a = y := hy
  refine OK.cond (fun hc => OK.mk ?_) (fun hc => OK.mk ?_)
  · simp only [decide_eq_true_eq] at hc
    rw [w64 (by omega) (by omega), s4, if_pos hc]; omega
  · simp only [decide_eq_false_iff_not] at hc
    rw [s4, if_neg hc]; omega
end Go.AM
end
