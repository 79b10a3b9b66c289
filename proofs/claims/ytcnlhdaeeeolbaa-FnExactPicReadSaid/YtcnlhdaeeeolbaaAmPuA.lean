/- Pure programs that end well: rules. Conditions: none. -/
import Derived.Test.YtcnlhdaeeeolbaaAmX
set_option linter.unusedSimpArgs false
set_option linter.unusedVariables false
namespace Go.AM
open Go
def OK {α : Type} (o : Option α) (P : α → Prop) : Prop := ∃ x, o = some x ∧ P x
section
variable {α β : Type} {P : α → Prop} {Q : β → Prop}
theorem OK.mk {x : α} (h : P x) : OK (some x) P := ⟨x, rfl, h⟩
theorem OK.bind {o : Option β} {k : β → Option α} (h : OK o Q) (hk : ∀ x, Q x → OK (k x) P) : OK (o.bind k) P := by
  obtain ⟨x, rfl, hx⟩ := h
  exact hk x hx
theorem OK.cond {b : Bool} {x y : Option α} (h1 : b = true → OK x P) (h2 : b = false → OK y P) : OK (cond b x y) P := by
  cases b
  · exact h2 rfl
  · exact h1 rfl
theorem OK.gd {b : Bool} {k : Option α} (hb : b = true) (h : OK k P) : OK (gd b k) P := by subst hb; exact h
theorem OK.idx [Inhabited β] {l : List β} {i : Int} {k : β → Option α} (h0 : 0 ≤ i) (h1 : i < l.length) (h : ∀ x, x ∈ l → l.getD i.toNat default = x → OK (k x) P) : OK ((idx l i).bind k) P := by
  have hn : i.toNat < l.length := by omega
  have e : Go.AM.idx l i = some (l.getD i.toNat default) := by unfold Go.AM.idx; simp [h0, h1]
  rw [e]
  refine h _ ?_ rfl
  simp [List.getD, hn]
theorem OK.prt {l : List β} {a b : Int} {k : List β → Option α} (h0 : 0 ≤ a) (h1 : a ≤ b) (h2 : b ≤ l.length) (h : OK (k ((l.take b.toNat).drop a.toNat)) P) : OK ((prt l a b).bind k) P := by
  have e : Go.AM.prt l a b = some ((l.take b.toNat).drop a.toNat) := by unfold Go.AM.prt; simp [h0, h1, h2]
  rw [e]; exact h
theorem OK.prtH {l : List β} {b : Int} {k : List β → Option α} (h1 : 0 ≤ b) (h2 : b ≤ l.length) (h : OK (k (l.take b.toNat)) P) : OK ((prtH l b).bind k) P := by
  have e : Go.AM.prtH l b = some (l.take b.toNat) := by unfold Go.AM.prtH; simp [h1, h2]
  rw [e]; exact h
theorem OK.prtL {l : List β} {b : Int} {k : List β → Option α} (h1 : 0 ≤ b) (h2 : b ≤ l.length) (h : OK (k (l.drop b.toNat)) P) : OK ((prtL l b).bind k) P := by
  have e : Go.AM.prtL l b = some (l.drop b.toNat) := by unfold Go.AM.prtL; simp [h1, h2]
  rw [e]; exact h
theorem OK.loop {γ : Type} {f : γ → Option (γ ⊕ β)} {k : β → Option α} (I : γ → Prop) (μ : γ → Nat) {a : γ} (h0 : I a) (h : ∀ a, I a → OK (f a) (Sum.elim (fun a' => I a' ∧ μ a' < μ a) Q)) (hk : ∀ x, Q x → OK (k x) P) : OK ((loop f a).bind k) P := by
  refine OK.bind (Q := Q) ?_ hk
  refine loop_inv I μ Q (fun a ha => ?_) a h0
  obtain ⟨x, e, hx⟩ := h a ha
  cases x with
  | inl a' => exact .inl ⟨a', e, hx⟩
  | inr b => exact .inr ⟨b, e, hx⟩
theorem OK.eq {o : Option α} {x : α} (h : OK o (fun y => y = x)) : o = some x := by
  obtain ⟨y, e, rfl⟩ := h; exact e
end
theorem apOk_of {n b : Nat} (h1 : n * b ≤ 140737488355328) (h2 : n ≤ 140737488355328) : apOk n b = true := by simp [apOk, h1, h2]
theorem mkOk_of {l m : Int} {b : Nat} (h0 : 0 ≤ l) (h1 : l ≤ m) (h2 : b * m ≤ 281474976710656) (h3 : m ≤ 9223372036854775807) : mkOk l m b = true := by simp [mkOk, h0, h1, h2, h3]
theorem w64 {n : Int} (h1 : -9223372036854775808 ≤ n) (h2 : n ≤ 9223372036854775807) : IntKind.i64.wrap n = n := wrap64 h1 h2
theorem getD_mem {α : Type} [Inhabited α] {l : List α} {n : Nat} (h : n < l.length) : l.getD n default ∈ l := by
  simp [List.getD, h]
theorem idx_eq {α : Type} [Inhabited α] {l : List α} {i : Int} (h0 : 0 ≤ i) (h1 : i < l.length) : idx l i = some (l.getD i.toNat default) := by
  unfold idx; simp [h0, h1]
end Go.AM
