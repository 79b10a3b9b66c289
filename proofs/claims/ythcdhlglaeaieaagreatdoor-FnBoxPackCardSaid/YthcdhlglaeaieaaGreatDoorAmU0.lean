/- Several texts in one. Conditions: none. -/
import Derived.Test.YthcdhlglaeaieaaGreatDoorAmB5
import Derived.Test.YthcdhlglaeaieaaGreatDoorAmQa5
set_option linter.unusedSimpArgs false
set_option linter.unusedVariables false
section
/- Pure programs that end well: rules. Conditions: none. -/
namespace Go.AM
open Go
def OK {α : Type} (o : Option α) (P : α → Prop) : Prop := ∃ x, o = some x ∧ P x
section
variable {α β : Type} {P : α → Prop} {Q : β → Prop}
theorem OK.mk {x : α} (h : P x) : OK (some x) P := ⟨x, rfl, h⟩
theorem OK.bind {o : Option β} {k : β → Option α} (h : OK o Q) (hk : ∀ x, Q x → OK (k x) P) : OK (o.bind k) P := by
 obtain ⟨x, rfl, hx⟩ := h
 exact hk x hx
theorem OK.cond {b : Bool} {x y : Option α} (h1 : b = true → OK x P) (h2 : b = false → OK y P) : OK (cond b x y) P := by
 cases b
 ·exact h2 rfl
 ·exact h1 rfl
theorem OK.gd {b : Bool} {k : Option α} (hb : b = true) (h : OK k P) : OK (gd b k) P := by subst hb; exact h
theorem OK.idx [Inhabited β] {l : List β} {i : Int} {k : β → Option α} (h0 : 0 ≤ i) (h1 : i < l.length) (h : ∀ x, x ∈ l → l.getD i.toNat default = x → OK (k x) P) : OK ((idx l i).bind k) P := by
 have hn : i.toNat < l.length := by omega
 have e : Go.AM.idx l i = some (l.getD i.toNat default) := by unfold Go.AM.idx; simp [h0, h1]
 rw [e]
 refine h _ ?_ rfl
 simp [List.getD, hn]
theorem OK.prt {l : List β} {a b : Int} {k : List β → Option α} (h0 : 0 ≤ a) (h1 : a ≤ b) (h2 : b ≤ l.length) (h : OK (k ((l.take b.toNat).drop a.toNat)) P) : OK ((prt l a b).bind k) P := by
 have e : Go.AM.prt l a b = some ((l.take b.toNat).drop a.toNat) := by unfold Go.AM.prt; simp [h0, h1, h2]
 rw [e]; exact h
theorem OK.prtH {l : List β} {b : Int} {k : List β → Option α} (h1 : 0 ≤ b) (h2 : b ≤ l.length) (h : OK (k (l.take b.toNat)) P) : OK ((prtH l b).bind k) P := by
 have e : Go.AM.prtH l b = some (l.take b.toNat) := by unfold Go.AM.prtH; simp [h1, h2]
 rw [e]; exact h
theorem OK.prtL {l : List β} {b : Int} {k : List β → Option α} (h1 : 0 ≤ b) (h2 : b ≤ l.length) (h : OK (k (l.drop b.toNat)) P) : OK ((prtL l b).bind k) P := by
 have e : Go.AM.prtL l b = some (l.drop b.toNat) := by unfold Go.AM.prtL; simp [h1, h2]
 rw [e]; exact h
theorem OK.loop {γ : Type} {f : γ → Option (γ ⊕ β)} {k : β → Option α} (I : γ → Prop) (μ : γ → Nat) {a : γ} (h0 : I a) (h : ∀ a, I a → OK (f a) (Sum.elim (fun a' => I a' ∧ μ a' < μ a) Q)) (hk : ∀ x, Q x → OK (k x) P) : OK ((loop f a).bind k) P := by
 refine OK.bind (Q := Q) ?_ hk
 refine loop_inv I μ Q (fun a ha => ?_) a h0
 obtain ⟨x, e, hx⟩ := h a ha
 cases x with
 | inl a' => exact .inl ⟨a', e, hx⟩
 | inr b => exact .inr ⟨b, e, hx⟩
theorem OK.eq {o : Option α} {x : α} (h : OK o (fun y => y = x)) : o = some x := by
 obtain ⟨y, e, rfl⟩ := h; exact e
end
theorem apOk_of {n b : Nat} (h1 : n * b ≤ 140737488355328) (h2 : n ≤ 140737488355328) : apOk n b = true := by simp [apOk, h1, h2]
theorem mkOk_of {l m : Int} {b : Nat} (h0 : 0 ≤ l) (h1 : l ≤ m) (h2 : b * m ≤ 281474976710656) (h3 : m ≤ 9223372036854775807) : mkOk l m b = true := by simp [mkOk, h0, h1, h2, h3]
theorem w64 {n : Int} (h1 : -9223372036854775808 ≤ n) (h2 : n ≤ 9223372036854775807) : IntKind.i64.wrap n = n := wrap64 h1 h2
theorem xor64' (a b : Int) (ha : 0 ≤ a) (ha2 : a < 9223372036854775808) (hb : 0 ≤ b) (hb2 : b < 9223372036854775808) : 0 ≤ bxor .i64 a b := by
 show 0 ≤ IntKind.i64.wrap (BitVec.ofInt 64 a ^^^ BitVec.ofInt 64 b).toNat
 have h1 : (BitVec.ofInt 64 a ^^^ BitVec.ofInt 64 b).toNat < 2 ^ 63 := by
  rw [BitVec.toNat_xor]
  have e1 : (BitVec.ofInt 64 a).toNat < 2 ^ 63 := by
   simp only [BitVec.toNat_ofInt]; omega
  have e2 : (BitVec.ofInt 64 b).toNat < 2 ^ 63 := by
   simp only [BitVec.toNat_ofInt]; omega
  exact Nat.xor_lt_two_pow e1 e2
 rw [wrap64 (by omega) (by omega)]
 omega
theorem bA {α : Type} [Inhabited α] {l : List α} {n : Nat} (h : n < l.length) : l.getD n default ∈ l := by
 simp [List.getD, h]
theorem idx_eq {α : Type} [Inhabited α] {l : List α} {i : Int} (h0 : 0 ≤ i) (h1 : i < l.length) : idx l i = some (l.getD i.toNat default) := by
 unfold idx; simp [h0, h1]
end Go.AM
end
section
/- The draws end well. Conditions: none. -/
namespace Go.AM
open Go
def G (N : Int) (r : l26Rd) : Prop := (∀ y ∈ r.b, 0 ≤ y ∧ y < 256) ∧ r.b.length ≤ 2000 ∧ 0 ≤ r.p ∧ r.p ≤ N
theorem G.up {N M : Int} {r : l26Rd} (h : G N r) (hm : N ≤ M) : G M r := ⟨h.1, h.2.1, h.2.2.1, by have := h.2.2.2; omega⟩
theorem aU {N n : Int} {r : l26Rd} (h : G N r) (hN : N ≤ 1000000000000) : OK (ai r n) (fun x => G (N + 1) x.2 ∧ 0 ≤ x.1 ∧ (1 ≤ n → x.1 < n)) := by
 obtain ⟨b, p⟩ := r
 obtain ⟨hb, hl, hp, hpN⟩ := h
 simp only at hb hl hp hpN
 have e1 : IntKind.i64.wrap (p + 1) = p + 1 := w64 (by omega) (by omega)
 have e2 : IntKind.i64.wrap (p + 1 - 1) = p := by rw [w64 (by omega) (by omega)]; omega
 have e3 : IntKind.i64.wrap (p * 7) = p * 7 := w64 (by omega) (by omega)
 have e4 : IntKind.i64.wrap (p * 7 + 3) = p * 7 + 3 := w64 (by omega) (by omega)
 have hG : G (N + 1) ⟨b, p + 1⟩ := ⟨hb, hl, by show 0 ≤ p + 1; omega, by show p + 1 ≤ N + 1; omega⟩
 have ew : ∀ y ∈ b, IntKind.i64.wrap y = y := fun y hy => w64 (by have := hb y hy; omega) (by have := hb y hy; omega)
 unfold ai
 simp only [e1, e2, e3, e4]
 refine OK.cond (fun hc => ?_) (fun hc => ?_)
 ·exact OK.mk ⟨hG, Int.le_refl _, fun h => by omega⟩
 ·simp only [Bool.or_eq_false_iff, decide_eq_false_iff_not, beq_eq_false_iff_ne, ne_eq] at hc
  obtain ⟨hc1, hc2⟩ := hc
  have hn : 1 ≤ n := by omega
  have hn0 : (n != 0) = true := by simp; omega
  have hl0 : ((b.length : Int) != 0) = true := by simpa using hc2
  have hL : (0 : Int) < b.length := by omega
  refine OK.cond (fun hd => ?_) (fun hd => ?_)
  ·simp only [decide_eq_true_eq] at hd
   refine OK.idx hp hd fun y hy _ => OK.gd hn0 (OK.mk ⟨hG, ?_, fun _ => ?_⟩)
   ·simp only [ew y hy]; exact Int.tmod_nonneg _ (hb y hy).1
   ·simp only [ew y hy]; exact Int.tmod_lt_of_pos _ (by omega)
  ·simp only [decide_eq_false_iff_not] at hd
   refine OK.gd hl0 (OK.idx (Int.tmod_nonneg _ hp) (Int.tmod_lt_of_pos _ hL) fun y hy _ => OK.gd hl0 (OK.idx (Int.tmod_nonneg _ (by omega)) (Int.tmod_lt_of_pos _ hL) fun z hz _ => OK.gd hl0 (OK.gd hn0 (OK.mk ⟨hG, ?_, fun _ => Int.tmod_lt_of_pos _ (by omega)⟩))))
   refine Int.tmod_nonneg _ ?_
   have hy1 := hb y hy
   have hz1 := hb z hz
   have q5 : 0 ≤ p.tdiv b.length := Int.tdiv_nonneg hp (by omega)
   have q6 : p.tdiv b.length ≤ p := Int.tdiv_le_self _ hp
   simp only [ew y hy, ew z hz]
   generalize p.tdiv b.length = t at q5 q6
   have f1 : IntKind.i64.wrap (y * 131) = y * 131 := w64 (by omega) (by omega)
   have f2 : IntKind.i64.wrap (z * 1117) = z * 1117 := w64 (by omega) (by omega)
   have f3 : IntKind.i64.wrap (y * 131 + z * 1117) = y * 131 + z * 1117 := w64 (by omega) (by omega)
   have f4 : IntKind.i64.wrap (p * 29) = p * 29 := w64 (by omega) (by omega)
   have f5 : IntKind.i64.wrap (y * 131 + z * 1117 + p * 29) = y * 131 + z * 1117 + p * 29 := w64 (by omega) (by omega)
   have f6 : IntKind.i64.wrap t = t := w64 (by omega) (by omega)
   have f7 : IntKind.i64.wrap (t * 53) = t * 53 := w64 (by omega) (by omega)
   have f8 : IntKind.i64.wrap (y * 131 + z * 1117 + p * 29 + t * 53) = y * 131 + z * 1117 + p * 29 + t * 53 := w64 (by omega) (by omega)
   simp only [f1, f2, f3, f4, f5, f6, f7, f8]
   generalize hX : y * 131 + z * 1117 + p * 29 + t * 53 = X
   have h0 : 0 ≤ X := by omega
   have h1 : X < 9000000000000000000 := by omega
   have g1 : 0 ≤ X.tdiv 64 := Int.tdiv_nonneg h0 (by omega)
   have g2 : X.tdiv 64 ≤ X := Int.tdiv_le_self 64 h0
   rw [w64 (by omega) (by omega)]
   exact xor64' X _ h0 (by omega) g1 (by omega)
theorem num_ok {N : Int} {r : l26Rd} {l : List Int} (h : G N r) (hN : N ≤ 1000000000000) (hl : 0 < l.length) : OK (bb r l) (fun x => G (N + 1) x.2 ∧ x.1 ∈ l) := by
 unfold bb
 refine OK.bind (aU h hN) fun x hx => ?_
 obtain ⟨h1, h2, h3⟩ := hx
 exact OK.idx h2 (h3 (by omega)) fun y hy _ => OK.mk ⟨h1, hy⟩
theorem DevSize_ok (k : Int) : OK (fV k) (fun _ => True) := by
 unfold fV fw eL
 repeat' (first | exact OK.mk trivial | refine OK.cond (fun _ => ?_) (fun _ => ?_) | (simp only []))
theorem l2Arg_ok {N k : Int} {r : l26Rd} (h : G N r) (hN : N ≤ 900000000000) : OK (dJ r k) (fun x => G (N + 4) x.2) := by
 unfold dJ
 repeat' (first
  | (refine OK.mk ?_; refine G.up (by assumption) ?_; omega)
  | refine OK.cond (fun _ => ?_) (fun _ => ?_)
  | (refine OK.bind (num_ok (by assumption) (by omega) (by simp)) ?_; rintro x ⟨hx, _⟩)
  | (refine OK.bind (aU (by assumption) (by omega)) ?_; rintro x ⟨hx, _, _⟩)
  | (refine OK.bind (DevSize_ok _) ?_; rintro x _)
  | simp only [s_l2Arg_j20, s_l2Arg_j38, s_l2Arg_j44])
end Go.AM
end
section
/- The draws end well: elements. Conditions: none. -/
namespace Go.AM
open Go
theorem l4Bit_ok {N : Int} {r : l26Rd} (h : G N r) (hN : N ≤ 90000000000) : OK (s_l4Bit r) (fun x => G (N + 5) x.2) := by
 unfold s_l4Bit
 repeat' (first
  | (refine OK.mk ?_; (refine G.up (by assumption) ?_; omega))
  | (refine OK.bind (num_ok (by assumption) (by omega) (by simp)) ?_; rintro x ⟨_, _⟩)
  | (refine OK.bind (l2Arg_ok (by assumption) (by omega)) ?_; rintro x _)
  | refine OK.cond (fun _ => ?_) (fun _ => ?_))
theorem l4Whole_ok {N : Int} {r : l26Rd} (h : G N r) (hN : N ≤ 90000000000) : OK (fM r) (fun x => G (N + 5) x.2) := by
 unfold fM
 repeat' (first
  | (refine OK.mk ?_; (refine G.up (by assumption) ?_; omega))
  | (refine OK.bind (num_ok (by assumption) (by omega) (by simp)) ?_; rintro x ⟨_, _⟩)
  | (refine OK.bind (l2Arg_ok (by assumption) (by omega)) ?_; rintro x _)
  | refine OK.cond (fun _ => ?_) (fun _ => ?_))
theorem l4Real_ok {N : Int} {r : l26Rd} (h : G N r) (hN : N ≤ 90000000000) : OK (s_l4Real r) (fun x => G (N + 5) x.2) := by
 unfold s_l4Real
 repeat' (first
  | (refine OK.mk ?_; (refine G.up (by assumption) ?_; omega))
  | (refine OK.bind (num_ok (by assumption) (by omega) (by simp)) ?_; rintro x ⟨_, _⟩)
  | (refine OK.bind (l2Arg_ok (by assumption) (by omega)) ?_; rintro x _)
  | refine OK.cond (fun _ => ?_) (fun _ => ?_))
theorem cK {N : Int} {r : l26Rd} (h : G N r) (hN : N ≤ 80000000000) : OK (cd r) (fun x => G (N + 30) x.2 ∧ x.1.Args.length ≤ 3 ∧ 1 ≤ x.1.Args.length) := by
 unfold cd
 repeat' (first
  | (refine OK.mk ?_; (refine ⟨G.up (by assumption) ?_, ?_, ?_⟩ <;> first | omega | simp))
  | (refine OK.bind (aU (by assumption) (by omega)) ?_; rintro x ⟨_, _, _⟩)
  | (refine OK.bind (l4Bit_ok (by assumption) (by omega)) ?_; rintro x _)
  | (refine OK.bind (l4Whole_ok (by assumption) (by omega)) ?_; rintro x _)
  | (refine OK.bind (l4Real_ok (by assumption) (by omega)) ?_; rintro x _)
  | (refine OK.bind (l2Arg_ok (by assumption) (by omega)) ?_; rintro x _)
  | simp only [fI, gC, gF, gB]
  | refine OK.cond (fun _ => ?_) (fun _ => ?_))
theorem ElemArity_ok (k : Int) : OK (cj k) (fun x => 0 ≤ x ∧ x ≤ 3 ∧ (21 ≤ k → k ≤ 37 → 1 ≤ x)) := by
 unfold cj
 repeat' (first
  | (refine OK.mk ?_; (refine ⟨by omega, by omega, fun _ _ => ?_⟩; first | omega | (simp at *; omega)))
  | simp only [b9, ck]
  | refine OK.cond (fun _ => ?_) (fun _ => ?_))
set_option maxHeartbeats 4000000 in
theorem ix {N : Int} {r : l26Rd} (h : G N r) (hN : N ≤ 80000000000) : OK (gD r) (fun x => G (N + 30) x.2 ∧ x.1.Args.length ≤ 3 ∧ 1 ≤ x.1.Args.length) := by
 unfold gD
 repeat' (first
  | (refine OK.mk ?_; (refine ⟨G.up (by assumption) ?_, ?_, ?_⟩ <;> first | omega | (simp; done) | (simp; omega) | (simp at *; omega)))
  | (refine OK.bind (aU (by assumption) (by omega)) ?_; rintro x ⟨_, _, _⟩)
  | (refine OK.bind (num_ok (by assumption) (by omega) (by simp)) ?_; rintro x ⟨_, _⟩)
  | (refine OK.bind (l4Whole_ok (by assumption) (by omega)) ?_; rintro x _)
  | (refine OK.bind (l4Real_ok (by assumption) (by omega)) ?_; rintro x _)
  | (refine OK.bind (l2Arg_ok (by assumption) (by omega)) ?_; rintro x _)
  | (refine OK.bind (ElemArity_ok _) ?_; rintro x ⟨_, _, _⟩)
  | refine OK.gd (by simp; omega) ?_
  | simp only [s_l4Coil_j9, ir]
  | refine OK.cond (fun _ => ?_) (fun _ => ?_))
def okI (i : Inst) : Prop := i.One_Args.length ≤ 5
theorem l11Inst_ok {N : Int} {r : l26Rd} (h : G N r) (hN : N ≤ 70000000000) : OK (gI r) (fun x => G (N + 40) x.2 ∧ okI x.1) := by
 unfold gI
 repeat' (first
  | (refine OK.mk ?_; (refine ⟨G.up (by assumption) ?_, ?_⟩ <;> first | omega | (simp only [okI]; omega) | (simp [okI]; done)))
  | (refine OK.bind (num_ok (by assumption) (by omega) (by simp)) ?_; rintro x ⟨_, _⟩)
  | (refine OK.bind (cK (by assumption) (by omega)) ?_; rintro x ⟨_, _⟩)
  | (refine OK.bind (ix (by assumption) (by omega)) ?_; rintro x ⟨_, _⟩)
  | refine OK.cond (fun _ => ?_) (fun _ => ?_))
theorem l11Inst_ok2 {N : Int} {r : l26Rd} (h : G N r) (hN : N ≤ 70000000000) : OK (gI r) (fun x => G (N + 40) x.2 ∧ okI x.1 ∧ (x.1.One_Args.length = 0 → 3 < x.1.Code ∧ x.1.Code ≠ 10)) := by
 unfold gI
 repeat' (first
  | (refine OK.mk ?_; (refine ⟨G.up (by assumption) ?_, ?_, ?_⟩ <;> first | omega | (simp only [okI]; omega) | (simp [okI]; done) | (simp at *; omega)))
  | (refine OK.bind (num_ok (by assumption) (by omega) (by simp)) ?_; rintro x ⟨_, _⟩)
  | (refine OK.bind (cK (by assumption) (by omega)) ?_; rintro x ⟨_, _, _⟩)
  | (refine OK.bind (ix (by assumption) (by omega)) ?_; rintro x ⟨_, _, _⟩)
  | refine OK.cond (fun _ => ?_) (fun _ => ?_))
theorem l2Spoilt_ok {N : Int} {r : l26Rd} {d : DevArg} (h : G N r) (hN : N ≤ 70000000000) : OK (s_l2Spoilt r d) (fun x => G (N + 3) x.2) := by
 unfold s_l2Spoilt
 repeat' (first
  | (refine OK.mk ?_; (refine G.up (by assumption) ?_; omega))
  | (refine OK.bind (aU (by assumption) (by omega)) ?_; rintro x ⟨_, _, _⟩)
  | (refine OK.bind (num_ok (by assumption) (by omega) (by simp)) ?_; rintro x ⟨_, _⟩)
  | (refine OK.bind (DevSize_ok _) ?_; rintro x _)
  | simp only [dS]
  | refine OK.cond (fun _ => ?_) (fun _ => ?_))
theorem l2Any_ok {N : Int} {r : l26Rd} (h : G N r) (hN : N ≤ 60000000000) : OK (s_l2Any r) (fun x => G (N + 12) x.2) := by
 unfold s_l2Any
 repeat' (first
  | (refine OK.mk ?_; (refine G.up (by assumption) ?_; omega))
  | (refine OK.bind (aU (by assumption) (by omega)) ?_; rintro x ⟨_, _, _⟩)
  | (refine OK.bind (l2Arg_ok (by assumption) (by omega)) ?_; rintro x _)
  | (refine OK.bind (l2Spoilt_ok (by assumption) (by omega)) ?_; rintro x _)
  | refine OK.cond (fun _ => ?_) (fun _ => ?_))
theorem l4Spoil_ok {N : Int} {r : l26Rd} {e : Elem} (h : G N r) (hN : N ≤ 50000000000) (he : e.Args.length ≤ 10) : OK (s_l4Spoil r e) (fun x => G (N + 40) x.2 ∧ x.1.Args.length ≤ e.Args.length + 1) := by
 unfold s_l4Spoil
 refine OK.gd (apOk_of (by omega) (by omega)) ?_
 repeat' (first
  | (refine OK.mk ?_; (refine ⟨G.up (by assumption) ?_, ?_⟩ <;> first | omega | (simp; done)))
  | (refine OK.bind (aU (by assumption) (by omega)) ?_; rintro x ⟨_, _, _⟩)
  | (refine OK.bind (num_ok (by assumption) (by omega) (by simp)) ?_; rintro x ⟨_, _⟩)
  | (refine OK.bind (l2Any_ok (by assumption) (by omega)) ?_; rintro x _)
  | (refine OK.bind (l2Spoilt_ok (by assumption) (by omega)) ?_; rintro x _)
  | refine OK.gd (apOk_of (by simp; omega) (by simp; omega)) ?_
  | (refine OK.idx (by omega) (by simp only [decide_eq_true_eq, List.length_set] at *; omega) ?_; rintro x _ _)
  | simp only [gL]
  | refine OK.cond (fun _ => ?_) (fun _ => ?_))
theorem l4Any_ok {N : Int} {r : l26Rd} (h : G N r) (hN : N ≤ 40000000000) : OK (s_l4Any r) (fun x => G (N + 120) x.2 ∧ x.1.Args.length ≤ 4) := by
 unfold s_l4Any
 repeat' (first
  | (refine OK.mk ?_; (refine ⟨G.up (by assumption) ?_, ?_⟩ <;> first | omega | (dsimp only at *; omega)))
  | (refine OK.bind (aU (by assumption) (by omega)) ?_; rintro x ⟨_, _, _⟩)
  | (refine OK.bind (cK (by assumption) (by omega)) ?_; rintro x ⟨_, _⟩)
  | (refine OK.bind (ix (by assumption) (by omega)) ?_; rintro x ⟨_, _⟩)
  | (refine OK.bind (l4Spoil_ok (by assumption) (by omega) (by dsimp only; omega)) ?_; rintro x ⟨_, _⟩)
  | simp only [s_l4Any_j5]
  | refine OK.cond (fun _ => ?_) (fun _ => ?_))
end Go.AM
end
section
/- The draws end well: lists. Conditions: none. -/
namespace Go.AM
open Go
def okL (K L : Nat) (l : List Inst) : Prop := K ≤ l.length ∧ l.length ≤ L ∧ ∀ i ∈ l, okI i
theorem okL.up {K L M : Nat} {l : List Inst} (h : okL K L l) (hm : L ≤ M) : okL K M l := ⟨h.1, Nat.le_trans h.2.1 hm, h.2.2⟩
theorem okL.snoc {K L : Nat} {l : List Inst} {i : Inst} (h : okL K L l) (hi : okI i) : okL K (L + 1) (l ++ [i]) := ⟨by have := h.1; simp; omega, by have := h.2.1; simp; omega, fun j hj => by
 rcases List.mem_append.1 hj with q | q
 ·exact h.2.2 j q
 ·simp at q; subst q; exact hi⟩
def PL (N : Int) (K L : Nat) (p : l11Play) : Prop := G N p.r ∧ okL K L p.out ∧ 0 ≤ p.bits ∧ p.bits ≤ 16 ∧ 0 ≤ p.forks ∧ p.forks ≤ 8
theorem PL.mk {N : Int} {K L : Nat} {p : l11Play} {b : List Int} {q : Int} {o : List Inst} {x y : Int} {u v : Bool} (h1 : G N ⟨b, q⟩) (h2 : okL K L o) (h3 : 0 ≤ x) (h4 : x ≤ 16) (h5 : 0 ≤ y) (h6 : y ≤ 8) : PL N K L ⟨⟨b, q⟩, o, x, y, u, v⟩ := ⟨h1, h2, h3, h4, h5, h6⟩
theorem PL.up {N M : Int} {K L L2 : Nat} {p : l11Play} (h : PL N K L p) (h1 : N ≤ M) (h2 : L ≤ L2) : PL M K L2 p := ⟨h.1.up h1, h.2.1.up h2, h.2.2⟩
theorem put_ok {N c : Int} {K L : Nat} {p : l11Play} (h : PL N K L p) (hN : N ≤ 40000000000) (hL : L ≤ 1000000) : OK (aT p c) (fun q => PL (N + 60) K (L + 1) q ∧ q.out.length = p.out.length + 1 ∧ q.bits = p.bits ∧ q.forks = p.forks) := by
 obtain ⟨⟨b, k⟩, o, x, y, u, v⟩ := p
 obtain ⟨h1, h2, h3, h4, h5, h6⟩ := h
 dsimp only at h1 h2 h3 h4 h5 h6
 have hlen := h2.2.1
 unfold aT
 dsimp only
 have fin : ∀ (M : Int) (b' : List Int) (k' op : Int) (args : List DevArg), G M ⟨b', k'⟩ → M ≤ N + 60 → args.length ≤ 5 → OK (eQ ⟨⟨b, k⟩, o, x, y, u, v⟩ c (b', k', op, args)) (fun q => PL (N + 60) K (L + 1) q ∧ q.out.length = o.length + 1 ∧ q.bits = x ∧ q.forks = y) := by
  intro M b' k' op args hG hM ha
  simp only [eQ]
  refine OK.gd (apOk_of (by simp; omega) (by simp; omega)) ?_
  refine OK.cond (fun _ => ?_) (fun _ => ?_)
  ·exact OK.mk ⟨⟨hG.up hM, h2.snoc (by simpa [okI] using ha), h3, h4, h5, h6⟩, by simp, rfl, rfl⟩
  ·exact OK.mk ⟨⟨hG.up hM, h2.snoc (by simpa [okI] using ha), h3, h4, h5, h6⟩, by simp, rfl, rfl⟩
 have mid : ∀ (M : Int) (b' : List Int) (k' op : Int) (args : List DevArg), G M ⟨b', k'⟩ → M ≤ N + 30 → args.length ≤ 5 → OK (eO ⟨⟨b, k⟩, o, x, y, u, v⟩ c (b', k', op, args)) (fun q => PL (N + 60) K (L + 1) q ∧ q.out.length = o.length + 1 ∧ q.bits = x ∧ q.forks = y) := by
  intro M b' k' op args hG hM ha
  simp only [eO]
  refine OK.cond (fun _ => ?_) (fun _ => ?_)
  ·refine OK.bind (ix hG (by omega)) ?_
   rintro z ⟨z1, z2⟩
   exact fin _ _ _ _ _ z1 (by omega) (by omega)
  ·exact fin _ _ _ _ _ hG (by omega) ha
 refine OK.cond (fun _ => ?_) (fun _ => ?_)
 ·refine OK.bind (cK h1 (by omega)) ?_
  rintro z ⟨z1, z2⟩
  exact mid _ _ _ _ _ z1 (by omega) (by omega)
 ·exact mid _ _ _ _ _ h1 (by omega) (by simp)
theorem close_ok {N : Int} {K L : Nat} {p : l11Play} (h : PL N K L p) (hN : N ≤ 30000000000) (hL : L ≤ 900000) : OK (ej p) (fun q => PL (N + 2000) K (L + 20) q ∧ q.forks = p.forks) := by
 obtain ⟨⟨b, k⟩, o, x, y, u, v⟩ := p
 obtain ⟨h1, h2, h3, h4, h5, h6⟩ := h
 dsimp only at h1 h2 h3 h4 h5 h6
 unfold ej
 dsimp only
 refine OK.loop (Q := fun z : List Int × Int × List Inst × Int × Int × Bool × Bool => PL (N + 1600) K (L + 16) ⟨⟨z.1, z.2.1⟩, z.2.2.1, z.2.2.2.1, z.2.2.2.2.1, z.2.2.2.2.2.1, z.2.2.2.2.2.2⟩ ∧ z.2.2.2.2.1 = y)
  (fun z : List Int × Int × List Inst × Int × Int × Bool × Bool => PL (N + 100 * (16 - z.2.2.2.1)) K (L + (16 - z.2.2.2.1).toNat) ⟨⟨z.1, z.2.1⟩, z.2.2.1, z.2.2.2.1, z.2.2.2.2.1, z.2.2.2.2.2.1, z.2.2.2.2.2.2⟩ ∧ z.2.2.2.2.1 = y)
  (fun z => z.2.2.2.1.toNat) ?_ ?_ ?_
 ·exact ⟨⟨h1.up (by dsimp only; omega), h2.up (by omega), h3, h4, h5, h6⟩, rfl⟩
 ·rintro ⟨b, k, o, x, y', u, v⟩ ⟨hp, hy⟩
  dsimp only at hp hy
  obtain ⟨g1, g2, g3, g4, g5, g6⟩ := id hp
  dsimp only at g1 g2 g3 g4 g5 g6
  simp only [eU]
  have go : ∀ (M : Int) (q : l11Play), PL M K (L + (16 - x).toNat + 1) q → M ≤ N + 100 * (16 - x) + 100 → q.bits = x → q.forks = y' → 1 < x → OK (bo (q.r.b, q.r.p, q.out, q.bits, q.forks, q.base, q.fresh)) (Sum.elim (fun z => (PL (N + 100 * (16 - z.2.2.2.1)) K (L + (16 - z.2.2.2.1).toNat) ⟨⟨z.1, z.2.1⟩, z.2.2.1, z.2.2.2.1, z.2.2.2.2.1, z.2.2.2.2.2.1, z.2.2.2.2.2.2⟩ ∧ z.2.2.2.2.1 = y) ∧ z.2.2.2.1.toNat < x.toNat) (fun z : List Int × Int × List Inst × Int × Int × Bool × Bool => PL (N + 1600) K (L + 16) ⟨⟨z.1, z.2.1⟩, z.2.2.1, z.2.2.2.1, z.2.2.2.2.1, z.2.2.2.2.2.1, z.2.2.2.2.2.2⟩ ∧ z.2.2.2.2.1 = y)) := by
   intro M q hq hM hb hf hx
   simp only [bo]
   have hw : IntKind.i64.wrap (q.bits - 1) = x - 1 := by rw [hb]; exact w64 (by omega) (by omega)
   refine OK.mk ⟨⟨⟨hq.1.up ?_, hq.2.1.up ?_, ?_, ?_, ?_, ?_⟩, ?_⟩, ?_⟩ <;> dsimp only <;> (try rw [hw]) <;> first | omega | (have := hq.2.2; omega)
  refine OK.cond (fun hc => ?_) (fun hc => ?_)
  ·simp only [decide_eq_true_eq] at hc
   refine OK.cond (fun _ => ?_) (fun _ => ?_)
   ·refine OK.cond (fun _ => ?_) (fun _ => ?_)
    ·refine OK.bind (put_ok (p := ⟨⟨b, k⟩, o, x, y', true, v⟩) ⟨g1, g2, g3, g4, g5, g6⟩ (by omega) (by omega)) ?_
     rintro q ⟨q1, q2, q3, q4⟩
     exact go _ q q1 (by omega) q3 q4 (by omega)
    ·refine OK.bind (aU g1 (by omega)) ?_
     rintro ⟨m, r⟩ ⟨r1, _, _⟩
     refine OK.cond (fun _ => ?_) (fun _ => ?_)
     ·refine OK.bind (put_ok (p := ⟨r, o, x, y', true, v⟩) ⟨r1, g2, g3, g4, g5, g6⟩ (by omega) (by omega)) ?_
      rintro q ⟨q1, q2, q3, q4⟩
      exact go _ q q1 (by omega) q3 q4 (by omega)
     ·refine OK.bind (put_ok (p := ⟨r, o, x, y', true, v⟩) ⟨r1, g2, g3, g4, g5, g6⟩ (by omega) (by omega)) ?_
      rintro q ⟨q1, q2, q3, q4⟩
      exact go _ q q1 (by omega) q3 q4 (by omega)
   ·refine OK.bind (aU g1 (by omega)) ?_
    rintro ⟨m, r⟩ ⟨r1, _, _⟩
    refine OK.cond (fun _ => ?_) (fun _ => ?_)
    ·refine OK.bind (put_ok (p := ⟨r, o, x, y', false, v⟩) ⟨r1, g2, g3, g4, g5, g6⟩ (by omega) (by omega)) ?_
     rintro q ⟨q1, q2, q3, q4⟩
     exact go _ q q1 (by omega) q3 q4 (by omega)
    ·refine OK.bind (put_ok (p := ⟨r, o, x, y', false, v⟩) ⟨r1, g2, g3, g4, g5, g6⟩ (by omega) (by omega)) ?_
     rintro q ⟨q1, q2, q3, q4⟩
     exact go _ q q1 (by omega) q3 q4 (by omega)
  ·exact OK.mk ⟨hp.up (by omega) (by omega), hy⟩
 ·rintro ⟨b, k, o, x, y', u, v⟩ ⟨hp, rfl⟩
  simp only [eR]
  refine OK.cond (fun _ => ?_) (fun _ => ?_)
  ·refine OK.bind (put_ok hp (by omega) (by omega)) ?_
   rintro q ⟨q1, q2, q3, q4⟩
   exact OK.mk ⟨⟨q1.1.up (by omega), q1.2.1.up (by omega), q1.2.2⟩, q4⟩
  ·exact OK.mk ⟨hp.up (by omega) (by omega), rfl⟩
end Go.AM
end
section
/- The draws end well: rungs and lists. Conditions: none. -/
namespace Go.AM
open Go
set_option maxHeartbeats 4000000 in
theorem pstep_ok {N : Int} {K L : Nat} {p : l11Play} (h : PL N K L p) (hN : N ≤ 20000000000) (hL : L ≤ 800000) : OK (gU p) (fun q => PL (N + 3000) K (L + 30) q) := by
 obtain ⟨⟨b, k⟩, o, x, y, u, v⟩ := p
 obtain ⟨h1, h2, h3, h4, h5, h6⟩ := h
 dsimp only at h1 h2 h3 h4 h5 h6
 have P0 : ∀ (M : Int) (r : l26Rd), G M r → M ≤ N + 10 → OK (some (⟨r, o, x, y, u, v⟩ : l11Play)) (fun q => PL (N + 3000) K (L + 30) q) := fun M r hr hM => OK.mk ⟨hr.up (by omega), h2.up (by omega), h3, h4, h5, h6⟩
 have put : ∀ (M : Int) (r : l26Rd) (c : Int) (J : l11Play → Option l11Play), G M r → M ≤ N + 10 → (∀ q, PL (N + 100) K (L + 1) q → q.out.length = o.length + 1 → q.bits = x → q.forks = y → OK (J q) (fun q => PL (N + 3000) K (L + 30) q)) → OK ((aT ⟨r, o, x, y, u, v⟩ c).bind J) (fun q => PL (N + 3000) K (L + 30) q) := by
  intro M r c J hr hM hJ
  refine OK.bind (put_ok (p := ⟨r, o, x, y, u, v⟩) ⟨hr, h2, h3, h4, h5, h6⟩ (by omega) (by omega)) ?_
  rintro q ⟨q1, q2, q3, q4⟩
  exact hJ q (q1.up (by omega) (by omega)) q2 q3 q4
 have F1 : ∀ (q : l11Play) (x' y' : Int), PL (N + 100) K (L + 1) q → 0 ≤ x' → x' ≤ 16 → 0 ≤ y' → y' ≤ 8 → OK (some (⟨⟨q.r.b, q.r.p⟩, q.out, x', y', q.base, q.fresh⟩ : l11Play)) (fun q => PL (N + 3000) K (L + 30) q) :=
  fun q x' y' hq a b c d => OK.mk ⟨hq.1.up (by omega), hq.2.1.up (by omega), a, b, c, d⟩
 unfold gU
 have key : ∀ low : Int, 1 ≤ low → OK (ee ⟨⟨b, k⟩, o, x, y, u, v⟩ low) (fun q => PL (N + 3000) K (L + 30) q) := by
  intro low hlow
  simp only [ee]
  refine OK.bind (aU h1 (by omega)) ?_
  rintro ⟨m, r⟩ ⟨r1, r2, r3⟩
  dsimp only at r1 r2 r3
  simp only [eY, e5]
  have wx : ∀ z : Int, -100 ≤ z → z ≤ 100 → IntKind.i64.wrap z = z := fun z a b => w64 (by omega) (by omega)
  repeat' (first
   | exact P0 _ _ (by assumption) (by omega)
   | exact F1 _ _ _ (by assumption) (by omega) (by omega) (by omega) (by omega)
   | (refine put _ _ _ _ (by assumption) (by omega) ?_; intro q q1 q2 q3 q4)
   | (refine OK.bind (aU (by assumption) (by omega)) ?_; rintro ⟨m', r'⟩ ⟨_, _, _⟩)
   | (refine OK.bind (close_ok (p := ⟨r, o, x, y, u, v⟩) ⟨r1, h2, h3, h4, h5, h6⟩ (by omega) (by omega)) ?_; rintro q ⟨q1, q2⟩)
   | (refine OK.cond (fun hc => ?_) (fun hc => ?_) <;> try simp only [decide_eq_true_eq, decide_eq_false_iff_not, Bool.and_eq_true, beq_iff_eq, beq_eq_false_iff_ne] at hc)
   | (rw [wx _ (by omega) (by omega)]))
  all_goals
   rename_i hc q q1 q2
   dsimp only at q2
   have q5 := q1.2.2
   refine OK.bind (aU (r := ⟨q.r.b, q.r.p⟩) q1.1 (by omega)) ?_
   rintro ⟨m', r'⟩ ⟨s1, s2, s3⟩
   dsimp only
   refine OK.bind (put_ok (p := ⟨r', q.out, q.bits, q.forks, q.base, q.fresh⟩) ⟨s1, q1.2.1, q1.2.2⟩ (by omega) (by omega)) ?_
   rintro z ⟨z1, z2, z3, z4⟩
   dsimp only at z2 z3 z4
   have zl := z1.2.1.2.1
   have z5 := z1.2.2
   rw [w64 (by omega) (by omega)]
   refine OK.idx (by omega) (by omega) ?_
   intro w _ _
   refine OK.cond (fun _ => ?_) (fun _ => ?_)
   ·refine OK.mk ⟨z1.1.up (by omega), z1.2.1.up (by omega), z5.1, z5.2.1, ?_, ?_⟩ <;> dsimp only <;> rw [wx _ (by omega) (by omega)] <;> omega
   ·exact OK.mk ⟨z1.1.up (by omega), z1.2.1.up (by omega), z1.2.2⟩
 refine OK.cond (fun _ => ?_) (fun _ => ?_)
 ·exact key 2 (by omega)
 ·exact key 1 (by omega)
abbrev Z7 := List Int × Int × List Inst × Int × Int × Bool × Bool
abbrev pl (z : Z7) : l11Play := ⟨⟨z.1, z.2.1⟩, z.2.2.1, z.2.2.2.1, z.2.2.2.2.1, z.2.2.2.2.2.1, z.2.2.2.2.2.2⟩
abbrev Z8 := List Int × Int × List Inst × Int × Int × Bool × Bool × Int
abbrev pl8 (z : Z8) : l11Play := ⟨⟨z.1, z.2.1⟩, z.2.2.1, z.2.2.2.1, z.2.2.2.2.1, z.2.2.2.2.2.1, z.2.2.2.2.2.2.1⟩
theorem rung_ok {N n : Int} {K L : Nat} {p : l11Play} (h : PL N K L p) (hN : N ≤ 10000000000) (hL : L ≤ 700000) (hn : 0 ≤ n) (hn2 : n ≤ 40) : OK (fU p n) (fun q => PL (N + 200000) (p.out.length + 1) (L + 2000) q) := by
 unfold fU
 refine OK.bind (put_ok (p := ⟨⟨p.r.b, p.r.p⟩, p.out, p.bits, p.forks, false, p.fresh⟩) ⟨h.1, h.2⟩ (by omega) (by omega)) ?_
 rintro q ⟨q1', q2, q3, q4⟩
 obtain ⟨K', hK⟩ : ∃ K', K' = p.out.length + 1 := ⟨_, rfl⟩
 rw [← hK]
 have q1 : PL (N + 60) K' (L + 1) q := ⟨q1'.1, ⟨by rw [hK]; exact Nat.le_of_eq q2.symm, q1'.2.1.2⟩, q1'.2.2⟩
 refine OK.loop (Q := fun z : Z7 => PL (N + 60 + 3000 * 40) K' (L + 1 + 30 * 40) (pl z))
  (fun z : Z8 => 0 ≤ z.2.2.2.2.2.2.2 ∧ z.2.2.2.2.2.2.2 ≤ n ∧ PL (N + 60 + 3000 * z.2.2.2.2.2.2.2) K' (L + 1 + 30 * z.2.2.2.2.2.2.2.toNat) (pl8 z))
  (fun z => (n - z.2.2.2.2.2.2.2).toNat) ?_ ?_ ?_
 ·refine ⟨Int.le_refl _, hn, q1.1.up (by dsimp only; omega), q1.2.1.up (by simp), ?_, ?_, q1.2.2.2.2⟩ <;> simp
 ·rintro ⟨b, k, o, x, y, u, v, i⟩ ⟨i0, i1, hp⟩
  dsimp only at i0 i1 hp
  simp only [gn]
  refine OK.cond (fun hc => ?_) (fun hc => ?_)
  ·simp only [decide_eq_true_eq] at hc
   refine OK.bind (pstep_ok hp (by omega) (by omega)) ?_
   intro z hz
   refine OK.mk ?_
   have e : IntKind.i64.wrap (i + 1) = i + 1 := w64 (by omega) (by omega)
   dsimp only [Sum.elim_inl]
   rw [e]
   refine ⟨⟨by omega, by omega, hz.1.up (by omega), hz.2.1.up (by omega), hz.2.2⟩, by omega⟩
  ·exact OK.mk (hp.up (by omega) (by omega))
 ·rintro ⟨b, k, o, x, y, u, v⟩ hp
  simp only [gP]
  refine OK.bind (close_ok hp (by omega) (by omega)) ?_
  rintro q ⟨hq, _⟩
  refine OK.loop (Q := fun z : Z7 => PL (N + 150000) K' (L + 1800) (pl z))
   (fun z : Z7 => PL (N + 130000 + 2300 * (8 - z.2.2.2.2.1)) K' (L + 1400 + 30 * (8 - z.2.2.2.2.1).toNat) (pl z))
   (fun z => z.2.2.2.2.1.toNat) ?_ ?_ ?_
  ·have := hq.2.2
   exact ⟨hq.1.up (by dsimp only; omega), hq.2.1.up (by dsimp only; omega), hq.2.2⟩
  ·rintro ⟨b, k, o, x, y, u, v⟩ hp
   dsimp only at hp
   have hy := hp.2.2
   dsimp only at hy
   simp only [dM]
   refine OK.cond (fun hc => ?_) (fun hc => ?_)
   ·simp only [decide_eq_true_eq] at hc
    refine OK.bind (put_ok hp (by omega) (by omega)) ?_
    rintro z ⟨z1, z2, z3, z4⟩
    dsimp only at z3 z4
    have z5 := z1.2.2
    have e : IntKind.i64.wrap (z.forks - 1) = y - 1 := by rw [z4]; exact w64 (by omega) (by omega)
    rw [e]
    refine OK.bind (close_ok (p := ⟨⟨z.r.b, z.r.p⟩, z.out, z.bits, y - 1, z.base, z.fresh⟩) ⟨z1.1, z1.2.1, z5.1, z5.2.1, by dsimp only; omega, by dsimp only; omega⟩ (by omega) (by omega)) ?_
    rintro w ⟨w1, w2⟩
    dsimp only at w2
    refine OK.mk ?_
    dsimp only [Sum.elim_inl]
    refine ⟨⟨w1.1.up (by omega), w1.2.1.up (by omega), w1.2.2⟩, by omega⟩
   ·exact OK.mk (hp.up (by omega) (by omega))
  ·rintro ⟨b, k, o, x, y, u, v⟩ hp
   simp only [dN]
   refine OK.bind (put_ok hp (by omega) (by omega)) ?_
   rintro z ⟨z1, z2, z3, z4⟩
   have z5 := z1.2.2
   exact OK.mk ⟨z1.1.up (by omega), z1.2.1.up (by omega), by simp, by simp, z5.2.2⟩
end Go.AM
end
section
/- The draws end well: drawn lists. Conditions: none. -/
namespace Go.AM
open Go
def okM (L : Nat) (l : List Inst) : Prop := l.length ≤ L ∧ ∀ i ∈ l, okI i
theorem okM.up {L M : Nat} {l : List Inst} (h : okM L l) (hm : L ≤ M) : okM M l := ⟨Nat.le_trans h.1 hm, h.2⟩
theorem okM.app {L M : Nat} {l m : List Inst} (h : okM L l) (h2 : okM M m) : okM (L + M) (l ++ m) := ⟨by have := h.1; have := h2.1; simp; omega, fun j hj => by
 rcases List.mem_append.1 hj with q | q
 ·exact h.2 j q
 ·exact h2.2 j q⟩
theorem okM.one {i : Inst} (hi : okI i) : okM 1 [i] := ⟨by simp, fun j hj => by simp at hj; subst hj; exact hi⟩
theorem okM.take {L : Nat} {l : List Inst} (h : okM L l) (n : Nat) : okM L (l.take n) := ⟨by have := h.1; simp; omega, fun j hj => h.2 j (List.mem_of_mem_take hj)⟩
theorem okM.drop {L : Nat} {l : List Inst} (h : okM L l) (n : Nat) : okM L (l.drop n) := ⟨by have := h.1; simp; omega, fun j hj => h.2 j (List.mem_of_mem_drop hj)⟩
theorem okM.set {L : Nat} {l : List Inst} (h : okM L l) (n : Nat) {i : Inst} (hi : okI i) : okM L (l.set n i) := ⟨by have := h.1; simp; omega, fun j hj => by
 rcases List.mem_or_eq_of_mem_set hj with q | rfl
 ·exact h.2 j q
 ·exact hi⟩
theorem okM.ap {L : Nat} {l : List Inst} (h : okM L l) (hL : L ≤ 1000000) : apOk l.length 40 = true := apOk_of (by have := h.1; omega) (by have := h.1; omega)
theorem okM.nil (L : Nat) : okM L [] := ⟨by simp, by simp⟩
theorem okL.toM {K L : Nat} {l : List Inst} (h : okL K L l) : okM L l := ⟨h.2.1, h.2.2⟩
theorem l11Sure_ok {N : Int} {r : l26Rd} (h : G N r) (hN : N ≤ 1000000000) : OK (s_l11Sure r) (fun x => G (N + 20000000) x.2 ∧ okM 6200 x.1) := by
 unfold s_l11Sure
 refine OK.bind (aU h (by omega)) ?_
 rintro ⟨m, r⟩ ⟨r1, r2, r3⟩
 dsimp only at r1 r2 r3
 refine OK.cond (fun _ => ?_) (fun _ => ?_)
 ·exact OK.mk ⟨r1.up (by omega), okM.nil _⟩
 ·refine OK.bind (aU r1 (by omega)) ?_
  rintro ⟨k, r⟩ ⟨s1, s2, s3⟩
  dsimp only at s1 s2 s3
  have e : IntKind.i64.wrap (1 + k) = 1 + k := w64 (by omega) (by omega)
  dsimp only
  rw [e]
  refine OK.loop (Q := fun z : Z7 => PL (N + 900000) 0 6100 (pl z))
   (fun z : Z8 => 0 ≤ z.2.2.2.2.2.2.2 ∧ z.2.2.2.2.2.2.2 ≤ 3 ∧ PL (N + 2 + 200010 * (3 - z.2.2.2.2.2.2.2)) 0 (2000 * (3 - z.2.2.2.2.2.2.2).toNat) (pl8 z))
   (fun z => z.2.2.2.2.2.2.2.toNat) ?_ ?_ ?_
  ·refine ⟨by dsimp only; omega, by dsimp only; omega, s1.up (by dsimp only; omega), ⟨by simp, by simp, by simp⟩, ?_, ?_, ?_, ?_⟩ <;> simp
  ·rintro ⟨b, p, o, x, y, u, v, i⟩ ⟨i0, i1, hp⟩
   dsimp only at i0 i1 hp
   simp only [s_l11Sure_s17]
   refine OK.cond (fun hc => ?_) (fun hc => ?_)
   ·simp only [decide_eq_true_eq] at hc
    refine OK.bind (aU hp.1 (by omega)) ?_
    rintro ⟨q, r⟩ ⟨t1, t2, t3⟩
    dsimp only at t1 t2 t3
    refine OK.bind (rung_ok (p := ⟨r, o, x, y, u, v⟩) ⟨t1, hp.2⟩ (by omega) (by omega) t2 (by dsimp only; omega)) ?_
    intro z hz
    have e : IntKind.i64.wrap (i - 1) = i - 1 := w64 (by omega) (by omega)
    refine OK.mk ?_
    dsimp only [Sum.elim_inl]
    rw [e]
    exact ⟨⟨by omega, by omega, hz.1.up (by omega), ⟨by omega, (hz.2.1.up (by omega)).2⟩, hz.2.2⟩, by omega⟩
   ·exact OK.mk (hp.up (by omega) (by omega))
  ·rintro ⟨b, p, o, x, y, u, v⟩ hp
   simp only [s_l11Sure_j13]
   refine OK.bind (aU hp.1 (by omega)) ?_
   rintro ⟨q, r⟩ ⟨t1, t2, t3⟩
   dsimp only at t1 t2 t3
   have fin : ∀ z : Z7, PL (N + 15000000) 0 6100 (pl z) → OK (iK z) (fun x => G (N + 20000000) x.2 ∧ okM 6200 x.1) := by
    rintro ⟨b, p, o, x, y, u, v⟩ hp
    exact OK.mk ⟨hp.1.up (by omega), (hp.2.1.toM).up (by omega)⟩
   refine OK.cond (fun _ => ?_) (fun _ => ?_)
   ·refine OK.loop (Q := fun z : Z7 => PL (N + 15000000) 0 6100 (pl z))
     (fun z : Z7 => PL (N + 900001 + 200010 * (min z.2.2.1.length 60 : Nat)) 0 6100 (pl z))
     (fun z => 60 - z.2.2.1.length) ?_ ?_ ?_
    ·exact ⟨t1.up (by dsimp only; omega), hp.2⟩
    ·rintro ⟨b, p, o, x, y, u, v⟩ hp
     dsimp only at hp
     simp only [s_l11Sure_s33]
     refine OK.cond (fun hc => ?_) (fun hc => ?_)
     ·simp only [decide_eq_true_eq] at hc
      refine OK.bind (aU hp.1 (by omega)) ?_
      rintro ⟨q, r⟩ ⟨t1, t2, t3⟩
      dsimp only at t1 t2 t3
      refine OK.bind (rung_ok (L := 60) (p := ⟨r, o, x, y, u, v⟩) ⟨t1, ⟨hp.2.1.1, by dsimp only; omega, hp.2.1.2.2⟩, hp.2.2⟩ (by omega) (by omega) t2 (by dsimp only; omega)) ?_
      intro z hz
      have hl := hz.2.1.1
      have hl2 := hz.2.1.2.1
      dsimp only at hl hl2
      refine OK.mk ?_
      dsimp only [Sum.elim_inl]
      exact ⟨⟨hz.1.up (by omega), ⟨by omega, by dsimp only; omega, hz.2.1.2.2⟩, hz.2.2⟩, by omega⟩
     ·exact OK.mk (hp.up (by omega) (by omega))
    ·intro z hz; exact fin z hz
   ·exact fin _ ⟨t1.up (by omega), hp.2⟩
end Go.AM
end
section
/- The draws end well: spoilt lists. Conditions: none. -/
namespace Go.AM
open Go
def okW (L : Nat) (l : List Inst) : Prop := l.length ≤ L ∧ ∀ i ∈ l, i.One_Args.length ≤ 10
theorem okM.toW {L M : Nat} {l : List Inst} (h : okM L l) (hm : L ≤ M) : okW M l := ⟨Nat.le_trans h.1 hm, fun i hi => by have := h.2 i hi; simp only [okI] at this; omega⟩
theorem okW.set {L : Nat} {l : List Inst} (h : okW L l) (n : Nat) {i : Inst} (hi : i.One_Args.length ≤ 10) : okW L (l.set n i) := ⟨by have := h.1; simp; omega, fun j hj => by
 rcases List.mem_or_eq_of_mem_set hj with q | rfl
 ·exact h.2 j q
 ·exact hi⟩
set_option maxHeartbeats 4000000 in
theorem l11Spoil_ok {N : Int} {r : l26Rd} {l : List Inst} (h : G N r) (hN : N ≤ 10000000000) (hl : okM 10000 l) : OK (s_l11Spoil r l) (fun x => okW 12000 x.1 ∧ G (N + 30000) x.2) := by
 unfold s_l11Spoil
 have hlen := hl.1
 refine OK.gd (hl.ap (by omega)) ?_
 refine OK.cond (fun _ => ?_) (fun hne => ?_)
 ·refine OK.bind (l11Inst_ok h (by omega)) ?_
  rintro ⟨i, r⟩ ⟨hgr, hi⟩
  dsimp only at hgr
  have h2 := hl.app (okM.one hi)
  exact OK.gd (h2.ap (by omega)) (OK.mk ⟨h2.toW (by omega), (by refine G.up (by assumption) ?_; omega)⟩)
 ·have hpos : 0 < l.length := by
   rcases Nat.eq_zero_or_pos l.length with q | q
   ·simp [q] at hne
   ·exact q
  refine OK.bind (aU h (by omega)) ?_
  rintro ⟨k, r⟩ ⟨k1, k2, k3⟩
  dsimp only at k1 k2 k3
  have k4 : k < l.length := k3 (by omega)
  refine OK.bind (aU k1 (by omega)) ?_
  rintro ⟨m, r⟩ ⟨m1, m2, m3⟩
  dsimp only at m1 m2 m3
  have ew : IntKind.i64.wrap (k + 1) = k + 1 := w64 (by omega) (by omega)
  have fin : ∀ z : List Int × Int × List Inst, okW 12000 z.2.2 → G (N + 30000) ⟨z.1, z.2.1⟩ → OK (dp z) (fun x => okW 12000 x.1 ∧ G (N + 30000) x.2) := by
   rintro ⟨b, p, o⟩ ho hg; exact OK.mk ⟨ho, hg⟩
  have idx1 : ∀ (J : Inst → Option (List Inst × l26Rd)), (∀ x, okI x → OK (J x) (fun x => okW 12000 x.1 ∧ G (N + 30000) x.2)) → OK ((idx l k).bind J) (fun x => okW 12000 x.1 ∧ G (N + 30000) x.2) := fun J hJ => OK.idx k2 k4 fun x hx _ => hJ x (hl.2 x hx)
  dsimp only
  rw [ew]
  refine OK.cond (fun _ => ?_) (fun _ => ?_)
  ·refine OK.gd (by simp; omega) (OK.gd (by simp; omega) ?_)
   have h2 := (hl.take k.toNat).app ((hl.drop (k + 1).toNat).take (l.length - (k + 1).toNat))
   have h3 : okM 10000 (l.take k.toNat ++ (l.drop (k + 1).toNat).take (l.length - (k + 1).toNat)) := ⟨by simp; omega, h2.2⟩
   exact OK.gd (h3.ap (by omega)) (OK.mk ⟨h3.toW (by omega), (by refine G.up (by assumption) ?_; omega)⟩)
  refine OK.cond (fun _ => ?_) (fun _ => ?_)
  ·refine OK.gd (by simp; omega) (OK.gd (by simp; omega) (OK.gd ((hl.take _).ap (by omega)) ?_))
   refine OK.bind (l11Inst_ok m1 (by omega)) ?_
   rintro ⟨i, r⟩ ⟨hgr, hi⟩
   dsimp only at hgr
   have h2 := (hl.take k.toNat).app (okM.one hi)
   have h3 := h2.app ((hl.drop k.toNat).take (l.length - k.toNat))
   have h4 : okM 10001 ((l.take k.toNat ++ [i]) ++ (l.drop k.toNat).take (l.length - k.toNat)) := ⟨by simp; omega, h3.2⟩
   exact OK.gd (h2.ap (by omega)) (OK.gd (h4.ap (by omega)) (OK.mk ⟨h4.toW (by omega), (by refine G.up (by assumption) ?_; omega)⟩))
  refine OK.cond (fun _ => ?_) (fun _ => ?_)
  ·refine OK.bind (l11Inst_ok m1 (by omega)) ?_
   rintro ⟨i, r⟩ ⟨hgr, hi⟩
   dsimp only at hgr
   exact idx1 _ fun x _ => fin _ ((hl.set _ hi).toW (by omega)) (by refine G.up (by assumption) ?_; omega)
  refine OK.cond (fun _ => ?_) (fun _ => ?_)
  ·refine OK.bind (aU m1 (by omega)) ?_
   rintro ⟨q, r⟩ ⟨hgr, _⟩
   dsimp only at hgr
   exact idx1 _ fun x hx => fin _ ((hl.set _ (by simpa [okI] using hx)).toW (by omega)) (by refine G.up (by assumption) ?_; omega)
  refine OK.cond (fun _ => ?_) (fun _ => ?_)
  ·refine idx1 _ fun x hx => ?_
   refine OK.bind (l4Spoil_ok m1 (by omega) (by simp only [okI] at hx; dsimp only; omega)) ?_
   rintro ⟨e, r⟩ ⟨hgr, he⟩
   dsimp only at hgr
   dsimp only at he
   simp only [okI] at hx
   exact fin _ ((hl.toW (by omega)).set _ (by dsimp only; omega)) (by refine G.up (by assumption) ?_; omega)
  refine OK.cond (fun _ => ?_) (fun _ => ?_)
  ·exact OK.gd (by simp; omega) (OK.mk ⟨(hl.take _).toW (by omega), (by refine G.up (by assumption) ?_; omega)⟩)
  refine OK.cond (fun _ => ?_) (fun _ => ?_)
  ·refine idx1 _ fun x hx => ?_
   refine OK.loop (Q := fun z : List Int × Int × List Inst => okW 12000 z.2.2 ∧ G (N + 30000) ⟨z.1, z.2.1⟩) (fun z : List Int × Int × List Inst => G (N + 2 + 2 * z.2.2.length) ⟨z.1, z.2.1⟩ ∧ okM 10001 z.2.2) (fun z => 1001 - z.2.2.length) ?_ ?_ (fun z hz => fin z hz.1 hz.2)
   ·exact ⟨m1.up (by dsimp only; omega), hl.up (by omega)⟩
   ·rintro ⟨b, p, o⟩ ⟨g1, g2⟩
    dsimp only at g1 g2
    have g3 := g2.1
    simp only [s_l11Spoil_s55]
    refine OK.bind (aU g1 (by omega)) ?_
    rintro ⟨q, r⟩ ⟨q1, q2, q3⟩
    dsimp only at q1 q2 q3
    have e : IntKind.i64.wrap (1000 + q) = 1000 + q := w64 (by omega) (by omega)
    dsimp only
    rw [e]
    refine OK.cond (fun hc => ?_) (fun hc => ?_)
    ·simp only [decide_eq_true_eq] at hc
     have h2 := g2.app (okM.one hx)
     refine OK.gd (h2.ap (by omega)) ?_
     exact OK.mk ⟨⟨q1.up (by simp; omega), ⟨by simp; omega, h2.2⟩⟩, by simp; omega⟩
    ·exact OK.mk ⟨g2.toW (by omega), q1.up (by omega)⟩
  refine OK.cond (fun _ => ?_) (fun _ => ?_)
  ·refine OK.bind (aU m1 (by omega)) ?_
   rintro ⟨j, r⟩ ⟨j1, j2, j3⟩
   dsimp only at j1 j2 j3
   have j4 : j < l.length := j3 (by omega)
   refine idx1 _ fun x hx => ?_
   refine OK.idx j2 j4 fun y hy _ => ?_
   refine idx1 _ fun z _ => ?_
   refine OK.idx j2 (by simpa using j4) fun w _ _ => ?_
   exact fin _ (((hl.set _ (hl.2 y hy)).set _ hx).toW (by omega)) (by refine G.up (by assumption) ?_; omega)
  ·refine OK.bind (l4Any_ok m1 (by omega)) ?_
   rintro ⟨e, r⟩ ⟨hgr, he⟩
   dsimp only at hgr
   exact idx1 _ fun x hx => fin _ ((hl.set _ (by simp only [okI]; dsimp only at he; omega)).toW (by omega)) (by refine G.up (by assumption) ?_; omega)
theorem l26Open_ok {bs : List Int} (h : ∀ y ∈ bs, 0 ≤ y ∧ y < 256) : OK (s_l26Open bs) (fun r => G 0 r) := by
 unfold s_l26Open
 refine OK.cond (fun hc => ?_) (fun hc => ?_)
 ·simp only [decide_eq_true_eq] at hc
  refine OK.prtH (by omega) (by omega) ?_
  simp only [ia]
  exact OK.mk ⟨fun y hy => h y (List.mem_of_mem_take hy), by simp; omega, Int.le_refl _, Int.le_refl _⟩
 ·simp only [decide_eq_false_iff_not] at hc
  simp only [ia]
  exact OK.mk ⟨h, by dsimp only; omega, Int.le_refl _, Int.le_refl _⟩
end Go.AM
end
section
/- What is ok: operands, contacts, coils, instructions; both packages say the same. Conditions: none. -/
namespace Go.AM
open Go
def devSz (k : Int) : Int := if k = 1 ∨ k = 2 ∨ k = 5 ∨ k = 9 then 32 else if k = 3 then 64 else if k = 4 ∨ k = 7 ∨ k = 8 ∨ k = 10 then 16 else if k = 6 then 5 else 0
def arity (n : Int) : Int := if n = 1 ∨ n = 2 ∨ n = 21 ∨ n = 22 ∨ n = 23 ∨ n = 25 then 1 else if n = 31 ∨ n = 32 ∨ n = 33 ∨ n = 34 ∨ n = 35 then 3 else if (1 ≤ n ∧ n ≤ 10) ∨ (21 ≤ n ∧ n ≤ 37) then 2 else 0
def devOk (d : DevArg) : Bool := if d.Kind = 11 then decide (-32768 ≤ d.N) && decide (d.N ≤ 32767) && (d.P == 0)
 else if d.Kind = 12 then decide (-999999999 ≤ d.N) && decide (d.N ≤ 999999999) && decide (1 ≤ d.P) && decide (d.P ≤ 6) && ((d.P == 1) || (d.N.tmod 10 != 0))
 else if d.Kind = 13 then decide (0 ≤ d.N) && decide (d.N ≤ 3) && (d.P == 0)
 else decide (0 ≤ d.N) && decide (d.N < devSz d.Kind) && (d.P == 0)
def isBit (d : DevArg) : Bool := devOk d && (decide (d.Kind ≤ 4) || (d.Kind == 6) || (d.Kind == 7) || (d.Kind == 8))
def dQ (d : DevArg) : Bool := devOk d && ((d.Kind == 7) || (d.Kind == 8) || (d.Kind == 9) || (d.Kind == 11))
def fO (d : DevArg) : Bool := devOk d && ((d.Kind == 10) || (d.Kind == 12) || (d.Kind == 13))
def bT (d : DevArg) (k o : Int) : Bool := devOk d && ((d.Kind == k) || (d.Kind == o))
def a0 (l : List DevArg) : DevArg := l.getD 0 default
def a1 (l : List DevArg) : DevArg := l.getD 1 default
def iA (o : Int) (l : List DevArg) : Bool := decide (1 ≤ o) && decide (o ≤ 10) && ((l.length : Int) == arity o) &&
 (if o ≤ 2 then isBit (a0 l) else if o ≤ 4 then isBit (a0 l) && devOk (a1 l) && ((a1 l).Kind == 5) else (dQ (a0 l) && dQ (a1 l)) || (fO (a0 l) && fO (a1 l)))
def calcB (o : Int) (l : List DevArg) : Bool := bT (a0 l) 9 10 && (if (a0 l).Kind = 9 then l.tail.all dQ else l.tail.all fO && !(o == 35))
def isCoil (o : Int) (l : List DevArg) : Bool := decide (21 ≤ o) && decide (o ≤ 37) && ((l.length : Int) == arity o) &&
 (if o = 21 then bT (a0 l) 2 3 else if o = 22 then bT (a0 l) 2 3 || bT (a0 l) 4 4 else if o = 23 then bT (a0 l) 2 3 || bT (a0 l) 4 7 || bT (a0 l) 8 8
 else if o = 24 then bT (a0 l) 2 3 && bT (a1 l) 5 5 else if o = 25 then bT (a0 l) 4 4 else if o = 26 ∨ o = 27 ∨ o = 28 then bT (a0 l) 7 7 && bT (a1 l) 11 11 && decide (0 ≤ (a1 l).N)
 else if o = 29 then bT (a0 l) 8 8 && bT (a1 l) 11 11 && decide (0 ≤ (a1 l).N) else if o = 36 then bT (a0 l) 10 10 && dQ (a1 l) else if o = 37 then bT (a0 l) 9 9 && fO (a1 l) else calcB o l)
def listOk (i : Inst) : Bool := decide (1 ≤ i.Code) && decide (i.Code ≤ 11) && (if i.Code ≤ 3 then iA i.One_Op i.One_Args else if i.Code = 10 then isCoil i.One_Op i.One_Args else (i.One_Op == 0) && ((i.One_Args.length : Int) == 0))
theorem sDevSize (k : Int) : fV k = some (devSz k) := by
 unfold fV fw eL devSz
 simp only [Bool.cond_eq_ite]
 grind
theorem sDevOk (d : DevArg) : s_DevOk d = some (devOk d) := by
 unfold s_DevOk devOk
 simp only [Bool.cond_eq_ite, sDevSize, Option.bind_some]
 grind
theorem sBit (d : DevArg) : s_DevIsBit d = some (isBit d) := by
 unfold s_DevIsBit isBit; simp only [sDevOk, Option.bind_some]
theorem sWhole (d : DevArg) : fA d = some (dQ d) := by
 unfold fA dQ; simp only [sDevOk, Option.bind_some]
theorem sReal (d : DevArg) : eK d = some (fO d) := by
 unfold eK fO; simp only [sDevOk, Option.bind_some]
theorem sKind (d : DevArg) (k o : Int) : cW d k o = some (bT d k o) := by
 unfold cW bT; simp only [sDevOk, Option.bind_some]
theorem sArity (k : Int) : cj k = some (arity k) := by
 unfold cj b9 ck arity
 simp only [Bool.cond_eq_ite]
 grind (splits := 60)
theorem arity_facts (n : Int) : (1 ≤ n → n ≤ 10 → 1 ≤ arity n) ∧ (21 ≤ n → n ≤ 37 → 1 ≤ arity n) ∧ (3 ≤ n → n ≤ 10 → arity n = 2) ∧ (n = 24 → arity n = 2) ∧ (26 ≤ n → n ≤ 30 → arity n = 2) ∧ (31 ≤ n → n ≤ 35 → arity n = 3) ∧ (36 ≤ n → n ≤ 37 → arity n = 2) := by
 unfold arity; (repeat' split) <;> omega
theorem idx0 {l : List DevArg} (h : 0 < l.length) : idx l 0 = some (a0 l) := by
 unfold idx a0; simp [h]
theorem idx1 {l : List DevArg} (h : 1 < l.length) : idx l 1 = some (a1 l) := by
 have : (1 : Int) < l.length := by omega
 unfold idx a1; simp [this]
theorem sContact (e : Elem) : e9 e = some (iA e.Op e.Args) := by
 obtain ⟨o, l⟩ := e
 unfold e9 iA
 simp only [sArity, Option.bind_some, sBit, sWhole, sReal, sDevOk]
 obtain ⟨f1, _, f3, _⟩ := arity_facts o
 by_cases h1 : o < 1
 ·have : ¬ 1 ≤ o := by omega
  simp [h1, this]
 by_cases h2 : o > 10
 ·have : ¬ o ≤ 10 := by omega
  simp [h1, h2, this]
 by_cases h3 : (l.length : Int) = arity o
 ·have g1 : 1 ≤ o := by omega
  have g2 : o ≤ 10 := by omega
  have i0 := idx0 (l := l) (by have := f1 g1 g2; omega)
  by_cases h4 : o ≤ 2
  ·simp [h1, h2, h3, h4, g1, g2, i0]
  ·have i1 := idx1 (l := l) (by have := f3 (by omega) g2; omega)
   simp only [h1, h2, h3, h4, g1, g2, i0, i1, decide_true, decide_false, cond_false, bne_self_eq_false, Option.bind_some, Bool.true_and, beq_self_eq_true, if_false]
   by_cases h5 : o ≤ 4
   ·simp only [h5, decide_true, cond_true, if_true]
    cases isBit (a0 l) <;> cases devOk (a1 l) <;> simp
   ·simp only [h5, decide_false, cond_false, if_false]
    cases dQ (a0 l) <;> cases dQ (a1 l) <;> cases fO (a0 l) <;> cases fO (a1 l) <;> rfl
 ·have h4 : ((l.length : Int) == arity o) = false := by simpa using h3
  simp only [h1, h2, bne, h4, decide_false, Bool.not_false, cond_true, cond_false, Bool.and_false, Bool.false_and]
theorem drop_at {α : Type} [Inhabited α] {l : List α} {i : Int} (h0 : 0 ≤ i) (h1 : i < l.length) : l.drop i.toNat = l.getD i.toNat default :: l.drop (i + 1).toNat := by
 have hn : i.toNat < l.length := by omega
 rw [List.drop_eq_getElem_cons hn, show (i + 1).toNat = i.toNat + 1 by omega]
 simp [List.getD, hn]
theorem drop_end {α : Type} (l : List α) : l.drop (l.length : Int).toNat = [] := by simp
theorem sCalc (o : Int) (l : List DevArg) (h : 0 < l.length) (hl : l.length ≤ 1000000) : s_l4Calc ⟨o, l⟩ = some (calcB o l) := by
 unfold s_l4Calc calcB
 simp only [idx0 h, Option.bind_some, sKind]
 cases hk : bT (a0 l) 9 10 with
 | false => rfl
 | true =>
  simp only [Bool.not_true, cond_false]
  have key : ∀ w : Bool, loop (ij ⟨o, l⟩) (w, 1) = some (if (l.drop 1).all (fun d => if w then dQ d else fO d) then .inr w else .inl ()) := by
   intro w
   obtain ⟨b, e, hb⟩ := loop_inv (f := ij ⟨o, l⟩) (fun z => z.1 = w ∧ 1 ≤ z.2 ∧ z.2 ≤ l.length ∧ (l.drop z.2.toNat).all (fun d => if w then dQ d else fO d) = (l.drop 1).all (fun d => if w then dQ d else fO d)) (fun z => (l.length - z.2).toNat)
    (fun b => b = if (l.drop 1).all (fun d => if w then dQ d else fO d) then .inr w else .inl ()) (by
     rintro ⟨w', i⟩ ⟨rfl, i0, i1, he⟩
     simp only [ij]
     dsimp only at i0 i1 he
     by_cases hi : i < l.length
     ·have e : IntKind.i64.wrap (i + 1) = i + 1 := w64 (by omega) (by omega)
      rw [drop_at (by omega) hi, List.all_cons] at he
      simp only [hi, decide_true, cond_true, idx_eq (show 0 ≤ i by omega) hi, Option.bind_some, sWhole, sReal, e]
      cases w'
      ·simp only [cond_false, Bool.false_eq_true, if_false] at he ⊢
       cases hw : fO (l.getD i.toNat default)
       ·rw [hw, Bool.false_and] at he
        rw [← he]; exact .inr ⟨_, rfl, rfl⟩
       ·rw [hw, Bool.true_and] at he
        exact .inl ⟨_, rfl, ⟨rfl, by dsimp only; omega, by dsimp only; omega, he⟩, by dsimp only; omega⟩
      ·simp only [cond_true, if_true] at he ⊢
       cases hw : dQ (l.getD i.toNat default)
       ·rw [hw, Bool.false_and] at he
        rw [← he]; exact .inr ⟨_, rfl, rfl⟩
       ·rw [hw, Bool.true_and] at he
        exact .inl ⟨_, rfl, ⟨rfl, by dsimp only; omega, by dsimp only; omega, he⟩, by dsimp only; omega⟩
     ·have : i = l.length := by omega
      subst this
      rw [drop_end] at he
      rw [← he]
      simp) (w, 1) ⟨rfl, Int.le_refl _, by dsimp only; omega, rfl⟩
   rw [e, hb]
  rw [key]
  simp only [Option.bind_some, List.drop_one]
  by_cases h9 : (a0 l).Kind = 9
  ·simp only [h9, beq_self_eq_true, if_true]
   cases hh : l.tail.all fun d => dQ d with
   | true => simp [s_l4Calc_j13, hh]
   | false => simp [hh]
  ·have : ((a0 l).Kind == 9) = false := by simpa using h9
   simp only [this, h9, if_false, Bool.false_eq_true]
   cases hh : l.tail.all fun d => fO d with
   | true => simp [s_l4Calc_j13, hh]; rfl
   | false => simp [hh]
end Go.AM
end
section
/- What is ok: coils and instructions; the program says the same as the reference. Conditions: none. -/
namespace Go.AM
open Go
theorem sCoil (e : Elem) (hl : e.Args.length ≤ 1000000) : iB e = some (isCoil e.Op e.Args) := by
 obtain ⟨o, l⟩ := e
 dsimp only at hl
 unfold iB isCoil
 simp only [sArity, Option.bind_some, sKind]
 obtain ⟨_, f2, _, f4, f5, f6, f7⟩ := arity_facts o
 by_cases h1 : o < 21
 ·have : ¬ 21 ≤ o := by omega
  simp [h1, this]
 by_cases h2 : o > 37
 ·have : ¬ o ≤ 37 := by omega
  simp [h1, h2, this]
 by_cases h3 : (l.length : Int) = arity o
 ·have g1 : 21 ≤ o := by omega
  have g2 : o ≤ 37 := by omega
  have hl0 : 0 < l.length := by have := f2 g1 g2; omega
  have i0 := idx0 hl0
  have i1 : 24 ≤ o → o ≠ 25 → idx l 1 = some (a1 l) := fun q1 q2 => idx1 (by
   rcases (by omega : o = 24 ∨ (26 ≤ o ∧ o ≤ 30) ∨ (31 ≤ o ∧ o ≤ 35) ∨ (36 ≤ o ∧ o ≤ 37)) with q | q | q | q
   ·have := f4 q; omega
   ·have := f5 q.1 q.2; omega
   ·have := f6 q.1 q.2; omega
   ·have := f7 q.1 q.2; omega)
  have hc := sCalc o l hl0 hl
  simp only [h1, h2, h3, g1, g2, i0, decide_true, decide_false, cond_false, bne_self_eq_false, Option.bind_some, Bool.true_and, beq_self_eq_true]
  have cases_o : o = 21 ∨ o = 22 ∨ o = 23 ∨ o = 24 ∨ o = 25 ∨ o = 26 ∨ o = 27 ∨ o = 28 ∨ o = 29 ∨ o = 36 ∨ o = 37 ∨ (30 ≤ o ∧ o ≤ 35) := by omega
  rcases cases_o with rfl | rfl | rfl | rfl | rfl | rfl | rfl | rfl | rfl | rfl | rfl | ⟨q1, q2⟩
  ·rfl
  ·cases bT (a0 l) 2 3 <;> rfl
  ·cases bT (a0 l) 2 3 <;> cases bT (a0 l) 4 7 <;> rfl
  ·have := i1 (by omega) (by omega); simp [this]; cases bT (a0 l) 2 3 <;> rfl
  ·rfl
  ·have := i1 (by omega) (by omega); simp [bw, this, sKind]; cases bT (a0 l) 7 7 <;> cases bT (a1 l) 11 11 <;> simp
  ·have := i1 (by omega) (by omega); simp [bw, this, sKind]; cases bT (a0 l) 7 7 <;> cases bT (a1 l) 11 11 <;> simp
  ·have := i1 (by omega) (by omega); simp [bw, this, sKind]; cases bT (a0 l) 7 7 <;> cases bT (a1 l) 11 11 <;> simp
  ·have := i1 (by omega) (by omega); simp [bw, this, sKind]; cases bT (a0 l) 8 8 <;> cases bT (a1 l) 11 11 <;> simp
  ·have := i1 (by omega) (by omega); simp [bw, this, sKind, sWhole]; cases bT (a0 l) 10 10 <;> rfl
  ·have := i1 (by omega) (by omega); simp [bw, this, sKind, sReal]; cases bT (a0 l) 9 9 <;> rfl
  ·have e : ∀ k : Int, k < 30 ∨ 35 < k → (o == k) = false := fun k hk => by simp; omega
   have e2 : ∀ k : Int, k < 30 ∨ 35 < k → ¬ o = k := fun k hk => by omega
   simp [bw, e, e2, hc]
 ·have h4 : ((l.length : Int) == arity o) = false := by simpa using h3
  simp only [h1, h2, bne, h4, decide_false, Bool.not_false, cond_true, cond_false, Bool.and_false, Bool.false_and]
theorem sListOk (i : Inst) (hl : i.One_Args.length ≤ 1000000) : s_ListOk i = some (listOk i) := by
 unfold s_ListOk listOk
 simp only [sContact, sCoil ⟨i.One_Op, i.One_Args⟩ hl, Option.bind_some]
 by_cases h1 : i.Code < 1
 ·have : ¬ 1 ≤ i.Code := by omega
  simp [h1, this]
 by_cases h2 : i.Code > 11
 ·have : ¬ i.Code ≤ 11 := by omega
  simp [h1, h2, this]
 have g1 : 1 ≤ i.Code := by omega
 have g2 : i.Code ≤ 11 := by omega
 simp only [h1, h2, g1, g2, decide_true, decide_false, Bool.or_self, cond_false, Bool.true_and]
 by_cases h3 : i.Code ≤ 3
 ·simp [h3]
 ·by_cases h4 : i.Code = 10
  ·simp [h4]
  ·have : (i.Code == 10) = false := by simpa using h4
   simp [h3, h4, this]
-- the program's
theorem iIn (a b c : Int) : m_in a b c = some (decide (b ≤ a) && decide (a ≤ c)) := rfl
theorem iArity (k : Int) : eF k = some (arity k) := by
 unfold eF dV fb arity
 simp only [Bool.cond_eq_ite, iIn, Option.bind_some]
 grind (splits := 60)
theorem devSz_at (k : Int) (h0 : 1 ≤ k) (h1 : k ≤ 10) : idx pt_devSizes k = some (devSz k) := by
 have : k = 1 ∨ k = 2 ∨ k = 3 ∨ k = 4 ∨ k = 5 ∨ k = 6 ∨ k = 7 ∨ k = 8 ∨ k = 9 ∨ k = 10 := by omega
 rcases this with rfl | rfl | rfl | rfl | rfl | rfl | rfl | rfl | rfl | rfl <;> rfl
theorem devSz_out {k : Int} (h : k < 1 ∨ 10 < k) : devSz k = 0 := by unfold devSz; (repeat' split) <;> omega
theorem iDevSize (k : Int) : m_DevSize k = some (devSz k) := by
 unfold m_DevSize
 simp only [iIn, Option.bind_some]
 by_cases h : 1 ≤ k ∧ k ≤ 10
 ·simp [h.1, h.2, devSz_at k h.1 h.2]
 ·have : (decide (1 ≤ k) && decide (k ≤ 10)) = false := by simpa using h
  rw [this, devSz_out (by omega)]; rfl
theorem iDevOk (d : DevArg) : m_DevOk d = some (devOk d) := by
 unfold m_DevOk devOk
 have e : IntKind.i64.wrap (((pt_devWords).length : Int) - 1) = 3 := by decide
 simp only [Bool.cond_eq_ite, iDevSize, iIn, Option.bind_some, e]
 grind
theorem iIndex (l : List Int) (v : Int) (hl : l.length ≤ 1000000) : OK (dY l v) (fun i => (decide (0 ≤ i)) = l.contains v) := by
 unfold dY
 refine OK.loop (Q := fun b : Int ⊕ Unit => Sum.elim (fun i => 0 ≤ i ∧ l.contains v = true) (fun _ => l.contains v = false) b) (fun i : Int => 0 ≤ i ∧ i ≤ l.length ∧ (l.drop i.toNat).contains v = l.contains v) (fun i : Int => (l.length - i).toNat) ?_ ?_ ?_
 ·exact ⟨Int.le_refl _, by omega, rfl⟩
 ·rintro i ⟨i0, i1, he⟩
  simp only [ec]
  refine OK.cond (fun hc => ?_) (fun hc => ?_)
  ·simp only [decide_eq_true_eq] at hc
   rw [drop_at i0 hc, List.contains_cons] at he
   refine OK.idx i0 hc fun x _ hx => ?_
   rw [hx] at he
   refine OK.cond (fun hv => ?_) (fun hv => ?_)
   ·rw [hv, Bool.true_or] at he
    exact OK.mk ⟨i0, he.symm⟩
   ·rw [hv, Bool.false_or] at he
    have e : IntKind.i64.wrap (i + 1) = i + 1 := w64 (by omega) (by omega)
    rw [e]
    exact OK.mk ⟨⟨by omega, by omega, he⟩, by omega⟩
  ·simp only [decide_eq_false_iff_not] at hc
   have : i = l.length := by omega
   subst this
   rw [drop_end] at he
   exact OK.mk he.symm
 ·intro b hb
  cases b with
  | inl i => exact OK.mk (by simp only [Sum.elim_inl] at hb; simp [hb.1]; simpa using hb.2)
  | inr u => exact OK.mk (by simp only [Sum.elim_inr] at hb; rw [hb]; rfl)
theorem iContains (l : List Int) (v : Int) (hl : l.length ≤ 1000000) : cV l v = some (l.contains v) := by
 refine OK.eq ?_
 unfold cV
 refine OK.bind (iIndex l v hl) ?_
 intro i hi
 exact OK.mk hi
theorem iKindIs (d : DevArg) (l : List Int) (hl : l.length ≤ 1000000) : aD d l = some (devOk d && l.contains d.Kind) := by
 unfold aD
 simp only [iDevOk, Option.bind_some, iContains _ _ hl]
 cases devOk d <;> rfl
theorem devOk_k {d : DevArg} (h : devOk d = true) : 1 ≤ d.Kind ∧ d.Kind ≤ 13 := by
 unfold devOk devSz at h
 grind
theorem iBit (d : DevArg) : m_DevIsBit d = some (isBit d) := by
 unfold m_DevIsBit
 simp only [iKindIs d [1, 2, 3, 4, 6, 7, 8] (by simp), Option.bind_some]
 congr 1
 unfold isBit
 cases h : devOk d with
 | false => rfl
 | true => have := devOk_k h; simp; grind
theorem iWhole (d : DevArg) : iv d = some (dQ d) := by
 unfold iv
 simp only [iKindIs d [7, 8, 9, 11] (by simp), Option.bind_some]
 congr 1
 unfold dQ
 cases h : devOk d with
 | false => rfl
 | true => simp; grind
theorem iReal (d : DevArg) : m_DevIsReal d = some (fO d) := by
 unfold m_DevIsReal
 simp only [iKindIs d [10, 12, 13] (by simp), Option.bind_some]
 congr 1
 unfold fO
 cases h : devOk d with
 | false => rfl
 | true => simp; grind
theorem any_search {f : Int → Option (Int ⊕ (Int ⊕ Unit))} {l : List DevArg} {p : DevArg → Bool} (hl : l.length ≤ 1000000)
  (hf : ∀ i : Int, 0 ≤ i → i < l.length → f i = some (if p (l.getD i.toNat default) then .inr (.inl i) else .inl (i + 1))) (he : f l.length = some (.inr (.inr ()))) :
  OK ((loop f 0).bind (Sum.elim (fun v => some v) (fun _ => some (-1)))) (fun i => decide (0 ≤ i) = l.any p) := by
 refine OK.loop (Q := fun b : Int ⊕ Unit => Sum.elim (fun i => 0 ≤ i ∧ l.any p = true) (fun _ => l.any p = false) b) (fun i : Int => 0 ≤ i ∧ i ≤ l.length ∧ (l.drop i.toNat).any p = l.any p) (fun i : Int => (l.length - i).toNat) ?_ ?_ ?_
 ·exact ⟨Int.le_refl _, by omega, rfl⟩
 ·rintro i ⟨i0, i1, hh⟩
  by_cases hi : i < l.length
  ·rw [hf i i0 hi]
   rw [drop_at i0 hi, List.any_cons] at hh
   cases hp : p (l.getD i.toNat default) with
   | true => rw [hp, Bool.true_or] at hh; exact OK.mk ⟨i0, hh.symm⟩
   | false => rw [hp, Bool.false_or] at hh; exact OK.mk ⟨⟨by omega, by omega, hh⟩, by omega⟩
  ·have : i = l.length := by omega
   subst this
   rw [he]
   rw [drop_end] at hh
   exact OK.mk hh.symm
 ·intro b hb
  cases b with
  | inl i => exact OK.mk (by simp only [Sum.elim_inl] at hb; simp [hb.1]; simpa using hb.2)
  | inr u => exact OK.mk (by simp only [Sum.elim_inr] at hb; rw [hb]; rfl)
theorem any_all (l : List DevArg) (p : DevArg → Bool) : (!(l.any fun d => !p d)) = l.all p := by
 induction l with
 | nil => rfl
 | cons d l ih => simp only [List.any_cons, List.all_cons, ← ih]; cases p d <;> simp
theorem iAllW (l : List DevArg) (hl : l.length ≤ 1000000) : bR l = some (l.all dQ) := by
 refine OK.eq ?_
 unfold bR aJ aQ
 refine OK.bind (Q := fun b : Bool => b = l.any fun d => !dQ d) ?_ ?_
 ·refine OK.bind (Q := fun i : Int => decide (0 ≤ i) = l.any fun d => !dQ d) (any_search (p := fun d => !dQ d) hl ?_ ?_) ?_
  ·intro i i0 i1
   have e : IntKind.i64.wrap (i + 1) = i + 1 := w64 (by omega) (by omega)
   simp only [aA, i1, decide_true, cond_true, idx_eq i0 i1, Option.bind_some, dR, iWhole, e]
   cases dQ (l.getD i.toNat default) <;> rfl
  ·simp [aA]
  ·intro i hi; exact OK.mk hi
 ·rintro b rfl; exact OK.mk (any_all l dQ)
theorem iAllR (l : List DevArg) (hl : l.length ≤ 1000000) : b6 l = some (l.all fO) := by
 refine OK.eq ?_
 unfold b6 aL aR
 refine OK.bind (Q := fun b : Bool => b = l.any fun d => !fO d) ?_ ?_
 ·refine OK.bind (Q := fun i : Int => decide (0 ≤ i) = l.any fun d => !fO d) (any_search (p := fun d => !fO d) hl ?_ ?_) ?_
  ·intro i i0 i1
   have e : IntKind.i64.wrap (i + 1) = i + 1 := w64 (by omega) (by omega)
   simp only [aC, i1, decide_true, cond_true, idx_eq i0 i1, Option.bind_some, ef, iReal, e]
   cases fO (l.getD i.toNat default) <;> rfl
  ·simp [aC]
  ·intro i hi; exact OK.mk hi
 ·rintro b rfl; exact OK.mk (any_all l fO)
theorem iNumbers (l : List DevArg) (hl : l.length ≤ 1000000) : m_numbers l = some (l.all dQ || l.all fO) := by
 unfold m_numbers
 simp only [iAllW l hl, iAllR l hl, Option.bind_some]
 cases l.all dQ <;> rfl
theorem all2 (l : List DevArg) (p : DevArg → Bool) (h : l.length = 2) : l.all p = (p (a0 l) && p (a1 l)) := by
 match l, h with
 | [a, b], _ => simp [a0, a1]
theorem iContact (e : Elem) (hl : e.Args.length ≤ 1000000) : gH e = some (iA e.Op e.Args) := by
 obtain ⟨o, l⟩ := e
 dsimp only at hl
 unfold gH iA
 simp only [iIn, iArity, Option.bind_some]
 obtain ⟨f1, _, f3, _⟩ := arity_facts o
 by_cases h1 : 1 ≤ o ∧ o ≤ 10
 ·obtain ⟨g1, g2⟩ := h1
  simp only [g1, g2, decide_true, Bool.and_self, cond_true, Bool.true_and]
  by_cases h3 : (l.length : Int) = arity o
  ·have i0 := idx0 (l := l) (by have := f1 g1 g2; omega)
   simp only [h3, bne_self_eq_false, cond_false, beq_self_eq_true, Bool.true_and]
   have : o = 1 ∨ o = 2 ∨ o = 3 ∨ o = 4 ∨ 5 ≤ o := by omega
   rcases this with rfl | rfl | rfl | rfl | h5
   ·simp [bD, i0, iBit]
   ·simp [bD, i0, iBit]
   ·have i1 := idx1 (l := l) (by have := f3 (by omega) g2; omega)
    simp [bD, cy, i0, i1, iBit, iKindIs]
    cases isBit (a0 l) <;> simp <;> rfl
   ·have i1 := idx1 (l := l) (by have := f3 (by omega) g2; omega)
    simp [bD, cy, i0, i1, iBit, iKindIs]
    cases isBit (a0 l) <;> simp <;> rfl
   ·have e : ∀ k : Int, k < 5 → (o == k) = false := fun k hk => by simp; omega
    have e1 : ¬ o ≤ 2 := by omega
    have e2 : ¬ o ≤ 4 := by omega
    have hl2 : l.length = 2 := by have := f3 (by omega) g2; omega
    simp [bD, cy, e, e1, e2, iNumbers l hl, all2 l _ hl2]
  ·have h4 : ((l.length : Int) == arity o) = false := by simpa using h3
   simp [bne, h4]
 ·have : (decide (1 ≤ o) && decide (o ≤ 10)) = false := by simpa using h1
  simp only [this, cond_false, Bool.false_and]
theorem iCoil1 (l : List DevArg) (h : 0 < l.length) : eZ l = some (bT (a0 l) 11 11 && decide (0 ≤ (a0 l).N), l) := by
 unfold eZ bT
 simp only [idx0 h, Option.bind_some, iKindIs (a0 l) [11] (by simp)]
 cases devOk (a0 l) <;> simp
 cases h : ((a0 l).Kind == 11) <;> simp_all
theorem iKind1 (d : DevArg) (k : Int) : aD d [k] = some (bT d k k) := by
 rw [iKindIs d [k] (by simp)]; unfold bT; simp; rfl
theorem iKindD (d : DevArg) (k j : Int) : aD d [k, j] = some (bT d k j) := by
 rw [iKindIs d [k, j] (by simp)]; unfold bT; simp; rfl
theorem iCoil (e : Elem) (hl : e.Args.length ≤ 1000000) : m_ElemIsCoil e = some (isCoil e.Op e.Args) := by
 obtain ⟨o, l⟩ := e
 dsimp only at hl
 unfold m_ElemIsCoil isCoil
 simp only [iIn, iArity, Option.bind_some]
 obtain ⟨_, f2, _, f4, f5, f6, f7⟩ := arity_facts o
 by_cases h1 : 21 ≤ o ∧ o ≤ 37
 ·obtain ⟨g1, g2⟩ := h1
  simp only [g1, g2, decide_true, Bool.and_self, cond_true, Bool.true_and]
  by_cases h3 : (l.length : Int) = arity o
  ·have hl0 : 0 < l.length := by have := f2 g1 g2; omega
   have i0 := idx0 hl0
   have ht : prtL l 1 = some l.tail := by
    have : (1 : Int) ≤ l.length := by omega
    unfold prtL; simp [this, List.drop_one]
   have hl1 : 24 ≤ o → o ≠ 25 → 1 < l.length := fun q1 q2 => by
    rcases (by omega : o = 24 ∨ (26 ≤ o ∧ o ≤ 30) ∨ (31 ≤ o ∧ o ≤ 35) ∨ (36 ≤ o ∧ o ≤ 37)) with q | q | q | q
    ·have := f4 q; omega
    ·have := f5 q.1 q.2; omega
    ·have := f6 q.1 q.2; omega
    ·have := f7 q.1 q.2; omega
   have i1 : 24 ≤ o → o ≠ 25 → idx l.tail 0 = some (a1 l) := fun q1 q2 => by
    have := hl1 q1 q2
    match l, this with
    | a :: b :: r, _ => rw [idx_eq (by omega) (by simp)]; rfl
   have c1 : 24 ≤ o → o ≠ 25 → eZ l.tail = some (bT (a1 l) 11 11 && decide (0 ≤ (a1 l).N), l.tail) := fun q1 q2 => by
    have := hl1 q1 q2
    rw [iCoil1 l.tail (by simp; omega)]
    match l, this with
    | a :: b :: r, _ => rfl
   have hw := iAllW l.tail (by simp; omega)
   have hr := iAllR l.tail (by simp; omega)
   simp only [h3, bne_self_eq_false, cond_false, beq_self_eq_true, Bool.true_and, i0, ht, Option.bind_some]
   have cases_o : o = 21 ∨ o = 22 ∨ o = 23 ∨ o = 24 ∨ o = 25 ∨ o = 26 ∨ o = 27 ∨ o = 28 ∨ o = 29 ∨ o = 36 ∨ o = 37 ∨ o = 35 ∨ (30 ≤ o ∧ o ≤ 34) := by omega
   rcases cases_o with rfl | rfl | rfl | rfl | rfl | rfl | rfl | rfl | rfl | rfl | rfl | rfl | ⟨q1, q2⟩
   ·simp [iKindD]
   ·simp [iKindIs, bT]; grind
   ·simp [iKindIs, bT]; grind
   ·simp [i1, iKindD, iKind1]; cases bT (a0 l) 2 3 <;> rfl
   ·simp [iKind1]
   ·simp [bp, iKind1, c1]; cases bT (a0 l) 7 7 <;> simp
   ·simp [bp, iKind1, c1]; cases bT (a0 l) 7 7 <;> simp
   ·simp [bp, iKind1, c1]; cases bT (a0 l) 7 7 <;> simp
   ·simp [bp, iKind1, c1]; cases bT (a0 l) 8 8 <;> simp
   ·simp [bp, iKind1, i1, iWhole]; cases bT (a0 l) 10 10 <;> rfl
   ·simp [bp, iKind1, i1, iReal]; cases bT (a0 l) 9 9 <;> rfl
   ·simp [bp, iKind1, hw, calcB, bT]; grind
   ·have e : ∀ k : Int, k < 30 ∨ 34 < k → (o == k) = false := fun k hk => by simp; omega
    have e2 : ∀ k : Int, k < 30 ∨ 34 < k → ¬ o = k := fun k hk => by omega
    simp [bp, e, e2, iKind1, hw, hr, calcB, bT]; grind
  ·have h4 : ((l.length : Int) == arity o) = false := by simpa using h3
   simp [bne, h4]
 ·have : (decide (21 ≤ o) && decide (o ≤ 37)) = false := by simpa using h1
  simp only [this, cond_false, Bool.false_and]
theorem iListOk (i : Inst) (hl : i.One_Args.length ≤ 1000000) : m_ListOk i = some (listOk i) := by
 unfold m_ListOk listOk fZ
 simp only [iContact ⟨i.One_Op, i.One_Args⟩ hl, iCoil ⟨i.One_Op, i.One_Args⟩ hl, iIn, Option.bind_some]
 by_cases h1 : 1 ≤ i.Code
 ·by_cases h3 : i.Code ≤ 3
  ·have : i.Code ≤ 11 := by omega
   simp [h1, h3, this]
  ·by_cases h4 : i.Code = 10
   ·simp [h4]
   ·have q : (i.Code == 10) = false := by simpa using h4
    have r : 4 ≤ i.Code := by omega
    by_cases h5 : i.Code ≤ 11 <;> simp [h1, h3, h4, q, r, h5]
 ·have q : (i.Code == 10) = false := by simp; omega
  have r : ¬ 4 ≤ i.Code := by omega
  simp [h1, q, r]
end Go.AM
end
section
/- Copies of lists and lists that are the same. Conditions: none. -/
namespace Go.AM
open Go
def aX (l : List Inst) : Prop := ∀ i ∈ l, i.One_Args.length ≤ 1000
theorem iClone (l : List DevArg) (h : l.length ≤ 100000) : fW l = some l := by
 unfold fW cr cB
 have e1 : nilq l (fun v2 => cond v2 (some []) (gd (apOk l.length 24) (some l))) = some l := by
  refine nilq_eq ?_ ?_
  ·rw [apOk_of (by omega) (by omega)]; rfl
  ·rintro rfl; rfl
 have e2 : prtH l l.length = some l := by unfold prtH; simp
 rw [e1, Option.bind_some, e2]; rfl
theorem iCopyE (e : Elem) (h : e.Args.length ≤ 100000) : iD e = some e := by
 unfold iD; rw [iClone _ h]; rfl
theorem take_set {α : Type} [Inhabited α] {o l : List α} {i : Nat} (h1 : i < o.length) (h2 : i < l.length) (h : o.take i = l.take i) : (o.set i (l.getD i default)).take (i + 1) = l.take (i + 1) := by
 rw [List.take_succ_eq_append_getElem (by simpa using h1), List.take_set, h, List.set_eq_of_length_le (by simp; omega), List.take_succ_eq_append_getElem h2]
 simp [List.getD, h2]
theorem iCopyList (l : List Inst) (hl : aX l) (hl2 : l.length ≤ 1000000) : m_copyList l = some l := by
 refine OK.eq ?_
 unfold m_copyList
 refine OK.gd (mkOk_of (by omega) (Int.le_refl _) (by omega) (by omega)) ?_
 refine OK.loop (Q := fun b : List Inst => b = l) (fun z : List Inst × Int => 0 ≤ z.2 ∧ z.2 ≤ l.length ∧ z.1.length = l.length ∧ z.1.take z.2.toNat = l.take z.2.toNat) (fun z => (l.length - z.2).toNat) ?_ ?_ ?_
 ·exact ⟨Int.le_refl _, by dsimp only; omega, by simp, by simp⟩
 ·rintro ⟨o, i⟩ ⟨i0, i1, ho, he⟩
  dsimp only at i0 i1 ho he
  simp only [m_copyList_s9]
  refine OK.cond (fun hi => ?_) (fun hi => ?_)
  ·simp only [decide_eq_true_eq] at hi
   have hm := bA (l := l) (n := i.toNat) (by omega)
   have hh := hl _ hm
   rw [idx_eq i0 hi, Option.bind_some, iCopyE _ (by dsimp only; omega), Option.bind_some, idx_eq i0 (by omega), Option.bind_some]
   have e : IntKind.i64.wrap (i + 1) = i + 1 := w64 (by omega) (by omega)
   rw [e]
   refine OK.mk ⟨⟨by dsimp only; omega, by dsimp only; omega, by simpa using ho, ?_⟩, by dsimp only; omega⟩
   dsimp only
   rw [show (i + 1).toNat = i.toNat + 1 by omega]
   exact take_set (by omega) (by omega) he
  ·simp only [decide_eq_false_iff_not] at hi
   have : i = l.length := by omega
   subst this
   refine OK.mk ?_
   show o = l
   simp at he
   rw [← he, List.take_of_length_le (by omega)]
 ·rintro b rfl; exact OK.mk rfl
theorem same_loop {n : Nat} {f : Int → Option (Int ⊕ (Unit ⊕ Unit))} (hn : n ≤ 1000000) (h : ∀ i : Int, 0 ≤ i → i < n → f i = some (.inl (IntKind.i64.wrap (i + 1)))) (he : f n = some (.inr (.inr ()))) :
  (loop f 0).bind (Sum.elim (fun _ => some false) (fun _ => some true)) = some true := by
 refine OK.eq ?_
 refine OK.loop (Q := fun b : Unit ⊕ Unit => b = .inr ()) (fun i : Int => 0 ≤ i ∧ i ≤ n) (fun i : Int => (n - i).toNat) ⟨Int.le_refl _, by omega⟩ ?_ ?_
 ·rintro i ⟨i0, i1⟩
  by_cases hi : i < n
  ·rw [h i i0 hi, w64 (by omega) (by omega)]
   exact OK.mk ⟨⟨by omega, by omega⟩, by omega⟩
  ·have : i = n := by omega
   subst this
   rw [he]; exact OK.mk rfl
 ·rintro b rfl; exact OK.mk rfl
theorem iEqArgs (l : List DevArg) (hl : l.length ≤ 1000000) : bJ l l = some true := by
 unfold bJ
 simp only [bne_self_eq_false, cond_false]
 refine same_loop (n := l.length) hl ?_ ?_
 ·intro i i0 i1
  simp [br, i1, idx_eq i0 i1]
 ·simp [br]
theorem iSame1 (i : Inst) (h : i.One_Args.length ≤ 1000) : m_ListSame_1 i i = some true := by
 unfold m_ListSame_1 m_elemSame
 simp [iEqArgs _ (show i.One_Args.length ≤ 1000000 by omega)]
theorem iListSame (l : List Inst) (hl : aX l) (hl2 : l.length ≤ 1000000) : m_ListSame l l = some true := by
 unfold m_ListSame aM
 simp only [bne_self_eq_false, cond_false]
 have := same_loop (f := au l l) (n := l.length) hl2 (by
  intro i i0 i1
  have hm := bA (l := l) (n := i.toNat) (by omega)
  simp only [au, i1, decide_true, cond_true, idx_eq i0 i1, Option.bind_some, iSame1 _ (hl _ hm), Bool.not_true, cond_false]) (by
  simp [au])
 simp only [aF]
 rw [this]; rfl
end Go.AM
end
section
/- The verifier: both packages say the same. Conditions: none. -/
namespace Go.AM
open Go
def needs (c : Int) : Int := if c = 1 then 0 else if c = 4 ∨ c = 5 then 2 else 1
def wrongAt (s : l12At) (i : Inst) : Int := if listOk i = false then 2 else if s.bits < needs i.Code then 3 else if i.Code = 1 ∧ s.bits = 16 then 4 else if 7 ≤ i.Code ∧ 1 < s.bits then 5
 else if s.base = true ∧ s.bits = (if i.Code = 5 then 2 else 1) ∧ (i.Code = 3 ∨ i.Code = 6 ∨ i.Code = 5) then 6 else if (i.Code = 7 ∧ s.forks = 8) ∨ ((i.Code = 8 ∨ i.Code = 9) ∧ s.forks = 0) ∨ (i.Code = 11 ∧ 0 < s.forks) then 7
 else if (i.Code = 8 ∨ i.Code = 9 ∨ i.Code = 11) ∧ s.coil = false then 8 else 0
def behB (c b : Int) : Int := if c = 1 then b + 1 else if c = 4 ∨ c = 5 ∨ c = 11 then b - 1 else b
def behF (c f : Int) : Int := if c = 7 then f + 1 else if c = 9 then f - 1 else f
def nextV (s : l12At) (c : Int) : l12At := if c = 11 then ⟨0, 0, false, false⟩ else ⟨behB c s.bits, behF c s.forks, s.base || c == 10 || c == 7, c == 10⟩
def cw : l12At → Int → List Inst → SureFault
 | s, k, [] => if 0 < s.bits then ⟨9, k⟩ else ⟨0, 0⟩
 | s, k, i :: l => if 0 < wrongAt s i then ⟨wrongAt s i, k⟩ else cw (nextV s i.Code) (k + 1) l
def s0 : l12At := ⟨0, 0, false, false⟩
def bt (l : List Inst) : SureFault := if 1000 < l.length then ⟨1, 0⟩ else cw s0 0 l
theorem wrongAt_nn (s : l12At) (i : Inst) : 0 ≤ wrongAt s i := by unfold wrongAt; (repeat' split) <;> omega
theorem right_facts {s : l12At} {i : Inst} (h : wrongAt s i ≤ 0) : needs i.Code ≤ s.bits ∧ ¬ (i.Code = 1 ∧ s.bits = 16) ∧ ¬ (7 ≤ i.Code ∧ 1 < s.bits) ∧ ¬ ((i.Code = 7 ∧ s.forks = 8) ∨ ((i.Code = 8 ∨ i.Code = 9) ∧ s.forks = 0) ∨ (i.Code = 11 ∧ 0 < s.forks)) := by
 unfold wrongAt at h
 (repeat' split at h) <;> first | omega | (refine ⟨by omega, by assumption, by assumption, by assumption⟩)
def okS (s : l12At) : Prop := 0 ≤ s.bits ∧ s.bits ≤ 16 ∧ 0 ≤ s.forks ∧ s.forks ≤ 8
theorem okS_next {s : l12At} {i : Inst} (hs : okS s) (h : wrongAt s i ≤ 0) : okS (nextV s i.Code) := by
 obtain ⟨h1, h2, h3, h4⟩ := right_facts h
 obtain ⟨a, b, c, d⟩ := hs
 unfold okS nextV behB behF
 unfold needs at h1
 grind
theorem s0_ok : okS s0 := by unfold okS s0; simp
theorem sNeeds (c : Int) : s_l12Needs c = some (needs c) := by
 unfold s_l12Needs gT needs; simp only [Bool.cond_eq_ite]; grind
theorem iNeeds (c : Int) : m_needs c = some (needs c) := by
 unfold m_needs m_needs_j13 needs; simp only [Bool.cond_eq_ite]; grind
theorem sWrong (s : l12At) (i : Inst) (h : i.One_Args.length ≤ 1000) : s_l12Wrong s i = some (wrongAt s i) := by
 unfold s_l12Wrong iP wrongAt
 simp only [sListOk i (by omega), sNeeds, Option.bind_some, Bool.cond_eq_ite]
 grind (splits := 40)
theorem iWrong (s : l12At) (i : Inst) (h : i.One_Args.length ≤ 1000) (hs : okS s) : fh ⟨s.bits, s.forks⟩ i s.base s.coil = some (wrongAt s i) := by
 obtain ⟨a, b, c, d⟩ := hs
 unfold fh cD wrongAt
 simp only [iListOk i (by omega), iNeeds, Option.bind_some, Bool.cond_eq_ite]
 grind (splits := 40)
theorem sNext (s : l12At) (c : Int) (hs : okS s) : s_l12Next s c = some (nextV s c) := by
 obtain ⟨h1, h2, h3, h4⟩ := hs
 have e1 : IntKind.i64.wrap (s.bits + 1) = s.bits + 1 := w64 (by omega) (by omega)
 have e2 : IntKind.i64.wrap (s.bits - 1) = s.bits - 1 := w64 (by omega) (by omega)
 have e3 : IntKind.i64.wrap (s.forks + 1) = s.forks + 1 := w64 (by omega) (by omega)
 have e4 : IntKind.i64.wrap (s.forks - 1) = s.forks - 1 := w64 (by omega) (by omega)
 unfold s_l12Next iF fk nextV behB behF
 simp only [e1, e2, e3, e4, Bool.cond_eq_ite]
 grind
theorem iBehind (b f c : Int) (h1 : 0 ≤ b) (h2 : b ≤ 1000) (h3 : 0 ≤ f) (h4 : f ≤ 1000) : eV ⟨b, f⟩ c = some ⟨behB c b, behF c f⟩ := by
 have e1 : IntKind.i64.wrap (b + 1) = b + 1 := w64 (by omega) (by omega)
 have e2 : IntKind.i64.wrap (b - 1) = b - 1 := w64 (by omega) (by omega)
 have e3 : IntKind.i64.wrap (f + 1) = f + 1 := w64 (by omega) (by omega)
 have e4 : IntKind.i64.wrap (f - 1) = f - 1 := w64 (by omega) (by omega)
 unfold eV ct bB behB behF
 simp only [e1, e2, e3, e4, Bool.cond_eq_ite]
 grind
theorem next_eq {s : l12At} {i : Inst} (hs : okS s) (h : wrongAt s i ≤ 0) : nextV s i.Code = ⟨behB i.Code s.bits, behF i.Code s.forks, (i.Code != 11) && ((s.base || i.Code == 10) || i.Code == 7), i.Code == 10⟩ := by
 obtain ⟨h1, h2, h3, h4⟩ := right_facts h
 obtain ⟨a, b, c, d⟩ := hs
 unfold nextV
 split
 ·rename_i e
  rw [e] at h1 h3 h4 ⊢
  unfold needs at h1
  have hb : s.bits = 1 := by simp at h1 h3; omega
  have hf : s.forks = 0 := by simp at h4; omega
  rw [hb, hf]; rfl
 ·rename_i e
  have : (i.Code != 11) = true := by simpa using e
  rw [this]; rfl
theorem sSure (l : List Inst) (hl : aX l) (hl2 : l.length ≤ 1000000) : s_SureCheck l = some (bt l) := by
 refine OK.eq ?_
 unfold s_SureCheck bt
 refine OK.cond (fun hc => ?_) (fun hc => ?_)
 ·simp only [decide_eq_true_eq] at hc
  rw [if_pos (by omega)]; exact OK.mk rfl
 ·simp only [decide_eq_false_iff_not] at hc
  rw [if_neg (by omega)]
  refine OK.loop (Q := fun b : (Int × Int) ⊕ (Int × Int × Bool × Bool) => cw s0 0 l = Sum.elim (fun v => ⟨v.1, v.2⟩) (fun v => if 0 < v.1 then ⟨9, l.length⟩ else ⟨0, 0⟩) b)
   (fun z : Int × Int × Bool × Bool × Int => okS ⟨z.1, z.2.1, z.2.2.1, z.2.2.2.1⟩ ∧ 0 ≤ z.2.2.2.2 ∧ z.2.2.2.2 ≤ l.length ∧ cw ⟨z.1, z.2.1, z.2.2.1, z.2.2.2.1⟩ z.2.2.2.2 (l.drop z.2.2.2.2.toNat) = cw s0 0 l) (fun z => (l.length - z.2.2.2.2).toNat) ?_ ?_ ?_
  ·exact ⟨s0_ok, Int.le_refl _, by dsimp only; omega, rfl⟩
  ·rintro ⟨b, f, ba, co, i⟩ ⟨hs, i0, i1, he⟩
   dsimp only at hs i0 i1 he
   simp only [iW]
   refine OK.cond (fun hi => ?_) (fun hi => ?_)
   ·simp only [decide_eq_true_eq] at hi
    have hm := bA (l := l) (n := i.toNat) (by omega)
    simp only [idx_eq i0 hi, Option.bind_some, sWrong _ _ (hl _ hm), sNext _ _ hs]
    rw [drop_at i0 hi, cw] at he
    refine OK.cond (fun hw => ?_) (fun hw => ?_)
    ·simp only [decide_eq_true_eq] at hw
     rw [if_pos hw] at he
     exact OK.mk he.symm
    ·simp only [decide_eq_false_iff_not] at hw
     rw [if_neg hw] at he
     have e : IntKind.i64.wrap (i + 1) = i + 1 := w64 (by omega) (by omega)
     rw [e]
     exact OK.mk ⟨⟨okS_next hs (by omega), by dsimp only; omega, by dsimp only; omega, he⟩, by dsimp only; omega⟩
   ·simp only [decide_eq_false_iff_not] at hi
    have : i = l.length := by omega
    subst this
    rw [drop_end, cw] at he
    exact OK.mk he.symm
  ·intro b hb
   rw [hb]
   cases b with
   | inl v => exact OK.mk rfl
   | inr v =>
    obtain ⟨b, f, ba, co⟩ := v
    simp only [Sum.elim_inr, iY]
    refine OK.cond (fun hw => ?_) (fun hw => ?_)
    ·simp only [decide_eq_true_eq] at hw
     rw [if_pos hw]; exact OK.mk rfl
    ·simp only [decide_eq_false_iff_not] at hw
     rw [if_neg hw]; exact OK.mk rfl
theorem iSure (l : List Inst) (hl : aX l) (hl2 : l.length ≤ 1000000) : fq l = some (bt l) := by
 refine OK.eq ?_
 unfold fq bt
 refine OK.cond (fun hc => ?_) (fun hc => ?_)
 ·simp only [decide_eq_true_eq] at hc
  rw [if_pos (by omega)]; exact OK.mk rfl
 ·simp only [decide_eq_false_iff_not] at hc
  rw [if_neg (by omega)]
  refine OK.loop (Q := fun b : (Int × Int) ⊕ (Int × Int) => cw s0 0 l = Sum.elim (fun v => ⟨v.1, v.2⟩) (fun v => if 0 < v.1 then ⟨9, l.length⟩ else ⟨0, 0⟩) b ∧ Sum.elim (fun _ => True) (fun v => 0 ≤ v.1) b)
   (fun z : Int × Int × Bool × Bool × Int => okS ⟨z.1, z.2.1, z.2.2.1, z.2.2.2.1⟩ ∧ 0 ≤ z.2.2.2.2 ∧ z.2.2.2.2 ≤ l.length ∧ cw ⟨z.1, z.2.1, z.2.2.1, z.2.2.2.1⟩ z.2.2.2.2 (l.drop z.2.2.2.2.toNat) = cw s0 0 l) (fun z => (l.length - z.2.2.2.2).toNat) ?_ ?_ ?_
  ·exact ⟨s0_ok, Int.le_refl _, by dsimp only; omega, rfl⟩
  ·rintro ⟨b, f, ba, co, i⟩ ⟨hs, i0, i1, he⟩
   dsimp only at hs i0 i1 he
   simp only [iU]
   refine OK.cond (fun hi => ?_) (fun hi => ?_)
   ·simp only [decide_eq_true_eq] at hi
    have hm := bA (l := l) (n := i.toNat) (by omega)
    have hw' := iWrong ⟨b, f, ba, co⟩ (l.getD i.toNat default) (hl _ hm) hs
    have hb' := iBehind b f (l.getD i.toNat default).Code hs.1 (by have := hs.2.1; dsimp only at this; omega) hs.2.2.1 (by have := hs.2.2.2; dsimp only at this; omega)
    dsimp only at hw'
    simp only [idx_eq i0 hi, Option.bind_some, hw', hb']
    rw [drop_at i0 hi, cw] at he
    refine OK.cond (fun hw => ?_) (fun hw => ?_)
    ·simp only [bne_iff_ne, ne_eq] at hw
     have := wrongAt_nn ⟨b, f, ba, co⟩ (l.getD i.toNat default)
     rw [if_pos (by omega)] at he
     exact OK.mk ⟨he.symm, trivial⟩
    ·simp only [bne_eq_false_iff_eq] at hw
     rw [if_neg (by omega), next_eq hs (by omega)] at he
     have e : IntKind.i64.wrap (i + 1) = i + 1 := w64 (by omega) (by omega)
     rw [e]
     have q := okS_next hs (show wrongAt ⟨b, f, ba, co⟩ (l.getD i.toNat default) ≤ 0 by omega)
     rw [next_eq hs (by omega)] at q
     exact OK.mk ⟨⟨q, by dsimp only; omega, by dsimp only; omega, he⟩, by dsimp only; omega⟩
   ·simp only [decide_eq_false_iff_not] at hi
    have : i = l.length := by omega
    subst this
    rw [drop_end, cw] at he
    exact OK.mk ⟨he.symm, hs.1⟩
  ·rintro b ⟨hb, hb2⟩
   rw [hb]
   cases b with
   | inl v => exact OK.mk rfl
   | inr v =>
    obtain ⟨b, f⟩ := v
    simp only [Sum.elim_inr, iT] at hb2 ⊢
    refine OK.cond (fun hw => ?_) (fun hw => ?_)
    ·simp only [bne_iff_ne, ne_eq] at hw
     rw [if_pos (by omega)]; exact OK.mk rfl
    ·simp only [bne_eq_false_iff_eq] at hw
     rw [if_neg (by omega)]; exact OK.mk rfl
end Go.AM
end
section
/- Rungs of a list: the program's functions, and what holds of verified lists. Conditions: none. -/
namespace Go.AM
open Go
def verified (l : List Inst) : Bool := (bt l).Code == 0 && (bt l).At == 0
theorem iVerified (l : List Inst) (hl : aX l) (hl2 : l.length ≤ 1000000) : m_verified l = some (verified l) := by
 unfold m_verified; rw [iSure l hl hl2]; rfl
end Go.AM
end
section
/- Verified lists can be joined and cut: the law. Conditions: none. -/
namespace Go.AM
open Go
theorem check_zero : ∀ (l : List Inst) (s : l12At) (k : Int), (cw s k l).Code = 0 → (cw s k l).At = 0
 | [], s, k => by rw [cw]; split <;> simp
 | i :: l, s, k => by
  rw [cw]; split
  ·intro e; dsimp only at e; omega
  ·exact check_zero l _ _
theorem check_nn : ∀ (l : List Inst) (s : l12At) (k : Int), 0 ≤ (cw s k l).Code
 | [], s, k => by rw [cw]; split <;> simp
 | i :: l, s, k => by
  rw [cw]; split
  ·dsimp only; omega
  ·exact check_nn l _ _
theorem sure_nn (l : List Inst) : 0 ≤ (bt l).Code := by
 unfold bt; split
 ·simp
 ·exact check_nn _ _ _
theorem ver_iff (l : List Inst) : verified l = true ↔ (bt l).Code = 0 := by
 unfold verified
 constructor
 ·intro h; simp at h; exact h.1
 ·intro h
  have : (bt l).At = 0 := by
   unfold bt at h ⊢; split
   ·rfl
   ·rename_i q; rw [if_neg q] at h; exact check_zero _ _ _ h
  simp [h, this]
end Go.AM
end
