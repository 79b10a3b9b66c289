/- Pure programs: guards, parts of lists, loops, rows of lists; and the walk beside them. Conditions: none. -/
import Derived.Test.YtcnlhdaeeeolbaaAmT
set_option linter.unusedSimpArgs false
set_option linter.unusedVariables false
namespace Go.AM
open Go

/-- Goes on where something holds. -/
def gd {α : Type} (b : Bool) (k : Option α) : Option α := cond b k none
theorem gd_some {α : Type} {b : Bool} {k : Option α} {r : α} (h : gd b k = some r) : b = true ∧ k = some r := by
  cases b with
  | true => exact ⟨rfl, h⟩
  | false => cases h
theorem gd_t {α : Type} (k : Option α) : gd true k = k := rfl
theorem bind_some' {α β : Type} {o : Option α} {k : α → Option β} {r : β} (h : o.bind k = some r) : ∃ x, o = some x ∧ k x = some r := by
  cases o with
  | none => cases h
  | some x => exact ⟨x, rfl, h⟩
theorem cond_t {α : Type} {b : Bool} {x y r : α} (h : cond b x y = r) (hb : b = true) : x = r := by subst hb; exact h
theorem cond_f {α : Type} {b : Bool} {x y r : α} (h : cond b x y = r) (hb : b = false) : y = r := by subst hb; exact h

/-- Rows of a list. -/
def R {α : Type} (f : α → List AV) (l : List α) : List (List AV) := l.map f
section
variable {α : Type} (f : α → List AV) (l m : List α)
theorem R_nil : R f [] = [] := rfl
theorem R_cons (x : α) : f x :: R f l = R f (x :: l) := rfl
theorem R_cne (x : α) : (R f (x :: l) = []) = False := by simp [R]
theorem R_len : (R f l).length = l.length := List.length_map ..
theorem R_app : R f l ++ R f m = R f (l ++ m) := List.map_append.symm
theorem R_take (n : Nat) : (R f l).take n = R f (l.take n) := List.map_take.symm
theorem R_drop (n : Nat) : (R f l).drop n = R f (l.drop n) := List.map_drop.symm
theorem R_set (n : Nat) (x : α) : (R f l).set n (f x) = R f (l.set n x) := List.map_set.symm
theorem R_rep (n : Nat) (x : α) : List.replicate n (f x) = R f (List.replicate n x) := List.map_replicate.symm
theorem R_take_len : (R f l).take l.length = R f l := by rw [R_take, List.take_length]
theorem R_get [Inhabited α] {n : Nat} (h : n < l.length) : (R f l).getD n [] = f (l.getD n default) := by
  simp [R, List.getD, h]
end
attribute [go_sem] Bool.and_false Bool.false_and Bool.or_true Bool.true_or Bool.or_false Bool.false_or Bool.not_not R_cne R_nil R_len R_app R_take R_drop R_take_len List.take_length List.length_set List.length_replicate Int.toNat_natCast decide_true decide_false Bool.not_true Bool.not_false beq_true beq_false Bool.not_eq_false'

/-- An element of a list. -/
def idx {α : Type} [Inhabited α] (l : List α) (i : Int) : Option α := cond (decide (0 ≤ i) && decide (i < l.length)) (some (l.getD i.toNat default)) none
theorem idx_some {α : Type} [Inhabited α] {l : List α} {i : Int} {x : α} (h : idx l i = some x) : 0 ≤ i ∧ i < l.length ∧ (∀ f : α → List AV, (R f l).getD i.toNat [] = f x) ∧ l.getD i.toNat default = x := by
  unfold idx at h
  by_cases hi : 0 ≤ i ∧ i < l.length
  · have h0 : (decide (0 ≤ i) && decide (i < l.length)) = true := by simp [hi]
    rw [h0] at h
    injection h with h
    refine ⟨hi.1, hi.2, fun f => ?_, h⟩
    rw [R_get f l (by omega), h]
  · have h0 : (decide (0 ≤ i) && decide (i < l.length)) = false := by simpa using hi
    rw [h0] at h; cases h
/-- A part of a list. -/
def prt {α : Type} (l : List α) (a b : Int) : Option (List α) := cond (decide (0 ≤ a) && decide (a ≤ b) && decide (b ≤ l.length)) (some ((l.take b.toNat).drop a.toNat)) none
theorem prt_some {α : Type} {l m : List α} {a b : Int} (h : prt l a b = some m) : 0 ≤ a ∧ a ≤ b ∧ b ≤ l.length ∧ (l.take b.toNat).drop a.toNat = m := by
  unfold prt at h
  by_cases hi : (0 ≤ a ∧ a ≤ b) ∧ b ≤ l.length
  · have h0 : (decide (0 ≤ a) && decide (a ≤ b) && decide (b ≤ l.length)) = true := by simp [hi]
    rw [h0] at h
    injection h with h
    exact ⟨hi.1.1, hi.1.2, hi.2, h⟩
  · have h0 : (decide (0 ≤ a) && decide (a ≤ b) && decide (b ≤ l.length)) = false := by
      simp only [Bool.and_eq_false_iff, decide_eq_false_iff_not]; omega
    rw [h0] at h; cases h

def prtH {α : Type} (l : List α) (b : Int) : Option (List α) := cond (decide (0 ≤ b) && decide (b ≤ l.length)) (some (l.take b.toNat)) none
theorem prtH_some {α : Type} {l m : List α} {b : Int} (h : prtH l b = some m) : 0 ≤ b ∧ b ≤ l.length ∧ l.take b.toNat = m := by
  unfold prtH at h
  by_cases hi : 0 ≤ b ∧ b ≤ l.length
  · have h0 : (decide (0 ≤ b) && decide (b ≤ l.length)) = true := by simp [hi]
    rw [h0] at h
    injection h with h
    exact ⟨hi.1, hi.2, h⟩
  · have h0 : (decide (0 ≤ b) && decide (b ≤ l.length)) = false := by simpa using hi
    rw [h0] at h; cases h
def prtL {α : Type} (l : List α) (a : Int) : Option (List α) := cond (decide (0 ≤ a) && decide (a ≤ l.length)) (some (l.drop a.toNat)) none
theorem prtL_some {α : Type} {l m : List α} {b : Int} (h : prtL l b = some m) : 0 ≤ b ∧ b ≤ l.length ∧ l.drop b.toNat = m := by
  unfold prtL at h
  by_cases hi : 0 ≤ b ∧ b ≤ l.length
  · have h0 : (decide (0 ≤ b) && decide (b ≤ l.length)) = true := by simp [hi]
    rw [h0] at h
    injection h with h
    exact ⟨hi.1, hi.2, h⟩
  · have h0 : (decide (0 ≤ b) && decide (b ≤ l.length)) = false := by simpa using hi
    rw [h0] at h; cases h
/-- What may be added to, made. -/
def apOk (n b : Nat) : Bool := decide (n * b ≤ 140737488355328) && decide (n ≤ 140737488355328)
theorem apOk_1 {n b : Nat} (h : apOk n b = true) : n * b ≤ 140737488355328 := by simp [apOk] at h; exact h.1
theorem apOk_2 {n b : Nat} (h : apOk n b = true) : n ≤ 140737488355328 := by simp [apOk] at h; exact h.2
def mkOk (l m : Int) (b : Nat) : Bool := decide (0 ≤ l) && decide (l ≤ m) && decide (b * m ≤ 281474976710656) && decide (m ≤ 9223372036854775807)
theorem mkOk_some {l m : Int} {b : Nat} (h : mkOk l m b = true) : 0 ≤ l ∧ l ≤ m ∧ b * m ≤ 281474976710656 ∧ m ≤ 9223372036854775807 := by
  simp [mkOk] at h; exact ⟨h.1.1.1, h.1.1.2, h.1.2, h.2⟩
theorem ne_of_bne {a b : Int} (h : (a != b) = true) : ¬ a = b := by simpa using h
theorem dec_and {p q : Prop} [Decidable p] [Decidable q] (h : (decide p && decide q) = true) : p ∧ q := by simpa using h
theorem dec_and3 {p q r : Prop} [Decidable p] [Decidable q] [Decidable r] (h : (decide p && decide q && decide r) = true) : p ∧ q ∧ r := by simpa [and_assoc] using h
open Classical in
/-- What comes of both answers, where a list may be nil. -/
noncomputable def nilq {α β : Type} (l : List α) (f : Bool → Option β) : Option β := if l = [] then (if f true = f false then f true else none) else f false
theorem nilq_some {α β : Type} {l : List α} {f : Bool → Option β} {r : β} (h : nilq l f = some r) (b : Bool) (hb : b = true → l.length = 0) : f b = some r := by
  unfold nilq at h
  split at h
  · split at h
    · rename_i e
      cases b
      · rw [← e]; exact h
      · exact h
    · cases h
  · rename_i hl
    cases b with
    | false => exact h
    | true => exact absurd (List.eq_nil_of_length_eq_zero (hb rfl)) hl
theorem nilq_eq {α β : Type} {l : List α} {f : Bool → Option β} {r : β} (h0 : f false = some r) (h1 : l = [] → f true = some r) : nilq l f = some r := by
  unfold nilq
  split
  · rename_i e; rw [h1 e, h0, if_pos rfl]
  · exact h0
theorem isE_t {α : Type} {l : List α} (h : l.isEmpty = true) (f : α → List AV) : R f l = [] := by
  cases l with
  | nil => rfl
  | cons _ _ => cases h
theorem isE_f {α : Type} {l : List α} (h : l.isEmpty = false) (f : α → List AV) : ¬ R f l = [] := by
  cases l with
  | nil => cases h
  | cons _ _ => intro e; cases e
theorem wkR_nilR {α : Type} (f : α → List AV) : wkR [] (R f []) := trivial
theorem wkR_consR {α : Type} {f : α → List AV} {x : List AV} {xs : List (List AV)} {y : α} {l : List α} (h1 : wkL x (f y)) (h2 : wkR xs (R f l)) : wkR (x :: xs) (R f (y :: l)) := ⟨h1, h2⟩
theorem wkR0_nilR {α : Type} (f : α → List AV) : wkR0 [] (R f []) := trivial
theorem wkR0_consR {α : Type} {f : α → List AV} {x : List AV} {xs : List (List AV)} {y : α} {l : List α} (h1 : wkL0 x (f y)) (h2 : wkR0 xs (R f l)) : wkR0 (x :: xs) (R f (y :: l)) := ⟨h1, h2⟩
theorem wkR_repR {α : Type} {f : α → List AV} {z : List AV} {x : α} (h : wkL z (f x)) : ∀ n, wkR (List.replicate n z) (R f (List.replicate n x))
  | 0 => trivial
  | n + 1 => ⟨h, wkR_repR h n⟩
theorem wkR_appR {α : Type} {f : α → List AV} {ys : List (List AV)} {l m : List α} (h : wkR ys (R f m)) : wkR (R f l ++ ys) (R f (l ++ m)) := by
  rw [← R_app]; exact wkR_app (wkR_refl _) h

/-- Rounds: on with a new state, or out with a result. -/
def iterN {α β : Type} (f : α → Option (α ⊕ β)) : Nat → α → Option β
  | 0, _ => none
  | n + 1, a => (f a).bind fun x => match x with
    | .inl a' => iterN f n a'
    | .inr b => some b
theorem iterN_up {α β : Type} {f : α → Option (α ⊕ β)} {b : β} : ∀ {n : Nat} {a : α}, iterN f n a = some b → iterN f (n + 1) a = some b
  | 0, _, h => by cases h
  | n + 1, a, h => by
    obtain ⟨x, hx, h⟩ := bind_some' h
    rw [iterN, hx]
    cases x with
    | inl a' => exact iterN_up (n := n) h
    | inr c => exact h
theorem iterN_le {α β : Type} {f : α → Option (α ⊕ β)} {b : β} {n m : Nat} {a : α} (h : iterN f n a = some b) (hm : n ≤ m) : iterN f m a = some b := by
  induction hm with
  | refl => exact h
  | step _ ih => exact iterN_up ih
open Classical in
noncomputable def loop {α β : Type} (f : α → Option (α ⊕ β)) (a : α) : Option β := if h : ∃ b n, iterN f n a = some b then some h.choose else none
theorem loop_some {α β : Type} {f : α → Option (α ⊕ β)} {a : α} {b : β} : loop f a = some b ↔ ∃ n, iterN f n a = some b := by
  unfold loop
  constructor
  · intro h
    split at h
    · rename_i hx; injection h with h; subst h; exact hx.choose_spec
    · cases h
  · rintro ⟨n, hn⟩
    have hx : ∃ b n, iterN f n a = some b := ⟨b, n, hn⟩
    rw [dif_pos hx]
    obtain ⟨m, hm⟩ := hx.choose_spec
    have h1 := iterN_le hm (Nat.le_max_left m n)
    rw [iterN_le hn (Nat.le_max_right m n)] at h1
    exact h1.symm ▸ rfl
theorem loop_out {α β : Type} {f : α → Option (α ⊕ β)} {a : α} {b : β} (h : f a = some (.inr b)) : loop f a = some b := loop_some.2 ⟨1, by rw [iterN, h]; rfl⟩
theorem loop_on {α β : Type} {f : α → Option (α ⊕ β)} {a a' : α} (h : f a = some (.inl a')) : loop f a = loop f a' := by
  apply Option.ext
  intro b
  rw [loop_some, loop_some]
  constructor
  · rintro ⟨n, hn⟩
    cases n with
    | zero => cases hn
    | succ n => rw [iterN, h] at hn; exact ⟨n, hn⟩
  · rintro ⟨n, hn⟩
    exact ⟨n + 1, by rw [iterN, h]; exact hn⟩
/-- A loop, by what holds ahead of each round and a number that falls. -/
theorem loop_inv {α β : Type} {f : α → Option (α ⊕ β)} (I : α → Prop) (μ : α → Nat) (P : β → Prop) (h : ∀ a, I a → (∃ a', f a = some (.inl a') ∧ I a' ∧ μ a' < μ a) ∨ ∃ b, f a = some (.inr b) ∧ P b) : ∀ a, I a → ∃ b, loop f a = some b ∧ P b := by
  have key : ∀ n a, μ a ≤ n → I a → ∃ b, loop f a = some b ∧ P b := by
    intro n
    induction n with
    | zero =>
      intro a hn ha
      rcases h a ha with ⟨a', _, _, h3⟩ | ⟨b, h1, h2⟩
      · omega
      · exact ⟨b, loop_out h1, h2⟩
    | succ n ih =>
      intro a hn ha
      rcases h a ha with ⟨a', h1, h2, h3⟩ | ⟨b, h1, h2⟩
      · rw [loop_on h1]; exact ih a' (by omega) h2
      · exact ⟨b, loop_out h1, h2⟩
  exact fun a ha => key _ a (Nat.le_refl _) ha

/-- Kinds of states at one place. -/
inductive P2 where
  | a | b
inductive P3 where
  | a | b | c
inductive P4 where
  | a | b | c | d

section
variable {c : Cx} {CT : CTab} {nl : Nat} {lv : List Nat} {Q : Ex → St → Prop} {k : List It} {s : St}
/-- A place where several ways meet: told by a family of states. -/
theorem sem_cutJ {ι α : Type} {a b : Code} (T : ι → α → St) (φ : ι → α → Prop) (hJ : ∀ i x, φ i x → sem c CT nl lv Q (.code b :: k) .normal (T i x))
    (h : ∀ k', k' = .code b :: k → (∀ i x, φ i x → sem c CT nl lv Q k' .normal (T i x)) → sem c CT nl lv Q (.code a :: .join :: k') .normal s) : sem c CT nl lv Q (.code (.seq a b) :: k) .normal s := by
  rw [sem_seq]; exact h _ rfl hJ
theorem r_joinU {ι α : Type} {T : ι → α → St} {φ : ι → α → Prop} (J : ∀ i x, φ i x → sem c CT nl lv Q k .normal (T i x)) (ts : List Nat) (i : ι) (x : α) (hk : keepOk nl (autoE nl ts s) = true) (hb : Nat.ble s.os.length 1000000 = true)
    (h : wkSt (viewSt ts (autoE nl ts s) s) (T i x) ∧ φ i x) : sem c CT nl lv Q (.join :: k) .normal s :=
  .inr (.inl ⟨ts, _, T i x, ⟨hk, Nat.le_of_ble_eq_true hb⟩, h.1, J i x h.2⟩)
theorem r_joinV {ι α : Type} {T : ι → α → St} {φ : ι → α → Prop} (J : ∀ i x, φ i x → sem c CT nl lv Q k .normal (T i x)) (ts ks : List Nat) (i : ι) (x : α) (hk : keepOk nl ks = true) (hb : Nat.ble s.os.length 1000000 = true)
    (h : wkSt (viewSt ts ks s) (T i x) ∧ φ i x) : sem c CT nl lv Q (.join :: k) .normal s :=
  .inr (.inl ⟨ts, ks, T i x, ⟨hk, Nat.le_of_ble_eq_true hb⟩, h.1, J i x h.2⟩)
/-- A loop beside a pure one. -/
def backP {ι α β : Type} (nl : Nat) (ts : List Nat) (F : ι → α → St) (φ : ι → α → Prop) (f : α → Option (α ⊕ β)) (o : β) (n : Nat) (i : ι) (a : α) : St → Prop :=
  backB nl ts (fun p : Nat × ι × α => F p.2.1 p.2.2) (fun p => φ p.2.1 p.2.2 ∧ iterN f p.1 p.2.2 = some o) (fun p => p.1) (n + 1, i, a)
theorem sem_loopV {ι α β : Type} {b : Code} (ts ks : List Nat) (F : ι → α → St) (φ : ι → α → Prop) (f : α → Option (α ⊕ β)) (i0 : ι) (a0 : α) {o : β} (hL : loop f a0 = some o) (hk : keepOk nl ks = true) (hb : Nat.ble s.os.length 1000000 = true)
    (h0 : wkSt (viewSt ts ks s) (F i0 a0) ∧ φ i0 a0)
    (hr : ∀ n i a x k', k' = .back (backP nl ts F φ f o n i a) :: k → φ i a → f a = some x → (∀ a', x = .inl a' → iterN f n a' = some o) → (∀ q, x = .inr q → q = o) → sem c CT nl lv Q (.code b :: k') .normal (F i a)) :
    sem c CT nl lv Q (.code (.loop b) :: k) .normal s := by
  obtain ⟨n, hn⟩ := loop_some.1 hL
  refine sem_loop c CT nl lv Q k s b ts ks (fun p : Nat × ι × α => F p.2.1 p.2.2) (fun p => φ p.2.1 p.2.2 ∧ iterN f p.1 p.2.2 = some o) (fun p => p.1) (n, i0, a0) ⟨hk, Nat.le_of_ble_eq_true hb⟩ h0.1 ⟨h0.2, hn⟩ ?_
  rintro ⟨m, i, a⟩ ⟨hφ, hm⟩
  cases m with
  | zero => cases hm
  | succ m =>
    obtain ⟨x, hx, hm⟩ := bind_some' hm
    exact hr m i a x _ rfl hφ hx (fun a' e => by subst e; exact hm) (fun q e => by subst e; injection hm)
theorem sem_loopP {ι α β : Type} {b : Code} (ts : List Nat) (F : ι → α → St) (φ : ι → α → Prop) (f : α → Option (α ⊕ β)) (i0 : ι) (a0 : α) {o : β} (hL : loop f a0 = some o) (hk : keepOk nl (autoE nl ts s) = true) (hb : Nat.ble s.os.length 1000000 = true)
    (h0 : wkSt (viewSt ts (autoE nl ts s) s) (F i0 a0) ∧ φ i0 a0)
    (hr : ∀ n i a x k', k' = .back (backP nl ts F φ f o n i a) :: k → φ i a → f a = some x → (∀ a', x = .inl a' → iterN f n a' = some o) → (∀ q, x = .inr q → q = o) → sem c CT nl lv Q (.code b :: k') .normal (F i a)) :
    sem c CT nl lv Q (.code (.loop b) :: k) .normal s :=
  sem_loopV ts (autoE nl ts s) F φ f i0 a0 hL hk hb h0 hr
theorem r_backP {ι α β : Type} {ts : List Nat} {F : ι → α → St} {φ : ι → α → Prop} {f : α → Option (α ⊕ β)} {o : β} {n : Nat} {i0 : ι} {a0 : α} (i : ι) (a' : α) (hk : keepOk nl (autoE nl ts s) = true) (hb : Nat.ble s.os.length 1000000 = true)
    (h : wkSt (viewSt ts (autoE nl ts s) s) (F i a') ∧ φ i a') (hi : iterN f n a' = some o) : sem c CT nl lv Q (.back (backP nl ts F φ f o n i0 a0) :: k) .normal s :=
  ⟨autoE nl ts s, (n, i, a'), ⟨hk, Nat.le_of_ble_eq_true hb⟩, h.1, ⟨h.2, hi⟩, Nat.lt_succ_self n⟩
theorem r_backV {ι α β : Type} {ts : List Nat} {F : ι → α → St} {φ : ι → α → Prop} {f : α → Option (α ⊕ β)} {o : β} {n : Nat} {i0 : ι} {a0 : α} (ks : List Nat) (i : ι) (a' : α) (hk : keepOk nl ks = true) (hb : Nat.ble s.os.length 1000000 = true)
    (h : wkSt (viewSt ts ks s) (F i a') ∧ φ i a') (hi : iterN f n a' = some o) : sem c CT nl lv Q (.back (backP nl ts F φ f o n i0 a0) :: k) .normal s :=
  ⟨ks, (n, i, a'), ⟨hk, Nat.le_of_ble_eq_true hb⟩, h.1, ⟨h.2, hi⟩, Nat.lt_succ_self n⟩
theorem sem_ifh {x : Operand} {t f : Code} {e : Env} {os : List AO} {b : Bool} {α : Type} {u v r : α} (hb : ev c e x = .sc (.bool b)) (h : cond b u v = r) (ht : u = r → sem c CT nl lv Q (.code t :: k) .normal ⟨e, os⟩)
    (hf : v = r → sem c CT nl lv Q (.code f :: k) .normal ⟨e, os⟩) : sem c CT nl lv Q (.code (.cond x t f) :: k) .normal ⟨e, os⟩ :=
  sem_if hb (fun q => ht (cond_t h q)) (fun q => hf (cond_f h q))
theorem r_cN {b : Code} {k' : List It} (hk : k = .join :: .code b :: k') (h : sem c CT nl lv Q (.code b :: k') .normal s) : sem c CT nl lv Q k .normal s := by subst hk; exact r_join h
theorem r_cR {b : Code} {k' : List It} (hk : k = .join :: .code b :: k') (h : sem c CT nl lv Q k' .ret s) : sem c CT nl lv Q k .ret s := by subst hk; exact h
theorem r_cE {b : Code} {j : Nat} {k' : List It} (hk : k = .join :: .code b :: k') (h : sem c CT nl lv Q k' (.exit j) s) : sem c CT nl lv Q k (.exit j) s := by subst hk; exact h
theorem r_jR {b : Code} {k' : List It} (hk : k = .code b :: k') (h : sem c CT nl lv Q k' .ret s) : sem c CT nl lv Q (.join :: k) .ret s := by subst hk; exact h
theorem r_jE {b : Code} {j : Nat} {k' : List It} (hk : k = .code b :: k') (h : sem c CT nl lv Q k' (.exit j) s) : sem c CT nl lv Q (.join :: k) (.exit j) s := by subst hk; exact h
theorem r_bN {id : Nat} {k' : List It} (hk : k = .blk id :: k') (h : sem c CT nl lv Q k' .normal s) : sem c CT nl lv Q k .normal s := by subst hk; exact h
theorem r_bE {id : Nat} {k' : List It} (hk : k = .blk id :: k') (h : sem c CT nl lv Q k' .normal s) : sem c CT nl lv Q k (.exit id) s := by subst hk; exact r_blkE h
theorem r_bX {id j : Nat} {k' : List It} (hk : k = .blk id :: k') (hne : (j == id) = false) (h : sem c CT nl lv Q k' (.exit j) s) : sem c CT nl lv Q k (.exit j) s := by subst hk; exact r_blkX hne h
theorem r_bR {id : Nat} {k' : List It} (hk : k = .blk id :: k') (h : sem c CT nl lv Q k' .ret s) : sem c CT nl lv Q k .ret s := by subst hk; exact h
theorem r_kE {B : St → Prop} {j : Nat} {k' : List It} (hk : k = .back B :: k') (h : sem c CT nl lv Q k' (.exit j) s) : sem c CT nl lv Q k (.exit j) s := by subst hk; exact h
theorem r_kR {B : St → Prop} {k' : List It} (hk : k = .back B :: k') (h : sem c CT nl lv Q k' .ret s) : sem c CT nl lv Q k .ret s := by subst hk; exact h
section
variable {e : Env} {os : List AO} {rs : List ResultVar} {post : AV → List AO → Prop}
theorem r_eAR (hQ : endQ c nl rs post = Q) (hk : keepOk nl (autoK nl os []) = true) (hb : Nat.ble os.length 1000000 = true) (h : allP (resOk c os e) rs ∧ wkEnd (oneA (resA c (autoK nl os []) os e rs)) (viewS (autoK nl os []) os) post) : sem c CT nl lv Q [] .ret ⟨e, os⟩ := by
  subst hQ; exact endA_ret [] hk hb h
theorem r_eAN (hQ : endQ c nl rs post = Q) (hk : keepOk nl (autoK nl os []) = true) (hb : Nat.ble os.length 1000000 = true) (h : allP (resOk c os e) rs ∧ wkEnd (oneA (resA c (autoK nl os []) os e rs)) (viewS (autoK nl os []) os) post) : sem c CT nl lv Q [] .normal ⟨e, os⟩ := by
  subst hQ; exact endA_nrm [] hk hb h
theorem r_eOR (hQ : endQ c nl rs post = Q) (hk : keepOk nl (autoK nl os (resN c os e rs)) = true) (hb : Nat.ble os.length 1000000 = true) (h : allP (resOk c os e) rs ∧ wkEnd (oneA (resA c (autoK nl os (resN c os e rs)) os e rs)) (viewS (autoK nl os (resN c os e rs)) os) post) : sem c CT nl lv Q [] .ret ⟨e, os⟩ := by
  subst hQ; exact endO_ret hk hb h
theorem r_eON (hQ : endQ c nl rs post = Q) (hk : keepOk nl (autoK nl os (resN c os e rs)) = true) (hb : Nat.ble os.length 1000000 = true) (h : allP (resOk c os e) rs ∧ wkEnd (oneA (resA c (autoK nl os (resN c os e rs)) os e rs)) (viewS (autoK nl os (resN c os e rs)) os) post) : sem c CT nl lv Q [] .normal ⟨e, os⟩ := by
  subst hQ; exact endO_nrm hk hb h
theorem r_eVR (ks : List Nat) (hQ : endQ c nl rs post = Q) (hk : keepOk nl ks = true) (hb : Nat.ble os.length 1000000 = true) (h : allP (resOk c os e) rs ∧ wkEnd (oneA (resA c ks os e rs)) (viewS ks os) post) : sem c CT nl lv Q [] .ret ⟨e, os⟩ := by
  subst hQ; exact end_use_ret ks hk hb h
theorem r_eVN (ks : List Nat) (hQ : endQ c nl rs post = Q) (hk : keepOk nl ks = true) (hb : Nat.ble os.length 1000000 = true) (h : allP (resOk c os e) rs ∧ wkEnd (oneA (resA c ks os e rs)) (viewS ks os) post) : sem c CT nl lv Q [] .normal ⟨e, os⟩ := by
  subst hQ; exact end_use_nrm ks hk hb h
end
/-- A slice held against nil. -/
theorem r_nileq {op : BinOp} {t t' : Nat} {x : Operand} {H : List Nat} {all : Array Oper} {dst : Option Nat} {ty : Nat} {po : String} {af : Array Edge} {e : Env} {os : List AO}
    (h : (0 < (c.T t).sz ∧ isSliceT c t ∧ (op = .eql ∨ op = .neq) ∧ lenOk os (ev c e x) ∧ notStr (ev c e x)) ∧ ∀ b : Bool, (b = true → lenA (ev c e x) = 0) → sem c CT nl lv Q k .normal ⟨put e dst (.sc (.bool (if op = .eql then b else !b))), os⟩) :
    sem c CT nl lv Q (.op H all ⟨dst, .binOp op t x (.const (.slice none 0 0)) t', ty, po, af, none⟩ :: k) .normal ⟨e, os⟩ := by
  obtain ⟨⟨h1, h2, h3, h4, h5⟩, h6⟩ := h
  exact ⟨rfl, rfl, h1, h2, h3, h4, h5, h6⟩
theorem sem_ifT {x : Operand} {t f : Code} {e : Env} {os : List AO} (hb : ev c e x = .sc (.bool true)) (ht : sem c CT nl lv Q (.code t :: k) .normal ⟨e, os⟩) : sem c CT nl lv Q (.code (.cond x t f) :: k) .normal ⟨e, os⟩ :=
  sem_if hb (fun _ => ht) (fun h => by cases h)
theorem sem_ifF {x : Operand} {t f : Code} {e : Env} {os : List AO} (hb : ev c e x = .sc (.bool false)) (ht : sem c CT nl lv Q (.code f :: k) .normal ⟨e, os⟩) : sem c CT nl lv Q (.code (.cond x t f) :: k) .normal ⟨e, os⟩ :=
  sem_if hb (fun h => by cases h) (fun _ => ht)
end
/-! ### Texts -/
def bts (s : ByteArray) : List Int := s.data.toList.map fun b => (b.toNat : Int)
theorem strOf_R {α : Type} (e : α → List AV) (f : α → Int) (h : ∀ x, hdA (e x) = f x) (l : List α) : strOf (R e l) = bstr (l.map f) := by
  rw [strOf, R, List.map_map]; exact congrArg bstr (List.map_congr_left fun x _ => h x)
theorem byteRow_R {α : Type} (e : α → List AV) (h : ∀ x, byteRow (e x)) (l : List α) : allP byteRow (R e l) = True := by
  simp only [eq_iff_iff, iff_true, R]
  induction l with
  | nil => trivial
  | cons x l ih => exact ⟨h x, ih⟩
theorem noFz_R {α : Type} (e : α → List AV) (h : ∀ x, allP noFzC (e x)) (l : List α) : allP (allP noFzC) (R e l) = True := by
  simp only [eq_iff_iff, iff_true, R]
  induction l with
  | nil => trivial
  | cons x l ih => exact ⟨h x, ih⟩
theorem take_rep_self {α : Type} (n : Nat) (a : α) : (List.replicate n a).take n = List.replicate n a := by rw [List.take_replicate, Nat.min_self]
theorem take_set_self {α : Type} (l : List α) (i : Nat) (a : α) : (l.set i a).take l.length = l.set i a := List.take_of_length_le (by simp)
theorem take_set_self2 {α : Type} (l : List α) (i j : Nat) (a b : α) : ((l.set i a).set j b).take l.length = (l.set i a).set j b := List.take_of_length_le (by simp)
theorem take_set_self3 {α : Type} (l : List α) (i j k : Nat) (a b c : α) : (((l.set i a).set j b).set k c).take l.length = ((l.set i a).set j b).set k c := List.take_of_length_le (by simp)
attribute [go_sem] take_rep_self take_set_self take_set_self2 take_set_self3
/-- append(nil, make([]E, n)...). -/
def zaOk (n : Int) (b : Nat) : Bool := decide (0 ≤ n) && decide (n * (b : Int) ≤ 140737488355328) && decide (n ≤ 140737488355328)
theorem zaOk_some {n : Int} {b : Nat} (h : zaOk n b = true) : 0 ≤ n ∧ n * (b : Int) ≤ 140737488355328 ∧ n ≤ 140737488355328 := dec_and3 h
def zq (n : Int) : Bool := n == 0
theorem zq_t {n : Int} (h : zq n = true) : (n = 0) = True := by simpa [zq] using h
theorem zq_f {n : Int} (h : zq n = false) : (n = 0) = False := by simpa [zq] using h
/-- An array that the result alone names may be cut to what the result shows. -/
theorem Con.shrink {P : Program} {c : Cx} {f : Nat} {vs : List AV} {post post' : AV → List AO → Prop} (h : Con P c f vs [] post)
    (hp : ∀ x σ', post x σ' → post' x σ' ∨ ∃ s xs n, x = .sl 0 0 n ∧ σ' = [.arr true s xs] ∧ (n ≤ xs.length → post' x [.arr true s (xs.take n)])) : Con P c f vs [] post' := by
  refine ⟨h.1, fun X vals a1 a2 a3 a4 a5 a6 a7 => (h.2 X vals a1 a2 a3 a4 a5 a6 a7).mono ?_⟩
  rintro e w' ⟨v, x, σ', g', he, hpo, hs, hk, hr⟩
  rcases hp x σ' hpo with hq | ⟨s, xs, n, rfl, rfl, hq⟩
  · exact ⟨v, x, σ', g', he, hq, hs, hk, hr⟩
  · have hr' : RepC (rdF X [.arr true s xs] g' w') [.arr true s xs] g' w' (.sl 0 0 n) v := hr
    simp only [RepC, List.getElem?_cons_zero] at hr'
    obtain ⟨cap, q1, q2, q3⟩ := hr'
    have hn : n ≤ xs.length := by omega
    have hown : ∀ L, own [.arr true s (xs.take n)] L = own [.arr true s xs] L := by
      intro L; cases L <;> rfl
    have hrd : rdF X [.arr true s (xs.take n)] g' w' = rdF X [.arr true s xs] g' w' := by
      have hob : ownB [.arr true s (xs.take n)] g' = ownB [.arr true s xs] g' := by
        funext b; unfold ownB; exact congrArg Exists (funext fun L => by rw [hown])
      funext b o; unfold rdF; rw [show ownB [.arr true s (xs.take n)] g' b = ownB [.arr true s xs] g' b from congrFun hob b]
    have ho := hs.obj 0
    simp only [List.getElem?_cons_zero, OOk] at ho
    refine ⟨v, .sl 0 0 n, [.arr true s (xs.take n)], g', he, hq hn, ⟨hs.sys, hs.tape, hs.output, hs.size, hs.same, fun L hL => hs.bnd L (by rw [← hown]; exact hL), fun L M hL hM => hs.inj L M (by rw [← hown]; exact hL) (by rw [← hown]; exact hM), fun L => ?_⟩, ?_, ?_⟩
    · cases L with
      | succ L => simp [OOk]
      | zero =>
        simp only [List.getElem?_cons_zero, OOk, hrd]
        obtain ⟨p2, ⟨p0, rfl⟩ | ⟨b, p0, p1, cc, t, p3, p4, p5, p6⟩⟩ := ho
        · exact ⟨p2, .inl ⟨p0, List.take_nil⟩⟩
        refine ⟨p2, .inr ⟨b, p0, p1, cc, t, p3, ?_, fun y hy => p5 y (List.mem_of_mem_take hy), fun i k y z hy hz => ?_⟩⟩
        · rw [List.length_take]; exact Nat.le_trans (Nat.mul_le_mul_right _ (Nat.min_le_right _ _)) p4
        · rw [List.getElem?_take] at hy
          split at hy
          · exact p6 i k y z hy hz
          · cases hy
    · exact ⟨by simp, fun L o o' a a' e => by simp at e, fun L cs cs' e => by simp at e, fun L o a cs' e => by simp at e, fun L cs o a e => by simp at e, fun L e => by simp at e, hk.rm⟩
    · refine RepC.toV ?_
      simp only [RepC, List.getElem?_cons_zero]
      exact ⟨cap, q1, by rw [List.length_take]; omega, q3⟩
open Classical in
/-- What comes of ever deeper calls. -/
noncomputable def lim {β : Type} (h : Nat → Option β) : Option β := if q : ∃ b n, h n = some b then some q.choose else none
theorem lim_some {β : Type} {h : Nat → Option β} {b : β} (e : lim h = some b) : ∃ n, h n = some b := by
  unfold lim at e
  split at e
  · rename_i q; injection e with e; subst e; exact q.choose_spec
  · cases e
/-- More is told. -/
def le {β : Type} (o p : Option β) : Prop := ∀ b, o = some b → p = some b
theorem le_refl {β : Type} (o : Option β) : le o o := fun _ h => h
theorem le_none {β : Type} (o : Option β) : le none o := fun _ h => by cases h
theorem le_bind {α β : Type} {o p : Option α} {k m : α → Option β} (h1 : le o p) (h2 : ∀ x, le (k x) (m x)) : le (o.bind k) (p.bind m) := fun b h => by
  obtain ⟨x, hx, hk⟩ := bind_some' h
  rw [h1 x hx]; exact h2 x b hk
theorem le_cond {β : Type} {c : Bool} {x y z w : Option β} (h1 : le x z) (h2 : le y w) : le (cond c x y) (cond c z w) := by cases c <;> assumption
theorem le_gd {β : Type} {c : Bool} {x y : Option β} (h : le x y) : le (gd c x) (gd c y) := by cases c; exact le_refl _; exact h
theorem le_iter {α β : Type} {f g : α → Option (α ⊕ β)} (h : ∀ a, le (f a) (g a)) : ∀ (n : Nat) (a : α), le (iterN f n a) (iterN g n a)
  | 0, _ => le_refl _
  | n + 1, a => le_bind (h a) fun x => by
    cases x with
    | inl a' => exact le_iter h n a'
    | inr b => exact le_refl _
theorem le_loop {α β : Type} {f g : α → Option (α ⊕ β)} (h : ∀ a, le (f a) (g a)) (a : α) : le (loop f a) (loop g a) := fun b hb => by
  obtain ⟨n, hn⟩ := loop_some.1 hb
  exact loop_some.2 ⟨n, le_iter h n a b hn⟩
theorem le_sum {α β γ : Type} {f f' : α → Option γ} {g g' : β → Option γ} (h1 : ∀ a, le (f a) (f' a)) (h2 : ∀ b, le (g b) (g' b)) (x : α ⊕ β) : le (Sum.elim f g x) (Sum.elim f' g' x) := by
  cases x with
  | inl a => exact h1 a
  | inr b => exact h2 b
theorem le_nilq {α β : Type} {l : List α} {f g : Bool → Option β} (h : ∀ b, le (f b) (g b)) : le (nilq l f) (nilq l g) := fun b hb => by
  unfold nilq at hb ⊢
  split at hb
  · rename_i hl
    rw [if_pos hl]
    split at hb
    · rename_i e
      rw [e] at hb
      have h1 := h true b (by rw [e]; exact hb)
      rw [h1, h false b hb, if_pos rfl]
    · cases hb
  · rename_i hl
    rw [if_neg hl]; exact h false b hb
theorem lim_eq {β : Type} {h : Nat → Option β} (hm : ∀ n, le (h n) (h (n + 1))) {b : β} {n : Nat} (e : h n = some b) : lim h = some b := by
  have up : ∀ k n, le (h n) (h (n + k)) := by
    intro k
    induction k with
    | zero => intro n; exact le_refl _
    | succ k ih => intro n c hc; exact hm _ c (ih n c hc)
  have q : ∃ b n, h n = some b := ⟨b, n, e⟩
  unfold lim
  rw [dif_pos q]
  obtain ⟨m, hm2⟩ := q.choose_spec
  have h1 := up n m _ hm2
  have h2 := up m n _ e
  rw [Nat.add_comm] at h2
  rw [h1] at h2
  exact h2
/-- A result of which a part is told no more. -/
def dropL : List AV → List AV → Prop
  | [], [] => True
  | x :: r, y :: s => (y = x ∨ y = .junk) ∧ dropL r s
  | _, _ => False
theorem dropL_get : ∀ {xs ys : List AV}, dropL xs ys → ys.length = xs.length ∧ ∀ (i : Nat) y, ys[i]? = some y → ∃ x, xs[i]? = some x ∧ (y = x ∨ y = .junk)
  | [], [], _ => ⟨rfl, fun i z hz => by simp at hz⟩
  | x :: r, y :: s, h => by
    obtain ⟨h1, h2⟩ := dropL_get h.2
    refine ⟨by simp [h1], fun i z hz => ?_⟩
    cases i with
    | zero => cases hz; exact ⟨x, rfl, h.1⟩
    | succ i => simpa using h2 i z (by simpa using hz)
  | [], _ :: _, h => h.elim
  | _ :: _, [], h => h.elim
theorem noFzA_junk : noFzA .junk = True := rfl
theorem renA_junk (f : Nat → Nat) : renA f .junk = .junk := rfl
attribute [go_sem] noFzA_junk renA_junk
theorem Con.drop {P : Program} {c : Cx} {f : Nat} {vs : List AV} {σ : List AO} {post post' : AV → List AO → Prop} (h : Con P c f vs σ post)
    (hp : ∀ x σ', post x σ' → ∃ xs ys, x = .tup xs ∧ dropL xs ys ∧ post' (.tup ys) σ') : Con P c f vs σ post' := by
  refine ⟨h.1, fun X vals a1 a2 a3 a4 a5 a6 a7 => (h.2 X vals a1 a2 a3 a4 a5 a6 a7).mono ?_⟩
  rintro e w' ⟨v, x, σ', g', he, hpo, hs, hk, hr⟩
  obtain ⟨xs, ys, rfl, hd, hq⟩ := hp x σ' hpo
  obtain ⟨d1, d2⟩ := dropL_get hd
  obtain ⟨vs', hv, hl, hr⟩ := hr
  refine ⟨v, .tup ys, σ', g', he, hq, hs, hk, vs', hv, by omega, fun i y hy => ?_⟩
  obtain ⟨x, hx, hy2⟩ := d2 i y hy
  obtain ⟨u, hu, hr⟩ := hr i x hx
  refine ⟨u, hu, ?_⟩
  rcases hy2 with rfl | rfl
  · exact hr
  · trivial
/-! ### Rows that hold slices of ours -/
section
variable {c : Cx} {CT : CTab} {nl : Nat} {lv : List Nat} {Q : Ex → St → Prop} {k : List It} {e : Env} {os os0 : List AO}
theorem r_cO {b : Code} {k' : List It} (os1 : List AO) (hk : k = .join :: .code b :: k') (hn : NS1 os os0) (he : os0 = os1) (h : sem c CT nl lv Q (.code b :: k') .normal ⟨e, os1⟩) : sem c CT nl lv Q k .normal ⟨e, os⟩ := by
  subst hk; subst he; exact .inr (.inr ⟨_, hn, h⟩)
end
def cellsBut : Nat → List AV → Prop
  | _, [] => True
  | 0, _ :: r => allP cellP r
  | n + 1, x :: r => cellP x ∧ cellsBut n r
theorem cellsBut_get : ∀ {n : Nat} {r : List AV}, cellsBut n r → ∀ (j : Nat) y, j ≠ n → r[j]? = some y → cellP y
  | _, [], _, j, y, _, h => by simp at h
  | 0, _ :: r, hc, j, y, hj, h => by
    cases j with
    | zero => exact absurd rfl hj
    | succ j => exact allP_get hc (by simpa using h)
  | n + 1, x :: r, hc, j, y, hj, h => by
    cases j with
    | zero => simp at h; subst h; exact hc.1
    | succ j => exact cellsBut_get hc.2 j y (by omega) (by simpa using h)
theorem n_cls {os : List AO} (L k : Nat) {z s i N n : Nat} {xs ys : List (List AV)} {row : List AV} (hL : os[L]? = some (.nst z xs (some (i, row)))) (hk : row[k]? = some (.sl N 0 n)) (hN : os[N]? = some (.arr true s ys)) (hn : n = ys.length) (hc : cellsBut k row) :
    NS1 os ((os.set L (.nst z (xs.set i (row.set k (.own s ys))) none)).set N .dead) := by
  subst hn; exact .cls L k hL hk hN (cellsBut_get hc)
theorem R_some {α : Type} [Inhabited α] {l : List α} {i : Int} {m : Nat} {x : α} {f : α → List AV} (e : i.toNat = m) (h : 0 ≤ i ∧ i < l.length ∧ ∀ f : α → List AV, (R f l).getD m [] = f x) : (R f l)[m]? = some (f x) := by
  subst e
  obtain ⟨h1, h2, h3⟩ := h
  have hl : i.toNat < (R f l).length := by rw [R_len]; omega
  rw [← h3 f, List.getD, List.getElem?_eq_getElem hl]; rfl
theorem unO_R {α : Type} (e e' : α → List AV) (h : ∀ x, (e x).map unO = e' x) (l : List α) : ((R e l).map fun x => x.map unO) = R e' l := by
  simp only [R, List.map_map]; exact List.map_congr_left fun x _ => h x
theorem mk_R {α : Type} (e : α → List AV) (k s : Nat) (z : List AV) (x : α) (h : mkRow k s z = e x) (n : Nat) : (List.replicate n z).map (mkRow k s) = R e (List.replicate n x) := by
  simp only [R, List.map_replicate, h]
theorem noFz0_R {α : Type} (e : α → List AV) (h : ∀ x, allP noFz0 (e x)) (l : List α) : allP (allP noFz0) (R e l) := by
  simp only [R]
  induction l with
  | nil => trivial
  | cons x l ih => exact ⟨h x, ih⟩
section
variable (z : Nat) (xs : List (List AV))
theorem noFzO_nst : noFzO (.nst z xs none) = allP (allP noFzC) xs := rfl
theorem renO_nst (f : Nat → Nat) : renO f (.nst z xs none) = .nst z xs none := rfl
theorem viewO_nst (ks : List Nat) (os : List AO) : viewO ks os (.nst z xs none) = .nst z xs none := rfl
theorem shownO_nst (ks : List Nat) : shownO ks (.nst z xs none) = [] := rfl
theorem viewO_nstS (ks : List Nat) (os : List AO) (j : Nat) (row : List AV) : viewO ks os (.nst z xs (some (j, row))) = .nst z xs (some (j, row.map (viewC ks os))) := rfl
theorem renO_nstS (f : Nat → Nat) (j : Nat) (row : List AV) : renO f (.nst z xs (some (j, row))) = .nst z xs (some (j, row.map (renC f))) := rfl
theorem shownO_nstS (ks : List Nat) (j : Nat) (row : List AV) : shownO ks (.nst z xs (some (j, row))) = row.flatMap (shownC ks) := rfl
theorem isOwn_nst (op : Option (Nat × List AV)) : isOwn (some (.nst z xs op)) = True := rfl
theorem isDeadO_nst (op : Option (Nat × List AV)) : isDeadO (some (.nst z xs op)) = false := rfl
theorem nmO_nst (op : Option (Nat × List AV)) : nmO (some (.nst z xs op)) = [] := rfl
theorem unO_sc (v : Value) : unO (.sc v) = .sc v := rfl
theorem unO_own : unO (.own z xs) = .fz z xs := rfl
end
attribute [go_sem] noFzO_nst renO_nst viewO_nst shownO_nst viewO_nstS renO_nstS shownO_nstS isOwn_nst isDeadO_nst nmO_nst recN_nst
end Go.AM
