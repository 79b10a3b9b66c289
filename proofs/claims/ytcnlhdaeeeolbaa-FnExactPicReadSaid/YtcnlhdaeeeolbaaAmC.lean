/- What an abstract state says of memory, and how that is carried from one world to the next. Conditions: none. -/
import Derived.Test.YtcnlhdaeeeolbaaAmB
import Derived.Laws.Rows
import Derived.Laws.MakeOwn
set_option linter.unusedSimpArgs false
set_option linter.unusedVariables false
namespace Go.AM
open Go

/-- What reads as it did for good. 'rd': the cells that nobody writes any more. -/
inductive RepP (rd : Nat → Nat → Option Value) : AV → Value → Prop
  | sc {v : Value} : v.oneCell' = true → RepP rd (.sc v) v
  | nil {s : Nat} {a : Option Addr} {c : Nat} : RepP rd (.fz s []) (.slice a 0 c)
  | fz {s : Nat} {xs : List (List AV)} {b o c : Nat} (f : Nat → Nat → Value) : xs.length ≤ c → (∀ x ∈ xs, x.length = s) →
      (∀ (i k : Nat) x y, xs[i]? = some x → x[k]? = some y → rd b (o + i * s + k) = some (f i k)) →
      (∀ (i k : Nat) x y, xs[i]? = some x → x[k]? = some y → RepP rd y (f i k)) → RepP rd (.fz s xs) (.slice (some ⟨b, o, none⟩) xs.length c)

/-- A row of elements. -/
def Row (rd : Nat → Nat → Option Value) (b o s : Nat) (xs : List (List AV)) : Prop :=
  (∀ x ∈ xs, x.length = s) ∧ ∀ (i k : Nat) x y, xs[i]? = some x → x[k]? = some y → ∃ v, rd b (o + i * s + k) = some v ∧ RepP rd y v

theorem RepP.of_row {rd : Nat → Nat → Option Value} {b o s c : Nat} {xs : List (List AV)} (h : Row rd b o s xs) (hc : xs.length ≤ c) : RepP rd (.fz s xs) (.slice (some ⟨b, o, none⟩) xs.length c) := by
  refine .fz (fun i k => ((rd b (o + i * s + k)).getD undef)) hc h.1 ?_ ?_
  · intro i k x y hx hy
    obtain ⟨v, hv, _⟩ := h.2 i k x y hx hy
    rw [hv]; rfl
  · intro i k x y hx hy
    obtain ⟨v, hv, hr⟩ := h.2 i k x y hx hy
    simp only [hv, Option.getD_some]
    exact hr

theorem RepP.row {rd : Nat → Nat → Option Value} {s : Nat} {xs : List (List AV)} {v : Value} (h : RepP rd (.fz s xs) v) :
    (xs = [] ∧ ∃ a c, v = .slice a 0 c) ∨ ∃ b o c, v = .slice (some ⟨b, o, none⟩) xs.length c ∧ xs.length ≤ c ∧ Row rd b o s xs := by
  cases h with
  | nil => exact .inl ⟨rfl, _, _, rfl⟩
  | fz f hc hs h1 h2 => exact .inr ⟨_, _, _, rfl, hc, hs, fun i k x y hx hy => ⟨_, h1 i k x y hx hy, h2 i k x y hx hy⟩⟩

theorem RepP.mono {rd rd' : Nat → Nat → Option Value} (hm : ∀ b o v, rd b o = some v → rd' b o = some v) {x : AV} {v : Value} (h : RepP rd x v) : RepP rd' x v := by
  induction h with
  | sc hv => exact .sc hv
  | nil => exact .nil
  | fz f hc hs h1 _ ih => exact .fz f hc hs (fun i k x y hx hy => hm _ _ _ (h1 i k x y hx hy)) ih

theorem Row.mono {rd rd' : Nat → Nat → Option Value} (hm : ∀ b o v, rd b o = some v → rd' b o = some v) {b o s : Nat} {xs : List (List AV)} (h : Row rd b o s xs) : Row rd' b o s xs :=
  ⟨h.1, fun i k x y hx hy => let ⟨v, hv, hr⟩ := h.2 i k x y hx hy; ⟨v, hm _ _ _ hv, hr.mono hm⟩⟩

theorem RepP.one {rd : Nat → Nat → Option Value} {x : AV} {v : Value} (h : RepP rd x v) : v.oneCell' = true := by
  cases h with
  | sc hv => exact hv
  | nil => rfl
  | fz => rfl

/-- A part of a row. -/
theorem Row.part {rd : Nat → Nat → Option Value} {b o s : Nat} {xs : List (List AV)} (h : Row rd b o s xs) (l n : Nat) : Row rd b (o + l * s) s ((xs.take n).drop l) := by
  refine ⟨fun x hx => h.1 x (List.mem_of_mem_take (List.mem_of_mem_drop hx)), fun i k x y hx hy => ?_⟩
  rw [List.getElem?_drop, List.getElem?_take] at hx
  split at hx
  · obtain ⟨v, hv, hr⟩ := h.2 (l + i) k x y hx hy
    refine ⟨v, ?_, hr⟩
    rw [← hv]
    congr 1
    rw [Nat.add_mul]
    omega
  · cases hx

/-- One activation: the world at its start, the blocks that it may read, those that it may write. -/
structure Ctx where
  W : World
  V : Nat → Prop
  K : Nat → Prop
  nt : Nat
  os0 : List AO
  g0 : Nat → List Nat

structure Ctx.Ok (X : Ctx) : Prop where
  v : ∀ b, X.V b → b < X.W.heap.size ∧ ¬ X.K b
  k : ∀ b, X.K b → b < X.W.heap.size

def ownB (os : List AO) (g : Nat → List Nat) (b : Nat) : Prop := ∃ L, own os L ∧ b ∈ g L

def vis (X : Ctx) (b : Nat) : Prop := X.V b ∨ X.K b ∨ X.W.heap.size ≤ b

/-- May be written. -/
def wr (X : Ctx) (b : Nat) : Prop := X.K b ∨ X.W.heap.size ≤ b

theorem wr.vis {X : Ctx} {b : Nat} (h : wr X b) : vis X b := .inr h

open Classical in
/-- The cells that nobody writes any more. -/
noncomputable def rdF (X : Ctx) (os : List AO) (g : Nat → List Nat) (w : World) (b o : Nat) : Option Value :=
  if vis X b ∧ ¬ ownB os g b then w.cell? ⟨b, o, none⟩ else none

theorem rdF_some {X : Ctx} {os : List AO} {g : Nat → List Nat} {w : World} {b o : Nat} {v : Value} : rdF X os g w b o = some v ↔ vis X b ∧ ¬ ownB os g b ∧ w.cell? ⟨b, o, none⟩ = some v := by
  unfold rdF
  split
  · rename_i h; simp [h]
  · rename_i h; simp; intro h1 h2; exact absurd ⟨h1, h2⟩ h

/-- How many cells a block has. -/
def room (w : World) (b : Nat) : Nat := match w.heap[b]? with
  | some (.cells c _ _) => c.size
  | _ => 0

/-- A pointer to a record. -/
def RepPt (os : List AO) (g : Nat → List Nat) (L k : Nat) (v : Value) : Prop := match os[L]? with
  | some (AO.rc _) => ∃ b, (g L).head? = some b ∧ v = .pointer (some ⟨b, k, none⟩)
  | some _ => True
  | none => False

def RepPts (os : List AO) (g : Nat → List Nat) : List (Nat × Nat) → List Value → Prop
  | [], [] => True
  | p :: r, v :: s => RepPt os g p.1 p.2 v ∧ RepPts os g r s
  | _, _ => False

theorem RepPts.mono {os os' : List AO} {g g' : Nat → List Nat} {ps qs : List (Nat × Nat)} (hl : qs.length = ps.length) (h : ∀ (i : Nat) p q v, ps[i]? = some p → qs[i]? = some q → RepPt os g p.1 p.2 v → RepPt os' g' q.1 q.2 v) : ∀ {vs : List Value}, RepPts os g ps vs → RepPts os' g' qs vs := by
  induction ps generalizing qs with
  | nil => intro vs hv; cases qs with
    | nil => cases vs with
      | nil => trivial
      | cons _ _ => exact hv.elim
    | cons _ _ => simp at hl
  | cons p ps ih =>
    intro vs hv
    cases qs with
    | nil => simp at hl
    | cons q qs =>
      cases vs with
      | nil => exact hv.elim
      | cons v vs => exact ⟨h 0 p q v rfl rfl hv.1, ih (by simpa using hl) (fun i p q v h1 h2 => h (i + 1) p q v h1 h2) hv.2⟩

/-- A value of one cell. -/
def RepC (rd : Nat → Nat → Option Value) (os : List AO) (g : Nat → List Nat) (w : World) : AV → Value → Prop
  | .sc u, v => v = u
  | .fz s xs, v => RepP rd (.fz s xs) v
  | .fp s xs i k, v => ∃ b o, v = .pointer (some ⟨b, o + i * s + k, none⟩) ∧ Row rd b o s xs
  | .sl L off n, v => match os[L]? with
    | some (AO.arr _ s xs) => ∃ cap, n ≤ cap ∧ off + n ≤ xs.length ∧ ((∃ b, (g L).head? = some b ∧ v = .slice (some ⟨b, off * s, none⟩) n cap ∧ (off + cap) * s ≤ room w b) ∨ (cap = 0 ∧ ∃ a, v = .slice a 0 0))
    | some (AO.nst s xs _) => ∃ cap, n ≤ cap ∧ off + n ≤ xs.length ∧ ((∃ b, (g L).head? = some b ∧ v = .slice (some ⟨b, off * s, none⟩) n cap ∧ (off + cap) * s ≤ room w b) ∨ (cap = 0 ∧ ∃ a, v = .slice a 0 0))
    | some _ => True
    | none => off = 0 ∧ n = 0 ∧ ∃ a, v = .slice a 0 0
  | .pa L i k, v => match os[L]? with
    | some (AO.arr _ s _) => ∃ b, (g L).head? = some b ∧ v = .pointer (some ⟨b, i * s + k, none⟩)
    | some (AO.nst s _ _) => ∃ b, (g L).head? = some b ∧ v = .pointer (some ⟨b, i * s + k, none⟩)
    | some _ => True
    | none => False
  | .pt L k, v => match os[L]? with
    | some (AO.rc _) => ∃ b, (g L).head? = some b ∧ v = .pointer (some ⟨b, k, none⟩)
    | some _ => True
    | none => False
  | .clo n ps, v => ∃ arr : Array Value, v = .func (.func n) #[] arr ∧ RepPts os g ps arr.toList
  | .junk, _ => True
  | .own .., _ => True
  | _, _ => False

def RepA (rd : Nat → Nat → Option Value) (os : List AO) (g : Nat → List Nat) (w : World) : AV → Value → Prop
  | .agg cs, v => ∃ vs : Array Value, v = .agg vs ∧ vs.size = cs.length ∧ ∀ (i : Nat) y, cs[i]? = some y → ∃ u, vs[i]? = some u ∧ RepC rd os g w y u
  | x, v => RepC rd os g w x v

def RepV (rd : Nat → Nat → Option Value) (os : List AO) (g : Nat → List Nat) (w : World) : AV → Value → Prop
  | .tup cs, v => ∃ vs : Array Value, v = .tuple vs ∧ vs.size = cs.length ∧ ∀ (i : Nat) y, cs[i]? = some y → ∃ u, vs[i]? = some u ∧ RepA rd os g w y u
  | .opt b x, v => (b = true → RepA rd os g w x v) ∧ (b = false → v = undef)
  | x, v => RepA rd os g w x v

/-- What is known of the objects in one world holds of them in another. -/
structure Step (X : Ctx) (os : List AO) (g : Nat → List Nat) (w : World) (os' : List AO) (g' : Nat → List Nat) (w' : World) : Prop where
  len : os.length ≤ os'.length
  arr : ∀ (L : Nat) o o' a a', os[L]? = some o → os'[L]? = some o' → o.al = some a → o'.al = some a' → a'.1 = a.1 ∧ a.2 ≤ a'.2 ∧ (g' L).head? = (g L).head?
  rc : ∀ (L : Nat) cs cs', os[L]? = some (AO.rc cs) → os'[L]? = some (AO.rc cs') → g' L = g L
  rcArr : ∀ (L : Nat) o a cs', os[L]? = some o → o.al = some a → os'[L]? = some (AO.rc cs') → False
  arrRc : ∀ (L : Nat) cs o a, os[L]? = some (AO.rc cs) → os'[L]? = some o → o.al = some a → False
  dead : ∀ (L : Nat), os[L]? = some AO.dead → os'[L]? = some AO.dead
  rd : ∀ b o v, rdF X os g w b o = some v → rdF X os' g' w' b o = some v
  rm : ∀ b, room w b ≤ room w' b

/-- What stands at the start, and is lent: how it goes on. -/
structure Keeps (os : List AO) (g : Nat → List Nat) (w : World) (os' : List AO) (g' : Nat → List Nat) (w' : World) : Prop where
  len : os.length ≤ os'.length
  arr : ∀ (L : Nat) o o' a a', os[L]? = some o → os'[L]? = some o' → o.al = some a → o'.al = some a' → a'.1 = a.1 ∧ a.2 ≤ a'.2 ∧ (g' L).head? = (g L).head?
  rc : ∀ (L : Nat) cs cs', os[L]? = some (AO.rc cs) → os'[L]? = some (AO.rc cs') → g' L = g L
  rcArr : ∀ (L : Nat) o a cs', os[L]? = some o → o.al = some a → os'[L]? = some (AO.rc cs') → False
  arrRc : ∀ (L : Nat) cs o a, os[L]? = some (AO.rc cs) → os'[L]? = some o → o.al = some a → False
  dead : ∀ (L : Nat), os[L]? = some AO.dead → os'[L]? = some AO.dead
  rm : ∀ b, room w b ≤ room w' b

theorem Step.keeps {X : Ctx} {os os' : List AO} {g g' : Nat → List Nat} {w w' : World} (s : Step X os g w os' g' w') : Keeps os g w os' g' w' := ⟨s.len, s.arr, s.rc, s.rcArr, s.arrRc, s.dead, s.rm⟩

theorem Step.refl (X : Ctx) (os : List AO) (g : Nat → List Nat) (w : World) : Step X os g w os g w where
  len := Nat.le_refl _
  arr := fun L o o' a a' h h' e e' => by rw [h] at h'; cases h'; rw [e] at e'; cases e'; exact ⟨rfl, Nat.le_refl _, rfl⟩
  rc := fun _ _ _ _ _ => rfl
  rcArr := fun L o a cs h e h' => by rw [h] at h'; cases h'; cases e
  arrRc := fun L cs o a h h' e => by rw [h] at h'; cases h'; cases e
  dead := fun _ h => h
  rd := fun _ _ _ h => h
  rm := fun _ => Nat.le_refl _

theorem get_some_of_len {os os' : List AO} (h : os.length ≤ os'.length) {L : Nat} {o : AO} (ho : os[L]? = some o) : ∃ o', os'[L]? = some o' := by
  have hl : L < os.length := by
    rcases Nat.lt_or_ge L os.length with h' | h'
    · exact h'
    · rw [List.getElem?_eq_none h'] at ho; cases ho
  exact ⟨os'[L]'(by omega), List.getElem?_eq_getElem _⟩

theorem Step.trans {X : Ctx} {a b c : List AO} {g h i : Nat → List Nat} {u v w : World} (s : Step X a g u b h v) (t : Step X b h v c i w) : Step X a g u c i w where
  len := Nat.le_trans s.len t.len
  arr := fun L o o' p p' h1 h2 e1 e2 => by
    obtain ⟨m, hm⟩ := get_some_of_len s.len h1
    cases hq : m.al with
    | some q =>
      obtain ⟨p1, p2, p3⟩ := s.arr _ _ _ _ _ h1 hm e1 hq
      obtain ⟨q1, q2, q3⟩ := t.arr _ _ _ _ _ hm h2 hq e2
      exact ⟨q1.trans p1, Nat.le_trans p2 q2, q3.trans p3⟩
    | none =>
      cases m with
      | rc cs => exact (s.rcArr _ _ _ _ h1 e1 hm).elim
      | dead => have := t.dead _ hm; rw [h2] at this; cases this; cases e2
      | arr => cases hq
      | nst => cases hq
  rc := fun L cs cs' h1 h2 => by
    obtain ⟨m, hm⟩ := get_some_of_len s.len h1
    cases m with
    | arr o2 z2 xs2 => exact (s.arrRc _ _ _ _ h1 hm rfl).elim
    | nst z2 xs2 op => exact (s.arrRc _ _ _ _ h1 hm rfl).elim
    | rc cs2 => exact (t.rc _ _ _ hm h2).trans (s.rc _ _ _ h1 hm)
    | dead => have := t.dead _ hm; rw [h2] at this; cases this
  rcArr := fun L o p cs' h1 e1 h2 => by
    obtain ⟨m, hm⟩ := get_some_of_len s.len h1
    cases m with
    | arr o2 z2 xs2 => exact t.rcArr _ _ _ _ hm rfl h2
    | nst z2 xs2 op => exact t.rcArr _ _ _ _ hm rfl h2
    | rc cs2 => exact s.rcArr _ _ _ _ h1 e1 hm
    | dead => have := t.dead _ hm; rw [h2] at this; cases this
  arrRc := fun L cs o p h1 h2 e2 => by
    obtain ⟨m, hm⟩ := get_some_of_len s.len h1
    cases m with
    | arr o2 z2 xs2 => exact s.arrRc _ _ _ _ h1 hm rfl
    | nst z2 xs2 op => exact s.arrRc _ _ _ _ h1 hm rfl
    | rc cs2 => exact t.arrRc _ _ _ _ hm h2 e2
    | dead => have := t.dead _ hm; rw [h2] at this; cases this; cases e2
  dead := fun L h1 => t.dead _ (s.dead _ h1)
  rd := fun b o v h1 => t.rd _ _ _ (s.rd _ _ _ h1)
  rm := fun b => Nat.le_trans (s.rm b) (t.rm b)

theorem Keeps.refl (os : List AO) (g : Nat → List Nat) (w : World) : Keeps os g w os g w :=
  (Step.refl ⟨w, fun _ => False, fun _ => False, 0, [], g⟩ os g w).keeps

theorem Keeps.trans {a b c : List AO} {g h i : Nat → List Nat} {u v w : World} (s : Keeps a g u b h v) (t : Keeps b h v c i w) : Keeps a g u c i w where
  len := Nat.le_trans s.len t.len
  arr := fun L o o' p p' h1 h2 e1 e2 => by
    obtain ⟨m, hm⟩ := get_some_of_len s.len h1
    cases hq : m.al with
    | some q =>
      obtain ⟨p1, p2, p3⟩ := s.arr _ _ _ _ _ h1 hm e1 hq
      obtain ⟨q1, q2, q3⟩ := t.arr _ _ _ _ _ hm h2 hq e2
      exact ⟨q1.trans p1, Nat.le_trans p2 q2, q3.trans p3⟩
    | none =>
      cases m with
      | rc cs => exact (s.rcArr _ _ _ _ h1 e1 hm).elim
      | dead => have := t.dead _ hm; rw [h2] at this; cases this; cases e2
      | arr => cases hq
      | nst => cases hq
  rc := fun L cs cs' h1 h2 => by
    obtain ⟨m, hm⟩ := get_some_of_len s.len h1
    cases m with
    | arr o2 z2 xs2 => exact (s.arrRc _ _ _ _ h1 hm rfl).elim
    | nst z2 xs2 op => exact (s.arrRc _ _ _ _ h1 hm rfl).elim
    | rc cs2 => exact (t.rc _ _ _ hm h2).trans (s.rc _ _ _ h1 hm)
    | dead => have := t.dead _ hm; rw [h2] at this; cases this
  rcArr := fun L o p cs' h1 e1 h2 => by
    obtain ⟨m, hm⟩ := get_some_of_len s.len h1
    cases m with
    | arr o2 z2 xs2 => exact t.rcArr _ _ _ _ hm rfl h2
    | nst z2 xs2 op => exact t.rcArr _ _ _ _ hm rfl h2
    | rc cs2 => exact s.rcArr _ _ _ _ h1 e1 hm
    | dead => have := t.dead _ hm; rw [h2] at this; cases this
  arrRc := fun L cs o p h1 h2 e2 => by
    obtain ⟨m, hm⟩ := get_some_of_len s.len h1
    cases m with
    | arr o2 z2 xs2 => exact s.arrRc _ _ _ _ h1 hm rfl
    | nst z2 xs2 op => exact s.arrRc _ _ _ _ h1 hm rfl
    | rc cs2 => exact t.arrRc _ _ _ _ hm h2 e2
    | dead => have := t.dead _ hm; rw [h2] at this; cases this; cases e2
  dead := fun L h1 => t.dead _ (s.dead _ h1)
  rm := fun b => Nat.le_trans (s.rm b) (t.rm b)

theorem Step.repPt {X : Ctx} {os os' : List AO} {g g' : Nat → List Nat} {w w' : World} (s : Step X os g w os' g' w') {L k : Nat} {v : Value} (h : RepPt os g L k v) : RepPt os' g' L k v := by
  unfold RepPt at h ⊢
  cases h1 : os[L]? with
  | none => rw [h1] at h; exact h.elim
  | some o =>
    rw [h1] at h
    obtain ⟨o', h2⟩ := get_some_of_len s.len h1
    rw [h2]
    cases o' with
    | rc cs =>
      cases o with
      | rc cs0 => simp only [s.rc _ _ _ h1 h2]; exact h
      | arr ow0 z0 xs0 => exact (s.rcArr _ _ _ _ h1 rfl h2).elim
      | nst z0 xs0 op0 => exact (s.rcArr _ _ _ _ h1 rfl h2).elim
      | dead => have := s.dead _ h1; rw [h2] at this; cases this
    | arr ow z xs => trivial
    | nst z xs op => trivial
    | dead => trivial

theorem Step.repC {X : Ctx} {os os' : List AO} {g g' : Nat → List Nat} {w w' : World} (s : Step X os g w os' g' w') {x : AV} {v : Value}
    (h : RepC (rdF X os g w) os g w x v) : RepC (rdF X os' g' w') os' g' w' x v := by
  cases x with
  | sc u => exact h
  | fz z xs => exact RepP.mono s.rd h
  | fp z xs i k => obtain ⟨b, o, hv, hr⟩ := h; exact ⟨b, o, hv, hr.mono s.rd⟩
  | sl L off n =>
    simp only [RepC] at h ⊢
    cases h1 : os[L]? with
    | none =>
      rw [h1] at h
      obtain ⟨rfl, rfl, a, rfl⟩ := h
      cases os'[L]? with
      | none => exact ⟨rfl, rfl, a, rfl⟩
      | some o =>
        cases o with
        | arr ow z xs => exact ⟨0, Nat.le_refl _, Nat.zero_le _, .inr ⟨rfl, a, rfl⟩⟩
        | nst z xs op => exact ⟨0, Nat.le_refl _, Nat.zero_le _, .inr ⟨rfl, a, rfl⟩⟩
        | rc cs => trivial
        | dead => trivial
    | some o =>
      rw [h1] at h
      obtain ⟨o', h2⟩ := get_some_of_len s.len h1
      rw [h2]
      cases o' with
      | arr ow z xs =>
        cases o with
        | arr ow0 z0 xs0 =>
          obtain ⟨p1, p2, p3⟩ := s.arr _ _ _ _ _ h1 h2 rfl rfl
          dsimp only at p1 p2
          subst p1
          obtain ⟨cap, hc, hn, hr⟩ := h
          simp only [p3]
          exact ⟨cap, hc, Nat.le_trans hn p2, hr.imp (fun ⟨b, hb, hv, hr⟩ => ⟨b, hb, hv, Nat.le_trans hr (s.rm b)⟩) id⟩
        | nst z0 xs0 op0 =>
          obtain ⟨p1, p2, p3⟩ := s.arr _ _ _ _ _ h1 h2 rfl rfl
          dsimp only at p1 p2
          subst p1
          obtain ⟨cap, hc, hn, hr⟩ := h
          simp only [p3]
          exact ⟨cap, hc, Nat.le_trans hn p2, hr.imp (fun ⟨b, hb, hv, hr⟩ => ⟨b, hb, hv, Nat.le_trans hr (s.rm b)⟩) id⟩
        | rc cs => exact (s.arrRc _ _ _ _ h1 h2 rfl).elim
        | dead => have := s.dead _ h1; rw [h2] at this; cases this
      | nst z xs op =>
        cases o with
        | arr ow0 z0 xs0 =>
          obtain ⟨p1, p2, p3⟩ := s.arr _ _ _ _ _ h1 h2 rfl rfl
          dsimp only at p1 p2
          subst p1
          obtain ⟨cap, hc, hn, hr⟩ := h
          simp only [p3]
          exact ⟨cap, hc, Nat.le_trans hn p2, hr.imp (fun ⟨b, hb, hv, hr⟩ => ⟨b, hb, hv, Nat.le_trans hr (s.rm b)⟩) id⟩
        | nst z0 xs0 op0 =>
          obtain ⟨p1, p2, p3⟩ := s.arr _ _ _ _ _ h1 h2 rfl rfl
          dsimp only at p1 p2
          subst p1
          obtain ⟨cap, hc, hn, hr⟩ := h
          simp only [p3]
          exact ⟨cap, hc, Nat.le_trans hn p2, hr.imp (fun ⟨b, hb, hv, hr⟩ => ⟨b, hb, hv, Nat.le_trans hr (s.rm b)⟩) id⟩
        | rc cs => exact (s.arrRc _ _ _ _ h1 h2 rfl).elim
        | dead => have := s.dead _ h1; rw [h2] at this; cases this
      | rc cs => trivial
      | dead => trivial
  | pa L i k =>
    simp only [RepC] at h ⊢
    cases h1 : os[L]? with
    | none => rw [h1] at h; exact h.elim
    | some o =>
      rw [h1] at h
      obtain ⟨o', h2⟩ := get_some_of_len s.len h1
      rw [h2]
      cases o' with
      | arr ow z xs =>
        cases o with
        | arr ow0 z0 xs0 =>
          obtain ⟨p1, p2, p3⟩ := s.arr _ _ _ _ _ h1 h2 rfl rfl
          dsimp only at p1 p2
          subst p1
          simp only [p3]
          exact h
        | nst z0 xs0 op0 =>
          obtain ⟨p1, p2, p3⟩ := s.arr _ _ _ _ _ h1 h2 rfl rfl
          dsimp only at p1 p2
          subst p1
          simp only [p3]
          exact h
        | rc cs => exact (s.arrRc _ _ _ _ h1 h2 rfl).elim
        | dead => have := s.dead _ h1; rw [h2] at this; cases this
      | nst z xs op =>
        cases o with
        | arr ow0 z0 xs0 =>
          obtain ⟨p1, p2, p3⟩ := s.arr _ _ _ _ _ h1 h2 rfl rfl
          dsimp only at p1 p2
          subst p1
          simp only [p3]
          exact h
        | nst z0 xs0 op0 =>
          obtain ⟨p1, p2, p3⟩ := s.arr _ _ _ _ _ h1 h2 rfl rfl
          dsimp only at p1 p2
          subst p1
          simp only [p3]
          exact h
        | rc cs => exact (s.arrRc _ _ _ _ h1 h2 rfl).elim
        | dead => have := s.dead _ h1; rw [h2] at this; cases this
      | rc cs => trivial
      | dead => trivial
  | clo n ps => obtain ⟨arr, h1, h2⟩ := h; exact ⟨arr, h1, h2.mono rfl fun i p q v a b c => by rw [a] at b; cases b; exact s.repPt c⟩
  | pt L k =>
    simp only [RepC] at h ⊢
    cases h1 : os[L]? with
    | none => rw [h1] at h; exact h.elim
    | some o =>
      rw [h1] at h
      obtain ⟨o', h2⟩ := get_some_of_len s.len h1
      rw [h2]
      cases o' with
      | rc cs =>
        cases o with
        | rc cs0 => simp only [s.rc _ _ _ h1 h2]; exact h
        | arr ow0 z0 xs0 => exact (s.rcArr _ _ _ _ h1 rfl h2).elim
        | nst z0 xs0 op0 => exact (s.rcArr _ _ _ _ h1 rfl h2).elim
        | dead => have := s.dead _ h1; rw [h2] at this; cases this
      | arr ow z xs => trivial
      | nst z xs op => trivial
      | dead => trivial
  | junk => trivial
  | own => trivial
  | agg cs => exact h.elim
  | tup cs => exact h.elim
  | opt b x => exact h.elim

theorem Step.repA {X : Ctx} {os os' : List AO} {g g' : Nat → List Nat} {w w' : World} (s : Step X os g w os' g' w') {x : AV} {v : Value}
    (h : RepA (rdF X os g w) os g w x v) : RepA (rdF X os' g' w') os' g' w' x v := by
  cases x with
  | agg cs => obtain ⟨vs, hv, hl, hp⟩ := h; exact ⟨vs, hv, hl, fun i y hy => let ⟨u, hu, hr⟩ := hp i y hy; ⟨u, hu, s.repC hr⟩⟩
  | sc => exact s.repC (x := .sc _) h
  | fz => exact s.repC (x := .fz _ _) h
  | fp => exact s.repC (x := .fp _ _ _ _) h
  | sl => exact s.repC (x := .sl _ _ _) h
  | pa => exact s.repC (x := .pa _ _ _) h
  | pt => exact s.repC (x := .pt _ _) h
  | clo => exact s.repC (x := .clo _ _) h
  | junk => trivial
  | own => trivial
  | tup => exact h.elim
  | opt => exact h.elim

theorem Step.repV {X : Ctx} {os os' : List AO} {g g' : Nat → List Nat} {w w' : World} (s : Step X os g w os' g' w') {x : AV} {v : Value}
    (h : RepV (rdF X os g w) os g w x v) : RepV (rdF X os' g' w') os' g' w' x v := by
  cases x with
  | tup cs => obtain ⟨vs, hv, hl, hp⟩ := h; exact ⟨vs, hv, hl, fun i y hy => let ⟨u, hu, hr⟩ := hp i y hy; ⟨u, hu, s.repA hr⟩⟩
  | opt b x => exact ⟨fun hb => s.repA (h.1 hb), h.2⟩
  | agg cs => exact s.repA (x := .agg cs) h
  | sc => exact s.repC (x := .sc _) h
  | fz => exact s.repC (x := .fz _ _) h
  | fp => exact s.repC (x := .fp _ _ _ _) h
  | sl => exact s.repC (x := .sl _ _ _) h
  | pa => exact s.repC (x := .pa _ _ _) h
  | pt => exact s.repC (x := .pt _ _) h
  | clo => exact s.repC (x := .clo _ _) h
  | junk => trivial
  | own => trivial

/-- A slice that is ours and stands in a row of ours: its block (if it has one), its rows. -/
def OwnA (rd : Nat → Nat → Option Value) (X : Ctx) (w : World) (l : List Nat) (s : Nat) (ys : List (List AV)) (v : Value) : Prop :=
  0 < s ∧ ((l = [] ∧ ys = [] ∧ ∃ a, v = .slice a 0 0) ∨ ∃ b cap, l = [b] ∧ wr X b ∧ v = .slice (some ⟨b, 0, none⟩) ys.length cap ∧ ys.length ≤ cap ∧
    ∃ c t, w.heap[b]? = some (.cells c t (0, 0)) ∧ cap * s ≤ c.size ∧ (∀ x ∈ ys, x.length = s) ∧
    ∀ (i k : Nat) x y, ys[i]? = some x → x[k]? = some y → ∃ v, c[i * s + k]? = some v ∧ RepP rd y v)

/-- A cell of such a row. -/
def CellN (rd : Nat → Nat → Option Value) (X : Ctx) (w : World) (l : List Nat) : AV → Value → Prop
  | .own s ys, v => OwnA rd X w l s ys v
  | y, v => RepP rd y v

/-- The row that is open. -/
def opnRow : Option (Nat × List AV) → Nat → Prop
  | some (j, _), i => i = j
  | none, _ => False

/-- What an object says of memory. -/
def OOk (X : Ctx) (os : List AO) (g : Nat → List Nat) (w : World) (L : Nat) : Option AO → Prop
  | some (AO.arr true s xs) => 0 < s ∧ ((g L = [] ∧ xs = []) ∨ ∃ b, g L = [b] ∧ wr X b ∧ ∃ c t, w.heap[b]? = some (.cells c t (0, 0)) ∧ xs.length * s ≤ c.size ∧ (∀ x ∈ xs, x.length = s) ∧
      ∀ (i k : Nat) x y, xs[i]? = some x → x[k]? = some y → ∃ v, c[i * s + k]? = some v ∧ RepP (rdF X os g w) y v)
  | some (AO.arr false s xs) => ∀ b, (g L).head? = some b → Row (rdF X os g w) b 0 s xs
  | some (AO.rc cs) => ∃ b, g L = [b] ∧ wr X b ∧ ∃ c t, w.heap[b]? = some (.cells c t (0, 0)) ∧ cs.length ≤ c.size ∧ ∀ (k : Nat) y, cs[k]? = some y → ∃ v, c[k]? = some v ∧ RepC (rdF X os g w) os g w y v
  | some (AO.nst s xs op) => 0 < s ∧ ((g L = [] ∧ xs = [] ∧ op = none) ∨ ∃ b nb, ∃ F : Nat → Nat → List Nat, g L = b :: nb ∧ wr X b ∧ ∃ c t, w.heap[b]? = some (.cells c t (0, 0)) ∧ xs.length * s ≤ c.size ∧ (∀ x ∈ xs, x.length = s) ∧
      (∀ (i k : Nat) x y, xs[i]? = some x → x[k]? = some y → ¬ opnRow op i → ∃ v, c[i * s + k]? = some v ∧ CellN (rdF X os g w) X w (F i k) y v) ∧
      (∀ (j : Nat) row, op = some (j, row) → j < xs.length ∧ row.length = s ∧ ∀ (k : Nat) y, row[k]? = some y → ∃ v, c[j * s + k]? = some v ∧ RepC (rdF X os g w) os g w y v) ∧
      (∀ (i k b' : Nat), b' ∈ F i k → b' ∈ nb) ∧ (∀ (i k i' k' b' : Nat), b' ∈ F i k → b' ∈ F i' k' → i = i' ∧ k = k') ∧ b ∉ nb ∧ ∀ b' ∈ nb, wr X b')
  | _ => True

/-- What the objects say of memory. -/
structure SRel (X : Ctx) (os : List AO) (g : Nat → List Nat) (w : World) : Prop where
  sys : w.os = X.W.os
  tape : w.tape = X.W.tape
  output : w.output = X.W.output
  size : X.W.heap.size ≤ w.heap.size
  same : ∀ b, b < X.W.heap.size → ¬ X.K b → w.heap[b]? = X.W.heap[b]?
  bnd : ∀ L, own os L → ∀ b ∈ g L, b < w.heap.size
  inj : ∀ L M, own os L → own os M → ∀ b, b ∈ g L → b ∈ g M → L = M
  obj : ∀ L, OOk X os g w L os[L]?

theorem OwnA.mono {rd rd' : Nat → Nat → Option Value} {X : Ctx} {w w' : World} {l : List Nat} {s : Nat} {ys : List (List AV)} {v : Value} (hm : ∀ b o v, rd b o = some v → rd' b o = some v)
    (hw : ∀ b ∈ l, w'.heap[b]? = w.heap[b]?) (h : OwnA rd X w l s ys v) : OwnA rd' X w' l s ys v := by
  obtain ⟨h0, h1 | ⟨b, cap, p0, p1, p2, p3, c, t, p4, p5, p6, p7⟩⟩ := h
  · exact ⟨h0, .inl h1⟩
  · refine ⟨h0, .inr ⟨b, cap, p0, p1, p2, p3, c, t, by rw [hw b (by simp [p0])]; exact p4, p5, p6, fun i k x y hx hy => ?_⟩⟩
    obtain ⟨v, hv, hr⟩ := p7 i k x y hx hy
    exact ⟨v, hv, hr.mono hm⟩

theorem CellN.mono {rd rd' : Nat → Nat → Option Value} {X : Ctx} {w w' : World} {l : List Nat} {y : AV} {v : Value} (hm : ∀ b o v, rd b o = some v → rd' b o = some v)
    (hw : ∀ b ∈ l, w'.heap[b]? = w.heap[b]?) (h : CellN rd X w l y v) : CellN rd' X w' l y v := by
  cases y with
  | own s ys => exact OwnA.mono hm hw h
  | _ => exact RepP.mono hm h

theorem own_lt {os : List AO} {L : Nat} (h : own os L) : L < os.length := by
  rcases Nat.lt_or_ge L os.length with h' | h'
  · exact h'
  · unfold own at h; rw [List.getElem?_eq_none h'] at h; exact h.elim

/-- An object that stands as it stood. -/
theorem OOk.step {X : Ctx} {os os' : List AO} {g g' : Nat → List Nat} {w w' : World} (s : Step X os g w os' g' w') {L : Nat} (ho : os'[L]? = os[L]?) (hg : g' L = g L)
    (hw : isOwn os[L]? → ∀ b ∈ g L, w'.heap[b]? = w.heap[b]?) (h : OOk X os g w L os[L]?) : OOk X os' g' w' L os'[L]? := by
  rw [ho]
  cases h1 : os[L]? with
  | none => trivial
  | some o =>
    rw [h1] at h hw
    cases o with
    | arr ow z xs =>
      cases ow with
      | true =>
        obtain ⟨p2, ⟨p0, p1⟩ | ⟨b, p0, p1, c, t, p3, p4, p5, p6⟩⟩ := h
        · exact ⟨p2, .inl ⟨hg.trans p0, p1⟩⟩
        refine ⟨p2, .inr ⟨b, hg.trans p0, p1, c, t, ?_, p4, p5, fun i k x y hx hy => ?_⟩⟩
        · rw [hw trivial b (by simp [p0])]; exact p3
        · obtain ⟨v, hv, hr⟩ := p6 i k x y hx hy; exact ⟨v, hv, hr.mono s.rd⟩
      | false => simp only [OOk, hg] at h ⊢; exact fun b hb => (h b hb).mono s.rd
    | rc cs =>
      obtain ⟨b, p0, p1, c, t, p3, p4, p6⟩ := h
      refine ⟨b, hg.trans p0, p1, c, t, ?_, p4, fun k y hy => ?_⟩
      · rw [hw trivial b (by simp [p0])]; exact p3
      · obtain ⟨v, hv, hr⟩ := p6 k y hy; exact ⟨v, hv, s.repC hr⟩
    | nst z xs op =>
      obtain ⟨p2, ⟨p0, p1⟩ | ⟨b, nb, F, p0, p1, c, t, p3, p4, p5, p6, p7, p8, p9, p10⟩⟩ := h
      · exact ⟨p2, .inl ⟨hg.trans p0, p1⟩⟩
      refine ⟨p2, .inr ⟨b, nb, F, hg.trans p0, p1, c, t, ?_, p4, p5, fun i k x y hx hy hn => ?_, fun j row hj => ?_, p8, p9, p10⟩⟩
      · rw [hw trivial b (by simp [p0])]; exact p3
      · obtain ⟨v, hv, hr⟩ := p6 i k x y hx hy hn
        exact ⟨v, hv, hr.mono s.rd fun b' hb' => hw trivial b' (by simp [p0, p8 i k b' hb'])⟩
      · obtain ⟨q1, q2, q3⟩ := p7 j row hj
        exact ⟨q1, q2, fun k y hy => let ⟨v, hv, hr⟩ := q3 k y hy; ⟨v, hv, s.repC hr⟩⟩
    | dead => trivial

theorem cell_heap {w w' : World} {b o : Nat} (h : w'.heap[b]? = w.heap[b]?) : w'.cell? ⟨b, o, none⟩ = w.cell? ⟨b, o, none⟩ := by simp [World.cell?, h]

theorem room_heap {w w' : World} {b : Nat} (h : w'.heap[b]? = w.heap[b]?) : room w' b = room w b := by simp [room, h]

end Go.AM
