/- How what is known of objects goes on: an object given up, a new one, one written, one moved. Conditions: none. -/
import Derived.Test.YtcnlhdaeeeolbaaAmC
set_option linter.unusedSimpArgs false
set_option linter.unusedVariables false
namespace Go.AM
open Go

variable {X : Ctx} {os : List AO} {g : Nat → List Nat} {w : World}

theorem SRel.next {os' : List AO} {g' : Nat → List Nat} {w' : World} (h : SRel X os g w) (st : Step X os g w os' g' w') (hsys : w'.os = w.os) (htape : w'.tape = w.tape) (hout : w'.output = w.output)
    (hsize : w.heap.size ≤ w'.heap.size) (hsame : ∀ b, b < X.W.heap.size → ¬ X.K b → w'.heap[b]? = w.heap[b]?) (C : Nat → Prop)
    (hC : ∀ L, ¬ C L → os'[L]? = os[L]? ∧ (os[L]? ≠ none → g' L = g L) ∧ (own os L → ∀ b ∈ g L, w'.heap[b]? = w.heap[b]?)) (hobj : ∀ L, C L → OOk X os' g' w' L os'[L]?)
    (hbnd : ∀ L, own os' L → ∀ b ∈ g' L, b < w'.heap.size) (hinj : ∀ L M, own os' L → own os' M → ∀ b, b ∈ g' L → b ∈ g' M → L = M) : SRel X os' g' w' where
  sys := hsys.trans h.sys
  tape := htape.trans h.tape
  output := hout.trans h.output
  size := Nat.le_trans h.size hsize
  same := fun b hb hk => (hsame b hb hk).trans (h.same b hb hk)
  bnd := hbnd
  inj := hinj
  obj := fun L => by
    rcases Classical.em (C L) with hc | hc
    · exact hobj L hc
    · obtain ⟨h1, h2, h3⟩ := hC L hc
      cases ho : os[L]? with
      | none => rw [h1, ho]; trivial
      | some o => exact OOk.step st h1 (h2 (by rw [ho]; simp)) h3 (h.obj L)

theorem set_get (os : List AO) (L M : Nat) (o : AO) : (os.set L o)[M]? = if L = M then (if L < os.length then some o else none) else os[M]? := by
  rw [List.getElem?_set]

theorem lt_of_get {α : Type} {l : List α} {i : Nat} {x : α} (h : l[i]? = some x) : i < l.length := by
  rcases Nat.lt_or_ge i l.length with h' | h'
  · exact h'
  · rw [List.getElem?_eq_none h'] at h; cases h

theorem set_same {os : List AO} {L : Nat} {o o' : AO} (h : os[L]? = some o) : (os.set L o')[L]? = some o' := by
  rw [set_get, if_pos rfl, if_pos (lt_of_get h)]

theorem set_other {os : List AO} {L M : Nat} {o' : AO} (h : L ≠ M) : (os.set L o')[M]? = os[M]? := by
  rw [set_get, if_neg h]

/-- An object that is given up: it is nobody's, or gone. -/
theorem SRel.give (h : SRel X os g w) {L : Nat} {o : AO} (hL : os[L]? = some o) (o' : AO) (hn : ¬ isOwn (some o'))
    (hk : o' = .dead ∨ ∃ a, o.al = some a ∧ o'.al = some a) (ho : (∀ b u v, rdF X os g w b u = some v → rdF X (os.set L o') g w b u = some v) → OOk X (os.set L o') g w L (some o')) :
    SRel X (os.set L o') g w ∧ Step X os g w (os.set L o') g w := by
  have hown : ∀ M, own (os.set L o') M → own os M ∧ M ≠ L := by
    intro M hM
    by_cases e : L = M
    · subst e; unfold own at hM; rw [set_same hL] at hM; exact (hn hM).elim
    · unfold own at hM ⊢; rw [set_other e] at hM; exact ⟨hM, Ne.symm e⟩
  have hrd : ∀ b u v, rdF X os g w b u = some v → rdF X (os.set L o') g w b u = some v := by
    intro b u v hb
    rw [rdF_some] at hb ⊢
    exact ⟨hb.1, fun ⟨M, hM, e⟩ => hb.2.1 ⟨M, (hown M hM).1, e⟩, hb.2.2⟩
  have st : Step X os g w (os.set L o') g w := by
    refine ⟨by simp, ?_, fun _ _ _ _ _ => rfl, ?_, ?_, ?_, hrd, fun _ => Nat.le_refl _⟩
    · intro M o1 o2 a1 a2 h1 h2 e1 e2
      by_cases e : L = M
      · subst e
        rw [set_same hL] at h2
        rw [hL] at h1
        cases h1; cases h2
        rcases hk with rfl | ⟨a, q1, q2⟩
        · cases e2
        · rw [e1] at q1; rw [e2] at q2; cases q1; cases q2; exact ⟨rfl, Nat.le_refl _, rfl⟩
      · rw [set_other e, h1] at h2; cases h2; rw [e1] at e2; cases e2; exact ⟨rfl, Nat.le_refl _, rfl⟩
    · intro M o1 a1 c h1 e1 h2
      by_cases e : L = M
      · subst e; rw [set_same hL] at h2; cases h2; rcases hk with hk | ⟨a, q1, q2⟩ <;> contradiction
      · rw [set_other e, h1] at h2; cases h2; cases e1
    · intro M c o1 a1 h1 h2 e1
      by_cases e : L = M
      · subst e; rw [set_same hL] at h2; rw [hL] at h1; cases h1; cases h2
        rcases hk with rfl | ⟨a, q1, q2⟩
        · cases e1
        · cases q1
      · rw [set_other e, h1] at h2; cases h2; cases e1
    · intro M h1
      by_cases e : L = M
      · subst e; rw [hL] at h1; cases h1
        rcases hk with hk | ⟨a, q1, q2⟩
        · rw [hk]; exact set_same hL
        · cases q1
      · rw [set_other e]; exact h1
  refine ⟨h.next st rfl rfl rfl (Nat.le_refl _) (fun _ _ _ => rfl) (fun M => M = L) ?_ ?_ ?_ ?_, st⟩
  · intro M hM; exact ⟨set_other (Ne.symm hM), fun _ => rfl, fun _ _ _ => rfl⟩
  · intro M hM; subst hM; rw [set_same hL]; exact ho hrd
  · intro M hM; exact h.bnd M (hown M hM).1
  · intro M N hM hN b e1 e2; exact h.inj M N (hown M hM).1 (hown N hN).1 b e1 e2

/-- A row of ours, read. -/
theorem SRel.rowOf (h : SRel X os g w) {L s : Nat} {xs : List (List AV)} (hL : os[L]? = some (.arr true s xs)) (os' : List AO) (hno : ∀ b ∈ g L, ¬ ownB os' g b)
    (hrd : ∀ b u v, rdF X os g w b u = some v → rdF X os' g w b u = some v) : ∀ b, (g L).head? = some b → Row (rdF X os' g w) b 0 s xs := by
  intro b hb
  have ho := h.obj L
  rw [hL] at ho
  obtain ⟨p2, ⟨p0, p1⟩ | ⟨b', p0, p1, c, t, p3, p4, p5, p6⟩⟩ := ho
  · rw [p0] at hb; cases hb
  obtain rfl : b' = b := by rw [p0] at hb; simpa using hb
  refine ⟨p5, fun i k x y hx hy => ?_⟩
  obtain ⟨v, hv, hr⟩ := p6 i k x y hx hy
  refine ⟨v, ?_, hr.mono hrd⟩
  rw [rdF_some]
  refine ⟨p1.vis, hno b' (by simp [p0]), ?_⟩
  rw [cell_of_row w b' _ c t (0, 0) p3]
  simpa using hv

theorem not_ownB_set (h : SRel X os g w) {L : Nat} {o o' : AO} (hL : os[L]? = some o) (hw : own os L) (hn : ¬ isOwn (some o')) : ∀ b ∈ g L, ¬ ownB (os.set L o') g b := by
  rintro b hb ⟨M, hM, e⟩
  by_cases e2 : L = M
  · subst e2; unfold own at hM; rw [set_same hL] at hM; exact hn hM
  · unfold own at hM; rw [set_other e2] at hM; exact e2 (h.inj L M hw hM b hb e)

theorem SRel.unown1 (h : SRel X os g w) {L s : Nat} {xs : List (List AV)} (hL : os[L]? = some (.arr true s xs)) :
    SRel X (os.set L (.arr false s xs)) g w ∧ Step X os g w (os.set L (.arr false s xs)) g w :=
  h.give hL _ (by simp [isOwn]) (.inr ⟨_, rfl, rfl⟩) fun hrd => h.rowOf hL _ (not_ownB_set h hL (by unfold own; rw [hL]; trivial) (by simp [isOwn])) hrd

theorem SRel.kill1 (h : SRel X os g w) {L : Nat} {o : AO} (hL : os[L]? = some o) : SRel X (os.set L .dead) g w ∧ Step X os g w (os.set L .dead) g w :=
  h.give hL _ (by simp [isOwn]) (.inl rfl) fun _ => trivial

def updG (g : Nat → List Nat) (n : Nat) (b : List Nat) : Nat → List Nat := fun L => if L = n then b else g L

theorem updG_same (g : Nat → List Nat) (n : Nat) (b : List Nat) : updG g n b n = b := by simp [updG]
theorem updG_other (g : Nat → List Nat) {n L : Nat} {b : List Nat} (h : L ≠ n) : updG g n b L = g L := by simp [updG, h]

theorem push_get (os : List AO) (o : AO) (L : Nat) : (os ++ [o])[L]? = if L < os.length then os[L]? else if L = os.length then some o else none := by
  rw [List.getElem?_append]
  split
  · rfl
  · rename_i hl
    by_cases e : L = os.length
    · subst e; simp
    · rw [if_neg e]; simp; omega

theorem own_push {os : List AO} {o : AO} {L : Nat} (h : own (os ++ [o]) L) : own os L ∨ (L = os.length ∧ isOwn (some o)) := by
  unfold own at h ⊢
  rw [push_get] at h
  split at h
  · exact .inl h
  · split at h
    · rename_i e; exact .inr ⟨e, h⟩
    · exact h.elim

/-- A new name, for a block that nobody of ours has, in a world that has turned only such blocks. -/
theorem SRel.push (h : SRel X os g w) {w' : World} (b : List Nat) (o : AO) (hsys : w'.os = w.os) (htape : w'.tape = w.tape) (hout : w'.output = w.output)
    (hsize : w.heap.size ≤ w'.heap.size) (hsame : ∀ k, k < w.heap.size → w'.heap[k]? = w.heap[k]?) (hb : isOwn (some o) → ∀ k ∈ b, k < w'.heap.size) (hnew : isOwn (some o) → ∀ k ∈ b, w.heap.size ≤ k)
    (ho : (∀ b' u v, rdF X os g w b' u = some v → rdF X (os ++ [o]) (updG g os.length b) w' b' u = some v) → Step X os g w (os ++ [o]) (updG g os.length b) w' → OOk X (os ++ [o]) (updG g os.length b) w' os.length (some o)) :
    SRel X (os ++ [o]) (updG g os.length b) w' ∧ Step X os g w (os ++ [o]) (updG g os.length b) w' := by
  have hlt : ∀ {L : Nat} {x : AO}, os[L]? = some x → L ≠ os.length := fun hx e => by have := lt_of_get hx; omega
  have hold : ∀ {L : Nat} {x : AO}, os[L]? = some x → (os ++ [o])[L]? = some x := fun hx => by rw [push_get, if_pos (lt_of_get hx)]; exact hx
  have hcell : ∀ k u v, w.cell? ⟨k, u, none⟩ = some v → k < w.heap.size := by
    intro k u v hv
    rcases Nat.lt_or_ge k w.heap.size with h' | h'
    · exact h'
    · simp [World.cell?, Array.getElem?_eq_none h'] at hv
  have hrd : ∀ b' u v, rdF X os g w b' u = some v → rdF X (os ++ [o]) (updG g os.length b) w' b' u = some v := by
    intro b' u v hv
    rw [rdF_some] at hv ⊢
    obtain ⟨h1, h2, h3⟩ := hv
    have hl := hcell _ _ _ h3
    refine ⟨h1, ?_, by rw [cell_heap (hsame b' hl)]; exact h3⟩
    rintro ⟨M, hM, e⟩
    rcases own_push hM with hM | ⟨e2, hw⟩
    · rw [updG_other g (by have := own_lt hM; omega)] at e; exact h2 ⟨M, hM, e⟩
    · subst e2; rw [updG_same] at e; have := hnew hw _ e; omega
  have st : Step X os g w (os ++ [o]) (updG g os.length b) w' := by
    refine ⟨by simp, ?_, ?_, ?_, ?_, fun L h1 => hold h1, hrd, fun k => ?_⟩
    rotate_left 4
    · rcases Nat.lt_or_ge k w.heap.size with hk | hk
      · exact Nat.le_of_eq (room_heap (hsame k hk)).symm
      · unfold room; rw [Array.getElem?_eq_none hk]; exact Nat.zero_le _
    · intro L o1 o2 a1 a2 h1 h2 e1 e2
      rw [hold h1] at h2; cases h2; rw [e1] at e2; cases e2
      exact ⟨rfl, Nat.le_refl _, by rw [updG_other g (hlt h1)]⟩
    · intro L c c' h1 _; exact updG_other g (hlt h1)
    · intro L o1 a1 c h1 e1 h2; rw [hold h1] at h2; cases h2; cases e1
    · intro L c o1 a1 h1 h2 e1; rw [hold h1] at h2; cases h2; cases e1
  refine ⟨h.next st hsys htape hout hsize (fun k hk _ => hsame k (Nat.lt_of_lt_of_le hk h.size)) (fun L => L = os.length) ?_ ?_ ?_ ?_, st⟩
  · intro L hL
    refine ⟨?_, fun _ => updG_other g hL, fun hw b hb => hsame _ (h.bnd L hw b hb)⟩
    rw [push_get]
    split
    · rfl
    · rename_i hl
      rw [List.getElem?_eq_none (by omega)]
  · intro L hL
    subst hL
    rw [push_get, if_neg (by omega), if_pos rfl]
    exact ho hrd st
  · intro L hL k hk
    rcases own_push hL with hL | ⟨e, hw⟩
    · rw [updG_other g (by have := own_lt hL; omega)] at hk; exact Nat.lt_of_lt_of_le (h.bnd L hL k hk) hsize
    · subst e; rw [updG_same] at hk; exact hb hw k hk
  · intro L M hL hM k e f
    rcases own_push hL with hL | ⟨e1, hw1⟩ <;> rcases own_push hM with hM | ⟨e2, hw2⟩
    · rw [updG_other g (by have := own_lt hL; omega)] at e; rw [updG_other g (by have := own_lt hM; omega)] at f; exact h.inj L M hL hM k e f
    · subst e2; rw [updG_other g (by have := own_lt hL; omega)] at e; rw [updG_same] at f; have := h.bnd L hL k e; have := hnew hw2 k f; omega
    · subst e1; rw [updG_other g (L := M) (by have := own_lt hM; omega)] at f; rw [updG_same] at e; have := h.bnd M hM k f; have := hnew hw1 k e; omega
    · omega

/-- A draw. -/
theorem SRel.drew (h : SRel X os g w) {w' : World} (hh : w'.heap = w.heap) (hsys : w'.os = w.os) (htape : w'.tape = w.tape) (hout : w'.output = w.output) : SRel X os g w' ∧ Step X os g w os g w' := by
  have hc : ∀ b : Nat, w'.heap[b]? = w.heap[b]? := fun b => by rw [hh]
  have st : Step X os g w os g w' := by
    refine ⟨Nat.le_refl _, ?_, fun _ _ _ _ _ => rfl, ?_, ?_, fun _ h => h, ?_, fun _ => Nat.le_of_eq (room_heap (hc _)).symm⟩
    · intro L o1 o2 a1 a2 h1 h2 e1 e2; rw [h1] at h2; cases h2; rw [e1] at e2; cases e2; exact ⟨rfl, Nat.le_refl _, rfl⟩
    · intro L o1 a1 c h1 e1 h2; rw [h1] at h2; cases h2; cases e1
    · intro L c o1 a1 h1 h2 e1; rw [h1] at h2; cases h2; cases e1
    · intro b u v hv; rw [rdF_some] at hv ⊢; exact ⟨hv.1, hv.2.1, by rw [cell_heap (hc b)]; exact hv.2.2⟩
  refine ⟨h.next st hsys htape hout (by rw [hh]; exact Nat.le_refl _) (fun b _ _ => hc b) (fun _ => False) (fun L _ => ⟨rfl, fun _ => rfl, fun _ _ _ => hc _⟩) (fun _ hf => hf.elim) (fun L hL => by rw [hh]; exact h.bnd L hL) h.inj, st⟩

/-- One of our blocks is written: its object says something else. -/
theorem room_setRow {w : World} {b0 : Nat} {c c' : Array Value} {t : TypeId} (hh : w.heap[b0]? = some (.cells c t (0, 0))) (hc : c.size ≤ c'.size) (b : Nat) : room w b ≤ room (w.setRow b0 c') b := by
  by_cases e : b = b0
  · subst e; unfold room; rw [hh, setRow_heap w b c c' t _ hh]; exact hc
  · exact Nat.le_of_eq (room_heap (setRow_other w b0 b c' e)).symm

theorem SRel.write (h : SRel X os g w) {L b0 : Nat} {o o' : AO} (hmem : b0 ∈ g L) (hwr : wr X b0) (hX : X.Ok) (hL : os[L]? = some o) (hw : isOwn (some o)) (hw' : isOwn (some o')) (c' : Array Value) (c : Array Value) (t : TypeId) (hh : w.heap[b0]? = some (.cells c t (0, 0))) (hc : c.size ≤ c'.size)
    (hk : (∃ a a', o.al = some a ∧ o'.al = some a' ∧ a'.1 = a.1 ∧ a.2 ≤ a'.2) ∨ ∃ cs cs', o = .rc cs ∧ o' = .rc cs')
    (ho : (∀ b u v, rdF X os g w b u = some v → rdF X (os.set L o') g (w.setRow b0 c') b u = some v) → Step X os g w (os.set L o') g (w.setRow b0 c') → OOk X (os.set L o') g (w.setRow b0 c') L (some o')) :
    SRel X (os.set L o') g (w.setRow b0 c') ∧ Step X os g w (os.set L o') g (w.setRow b0 c') := by
  have howL : own os L := by unfold own; rw [hL]; exact hw
  have hown : ∀ M, own (os.set L o') M ↔ own os M := by
    intro M
    by_cases e : L = M
    · subst e; unfold own; rw [set_same hL, hL]; exact ⟨fun _ => hw, fun _ => hw'⟩
    · unfold own; rw [set_other e]
  have hB : ∀ b, ownB (os.set L o') g b ↔ ownB os g b := fun b => ⟨fun ⟨M, hM, e⟩ => ⟨M, (hown M).1 hM, e⟩, fun ⟨M, hM, e⟩ => ⟨M, (hown M).2 hM, e⟩⟩
  have hoth : ∀ b : Nat, b ≠ b0 → (w.setRow b0 c').heap[b]? = w.heap[b]? := fun b hb => setRow_other w b0 b c' hb
  have hrd : ∀ b u v, rdF X os g w b u = some v → rdF X (os.set L o') g (w.setRow b0 c') b u = some v := by
    intro b u v hv
    rw [rdF_some] at hv ⊢
    refine ⟨hv.1, fun hb => hv.2.1 ((hB b).1 hb), ?_⟩
    rw [cell_heap (hoth b fun e => hv.2.1 ⟨L, howL, e ▸ hmem⟩)]
    exact hv.2.2
  have st : Step X os g w (os.set L o') g (w.setRow b0 c') := by
    refine ⟨by simp, ?_, fun _ _ _ _ _ => rfl, ?_, ?_, ?_, hrd, room_setRow hh hc⟩
    · intro M o1 o2 a1 a2 h1 h2 e1 e2
      by_cases e : L = M
      · subst e
        rw [set_same hL] at h2; rw [hL] at h1; cases h1; cases h2
        rcases hk with ⟨a, a', q1, q2, q3, q4⟩ | ⟨cs, cs', q1, q2⟩
        · rw [e1] at q1; rw [e2] at q2; cases q1; cases q2; exact ⟨q3, q4, rfl⟩
        · subst q1; cases e1
      · rw [set_other e, h1] at h2; cases h2; rw [e1] at e2; cases e2; exact ⟨rfl, Nat.le_refl _, rfl⟩
    · intro M o1 a1 cc h1 e1 h2
      by_cases e : L = M
      · subst e; rw [set_same hL] at h2; rw [hL] at h1; cases h1; cases h2
        rcases hk with ⟨a, a', q1, q2, q3, q4⟩ | ⟨cs, cs', q1, q2⟩
        · cases q2
        · subst q1; cases e1
      · rw [set_other e, h1] at h2; cases h2; cases e1
    · intro M cc o1 a1 h1 h2 e1
      by_cases e : L = M
      · subst e; rw [set_same hL] at h2; rw [hL] at h1; cases h1; cases h2
        rcases hk with ⟨a, a', q1, q2, q3, q4⟩ | ⟨cs, cs', q1, q2⟩
        · cases q1
        · subst q2; cases e1
      · rw [set_other e, h1] at h2; cases h2; cases e1
    · intro M h1
      by_cases e : L = M
      · subst e; rw [hL] at h1; cases h1; exact hw.elim
      · rw [set_other e]; exact h1
  refine ⟨h.next st rfl rfl rfl (by simp) ?_ (fun M => M = L) ?_ ?_ ?_ ?_, st⟩
  · intro b hb hk2
    refine hoth b fun e => ?_
    subst e
    rcases hwr with h1 | h1
    · exact hk2 h1
    · omega
  · intro M hM
    refine ⟨set_other (Ne.symm hM), fun _ => rfl, fun hwM b hb => hoth _ fun e => hM (h.inj M L hwM howL b hb (e ▸ hmem))⟩
  · intro M hM; subst hM; rw [set_same hL]; exact ho hrd st
  · intro M hM; simpa using h.bnd M ((hown M).1 hM)
  · intro M N hM hN b e f; exact h.inj M N ((hown M).1 hM) ((hown N).1 hN) b e f

end Go.AM
namespace Go.AM
open Go
variable {X : Ctx} {os : List AO} {g : Nat → List Nat} {w : World}

theorem mv_get (os : List AO) (L M : Nat) (o : AO) (hL : L < os.length) : (os.set L .dead ++ [o])[M]? = if M = L then some .dead else if M = os.length then some o else os[M]? := by
  rw [push_get, List.length_set, set_get]
  by_cases e : M = L
  · subst e; simp [hL]
  · rw [if_neg e, if_neg (Ne.symm e)]
    by_cases e2 : M < os.length
    · rw [if_pos e2, if_neg (by omega)]
    · rw [if_neg e2]
      by_cases e3 : M = os.length
      · rw [if_pos e3, if_pos e3]
      · rw [if_neg e3, if_neg e3, List.getElem?_eq_none (by omega)]

/-- One of our rows is written and has another name from now on. -/
theorem SRel.move (h : SRel X os g w) {L s b0 : Nat} {xs ys : List (List AV)} (hg0 : g L = [b0]) (hL : os[L]? = some (.arr true s xs)) (c' c : Array Value) (t : TypeId) (hh : w.heap[b0]? = some (.cells c t (0, 0))) (hc : c.size ≤ c'.size)
    (ho : (∀ b u v, rdF X os g w b u = some v → rdF X (os.set L .dead ++ [.arr true s ys]) (updG g os.length (g L)) (w.setRow b0 c') b u = some v) →
      OOk X (os.set L .dead ++ [.arr true s ys]) (updG g os.length (g L)) (w.setRow b0 c') os.length (some (.arr true s ys))) :
    SRel X (os.set L .dead ++ [.arr true s ys]) (updG g os.length (g L)) (w.setRow b0 c') ∧ Step X os g w (os.set L .dead ++ [.arr true s ys]) (updG g os.length (g L)) (w.setRow b0 c') := by
  have hl := lt_of_get hL
  have howL : own os L := by unfold own; rw [hL]; trivial
  have hget := fun M => mv_get os L M (.arr true s ys) hl
  have hold : ∀ {M : Nat} {x : AO}, os[M]? = some x → M ≠ L → (os.set L .dead ++ [.arr true s ys])[M]? = some x := fun {M x} hx hM => by
    rw [hget, if_neg hM, if_neg (by have := lt_of_get hx; omega)]; exact hx
  have hown : ∀ M, own (os.set L .dead ++ [.arr true s ys]) M → (own os M ∧ M ≠ L ∧ M ≠ os.length) ∨ M = os.length := by
    intro M hM
    unfold own at hM
    rw [hget] at hM
    split at hM
    · exact hM.elim
    · split at hM
      · rename_i e; exact .inr e
      · rename_i e1 e2; exact .inl ⟨hM, e1, e2⟩
  have hmem : b0 ∈ g L := by simp [hg0]
  have hoth : ∀ b : Nat, b ≠ b0 → (w.setRow b0 c').heap[b]? = w.heap[b]? := fun b hb => setRow_other w b0 b c' hb
  have hnB : ∀ b, ¬ ownB os g b → ¬ ownB (os.set L .dead ++ [.arr true s ys]) (updG g os.length (g L)) b := by
    rintro b hb ⟨M, hM, e⟩
    rcases hown M hM with ⟨h1, h2, h3⟩ | h1
    · rw [updG_other g h3] at e; exact hb ⟨M, h1, e⟩
    · subst h1; rw [updG_same] at e; exact hb ⟨L, howL, e⟩
  have hrd : ∀ b u v, rdF X os g w b u = some v → rdF X (os.set L .dead ++ [.arr true s ys]) (updG g os.length (g L)) (w.setRow b0 c') b u = some v := by
    intro b u v hv
    rw [rdF_some] at hv ⊢
    refine ⟨hv.1, hnB b hv.2.1, ?_⟩
    rw [cell_heap (hoth b fun e => hv.2.1 ⟨L, howL, e ▸ hmem⟩)]
    exact hv.2.2
  have st : Step X os g w (os.set L .dead ++ [.arr true s ys]) (updG g os.length (g L)) (w.setRow b0 c') := by
    refine ⟨by simp, ?_, ?_, ?_, ?_, ?_, hrd, room_setRow hh hc⟩
    · intro M o1 o2 a1 a2 h1 h2 e1 e2
      by_cases e : M = L
      · subst e; rw [hget, if_pos rfl] at h2; cases h2; cases e2
      · rw [hold h1 e] at h2; cases h2; rw [e1] at e2; cases e2
        exact ⟨rfl, Nat.le_refl _, by rw [updG_other g (by have := lt_of_get h1; omega)]⟩
    · intro M cs cs' h1 h2; exact updG_other g (by have := lt_of_get h1; omega)
    · intro M o1 a1 cc h1 e1 h2
      by_cases e : M = L
      · subst e; rw [hget, if_pos rfl] at h2; cases h2
      · rw [hold h1 e] at h2; cases h2; cases e1
    · intro M cc o1 a1 h1 h2 e1
      by_cases e : M = L
      · subst e; rw [hget, if_pos rfl] at h2; cases h2; cases e1
      · rw [hold h1 e] at h2; cases h2; cases e1
    · intro M h1
      by_cases e : M = L
      · subst e; rw [hL] at h1; cases h1
      · exact hold h1 e
  have hwr : wr X b0 := by
    have := h.obj L
    rw [hL] at this
    obtain ⟨_, ⟨p0, _⟩ | ⟨b, p0, p1, _⟩⟩ := this
    · rw [hg0] at p0; cases p0
    · rw [hg0] at p0; cases p0; exact p1
  refine ⟨h.next st rfl rfl rfl (by simp) ?_ (fun M => M = L ∨ M = os.length) ?_ ?_ ?_ ?_, st⟩
  · intro b hb hk2
    refine hoth b fun e => ?_
    subst e
    rcases hwr with h1 | h1
    · exact hk2 h1
    · omega
  · intro M hM
    have h1 : M ≠ L := fun e => hM (.inl e)
    have h2 : M ≠ os.length := fun e => hM (.inr e)
    refine ⟨by rw [hget, if_neg h1, if_neg h2], fun _ => updG_other g h2, fun hwM b hb => hoth _ fun e => h1 (h.inj M L hwM howL b hb (e ▸ hmem))⟩
  · intro M hM
    rcases hM with hM | hM
    · subst hM; rw [hget, if_pos rfl]; trivial
    · subst hM; rw [hget, if_neg (by omega), if_pos rfl]; exact ho hrd
  · intro M hM k hk
    simp only [setRow_size]
    rcases hown M hM with ⟨h1, h2, h3⟩ | h1
    · rw [updG_other g h3] at hk; exact h.bnd M h1 k hk
    · subst h1; rw [updG_same] at hk; exact h.bnd L howL k hk
  · intro M N hM hN k e f
    rcases hown M hM with ⟨h1, h2, h3⟩ | h1 <;> rcases hown N hN with ⟨k1, k2, k3⟩ | k1
    · rw [updG_other g h3] at e; rw [updG_other g k3] at f; exact h.inj M N h1 k1 k e f
    · subst k1; rw [updG_other g h3] at e; rw [updG_same] at f; exact absurd (h.inj M L h1 howL k e f) h2
    · subst h1; rw [updG_same] at e; rw [updG_other g k3] at f; exact absurd (h.inj N L k1 howL k f e) k2
    · omega

end Go.AM
