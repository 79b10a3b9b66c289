/- What operations that make or write memory do: objects given up, made, written. Conditions: none. -/
import Derived.Test.YtkafcijfljjlaabDoorAmG
set_option linter.unusedSimpArgs false
set_option linter.unusedVariables false
namespace Go.AM
open Go

variable {P : Program} {c : Cx} {X : Ctx} {os : List AO} {g : Nat → Nat} {w : World}

/-- The same objects, some of them given up. -/
def Un (os os' : List AO) : Prop := os'.length = os.length ∧ ∀ L : Nat, os'[L]? = os[L]? ∨ ∃ s xs, os[L]? = some (AO.arr true s xs) ∧ os'[L]? = some (AO.arr false s xs)

theorem Un.refl (os : List AO) : Un os os := ⟨rfl, fun _ => .inl rfl⟩

theorem Un.trans {a b d : List AO} (h : Un a b) (k : Un b d) : Un a d := by
  refine ⟨k.1.trans h.1, fun L => ?_⟩
  rcases h.2 L with h1 | ⟨s, xs, h1, h2⟩ <;> rcases k.2 L with k1 | ⟨s', xs', k1, k2⟩
  · exact .inl (k1.trans h1)
  · exact .inr ⟨s', xs', by rw [← h1]; exact k1, k2⟩
  · exact .inr ⟨s, xs, h1, by rw [k1]; exact h2⟩
  · rw [h2] at k1; cases k1

theorem Un.arr {os os' : List AO} (h : Un os os') {L : Nat} {b : Bool} {s : Nat} {xs : List (List AV)} (hL : os[L]? = some (.arr b s xs)) : ∃ b', os'[L]? = some (.arr b' s xs) := by
  rcases h.2 L with h1 | ⟨s', xs', h1, h2⟩
  · exact ⟨b, by rw [h1]; exact hL⟩
  · rw [hL] at h1; cases h1; exact ⟨false, h2⟩

theorem Un.own {os os' : List AO} (h : Un os os') {L : Nat} (hw : own os' L) : own os L := by
  unfold AM.own at hw ⊢
  rcases h.2 L with h1 | ⟨s', xs', h1, h2⟩
  · rw [h1] at hw; exact hw
  · rw [h2] at hw; exact hw.elim

theorem unown_ok (h : SRel X os g w) (x : AV) : SRel X (unown os x) g w ∧ Step X os g w (unown os x) g w ∧ Un os (unown os x) ∧ (∀ L o n, x = .sl L o n → frzOk os x → ∃ s xs, (unown os x)[L]? = some (.arr false s xs)) := by
  unfold unown
  split
  · rename_i L o n
    split
    · rename_i b s xs hL
      cases b with
      | true =>
        obtain ⟨h1, h2⟩ := h.unown1 hL
        refine ⟨h1, h2, ⟨by simp, fun M => ?_⟩, fun L' o' n' e _ => ?_⟩
        · by_cases e : L = M
          · subst e; exact .inr ⟨s, xs, hL, set_same hL⟩
          · exact .inl (set_other e)
        · cases e; exact ⟨s, xs, set_same hL⟩
      | false =>
        have e : os.set L (.arr false s xs) = os := by
          apply List.ext_getElem?
          intro M
          by_cases e : L = M
          · subst e; rw [set_same hL, hL]
          · rw [set_other e]
        rw [e]
        refine ⟨h, Step.refl _ _ _ _, Un.refl _, fun L' o' n' e _ => ?_⟩
        cases e; exact ⟨s, xs, hL⟩
    · rename_i hn
      refine ⟨h, Step.refl _ _ _ _, Un.refl _, fun L' o' n' e hf => ?_⟩
      cases e
      simp only [frzOk] at hf
  · rename_i hn
    exact ⟨h, Step.refl _ _ _ _, Un.refl _, fun L' o' n' e _ => absurd e (hn L' o' n')⟩

theorem frz_un {os os' : List AO} (h : Un os os') (x : AV) (hf : frzOk os x) : frz os' x = frz os x ∧ frzOk os' x := by
  cases x <;> try exact ⟨rfl, hf⟩
  rename_i L o n
  simp only [frzOk] at hf
  split at hf
  · rename_i b s xs hL
    obtain ⟨b', hL'⟩ := h.arr hL
    exact ⟨by simp only [frz, esz, elems, hL, hL'], by simp only [frzOk, hL']⟩
  · exact hf.elim

theorem unownAll_ok : ∀ (vs : List AV) {os : List AO}, SRel X os g w → allP (frzOk os) vs → SRel X (unownAll os vs) g w ∧ Step X os g w (unownAll os vs) g w ∧ Un os (unownAll os vs) ∧
    (∀ L o n, AV.sl L o n ∈ vs → ∃ s xs, (unownAll os vs)[L]? = some (.arr false s xs))
  | [], os, h, _ => ⟨h, Step.refl _ _ _ _, Un.refl _, fun _ _ _ hm => by cases hm⟩
  | x :: r, os, h, hf => by
    obtain ⟨h1, h2, h3, h4⟩ := unown_ok h x
    have hr : allP (frzOk (unown os x)) r := by
      have := hf.2
      clear h1 h2 h4 hf
      induction r with
      | nil => trivial
      | cons y r ih => exact ⟨(frz_un h3 y this.1).2, ih this.2⟩
    obtain ⟨k1, k2, k3, k4⟩ := unownAll_ok r h1 hr
    refine ⟨k1, h2.trans k2, h3.trans k3, fun L o n hm => ?_⟩
    cases hm with
    | head _ =>
      obtain ⟨s, xs, e⟩ := h4 L o n rfl hf.1
      rcases k3.2 L with k5 | ⟨s', xs', k5, k6⟩
      · exact ⟨s, xs, by simp only [unownAll]; rw [k5]; exact e⟩
      · rw [e] at k5; cases k5
    | tail _ hm => exact k4 L o n hm

/-- A value that is given up reads as it did for good. -/
theorem frz_ok (h : SRel X os g w) {x : AV} {v : Value} (hf : frzOk os x) (hu : ∀ L o n, x = .sl L o n → ∃ s xs, os[L]? = some (.arr false s xs)) (hr : RepC (rdF X os g w) os g w x v) : RepP (rdF X os g w) (frz os x) v := by
  unfold frzOk at hf
  split at hf
  · rename_i u; have : v = u := hr; subst this; exact .sc hf
  · exact hr
  · rename_i L off n
    obtain ⟨s, xs, hL⟩ := hu L off n rfl
    simp only [RepC, hL] at hr
    obtain ⟨cap, hc, hn, hv⟩ := hr
    have ho := h.obj L
    rw [hL] at ho
    simp only [frz, esz, elems, hL]
    have hlen : ((xs.drop off).take n).length = n := by simp; omega
    rcases hv with ⟨rfl, hr⟩ | ⟨rfl, a, rfl⟩
    · have hp := Row.part ho off (off + n)
      have e : (xs.take (off + n)).drop off = (xs.drop off).take n := by rw [List.drop_take]; congr 1; omega
      rw [e, Nat.zero_add] at hp
      have := RepP.of_row hp (c := cap) (by omega)
      rw [hlen] at this
      exact this
    · have : n = 0 := by omega
      subst this
      exact .nil
  · exact hf.elim

/-- Cells of ours. -/
theorem SRel.pushRc (h : SRel X os g w) {cs : List AV} {vs : List Value} (hr : RepL (rdF X os g w) os g w cs vs) (t : TypeId) :
    SRel X (os ++ [.rc cs]) (updG g os.length w.heap.size) (w.alloc (.cells vs.toArray t)) ∧ Step X os g w (os ++ [.rc cs]) (updG g os.length w.heap.size) (w.alloc (.cells vs.toArray t)) := by
  refine h.push w.heap.size (.rc cs) rfl rfl rfl (by simp) (fun k hk => heap_alloc_old w _ hk) (fun _ => by simp) (fun _ => Nat.le_refl _) fun hrd st => ?_
  rw [show os.length = os.length from rfl]
  refine ⟨by rw [updG_same]; exact .inr h.size, vs.toArray, t, ?_, by simp [hr.1], fun k y hy => ?_⟩
  · rw [updG_same]; exact heap_alloc_new w _
  · obtain ⟨u, hu, hu2⟩ := hr.2 k y hy
    exact ⟨u, by simpa using hu, st.repC hu2⟩

/-- A row of ours. -/
theorem SRel.pushArr (h : SRel X os g w) {s : Nat} {xs : List (List AV)} {vs : Array Value} (hs : 0 < s) (hl : ∀ x ∈ xs, x.length = s) (hn : xs.length * s ≤ vs.size)
    (hr : ∀ (i k : Nat) x y, xs[i]? = some x → x[k]? = some y → ∃ v, vs[i * s + k]? = some v ∧ RepP (rdF X os g w) y v) (t : TypeId) {w0 : World} (hw0 : w0.heap = w.heap) (e1 : w0.os = w.os) (e2 : w0.tape = w.tape) (e3 : w0.output = w.output) :
    SRel X (os ++ [.arr true s xs]) (updG g os.length w.heap.size) (w0.alloc (.cells vs t)) ∧ Step X os g w (os ++ [.arr true s xs]) (updG g os.length w.heap.size) (w0.alloc (.cells vs t)) := by
  have hsz : w0.heap.size = w.heap.size := by rw [hw0]
  refine h.push w.heap.size (.arr true s xs) e1 e2 e3 (by simp [hsz]) (fun k hk => by rw [heap_alloc_old w0 _ (by omega), hw0]) (fun _ => by simp [hsz]) (fun _ => Nat.le_refl _) fun hrd st => ?_
  refine ⟨by rw [updG_same]; exact .inr h.size, hs, vs, t, ?_, hn, hl, fun i k x y hx hy => ?_⟩
  · rw [updG_same, ← hsz]; exact heap_alloc_new w0 _
  · obtain ⟨u, hu, hu2⟩ := hr i k x y hx hy
    exact ⟨u, hu, hu2.mono hrd⟩

theorem setCells_len {cs vs : List AV} {k : Nat} (h : k + vs.length ≤ cs.length) : (setCells cs k vs).length = cs.length := by
  simp [setCells]; omega

/-- Cells of a record are written. -/
theorem SRel.storeRc (h : SRel X os g w) (hX : X.Ok) {L k : Nat} {cs ds : List AV} {us : List Value} (hL : os[L]? = some (.rc cs)) (hl : k + ds.length ≤ cs.length) (hr : RepL (rdF X os g w) os g w ds us) (hone : ∀ u ∈ us, u.oneCell' = true) :
    ∃ w', (storeCells ⟨g L, k, none⟩ us).run P w = .ok () w' ∧ SRel X (os.set L (.rc (setCells cs k ds))) g w' ∧ Step X os g w (os.set L (.rc (setCells cs k ds))) g w' ∧ ∀ b : Nat, b ≠ g L → w'.heap[b]? = w.heap[b]? := by
  have ho := h.obj L
  rw [hL] at ho
  obtain ⟨p1, cur, t, p3, p4, p5⟩ := ho
  have hlen : us.length = ds.length := hr.1
  have hrun := run_storeCells_at P (g L) k t us 0 cur w p3 (by omega) hone
  simp only [Nat.add_zero] at hrun
  have hst := h.write hX (o' := .rc (setCells cs k ds)) hL trivial trivial (cur.toList.take k ++ us ++ cur.toList.drop (k + us.length)).toArray cur t p3 (by simp; omega) (.inr ⟨_, _, rfl, rfl⟩) fun hrd st => by
    refine ⟨p1, _, t, setRow_heap w (g L) cur _ t _ p3, by rw [setCells_len hl]; simp; omega, fun j y hy => ?_⟩
    have hrl : RepL (rdF X os g w) os g w cs (cur.toList.take cs.length) := ⟨by simp; omega, fun i y hy => by
      obtain ⟨v, hv, hv2⟩ := p5 i y hy
      refine ⟨v, ?_, hv2⟩
      rw [List.getElem?_take, if_pos (lt_of_get hy)]
      simpa using hv⟩
    obtain ⟨u, hu, hu2⟩ := (hrl.splice hr k hl).2 j y hy
    refine ⟨u, ?_, st.repC hu2⟩
    have hjl : j < cs.length := by have := lt_of_get hy; rw [setCells_len hl] at this; exact this
    simp only [List.getElem?_toArray]
    rw [← hu]
    simp only [List.getElem?_append, List.length_append, List.length_take, List.getElem?_take, List.getElem?_drop, List.length_drop, Array.length_toList]
    have a1 : min k cur.size = k := by omega
    have a2 : min k (min cs.length cur.size) = k := by omega
    simp only [a1, a2]
    by_cases b1 : j < k + us.length
    · simp only [if_pos b1]
      by_cases b2 : j < k
      · simp only [if_pos b2]; rw [if_pos (by omega)]
      · simp only [if_neg b2]
    · simp only [if_neg b1]
      rw [if_pos (by omega)]
  exact ⟨_, hrun, hst.1, hst.2, fun b hb => setRow_other w (g L) b _ hb⟩

theorem row_apart {i j s k m : Nat} (h : i ≠ j) (hk : k < s) (hm : m < s) : i * s + k ≠ j * s + m := by
  intro e
  rcases Nat.lt_or_gt_of_ne h with h' | h'
  · have := Nat.mul_le_mul_right s (show i + 1 ≤ j from h')
    rw [Nat.add_mul] at this
    omega
  · have := Nat.mul_le_mul_right s (show j + 1 ≤ i from h')
    rw [Nat.add_mul] at this
    omega

/-- A splice, cell by cell. -/
theorem splice_get {α : Type} (a b : List α) (o j : Nat) (h : o + b.length ≤ a.length) : (a.take o ++ b ++ a.drop (o + b.length))[j]? = if o ≤ j ∧ j < o + b.length then b[j - o]? else a[j]? := by
  simp only [List.getElem?_append, List.length_append, List.length_take, List.getElem?_take, List.getElem?_drop]
  have hm : min o a.length = o := by omega
  simp only [hm]
  by_cases h1 : j < o + b.length
  · by_cases h2 : j < o
    · simp only [if_pos h1, if_pos h2]; rw [if_neg (by omega)]
    · simp only [if_pos h1, if_neg h2]; rw [if_pos (by omega)]
  · simp only [if_neg h1]; rw [if_neg (by omega)]; congr 1; omega

theorem SRel.storeArr (h : SRel X os g w) (hX : X.Ok) {L i k s : Nat} {xs : List (List AV)} {x0 ds : List AV} {us : List Value} (hL : os[L]? = some (.arr true s xs)) (hx0 : xs[i]? = some x0) (hl : k + ds.length ≤ x0.length)
    (hlen : us.length = ds.length) (hr : ∀ (j : Nat) y, ds[j]? = some y → ∃ u, us[j]? = some u ∧ RepP (rdF X os g w) y u) (hone : ∀ u ∈ us, u.oneCell' = true) :
    ∃ w', (storeCells ⟨g L, i * s + k, none⟩ us).run P w = .ok () w' ∧ SRel X (os.set L (.arr true s (xs.set i (setCells x0 k ds)))) g w' ∧ Step X os g w (os.set L (.arr true s (xs.set i (setCells x0 k ds)))) g w' ∧
      ∀ b : Nat, b ≠ g L → w'.heap[b]? = w.heap[b]? := by
  have ho := h.obj L
  rw [hL] at ho
  obtain ⟨p1, p2, cur, t, p3, p4, p5, p6⟩ := ho
  have hil : i < xs.length := lt_of_get hx0
  have hx0l : x0.length = s := p5 x0 (List.mem_of_getElem? hx0)
  have hroom : i * s + s ≤ cur.size := by
    have := Nat.mul_le_mul_right s (show i + 1 ≤ xs.length from hil)
    rw [Nat.add_mul] at this
    omega
  have hrun := run_storeCells_at P (g L) (i * s + k) t us 0 cur w p3 (by omega) hone
  simp only [Nat.add_zero] at hrun
  have hst := h.write hX (o' := .arr true s (xs.set i (setCells x0 k ds))) hL trivial trivial (cur.toList.take (i * s + k) ++ us ++ cur.toList.drop (i * s + k + us.length)).toArray cur t p3 (by simp; omega) (.inl ⟨_, _, _, rfl, rfl, by simp⟩) fun hrd st => by
    refine ⟨p1, p2, _, t, setRow_heap w (g L) cur _ t _ p3, by simp; omega, fun x hx => ?_, fun i' k' x y hx hy => ?_⟩
    · rcases List.mem_or_eq_of_mem_set hx with hx | hx
      · exact p5 x hx
      · rw [hx, setCells_len hl, hx0l]
    · simp only [List.getElem?_toArray]
      rw [splice_get _ _ _ _ (by simp; omega)]
      by_cases e : i = i'
      · subst e
        rw [List.getElem?_set_self hil] at hx
        cases hx
        have hk' : k' < s := by have := lt_of_get hy; rw [setCells_len hl, hx0l] at this; exact this
        unfold setCells at hy
        rw [splice_get _ _ _ _ hl] at hy
        by_cases c1 : k ≤ k' ∧ k' < k + ds.length
        · rw [if_pos c1] at hy
          rw [if_pos (by omega)]
          obtain ⟨u, hu, hu2⟩ := hr _ _ hy
          exact ⟨u, by rw [show i * s + k' - (i * s + k) = k' - k by omega]; exact hu, hu2.mono hrd⟩
        · rw [if_neg c1] at hy
          rw [if_neg (by omega)]
          obtain ⟨u, hu, hu2⟩ := p6 _ _ _ _ hx0 hy
          exact ⟨u, by simpa using hu, hu2.mono hrd⟩
      · rw [List.getElem?_set_ne e] at hx
        have hk' : k' < s := by have := lt_of_get hy; rw [p5 x (List.mem_of_getElem? hx)] at this; exact this
        rw [if_neg (by
          rintro ⟨c1, c2⟩
          have := row_apart (s := s) (k := k') (m := i' * s + k' - i * s) (Ne.symm e) hk' (by omega)
          omega)]
        obtain ⟨u, hu, hu2⟩ := p6 _ _ _ _ hx hy
        exact ⟨u, by simpa using hu, hu2.mono hrd⟩
  exact ⟨_, hrun, hst.1, hst.2, fun b hb => setRow_other w (g L) b _ hb⟩

/-- Elements, and the values that stand for them one cell behind the other. -/
def RepE (rd : Nat → Nat → Option Value) (s : Nat) (xs : List (List AV)) (vs : List Value) : Prop :=
  vs.length = xs.length * s ∧ (∀ x ∈ xs, x.length = s) ∧ ∀ (i k : Nat) x y, xs[i]? = some x → x[k]? = some y → ∃ v, vs[i * s + k]? = some v ∧ RepP rd y v

theorem RepE.mono {rd rd' : Nat → Nat → Option Value} (hm : ∀ b o v, rd b o = some v → rd' b o = some v) {s : Nat} {xs : List (List AV)} {vs : List Value} (h : RepE rd s xs vs) : RepE rd' s xs vs :=
  ⟨h.1, h.2.1, fun i k x y hx hy => let ⟨v, hv, hr⟩ := h.2.2 i k x y hx hy; ⟨v, hv, hr.mono hm⟩⟩

theorem RepE.app {rd : Nat → Nat → Option Value} {s : Nat} {xs ys : List (List AV)} {vs us : List Value} (h : RepE rd s xs vs) (k : RepE rd s ys us) : RepE rd s (xs ++ ys) (vs ++ us) := by
  refine ⟨by simp [h.1, k.1, Nat.add_mul], fun x hx => ?_, fun i j x y hx hy => ?_⟩
  · rcases List.mem_append.1 hx with hx | hx
    · exact h.2.1 x hx
    · exact k.2.1 x hx
  · rw [List.getElem?_append] at hx ⊢
    split at hx
    · rename_i hi
      obtain ⟨v, hv, hr⟩ := h.2.2 i j x y hx hy
      rw [if_pos (by have := lt_of_get hv; omega)]
      exact ⟨v, hv, hr⟩
    · rename_i hi
      obtain ⟨v, hv, hr⟩ := k.2.2 _ j x y hx hy
      have hle : xs.length * s ≤ i * s := Nat.mul_le_mul_right s (by omega)
      rw [if_neg (by have := h.1; omega)]
      refine ⟨v, ?_, hr⟩
      rw [← hv, h.1, Nat.sub_mul]
      congr 1
      omega

theorem elems_of_cells {rd : Nat → Nat → Option Value} {b o s : Nat} {xs : List (List AV)} (hs : ∀ x ∈ xs, x.length = s)
    (hc : ∀ (i k : Nat) x y, xs[i]? = some x → x[k]? = some y → ∃ v, w.cell? ⟨b, o + i * s + k, none⟩ = some v ∧ RepP rd y v) :
    ∃ vs, RepE rd s xs vs ∧ ∀ (j : Nat) u, vs[j]? = some u → w.cell? ⟨b, o + j, none⟩ = some u := by
  have hcell : ∀ i k, i < xs.length → k < s → ∃ x y v, xs[i]? = some x ∧ x[k]? = some y ∧ w.cell? ⟨b, o + i * s + k, none⟩ = some v ∧ RepP rd y v := by
    intro i k hi hk
    have h1 : xs[i]? = some xs[i] := List.getElem?_eq_getElem hi
    have h2 : (xs[i])[k]? = some ((xs[i])[k]'(by rw [hs _ (List.getElem_mem hi)]; exact hk)) := List.getElem?_eq_getElem _
    obtain ⟨v, hv, hr⟩ := hc i k _ _ h1 h2
    exact ⟨_, _, v, h1, h2, hv, hr⟩
  refine ⟨(List.range (xs.length * s)).map fun j => (w.cell? ⟨b, o + j, none⟩).getD undef, ⟨by simp, hs, fun i k x y hx hy => ?_⟩, fun j u hu => ?_⟩
  · obtain ⟨v, hv, hr⟩ := hc i k x y hx hy
    have hi := lt_of_get hx
    have hk : k < s := by have := lt_of_get hy; rw [hs x (List.mem_of_getElem? hx)] at this; exact this
    have hlt : i * s + k < xs.length * s := by
      have := Nat.mul_le_mul_right s (show i + 1 ≤ xs.length from hi)
      rw [Nat.add_mul] at this
      omega
    refine ⟨v, ?_, hr⟩
    rw [List.getElem?_map, List.getElem?_range hlt]
    simp only [Option.map_some, ← Nat.add_assoc, hv, Option.getD_some]
  · have hlt : j < xs.length * s := by have := lt_of_get hu; simpa using this
    rw [List.getElem?_map, List.getElem?_range hlt] at hu
    simp only [Option.map_some, Option.some.injEq] at hu
    have hs0 : 0 < s := by
      rcases Nat.eq_zero_or_pos s with e | e
      · subst e; simp at hlt
      · exact e
    obtain ⟨x, y, v, _, _, hv, _⟩ := hcell (j / s) (j % s) ((Nat.div_lt_iff_lt_mul hs0).2 hlt) (Nat.mod_lt _ hs0)
    have hj : o + j / s * s + j % s = o + j := by rw [Nat.add_assoc, Nat.div_add_mod']
    rw [hj] at hv
    rw [hv] at hu ⊢
    simpa using hu

/-- The values behind a slice. -/
theorem Rep_elems (h : SRel X os g w) {x : AV} {v : Value} (hx : RepV (rdF X os g w) os g w x v) (hk : lenOk os x) (hns : ∀ s, x ≠ .sc (.string s)) :
    ∃ a cap vs, v = .slice a (lenA x) cap ∧ lenA x ≤ cap ∧ (elems os x).length = lenA x ∧ ((elems os x = [] ∧ vs = []) ∨ RepE (rdF X os g w) (esz os x) (elems os x) vs) ∧
      (vs = [] ∨ ∃ b o, a = some ⟨b, o, none⟩ ∧ ∀ (j : Nat) u, vs[j]? = some u → w.cell? ⟨b, o + j, none⟩ = some u) := by
  unfold lenOk at hk
  split at hk
  · rename_i s xs
    rcases RepP.row hx with ⟨rfl, a, cc, rfl⟩ | ⟨b, o, cc, rfl, hc, hr⟩
    · exact ⟨a, cc, [], rfl, Nat.zero_le _, rfl, .inl ⟨rfl, rfl⟩, .inl rfl⟩
    · obtain ⟨vs, h1, h2⟩ := elems_of_cells (w := w) hr.1 fun i k x y hx hy => by
        obtain ⟨v, hv, hr2⟩ := hr.2 i k x y hx hy
        rw [rdF_some] at hv
        exact ⟨v, hv.2.2, hr2⟩
      exact ⟨_, cc, vs, rfl, hc, rfl, .inr h1, .inr ⟨b, o, rfl, h2⟩⟩
  · rename_i L off n
    split at hk
    · rename_i ow s xs hL
      have hx : RepC (rdF X os g w) os g w (.sl L off n) v := hx
      simp only [RepC, hL] at hx
      obtain ⟨cap, hc, hn, hv⟩ := hx
      have hlen : (elems os (.sl L off n)).length = n := by simp only [elems, hL]; simp; omega
      rcases hv with ⟨rfl, hr⟩ | ⟨rfl, a, rfl⟩
      · have ho := h.obj L
        rw [hL] at ho
        have hcells : ∀ (i k : Nat) x y, ((xs.drop off).take n)[i]? = some x → x[k]? = some y → ∃ v, w.cell? ⟨g L, off * s + i * s + k, none⟩ = some v ∧ RepP (rdF X os g w) y v := by
          intro i k x y hx hy
          rw [List.getElem?_take] at hx
          split at hx
          · rw [List.getElem?_drop] at hx
            cases ow with
            | true =>
              obtain ⟨_, _, cc, t, h1, _, _, h3⟩ := ho
              obtain ⟨v, hv, hr⟩ := h3 _ _ _ _ hx hy
              refine ⟨v, ?_, hr⟩
              rw [cell_of_row w (g L) _ cc t (0, 0) h1, ← Nat.add_mul]; exact hv
            | false =>
              obtain ⟨v, hv, hr⟩ := ho.2 _ _ _ _ hx hy
              rw [rdF_some] at hv
              refine ⟨v, ?_, hr⟩
              rw [← hv.2.2, Nat.zero_add, ← Nat.add_mul]
          · cases hx
        have hsz : ∀ x ∈ (xs.drop off).take n, x.length = s := by
          intro x hx
          have hm := List.mem_of_mem_drop (List.mem_of_mem_take hx)
          cases ow with
          | true => obtain ⟨_, _, cc, t, h1, _, h2, h3⟩ := ho; exact h2 x hm
          | false => exact ho.1 x hm
        obtain ⟨vs, h1, h2⟩ := elems_of_cells (w := w) hsz hcells
        exact ⟨_, cap, vs, rfl, hc, hlen, .inr (by simp only [esz, elems, hL]; exact h1), .inr ⟨g L, off * s, rfl, h2⟩⟩
      · have : n = 0 := by omega
        subst this
        exact ⟨a, 0, [], rfl, Nat.le_refl _, hlen, .inl ⟨by simp [elems, hL], rfl⟩, .inl rfl⟩
    · exact hk.elim
  · exact absurd rfl (hns _)
  · have : v = .slice none 0 0 := hx
    exact ⟨none, 0, [], this, Nat.le_refl _, rfl, .inl ⟨rfl, rfl⟩, .inl rfl⟩
  · exact hk.elim

end Go.AM
