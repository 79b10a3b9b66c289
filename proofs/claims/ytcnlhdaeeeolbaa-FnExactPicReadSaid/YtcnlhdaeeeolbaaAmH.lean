/- What operations that make or write memory do: objects given up, made, written. Conditions: none. -/
import Derived.Test.YtcnlhdaeeeolbaaAmG
set_option linter.unusedSimpArgs false
set_option linter.unusedVariables false
namespace Go.AM
open Go

variable {P : Program} {c : Cx} {X : Ctx} {os : List AO} {g : Nat → List Nat} {w : World}

/-- The same objects, some of them given up. -/
def Un (os os' : List AO) : Prop := os'.length = os.length ∧ ∀ L : Nat, os'[L]? = os[L]? ∨ ∃ s xs, os[L]? = some (AO.arr true s xs) ∧ os'[L]? = some (AO.arr false s xs)

theorem Un.refl (os : List AO) : Un os os := ⟨rfl, fun _ => .inl rfl⟩

theorem Un.trans {a b d : List AO} (h : Un a b) (k : Un b d) : Un a d := by
  refine ⟨k.1.trans h.1, fun L => ?_⟩
  rcases h.2 L with h1 | ⟨s, xs, h1, h2⟩ <;> rcases k.2 L with k1 | ⟨s', xs', k1, k2⟩
  · exact .inl (k1.trans h1)
  · exact .inr ⟨s', xs', by rw [← h1]; exact k1, k2⟩
  · exact .inr ⟨s, xs, h1, by rw [k1]; exact h2⟩
  · rw [h2] at k1; cases k1

theorem Un.arr {os os' : List AO} (h : Un os os') {L : Nat} {b : Bool} {s : Nat} {xs : List (List AV)} (hL : os[L]? = some (.arr b s xs)) : ∃ b', os'[L]? = some (.arr b' s xs) := by
  rcases h.2 L with h1 | ⟨s', xs', h1, h2⟩
  · exact ⟨b, by rw [h1]; exact hL⟩
  · rw [hL] at h1; cases h1; exact ⟨false, h2⟩

theorem Un.own {os os' : List AO} (h : Un os os') {L : Nat} (hw : own os' L) : own os L := by
  unfold AM.own at hw ⊢
  rcases h.2 L with h1 | ⟨s', xs', h1, h2⟩
  · rw [h1] at hw; exact hw
  · rw [h2] at hw; exact hw.elim

theorem unown_ok (h : SRel X os g w) (x : AV) : SRel X (unown os x) g w ∧ Step X os g w (unown os x) g w ∧ Un os (unown os x) ∧ (∀ L o n, x = .sl L o n → frzOk os x → ∃ s xs, (unown os x)[L]? = some (.arr false s xs)) := by
  unfold unown
  split
  · rename_i L o n
    split
    · rename_i b s xs hL
      cases b with
      | true =>
        obtain ⟨h1, h2⟩ := h.unown1 hL
        refine ⟨h1, h2, ⟨by simp, fun M => ?_⟩, fun L' o' n' e _ => ?_⟩
        · by_cases e : L = M
          · subst e; exact .inr ⟨s, xs, hL, set_same hL⟩
          · exact .inl (set_other e)
        · cases e; exact ⟨s, xs, set_same hL⟩
      | false =>
        have e : os.set L (.arr false s xs) = os := by
          apply List.ext_getElem?
          intro M
          by_cases e : L = M
          · subst e; rw [set_same hL, hL]
          · rw [set_other e]
        rw [e]
        refine ⟨h, Step.refl _ _ _ _, Un.refl _, fun L' o' n' e _ => ?_⟩
        cases e; exact ⟨s, xs, hL⟩
    · rename_i hn
      refine ⟨h, Step.refl _ _ _ _, Un.refl _, fun L' o' n' e hf => ?_⟩
      cases e
      simp only [frzOk] at hf
  · rename_i hn
    exact ⟨h, Step.refl _ _ _ _, Un.refl _, fun L' o' n' e _ => absurd e (hn L' o' n')⟩

theorem frz_un {os os' : List AO} (h : Un os os') (x : AV) (hf : frzOk os x) : frz os' x = frz os x ∧ frzOk os' x := by
  cases x <;> try exact ⟨rfl, hf⟩
  rename_i L o n
  simp only [frzOk] at hf
  split at hf
  · rename_i b s xs hL
    obtain ⟨b', hL'⟩ := h.arr hL
    exact ⟨by simp only [frz, esz, elems, hL, hL'], by simp only [frzOk, hL']⟩
  · exact hf.elim

theorem unownAll_ok : ∀ (vs : List AV) {os : List AO}, SRel X os g w → allP (frzOk os) vs → SRel X (unownAll os vs) g w ∧ Step X os g w (unownAll os vs) g w ∧ Un os (unownAll os vs) ∧
    (∀ L o n, AV.sl L o n ∈ vs → ∃ s xs, (unownAll os vs)[L]? = some (.arr false s xs))
  | [], os, h, _ => ⟨h, Step.refl _ _ _ _, Un.refl _, fun _ _ _ hm => by cases hm⟩
  | x :: r, os, h, hf => by
    obtain ⟨h1, h2, h3, h4⟩ := unown_ok h x
    have hr : allP (frzOk (unown os x)) r := by
      have := hf.2
      clear h1 h2 h4 hf
      induction r with
      | nil => trivial
      | cons y r ih => exact ⟨(frz_un h3 y this.1).2, ih this.2⟩
    obtain ⟨k1, k2, k3, k4⟩ := unownAll_ok r h1 hr
    refine ⟨k1, h2.trans k2, h3.trans k3, fun L o n hm => ?_⟩
    cases hm with
    | head _ =>
      obtain ⟨s, xs, e⟩ := h4 L o n rfl hf.1
      rcases k3.2 L with k5 | ⟨s', xs', k5, k6⟩
      · exact ⟨s, xs, by simp only [unownAll]; rw [k5]; exact e⟩
      · rw [e] at k5; cases k5
    | tail _ hm => exact k4 L o n hm

/-- A value that is given up reads as it did for good. -/
theorem frz_ok (h : SRel X os g w) {x : AV} {v : Value} (hf : frzOk os x) (hu : ∀ L o n, x = .sl L o n → ∃ s xs, os[L]? = some (.arr false s xs)) (hr : RepC (rdF X os g w) os g w x v) : RepP (rdF X os g w) (frz os x) v := by
  unfold frzOk at hf
  split at hf
  · rename_i u; have : v = u := hr; subst this; exact .sc hf
  · exact hr
  · rename_i L off n
    obtain ⟨s, xs, hL⟩ := hu L off n rfl
    simp only [RepC, hL] at hr
    obtain ⟨cap, hc, hn, hv⟩ := hr
    have ho := h.obj L
    rw [hL] at ho
    simp only [frz, esz, elems, hL]
    have hlen : ((xs.drop off).take n).length = n := by simp; omega
    rcases hv with ⟨b1, hb1, rfl, hr⟩ | ⟨rfl, a, rfl⟩
    · have hp := Row.part (ho b1 hb1) off (off + n)
      have e : (xs.take (off + n)).drop off = (xs.drop off).take n := by rw [List.drop_take]; congr 1; omega
      rw [e, Nat.zero_add] at hp
      have := RepP.of_row hp (c := cap) (by omega)
      rw [hlen] at this
      exact this
    · have : n = 0 := by omega
      subst this
      exact .nil
  · exact hf.elim

/-- Cells of ours. -/
theorem SRel.pushRc (h : SRel X os g w) {cs : List AV} {vs : List Value} (hr : RepL (rdF X os g w) os g w cs vs) (t : TypeId) :
    SRel X (os ++ [.rc cs]) (updG g os.length [w.heap.size]) (w.alloc (.cells vs.toArray t)) ∧ Step X os g w (os ++ [.rc cs]) (updG g os.length [w.heap.size]) (w.alloc (.cells vs.toArray t)) := by
  refine h.push [w.heap.size] (.rc cs) rfl rfl rfl (by simp) (fun k hk => heap_alloc_old w _ hk) (fun _ => by simp) (fun _ k hk => by simp at hk; omega) fun hrd st => ?_
  rw [show os.length = os.length from rfl]
  refine ⟨_, updG_same _ _ _, .inr h.size, vs.toArray, t, ?_, by simp [hr.1], fun k y hy => ?_⟩
  · exact heap_alloc_new w _
  · obtain ⟨u, hu, hu2⟩ := hr.2 k y hy
    exact ⟨u, by simpa using hu, st.repC hu2⟩

/-- A row of ours. -/
theorem SRel.pushArr (h : SRel X os g w) {s : Nat} {xs : List (List AV)} {vs : Array Value} (hs : 0 < s) (hl : ∀ x ∈ xs, x.length = s) (hn : xs.length * s ≤ vs.size)
    (hr : ∀ (i k : Nat) x y, xs[i]? = some x → x[k]? = some y → ∃ v, vs[i * s + k]? = some v ∧ RepP (rdF X os g w) y v) (t : TypeId) {w0 : World} (hw0 : w0.heap = w.heap) (e1 : w0.os = w.os) (e2 : w0.tape = w.tape) (e3 : w0.output = w.output) :
    SRel X (os ++ [.arr true s xs]) (updG g os.length [w.heap.size]) (w0.alloc (.cells vs t)) ∧ Step X os g w (os ++ [.arr true s xs]) (updG g os.length [w.heap.size]) (w0.alloc (.cells vs t)) := by
  have hsz : w0.heap.size = w.heap.size := by rw [hw0]
  refine h.push [w.heap.size] (.arr true s xs) e1 e2 e3 (by simp [hsz]) (fun k hk => by rw [heap_alloc_old w0 _ (by omega), hw0]) (fun _ => by simp [hsz]) (fun _ k hk => by simp at hk; omega) fun hrd st => ?_
  refine ⟨hs, .inr ⟨_, updG_same _ _ _, .inr h.size, vs, t, ?_, hn, hl, fun i k x y hx hy => ?_⟩⟩
  · rw [← hsz]; exact heap_alloc_new w0 _
  · obtain ⟨u, hu, hu2⟩ := hr i k x y hx hy
    exact ⟨u, hu, hu2.mono hrd⟩

theorem setCells_len {cs vs : List AV} {k : Nat} (h : k + vs.length ≤ cs.length) : (setCells cs k vs).length = cs.length := by
  simp [setCells]; omega

/-- Cells of a record are written. -/
theorem SRel.storeRc (h : SRel X os g w) (hX : X.Ok) {L k b1 : Nat} {cs ds : List AV} {us : List Value} (hb1 : (g L).head? = some b1) (hL : os[L]? = some (.rc cs)) (hl : k + ds.length ≤ cs.length) (hr : RepL (rdF X os g w) os g w ds us) (hone : ∀ u ∈ us, u.oneCell' = true) :
    ∃ w', (storeCells ⟨b1, k, none⟩ us).run P w = .ok () w' ∧ SRel X (os.set L (.rc (setCells cs k ds))) g w' ∧ Step X os g w (os.set L (.rc (setCells cs k ds))) g w' ∧ ∀ b : Nat, b ≠ b1 → w'.heap[b]? = w.heap[b]? := by
  have ho := h.obj L
  rw [hL] at ho
  obtain ⟨b2, p0, p1, cur, t, p3, p4, p5⟩ := ho
  obtain rfl : b2 = b1 := by rw [p0] at hb1; simpa using hb1
  have hlen : us.length = ds.length := hr.1
  have hrun := run_storeCells_at P b2 k t us 0 cur w p3 (by omega) hone
  simp only [Nat.add_zero] at hrun
  have hst := h.write (by simp [p0]) p1 hX (o' := .rc (setCells cs k ds)) hL trivial trivial (cur.toList.take k ++ us ++ cur.toList.drop (k + us.length)).toArray cur t p3 (by simp; omega) (.inr ⟨_, _, rfl, rfl⟩) fun hrd st => by
    refine ⟨b2, p0, p1, _, t, setRow_heap w b2 cur _ t _ p3, by rw [setCells_len hl]; simp; omega, fun j y hy => ?_⟩
    have hrl : RepL (rdF X os g w) os g w cs (cur.toList.take cs.length) := ⟨by simp; omega, fun i y hy => by
      obtain ⟨v, hv, hv2⟩ := p5 i y hy
      refine ⟨v, ?_, hv2⟩
      rw [List.getElem?_take, if_pos (lt_of_get hy)]
      simpa using hv⟩
    obtain ⟨u, hu, hu2⟩ := (hrl.splice hr k hl).2 j y hy
    refine ⟨u, ?_, st.repC hu2⟩
    have hjl : j < cs.length := by have := lt_of_get hy; rw [setCells_len hl] at this; exact this
    simp only [List.getElem?_toArray]
    rw [← hu]
    simp only [List.getElem?_append, List.length_append, List.length_take, List.getElem?_take, List.getElem?_drop, List.length_drop, Array.length_toList]
    have a1 : min k cur.size = k := by omega
    have a2 : min k (min cs.length cur.size) = k := by omega
    simp only [a1, a2]
    by_cases b1 : j < k + us.length
    · simp only [if_pos b1]
      by_cases b2 : j < k
      · simp only [if_pos b2]; rw [if_pos (by omega)]
      · simp only [if_neg b2]
    · simp only [if_neg b1]
      rw [if_pos (by omega)]
  exact ⟨_, hrun, hst.1, hst.2, fun b hb => setRow_other w b2 b _ hb⟩

theorem row_apart {i j s k m : Nat} (h : i ≠ j) (hk : k < s) (hm : m < s) : i * s + k ≠ j * s + m := by
  intro e
  rcases Nat.lt_or_gt_of_ne h with h' | h'
  · have := Nat.mul_le_mul_right s (show i + 1 ≤ j from h')
    rw [Nat.add_mul] at this
    omega
  · have := Nat.mul_le_mul_right s (show j + 1 ≤ i from h')
    rw [Nat.add_mul] at this
    omega

/-- A splice, cell by cell. -/
theorem splice_get {α : Type} (a b : List α) (o j : Nat) (h : o + b.length ≤ a.length) : (a.take o ++ b ++ a.drop (o + b.length))[j]? = if o ≤ j ∧ j < o + b.length then b[j - o]? else a[j]? := by
  simp only [List.getElem?_append, List.length_append, List.length_take, List.getElem?_take, List.getElem?_drop]
  have hm : min o a.length = o := by omega
  simp only [hm]
  by_cases h1 : j < o + b.length
  · by_cases h2 : j < o
    · simp only [if_pos h1, if_pos h2]; rw [if_neg (by omega)]
    · simp only [if_pos h1, if_neg h2]; rw [if_pos (by omega)]
  · simp only [if_neg h1]; rw [if_neg (by omega)]; congr 1; omega

theorem SRel.storeArr (h : SRel X os g w) (hX : X.Ok) {L i k s b1 : Nat} {xs : List (List AV)} {x0 ds : List AV} {us : List Value} (hb1 : (g L).head? = some b1) (hL : os[L]? = some (.arr true s xs)) (hx0 : xs[i]? = some x0) (hl : k + ds.length ≤ x0.length)
    (hlen : us.length = ds.length) (hr : ∀ (j : Nat) y, ds[j]? = some y → ∃ u, us[j]? = some u ∧ RepP (rdF X os g w) y u) (hone : ∀ u ∈ us, u.oneCell' = true) :
    ∃ w', (storeCells ⟨b1, i * s + k, none⟩ us).run P w = .ok () w' ∧ SRel X (os.set L (.arr true s (xs.set i (setCells x0 k ds)))) g w' ∧ Step X os g w (os.set L (.arr true s (xs.set i (setCells x0 k ds)))) g w' ∧
      ∀ b : Nat, b ≠ b1 → w'.heap[b]? = w.heap[b]? := by
  have ho := h.obj L
  rw [hL] at ho
  obtain ⟨p2, ⟨p0, p1⟩ | ⟨b2, p0, p1, cur, t, p3, p4, p5, p6⟩⟩ := ho
  · rw [p0] at hb1; cases hb1
  obtain rfl : b2 = b1 := by rw [p0] at hb1; simpa using hb1
  have hil : i < xs.length := lt_of_get hx0
  have hx0l : x0.length = s := p5 x0 (List.mem_of_getElem? hx0)
  have hroom : i * s + s ≤ cur.size := by
    have := Nat.mul_le_mul_right s (show i + 1 ≤ xs.length from hil)
    rw [Nat.add_mul] at this
    omega
  have hrun := run_storeCells_at P b2 (i * s + k) t us 0 cur w p3 (by omega) hone
  simp only [Nat.add_zero] at hrun
  have hst := h.write (by simp [p0]) p1 hX (o' := .arr true s (xs.set i (setCells x0 k ds))) hL trivial trivial (cur.toList.take (i * s + k) ++ us ++ cur.toList.drop (i * s + k + us.length)).toArray cur t p3 (by simp; omega) (.inl ⟨_, _, rfl, rfl, rfl, by simp⟩) fun hrd st => by
    refine ⟨p2, .inr ⟨b2, p0, p1, _, t, setRow_heap w b2 cur _ t _ p3, by simp; omega, fun x hx => ?_, fun i' k' x y hx hy => ?_⟩⟩
    · rcases List.mem_or_eq_of_mem_set hx with hx | hx
      · exact p5 x hx
      · rw [hx, setCells_len hl, hx0l]
    · simp only [List.getElem?_toArray]
      rw [splice_get _ _ _ _ (by simp; omega)]
      by_cases e : i = i'
      · subst e
        rw [List.getElem?_set_self hil] at hx
        cases hx
        have hk' : k' < s := by have := lt_of_get hy; rw [setCells_len hl, hx0l] at this; exact this
        unfold setCells at hy
        rw [splice_get _ _ _ _ hl] at hy
        by_cases c1 : k ≤ k' ∧ k' < k + ds.length
        · rw [if_pos c1] at hy
          rw [if_pos (by omega)]
          obtain ⟨u, hu, hu2⟩ := hr _ _ hy
          exact ⟨u, by rw [show i * s + k' - (i * s + k) = k' - k by omega]; exact hu, hu2.mono hrd⟩
        · rw [if_neg c1] at hy
          rw [if_neg (by omega)]
          obtain ⟨u, hu, hu2⟩ := p6 _ _ _ _ hx0 hy
          exact ⟨u, by simpa using hu, hu2.mono hrd⟩
      · rw [List.getElem?_set_ne e] at hx
        have hk' : k' < s := by have := lt_of_get hy; rw [p5 x (List.mem_of_getElem? hx)] at this; exact this
        rw [if_neg (by
          rintro ⟨c1, c2⟩
          have := row_apart (s := s) (k := k') (m := i' * s + k' - i * s) (Ne.symm e) hk' (by omega)
          omega)]
        obtain ⟨u, hu, hu2⟩ := p6 _ _ _ _ hx hy
        exact ⟨u, by simpa using hu, hu2.mono hrd⟩
  exact ⟨_, hrun, hst.1, hst.2, fun b hb => setRow_other w b2 b _ hb⟩

/-- Cells of an open row are written. -/
theorem SRel.storeN (h : SRel X os g w) (hX : X.Ok) {L i k s b1 : Nat} {xs : List (List AV)} {row ds : List AV} {us : List Value} (hb1 : (g L).head? = some b1) (hL : os[L]? = some (.nst s xs (some (i, row)))) (hl : k + ds.length ≤ row.length)
    (hr : RepL (rdF X os g w) os g w ds us) (hone : ∀ u ∈ us, u.oneCell' = true) :
    ∃ w', (storeCells ⟨b1, i * s + k, none⟩ us).run P w = .ok () w' ∧ SRel X (os.set L (.nst s xs (some (i, setCells row k ds)))) g w' ∧ Step X os g w (os.set L (.nst s xs (some (i, setCells row k ds)))) g w' ∧
      ∀ b : Nat, b ≠ b1 → w'.heap[b]? = w.heap[b]? := by
  have ho := h.obj L
  rw [hL] at ho
  obtain ⟨p2, ⟨_, _, h1⟩ | ⟨b2, nb, F, p0, p1, cur, t, p3, p4, p5, p6, p7, p8, p9, p10⟩⟩ := ho
  · cases h1
  obtain rfl : b2 = b1 := by rw [p0] at hb1; simpa using hb1
  obtain ⟨hil, hrl, q⟩ := p7 _ _ rfl
  have hroom : i * s + s ≤ cur.size := by
    have := Nat.mul_le_mul_right s (show i + 1 ≤ xs.length from hil)
    rw [Nat.add_mul] at this
    omega
  have hlen := hr.1
  have hrun := run_storeCells_at P b2 (i * s + k) t us 0 cur w p3 (by omega) hone
  simp only [Nat.add_zero] at hrun
  have hst := h.write (by simp [p0]) p1 hX (o' := .nst s xs (some (i, setCells row k ds))) hL trivial trivial (cur.toList.take (i * s + k) ++ us ++ cur.toList.drop (i * s + k + us.length)).toArray cur t p3 (by simp; omega) (.inl ⟨_, _, rfl, rfl, rfl, Nat.le_refl _⟩) fun hrd st => by
    refine ⟨p2, .inr ⟨b2, nb, F, p0, p1, _, t, setRow_heap w b2 cur _ t _ p3, by simp; omega, p5, fun i' k' x y hx hy hn => ?_, fun j row' e => ?_, p8, p9, p10⟩⟩
    · obtain ⟨v, hv, hc⟩ := p6 i' k' x y hx hy hn
      refine ⟨v, ?_, hc.mono hrd fun b' hb' => setRow_other w b2 b' _ fun e => p10.1 (e ▸ p8 i' k' b' hb')⟩
      have hk' : k' < s := by have := lt_of_get hy; rw [p5 x (List.mem_of_getElem? hx)] at this; exact this
      simp only [List.getElem?_toArray]
      rw [splice_get _ _ _ _ (by simp; omega), if_neg]
      · simpa using hv
      · rintro ⟨c1, c2⟩
        exact row_apart (i := i') (j := i) (m := i' * s + k' - i * s) hn hk' (by omega) (by omega)
    · cases e
      refine ⟨hil, by rw [setCells_len hl]; exact hrl, fun m y hy => ?_⟩
      unfold setCells at hy
      rw [splice_get _ _ _ _ hl] at hy
      simp only [List.getElem?_toArray]
      rw [splice_get _ _ _ _ (by simp; omega)]
      by_cases c1 : k ≤ m ∧ m < k + ds.length
      · rw [if_pos c1] at hy
        obtain ⟨u, hu, hu2⟩ := hr.2 _ _ hy
        refine ⟨u, ?_, st.repC hu2⟩
        rw [if_pos ⟨by omega, by omega⟩, show i * s + m - (i * s + k) = m - k by omega]; exact hu
      · rw [if_neg c1] at hy
        obtain ⟨v, hv, hr2⟩ := q m y hy
        refine ⟨v, ?_, st.repC hr2⟩
        rw [if_neg (by omega)]; simpa using hv
  exact ⟨_, hrun, hst.1, hst.2, fun b hb => setRow_other w b2 b _ hb⟩

end Go.AM
