/- Several texts in one. Conditions: none. -/
import Derived.Test.YtcnlhdaeeeolbaaDoorAmB2
import Derived.Laws.Externs
set_option linter.unusedSimpArgs false
set_option linter.unusedVariables false
section
/- Calls: what a callee may see, and what stands behind it. Conditions: none. -/
namespace Go.AM
open Go

variable {P : Program} {c : Cx} {X : Ctx} {os : List AO} {g : Nat → List Nat} {w : World}

/-- A function's call: of its body, or, where it has none, of what the machine gives for it. -/
def CallsX (P : Program) (f : Nat) (vals : Array Value) (w : World) (R : Ending → World → Prop) : Prop :=
  ∃ fn, P.funcs[f]? = some fn ∧ (fn.name == "runtime.NumGoroutine") = false ∧
    ((fn.body.isNone = false ∧ Calls P f vals w R) ∨ (fn.body.isNone = true ∧ Extern.findNext fn = none ∧ ∃ ent v w', Extern.find fn = some ent ∧ (ent vals).run P w = .ok v w' ∧ R (.returned v) w'))

theorem CallsX.mono {P : Program} {f : Nat} {vals : Array Value} {w : World} {R R' : Ending → World → Prop} (h : CallsX P f vals w R) (hR : ∀ e w', R e w' → R' e w') : CallsX P f vals w R' := by
  obtain ⟨fn, h1, h2, h3⟩ := h
  refine ⟨fn, h1, h2, h3.imp (fun h => ⟨h.1, Calls.mono h.2 fun e w' => hR e w'⟩) fun ⟨a, b, ent, v, w', c, d, e⟩ => ⟨a, b, ent, v, w', c, d, hR _ _ e⟩⟩

/-- What a function does. -/
def Con (P : Program) (c : Cx) (f : Nat) (vs : List AV) (σ : List AO) (post : AV → List AO → Prop) : Prop :=
  (∃ fn, P.funcs[f]? = some fn) ∧
  ∀ (X : Ctx) (vals : Array Value), X.Ok → X.os0 = σ → (∀ fn, P.funcs[f]? = some fn → X.nt = fn.ntmps) → SRel X σ X.g0 X.W → (∀ n, GOk (rdF X σ X.g0 X.W) (c.G n) n) →
    vals.size = vs.length → (∀ (i : Nat) y, vs[i]? = some y → ∃ u, vals[i]? = some u ∧ RepV (rdF X σ X.g0 X.W) σ X.g0 X.W y u) →
    CallsX P f vals X.W fun e w' => ∃ v x σ' g', e = .returned v ∧ post x σ' ∧ SRel X σ' g' w' ∧ Keeps σ X.g0 X.W σ' g' w' ∧ RepV (rdF X σ' g' w') σ' g' w' x v

/-- Ours, and whole: what can be shown. -/
def shO : Option AO → Prop
  | some (.arr true _ _) => True
  | some (.nst _ _ none) => True
  | _ => False

/-- The same objects, some of them given up. -/
def UnN (os os' : List AO) : Prop := os'.length = os.length ∧ ∀ L : Nat, os'[L]? = os[L]? ∨ ¬ isOwn os'[L]?

theorem UnN.refl (os : List AO) : UnN os os := ⟨rfl, fun _ => .inl rfl⟩
theorem UnN.trans {a b d : List AO} (h : UnN a b) (k : UnN b d) : UnN a d := by
  refine ⟨k.1.trans h.1, fun L => ?_⟩
  rcases k.2 L with k1 | k1
  · rcases h.2 L with h1 | h1
    · exact .inl (k1.trans h1)
    · exact .inr (by rw [k1]; exact h1)
  · exact .inr k1
theorem UnN.own {os os' : List AO} (h : UnN os os') {L : Nat} (hw : own os' L) : own os L := by
  unfold AM.own at hw ⊢
  rcases h.2 L with h1 | h1
  · rw [h1] at hw; exact hw
  · exact absurd hw h1

/-- The callee's activation. -/
def sub (X : Ctx) (os os1 : List AO) (g : Nat → List Nat) (w : World) (lend shown : List Nat) (nt : Nat) : Ctx where
  W := w
  V := fun b => b < w.heap.size ∧ vis X b ∧ (∀ L ∈ lend, b ∉ g L) ∧ (¬ ownB os1 g b ∨ ∃ L ∈ shown, shO os1[L]? ∧ b ∈ g L)
  K := fun b => ∃ L ∈ lend, b ∈ g L
  nt := nt
  os0 := viewS lend os
  g0 := viewG lend os g

theorem cell_lt {b o : Nat} {v : Value} (h : w.cell? ⟨b, o, none⟩ = some v) : b < w.heap.size := by
  rcases Nat.lt_or_ge b w.heap.size with h' | h'
  · exact h'
  · simp [World.cell?, Array.getElem?_eq_none h'] at h

section entry
variable {os1 : List AO} {lend shown : List Nat} {nt : Nat}

theorem sub_ok (h : SRel X os g w) (hl : ∀ L ∈ lend, own os L) : (sub X os os1 g w lend shown nt).Ok where
  v := fun b hb => ⟨hb.1, fun ⟨L, hL, e⟩ => hb.2.2.1 L hL e⟩
  k := fun b ⟨L, hL, e⟩ => h.bnd L (hl L hL) b e

theorem entry_ok (h : SRel X os g w) (hn : lend.Nodup) (hl : ∀ L ∈ lend, own os L) (hU : UnN os os1) (hsh : ∀ L ∈ lend, ∀ o, os[L]? = some o → ∀ y ∈ o.row, ∀ M ∈ shownC lend y, M ∈ shown) (hnot : ∀ L ∈ shown, L ∉ lend) :
    SRel (sub X os os1 g w lend shown nt) (viewS lend os) (viewG lend os g) w ∧
    (∀ b o v, rdF X os g w b o = some v → rdF (sub X os os1 g w lend shown nt) (viewS lend os) (viewG lend os g) w b o = some v) ∧
    (∀ L ∈ shown, ∀ o s xs, os[L]? = some o → o.fzr = some (s, xs) → ∀ b, (g L).head? = some b → Row (rdF (sub X os os1 g w lend shown nt) (viewS lend os) (viewG lend os g) w) b 0 s xs) := by
  have hu : ∀ L, own os1 L → own os L := fun L => hU.own
  have hm : ∀ b o v, rdF X os g w b o = some v → rdF (sub X os os1 g w lend shown nt) (viewS lend os) (viewG lend os g) w b o = some v := by
    intro b o v hr
    rw [rdF_some] at hr ⊢
    obtain ⟨r1, r2, r3⟩ := hr
    refine ⟨.inl ⟨cell_lt r3, r1, fun L hL e => r2 ⟨L, hl L hL, e⟩, .inl ?_⟩, ?_, r3⟩
    · rintro ⟨L, hL, e⟩; exact r2 ⟨L, hu L hL, e⟩
    · rintro ⟨j, hj, e⟩
      obtain ⟨L, hL, ho, e⟩ := own_viewB hj e
      exact r2 ⟨L, ho, e⟩
  have hrow : ∀ L ∈ shown, ∀ o s xs, os[L]? = some o → o.fzr = some (s, xs) → ∀ b, (g L).head? = some b → Row (rdF (sub X os os1 g w lend shown nt) (viewS lend os) (viewG lend os g) w) b 0 s xs := by
    intro L hL o s xs he ef b hb
    have ho := h.obj L
    rw [he] at ho
    have hrd : own os L → shO os[L]? → ∀ b' ∈ g L, ∀ o v, wr X b' → w.cell? ⟨b', o, none⟩ = some v → rdF (sub X os os1 g w lend shown nt) (viewS lend os) (viewG lend os g) w b' o = some v := by
      intro hown hs b' hb' o v p1 hv
      refine rdF_some.2 ⟨.inl ⟨h.bnd L hown b' hb', p1.vis, fun M hM e => hnot L hL (h.inj M L (hl M hM) hown b' e hb' ▸ hM), ?_⟩, ?_, hv⟩
      · rcases hU.2 L with e | e
        · exact .inr ⟨L, hL, by rw [e]; exact hs, hb'⟩
        · refine .inl ?_
          rintro ⟨M, hM, e2⟩
          obtain rfl := h.inj M L (hu M hM) hown b' e2 hb'
          exact e hM
      · rintro ⟨j, hj, e⟩
        obtain ⟨M, hM, hom, e⟩ := own_viewB hj e
        exact hnot L hL (h.inj M L hom hown b' e hb' ▸ List.mem_of_getElem? hM)
    cases o with
    | arr ow s0 xs0 =>
      simp only [AO.fzr, Option.some.injEq, Prod.mk.injEq] at ef
      obtain ⟨rfl, rfl⟩ := ef
      cases ow with
      | false => exact Row.mono hm (ho b hb)
      | true =>
        have hown : own os L := by unfold own; rw [he]; trivial
        obtain ⟨p2, ⟨p0, p1⟩ | ⟨b2, p0, p1, c, t, p3, p4, p5, p6⟩⟩ := ho
        · rw [p0] at hb; cases hb
        obtain rfl : b2 = b := by rw [p0] at hb; simpa using hb
        refine ⟨p5, fun i k x y hx hy => ?_⟩
        obtain ⟨v, hv, hr⟩ := p6 i k x y hx hy
        exact ⟨v, hrd hown (by rw [he]; trivial) b2 (by simp [p0]) _ _ p1 (by rw [Nat.zero_add, cell_of_row w b2 _ c t (0, 0) p3]; simpa using hv), hr.mono hm⟩
    | nst s0 xs0 op =>
      cases op with
      | some q => cases ef
      | none =>
        simp only [AO.fzr, Option.some.injEq, Prod.mk.injEq] at ef
        obtain ⟨rfl, rfl⟩ := ef
        have hown : own os L := by unfold own; rw [he]; trivial
        have hs : shO os[L]? := by rw [he]; trivial
        obtain ⟨p2, ⟨p0, p1, _⟩ | ⟨b2, nb, F, p0, p1, c, t, p3, p4, p5, p6, p7, p8, p9, p10⟩⟩ := ho
        · rw [p0] at hb; cases hb
        obtain rfl : b2 = b := by rw [p0] at hb; simpa using hb
        exact Row.freeze hm p5 (fun o v hv => hrd hown hs b2 (by simp [p0]) o v p1 (by rw [cell_of_row w b2 _ c t (0, 0) p3]; simpa using hv))
          (fun i k b' hb' o v hw hv => hrd hown hs b' (by simp [p0, p8 i k b' hb']) o v hw hv) fun i k x y hx hy => p6 i k x y hx hy id
    | rc cs => cases ef
    | dead => cases ef
  refine ⟨⟨rfl, rfl, rfl, Nat.le_refl _, fun _ _ _ => rfl, fun j hj b hb => ?_, fun i j hi hj b e f => ?_, fun j => ?_⟩, hm, hrow⟩
  · obtain ⟨L, hL, ho, hb⟩ := own_viewB hj hb
    exact h.bnd L ho b hb
  · obtain ⟨L, hL, ho, e⟩ := own_viewB hi e
    obtain ⟨M, hM, hp, f⟩ := own_viewB hj f
    have := h.inj L M ho hp b e f
    subst this
    exact nodup_get hn hL hM
  · cases hk : lend[j]? with
    | none => rw [viewS_get, hk]; trivial
    | some L =>
      have hm2 := List.mem_of_getElem? hk
      exact OOk.view hm (fun j L o => viewG_get) (fun j L => viewG_none) hk (fun _ b hb => .inl ⟨L, hm2, hb⟩) (fun o ho y hy M hM o s xs he => hrow M (hsh L hm2 _ ho y hy M hM) o s xs he) (h.obj L)
end entry

theorem putAll_len : ∀ (lend : List Nat) (l os : List AO), (putAll os lend l).length = os.length
  | [], l, os => by cases l <;> rfl
  | a :: r, [], os => rfl
  | a :: r, o :: l, os => by simp only [putAll]; rw [putAll_len r l]; simp

theorem putAll_not : ∀ (lend : List Nat) (l os : List AO) {L : Nat}, L ∉ lend → (putAll os lend l)[L]? = os[L]?
  | [], l, os, _, _ => by cases l <;> rfl
  | a :: r, [], os, _, _ => rfl
  | a :: r, o :: l, os, L, h => by
    simp only [List.mem_cons, not_or] at h
    simp only [putAll]; rw [putAll_not r l _ h.2, set_other (Ne.symm h.1)]

theorem putAll_get : ∀ (lend : List Nat) (l os : List AO) {j L : Nat}, lend.Nodup → lend.length ≤ l.length → lend[j]? = some L → L < os.length → (putAll os lend l)[L]? = l[j]?
  | [], l, os, j, L, _, _, h, _ => by simp at h
  | a :: r, [], os, j, L, _, h, _, _ => by simp at h
  | a :: r, o :: l, os, j, L, hn, hl, h, hL => by
    have hn' := List.nodup_cons.1 hn
    simp only [putAll]
    cases j with
    | zero =>
      simp only [List.getElem?_cons_zero, Option.some.injEq] at h
      subst h
      rw [putAll_not r l _ hn'.1, set_get, if_pos rfl, if_pos hL]; rfl
    | succ j =>
      rw [putAll_get r l _ hn'.2 (by simpa using hl) (by simpa using h) (by simpa using hL)]; rfl

section merged
variable {lend : List Nat} {σ' : List AO}

theorem merge_old {L : Nat} (hL : L < os.length) (h : L ∉ lend) : (merge lend os σ')[L]? = os[L]? := by
  unfold merge
  rw [List.getElem?_append_left (by rw [putAll_len]; exact hL), putAll_not _ _ _ h]

theorem merge_lent {j L : Nat} (hn : lend.Nodup) (hl : lend.length ≤ σ'.length) (hj : lend[j]? = some L) (hL : L < os.length) : (merge lend os σ')[L]? = (σ'[j]?).map (renO (backN lend os.length)) := by
  unfold merge
  rw [List.getElem?_append_left (by rw [putAll_len]; exact hL), putAll_get _ _ _ hn (by simpa using hl) hj hL, List.getElem?_map]

theorem merge_new {L : Nat} (hL : os.length ≤ L) : (merge lend os σ')[L]? = (σ'[lend.length + (L - os.length)]?).map (renO (backN lend os.length)) := by
  unfold merge
  rw [List.getElem?_append_right (by rw [putAll_len]; exact hL), putAll_len, List.getElem?_map, List.getElem?_drop]

theorem merge_ren (hn : lend.Nodup) (hl : lend.length ≤ σ'.length) (hlt : ∀ L ∈ lend, L < os.length) (j : Nat) : (merge lend os σ')[backN lend os.length j]? = (σ'[j]?).map (renO (backN lend os.length)) := by
  unfold backN
  cases hj : lend[j]? with
  | some L => exact merge_lent hn hl hj (hlt L (List.mem_of_getElem? hj))
  | none =>
    have hge : lend.length ≤ j := by
      rcases Nat.lt_or_ge j lend.length with h | h
      · rw [List.getElem?_eq_getElem h] at hj; cases hj
      · exact h
    simp only
    rw [merge_new (by omega)]
    congr 2; omega

theorem merge_len : (merge lend os σ').length = os.length + (σ'.length - lend.length) := by simp [merge, putAll_len]
end merged

theorem RepP.noFz {rd rd' : Nat → Nat → Option Value} {y : AV} {v : Value} (h : RepP rd y v) (hn : noFzC y) : RepP rd' y v := by
  cases h with
  | sc hv => exact .sc hv
  | nil => exact .nil
  | fz f hc hs h1 h2 => obtain rfl := (show _ = [] from hn); exact .nil

theorem RepP.noFz0 {rd rd' : Nat → Nat → Option Value} {y : AV} {v : Value} (h : RepP rd y v) (hn : noFz0 y) : RepP rd' y v := by
  cases h with
  | sc hv => exact .sc hv
  | nil => exact .nil
  | fz f hc hs h1 h2 => obtain rfl := (show _ = [] from hn); exact .nil

theorem RepC.ren {rd rd' : Nat → Nat → Option Value} {osN : List AO} {σ' : List AO} {g2 gN : Nat → List Nat} {f : Nat → Nat} (hr : ∀ j, osN[f j]? = (σ'[j]?).map (renO f)) (hg : ∀ j o, σ'[j]? = some o → o ≠ .dead → gN (f j) = g2 j)
    {y : AV} {v : Value} (hm : (∀ b o v, rd b o = some v → rd' b o = some v) ∨ noFzC y) (h : RepC rd σ' g2 w y v) : RepC rd' osN gN w (renC f y) v := by
  cases y with
  | sc u => exact h
  | fz s xs =>
    rcases hm with hm | hm
    · exact RepP.mono hm h
    · exact RepP.noFz (y := .fz s xs) h hm
  | fp s xs i k =>
    rcases hm with hm | hm
    · obtain ⟨b, o, hv, hr⟩ := h; exact ⟨b, o, hv, hr.mono hm⟩
    · exact hm.elim
  | sl L off n =>
    simp only [RepC, renC, hr] at h ⊢
    cases hL : σ'[L]? with
    | none => rw [hL] at h; exact h
    | some o =>
      rw [hL] at h
      cases o with
      | arr ow s xs => simp only [Option.map_some, renO, hg L _ hL (by simp)]; exact h
      | nst s xs op => cases op <;> (simp only [Option.map_some, renO, hg L _ hL (by simp)]; exact h)
      | rc cs => trivial
      | dead => trivial
  | pa L i k =>
    simp only [RepC, renC, hr] at h ⊢
    cases hL : σ'[L]? with
    | none => rw [hL] at h; exact h.elim
    | some o =>
      rw [hL] at h
      cases o with
      | arr ow s xs => simp only [Option.map_some, renO, hg L _ hL (by simp)]; exact h
      | nst s xs op => cases op <;> (simp only [Option.map_some, renO, hg L _ hL (by simp)]; exact h)
      | rc cs => trivial
      | dead => trivial
  | clo n ps =>
    obtain ⟨arr, h1, h2⟩ := h
    refine ⟨arr, h1, h2.mono (by simp) fun i p q v e1 e2 c => ?_⟩
    rw [List.getElem?_map, e1] at e2
    cases e2
    unfold RepPt at c ⊢
    simp only [hr]
    cases hL : σ'[p.1]? with
    | none => rw [hL] at c; exact c.elim
    | some o =>
      rw [hL] at c
      cases o with
      | arr ow s xs => trivial
      | nst s xs op => cases op <;> trivial
      | rc cs => simp only [Option.map_some, renO, hg p.1 _ hL (by simp)]; exact c
      | dead => trivial
  | pt L k =>
    simp only [RepC, renC, hr] at h ⊢
    cases hL : σ'[L]? with
    | none => rw [hL] at h; exact h.elim
    | some o =>
      rw [hL] at h
      cases o with
      | arr ow s xs => trivial
      | nst s xs op => cases op <;> trivial
      | rc cs => simp only [Option.map_some, renO, hg L _ hL (by simp)]; exact h
      | dead => trivial
  | junk => trivial
  | own => trivial
  | agg cs => exact h.elim
  | tup cs => exact h.elim
  | opt b x => exact h.elim

theorem allP_get {α : Type} {p : α → Prop} {l : List α} (h : allP p l) {i : Nat} {x : α} (hx : l[i]? = some x) : p x := allP_mem h x (List.mem_of_getElem? hx)

theorem RepA.ren {rd rd' : Nat → Nat → Option Value} {osN : List AO} {σ' : List AO} {g2 gN : Nat → List Nat} {f : Nat → Nat} (hr : ∀ j, osN[f j]? = (σ'[j]?).map (renO f)) (hg : ∀ j o, σ'[j]? = some o → o ≠ .dead → gN (f j) = g2 j)
    {y : AV} {v : Value} (hm : (∀ b o v, rd b o = some v → rd' b o = some v) ∨ noFzA y) (h : RepA rd σ' g2 w y v) : RepA rd' osN gN w (renA f y) v := by
  cases y with
  | agg cs =>
    obtain ⟨vs, hv, hl, hp⟩ := h
    refine ⟨vs, hv, by simpa using hl, fun i y hy => ?_⟩
    rw [List.getElem?_map] at hy
    cases hc : cs[i]? with
    | none => rw [hc] at hy; cases hy
    | some y0 =>
      rw [hc] at hy; cases hy
      obtain ⟨u, hu, hp2⟩ := hp i y0 hc
      exact ⟨u, hu, RepC.ren hr hg (hm.imp id fun hm => allP_get hm hc) hp2⟩
  | tup => exact h.elim
  | opt => exact h.elim
  | sc => exact (RepC.ren hr hg (y := .sc _) hm h).toA
  | fz => exact (RepC.ren hr hg (y := .fz _ _) hm h).toA
  | fp => exact (RepC.ren hr hg (y := .fp _ _ _ _) hm h).toA
  | sl => exact (RepC.ren hr hg (y := .sl _ _ _) hm h).toA
  | pa => exact (RepC.ren hr hg (y := .pa _ _ _) hm h).toA
  | pt => exact (RepC.ren hr hg (y := .pt _ _) hm h).toA
  | clo => exact (RepC.ren hr hg (y := .clo _ _) hm h).toA
  | own => trivial
  | junk => trivial

theorem RepV.ren {rd rd' : Nat → Nat → Option Value} {osN : List AO} {σ' : List AO} {g2 gN : Nat → List Nat} {f : Nat → Nat} (hr : ∀ j, osN[f j]? = (σ'[j]?).map (renO f)) (hg : ∀ j o, σ'[j]? = some o → o ≠ .dead → gN (f j) = g2 j)
    {y : AV} {v : Value} (hm : (∀ b o v, rd b o = some v → rd' b o = some v) ∨ noFzV y) (h : RepV rd σ' g2 w y v) : RepV rd' osN gN w (renV f y) v := by
  cases y with
  | tup cs =>
    obtain ⟨vs, hv, hl, hp⟩ := h
    refine ⟨vs, hv, by simpa using hl, fun i y hy => ?_⟩
    rw [List.getElem?_map] at hy
    cases hc : cs[i]? with
    | none => rw [hc] at hy; cases hy
    | some y0 =>
      rw [hc] at hy; cases hy
      obtain ⟨u, hu, hp2⟩ := hp i y0 hc
      exact ⟨u, hu, RepA.ren hr hg (hm.imp id fun hm => allP_get hm hc) hp2⟩
  | opt b x => exact ⟨fun hb => RepA.ren hr hg (y := x) hm (h.1 hb), h.2⟩
  | agg cs => exact (RepA.ren hr hg (y := .agg cs) hm h).toV
  | sc => exact (RepC.ren hr hg (y := .sc _) hm h).toV
  | fz => exact (RepC.ren hr hg (y := .fz _ _) hm h).toV
  | fp => exact (RepC.ren hr hg (y := .fp _ _ _ _) hm h).toV
  | sl => exact (RepC.ren hr hg (y := .sl _ _ _) hm h).toV
  | pa => exact (RepC.ren hr hg (y := .pa _ _ _) hm h).toV
  | pt => exact (RepC.ren hr hg (y := .pt _ _) hm h).toV
  | clo => exact (RepC.ren hr hg (y := .clo _ _) hm h).toV
  | own => trivial
  | junk => trivial

def backG (lend : List Nat) (n : Nat) (g g2 : Nat → List Nat) : Nat → List Nat := fun M => if M < n then (match pos lend M with | some j => g2 j | none => g M) else g2 (lend.length + (M - n))

theorem isOwn_renO {f : Nat → Nat} {o : Option AO} (h : isOwn (o.map (renO f))) : isOwn o := by
  cases o with
  | none => exact h
  | some o =>
    cases o with
    | arr b s xs => cases b <;> exact h
    | nst s xs op => trivial
    | rc cs => trivial
    | dead => exact h

theorem al_renO {f : Nat → Nat} {o : AO} : (renO f o).al = o.al := by
  cases o with
  | nst s xs op => cases op <;> rfl
  | _ => rfl

theorem pos_nodup {ks : List Nat} (hn : ks.Nodup) {j L : Nat} (h : ks[j]? = some L) : pos ks L = some j := by
  obtain ⟨i, hi⟩ := pos_mem (List.mem_of_getElem? h)
  rw [hi, nodup_get hn (pos_some hi) h]

theorem back_ok (h : SRel X os g w) {os1 : List AO} (h1 : SRel X os1 g w) (hlen : os1.length = os.length) {lend shown : List Nat} {nt : Nat} (hn : lend.Nodup) (hl : ∀ L ∈ lend, own os1 L ∧ os1[L]? = os[L]?) {σ' : List AO} {g2 : Nat → List Nat} {w' : World}
    (k : SRel (sub X os os1 g w lend shown nt) σ' g2 w') (kk : Keeps (viewS lend os) (viewG lend os g) w σ' g2 w') {x : AV} {v : Value} (hx : RepV (rdF (sub X os os1 g w lend shown nt) σ' g2 w') σ' g2 w' x v)
    (hE : (∀ L ∈ shown, ¬ shO os1[L]?) ∨ (noFzV x ∧ allP noFzO σ')) :
    SRel X (merge lend os1 σ') (backG lend os1.length g g2) w' ∧ Step X os1 g w (merge lend os1 σ') (backG lend os1.length g g2) w' ∧
    RepV (rdF X (merge lend os1 σ') (backG lend os1.length g g2) w') (merge lend os1 σ') (backG lend os1.length g g2) w' (renV (backN lend os1.length) x) v ∧
    Loc os1 g w (merge lend os1 σ') (backG lend os1.length g g2) w' lend := by
  have hσl : lend.length ≤ σ'.length := by have := kk.len; simpa [viewS] using this
  have hlt : ∀ L ∈ lend, L < os1.length := fun L hL => own_lt (hl L hL).1
  have hren := merge_ren (os := os1) hn hσl hlt
  have hgr : ∀ j o, σ'[j]? = some o → o ≠ .dead → backG lend os1.length g g2 (backN lend os1.length j) = g2 j := by
    intro j o ho hd
    unfold backN backG
    cases hj : lend[j]? with
    | some L => simp only [if_pos (hlt L (List.mem_of_getElem? hj)), pos_nodup hn hj]
    | none =>
      have hge : lend.length ≤ j := by
        rcases Nat.lt_or_ge j lend.length with h | h
        · rw [List.getElem?_eq_getElem h] at hj; cases hj
        · exact h
      simp only
      rw [if_neg (by omega)]
      congr 1; omega
  have hgo : ∀ M, M < os1.length → M ∉ lend → backG lend os1.length g g2 M = g M := by
    intro M hM hm
    unfold backG
    cases hp : pos lend M with
    | some j => exact absurd (List.mem_of_getElem? (pos_some hp)) hm
    | none => simp only [if_pos hM]
  -- whose it is
  have hown : ∀ M, own (merge lend os1 σ') M → (M < os1.length ∧ M ∉ lend ∧ own os1 M ∧ backG lend os1.length g g2 M = g M) ∨ ∃ j, M = backN lend os1.length j ∧ own σ' j ∧ backG lend os1.length g g2 M = g2 j := by
    intro M hM
    have key : ∀ j, M = backN lend os1.length j → ∃ j, M = backN lend os1.length j ∧ own σ' j ∧ backG lend os1.length g g2 M = g2 j := by
      intro j e
      subst e
      unfold own at hM
      rw [hren j] at hM
      have ho := isOwn_renO hM
      refine ⟨j, rfl, ho, ?_⟩
      cases hj : σ'[j]? with
      | none => rw [hj] at ho; exact ho.elim
      | some o => exact hgr j o hj (fun e => by rw [hj, e] at ho; exact ho.elim)
    by_cases hML : M < os1.length
    · by_cases hm : M ∈ lend
      · obtain ⟨j, hj, e⟩ := List.mem_iff_getElem.1 hm
        refine .inr (key j ?_)
        unfold backN
        rw [List.getElem?_eq_getElem hj]; exact e.symm
      · unfold own at hM
        rw [merge_old hML hm] at hM
        exact .inl ⟨hML, hm, hM, hgo M hML hm⟩
    · refine .inr (key (lend.length + (M - os1.length)) ?_)
      unfold backN
      rw [List.getElem?_eq_none (by omega)]
      simp only; omega
  have hsame : ∀ b, b < w.heap.size → (∀ L ∈ lend, b ∉ g L) → w'.heap[b]? = w.heap[b]? := fun b hb hne => k.same b hb (fun ⟨L, hL, e⟩ => hne L hL e)
  have hblk : ∀ j, own σ' j → ∀ b ∈ g2 j, (∃ L ∈ lend, b ∈ g L) ∨ w.heap.size ≤ b := fun j hj => own_wr k hj
  have hoth : ∀ M, own os1 M → M ∉ lend → ∀ L ∈ lend, ∀ b ∈ g M, b ∉ g L := fun M hM hm L hL b hb e => hm (h1.inj L M (hl L hL).1 hM b e hb ▸ hL)
  -- what reads as it did for good
  have hA : ∀ b o v, rdF X os1 g w b o = some v → rdF X (merge lend os1 σ') (backG lend os1.length g g2) w' b o = some v := by
    intro b o v hr
    rw [rdF_some] at hr ⊢
    obtain ⟨r1, r2, r3⟩ := hr
    have hb := cell_lt r3
    refine ⟨r1, ?_, ?_⟩
    · rintro ⟨M, hM, e⟩
      rcases hown M hM with ⟨m1, m2, m3, m4⟩ | ⟨j, m1, m2, m3⟩
      · exact r2 ⟨M, m3, m4 ▸ e⟩
      · rcases hblk j m2 b (m3 ▸ e) with ⟨L, hL, e2⟩ | e2
        · exact r2 ⟨L, (hl L hL).1, e2⟩
        · omega
    · rw [cell_heap (hsame b hb fun L hL e => r2 ⟨L, (hl L hL).1, e⟩)]; exact r3
  have hB : (∀ L ∈ shown, ¬ shO os1[L]?) → ∀ b o v, rdF (sub X os os1 g w lend shown nt) σ' g2 w' b o = some v → rdF X (merge lend os1 σ') (backG lend os1.length g g2) w' b o = some v := by
    intro hs b o v hr
    rw [rdF_some] at hr ⊢
    obtain ⟨r1, r2, r3⟩ := hr
    refine ⟨?_, ?_, r3⟩
    · rcases r1 with r1 | ⟨L, hL, e⟩ | r1
      · exact r1.2.1
      · exact (own_wr h1 (hl L hL).1 b e).vis
      · exact .inr (.inr (Nat.le_trans h.size r1))
    · rintro ⟨M, hM, e⟩
      rcases hown M hM with ⟨m1, m2, m3, m4⟩ | ⟨j, m1, m2, m3⟩
      · rw [m4] at e
        rcases r1 with r1 | ⟨L, hL, e2⟩ | r1
        · rcases r1.2.2.2 with r4 | ⟨L, hL, ho, _⟩
          · exact r4 ⟨M, m3, e⟩
          · exact hs L hL ho
        · exact hoth M m3 m2 L hL b e e2
        · have := h1.bnd M m3 b e
          exact absurd this (Nat.not_lt.2 r1)
      · exact r2 ⟨j, m2, m3 ▸ e⟩
  have hstep : Step X os1 g w (merge lend os1 σ') (backG lend os1.length g g2) w' := by
    -- an old object: it is as it was, or it is lent
    have hcase : ∀ {L : Nat} {o o' : AO}, os1[L]? = some o → (merge lend os1 σ')[L]? = some o' → (o' = o ∧ backG lend os1.length g g2 L = g L) ∨ ∃ j q, lend[j]? = some L ∧ (viewS lend os)[j]? = some (viewO lend os o) ∧ viewG lend os g j = g L ∧ σ'[j]? = some q ∧ o' = renO (backN lend os1.length) q ∧ backG lend os1.length g g2 L = g2 j := by
      intro L o o' e1 e2
      have hL := lt_of_get e1
      by_cases hm : L ∈ lend
      · obtain ⟨j, hj, e⟩ := List.mem_iff_getElem.1 hm
        have hj' : lend[j]? = some L := by rw [List.getElem?_eq_getElem hj, e]
        rw [merge_lent hn hσl hj' hL] at e2
        cases hq : σ'[j]? with
        | none => rw [hq] at e2; cases e2
        | some q =>
          rw [hq] at e2; cases e2
          exact .inr ⟨j, q, hj', viewS_some hj' (by rw [← (hl L hm).2]; exact e1), viewG_get hj' (by rw [← (hl L hm).2]; exact e1), hq, rfl, by simp only [backG, if_pos hL, pos_nodup hn hj']⟩
      · rw [merge_old hL hm, e1] at e2; cases e2
        exact .inl ⟨rfl, hgo L hL hm⟩
    refine ⟨by rw [merge_len]; omega, ?_, ?_, ?_, ?_, ?_, hA, kk.rm⟩
    · intro L o o' a a' e1 e2 f1 f2
      rcases hcase e1 e2 with ⟨e, e3⟩ | ⟨j, q, j1, j2, j3, j4, rfl, j6⟩
      · subst e; rw [f1] at f2; cases f2; exact ⟨rfl, Nat.le_refl _, by rw [e3]⟩
      · rw [al_renO] at f2
        obtain ⟨q1, q2, q3⟩ := kk.arr _ _ _ _ _ j2 j4 (by rw [al_viewO]; exact f1) f2
        exact ⟨q1, q2, by rw [j6, q3, j3]⟩
    · intro L cs cs' e1 e2
      rcases hcase e1 e2 with ⟨e, e3⟩ | ⟨j, q, j1, j2, j3, j4, j5, j6⟩
      · exact e3
      · cases q with
        | rc cs2 => rw [j6, kk.rc _ _ _ j2 j4, j3]
        | arr => cases j5
        | nst _ _ op => cases op <;> cases j5
        | dead => cases j5
    · intro L o a cs' e1 f1 e2
      rcases hcase e1 e2 with ⟨e, e3⟩ | ⟨j, q, j1, j2, j3, j4, j5, _⟩
      · subst e; cases f1
      · cases q with
        | arr b z zs => cases j5
        | nst _ _ op => cases op <;> cases j5
        | rc cs => exact kk.rcArr _ _ _ _ j2 (by rw [al_viewO]; exact f1) j4
        | dead => cases j5
    · intro L cs o a e1 e2 f2
      rcases hcase e1 e2 with ⟨e, e3⟩ | ⟨j, q, j1, j2, j3, j4, rfl, _⟩
      · subst e; cases f2
      · rw [al_renO] at f2
        exact kk.arrRc _ _ _ _ j2 j4 f2
    · intro L e1
      have hm : L ∉ lend := fun hm => by have := (hl L hm).1; unfold own at this; rw [e1] at this; exact this.elim
      rw [merge_old (lt_of_get e1) hm]; exact e1
  have hmono : ∀ (p : Prop), (∀ L ∈ shown, ¬ shO os1[L]?) ∨ p → (∀ b o v, rdF (sub X os os1 g w lend shown nt) σ' g2 w' b o = some v → rdF X (merge lend os1 σ') (backG lend os1.length g g2) w' b o = some v) ∨ p := fun p hp => hp.imp hB id
  have hrelC : ∀ {y : AV} {u : Value}, ((∀ L ∈ shown, ¬ shO os1[L]?) ∨ noFzC y) → RepC (rdF (sub X os os1 g w lend shown nt) σ' g2 w') σ' g2 w' y u →
      RepC (rdF X (merge lend os1 σ') (backG lend os1.length g g2) w') (merge lend os1 σ') (backG lend os1.length g g2) w' (renC (backN lend os1.length) y) u :=
    fun hp hr => RepC.ren hren hgr (hmono _ hp) hr
  have hobj : ∀ j, OOk X (merge lend os1 σ') (backG lend os1.length g g2) w' (backN lend os1.length j) (merge lend os1 σ')[backN lend os1.length j]? := by
    intro j
    rw [hren j]
    have hk := k.obj j
    cases hj : σ'[j]? with
    | none => trivial
    | some o =>
      rw [hj] at hk
      have hwr : isOwn (some o) → ∀ b ∈ g2 j, wr X b := fun ho b hb => by
        have hoj : own σ' j := by unfold own; rw [hj]; exact ho
        rcases hblk j hoj b hb with ⟨L, hL, e⟩ | e
        · exact own_wr h1 (hl L hL).1 b e
        · exact .inr (Nat.le_trans h.size e)
      have hgj : o ≠ .dead → backG lend os1.length g g2 (backN lend os1.length j) = g2 j := hgr j o hj
      cases o with
      | arr b s xs =>
        cases b with
        | true =>
          obtain ⟨p2, ⟨p0, p1⟩ | ⟨b2, p0, p1, cc, t, p3, p4, p5, p6⟩⟩ := hk
          · exact ⟨p2, .inl ⟨(hgj (by simp)).trans p0, p1⟩⟩
          refine ⟨p2, .inr ⟨b2, (hgj (by simp)).trans p0, hwr trivial b2 (by simp [p0]), cc, t, p3, p4, p5, fun i q x y hx hy => ?_⟩⟩
          obtain ⟨u, hu, hr⟩ := p6 i q x y hx hy
          refine ⟨u, hu, ?_⟩
          rcases hE with hE | hE
          · exact hr.mono (hB hE)
          · have := allP_get hE.2 hj; exact hr.noFz (allP_get (allP_get this hx) hy)
        | false =>
          rcases hE with hE | hE
          · intro b hb
            rw [hgj (by simp)] at hb
            exact Row.mono (hB hE) (hk b hb)
          · exact (allP_get hE.2 hj : False).elim
      | rc cs =>
        obtain ⟨b2, p0, p1, cc, t, p3, p4, p6⟩ := hk
        refine ⟨b2, (hgj (by simp)).trans p0, hwr trivial b2 (by simp [p0]), cc, t, p3, by simpa using p4, fun q y hy => ?_⟩
        rw [List.getElem?_map] at hy
        cases hc : cs[q]? with
        | none => rw [hc] at hy; cases hy
        | some y0 =>
          rw [hc] at hy; cases hy
          obtain ⟨u, hu, hr⟩ := p6 q y0 hc
          exact ⟨u, hu, hrelC (hE.imp id fun hE => allP_get (show allP noFzC cs from allP_get (p := noFzO) hE.2 hj) hc) hr⟩
      | nst s xs op =>
        obtain ⟨p2, ⟨p0, p1, rfl⟩ | ⟨b2, nb, F, p0, p1, cc, t, p3, p4, p5, p6, p7, p8, p9, p10⟩⟩ := hk
        · exact ⟨p2, .inl ⟨(hgj (by simp)).trans p0, p1, rfl⟩⟩
        have hw2 := hwr trivial b2 (by simp [p0])
        have hnb : ∀ b' ∈ nb, wr X b' := fun b' hb' => hwr trivial b' (by simp [p0, hb'])
        have hc : ∀ {i q : Nat} {x : List AV} {y : AV} {u : Value}, xs[i]? = some x → x[q]? = some y → CellN (rdF (sub X os os1 g w lend shown nt) σ' g2 w') (sub X os os1 g w lend shown nt) w' (F i q) y u →
            CellN (rdF X (merge lend os1 σ') (backG lend os1.length g g2) w') X w' (F i q) y u := by
          intro i q x y u hx hy hr
          rcases hE with hE | hE
          · exact hr.to (hB hE) (fun _ _ => rfl) fun b' hb' _ => hnb b' (p8 _ _ b' hb')
          · cases op with
            | some _ => exact (allP_get hE.2 hj : False).elim
            | none =>
              have hn := allP_get (allP_get (show allP (allP noFzC) xs from allP_get (p := noFzO) hE.2 hj) hx) hy
              cases y with
              | own s' ys =>
                obtain ⟨h0, h1 | ⟨b, cap, r0, r1, r2, r3, c, t, r4, r5, r6, r7⟩⟩ := hr
                · exact ⟨h0, .inl h1⟩
                · refine ⟨h0, .inr ⟨b, cap, r0, hnb b (p8 i q b (by simp [r0])), r2, r3, c, t, r4, r5, r6, fun i k x y hx hy => ?_⟩⟩
                  obtain ⟨v, hv, hr⟩ := r7 i k x y hx hy
                  exact ⟨v, hv, hr.noFz0 (allP_get (allP_get hn hx) hy)⟩
              | _ => exact RepP.noFz hr hn
        cases op with
        | none => exact ⟨p2, .inr ⟨b2, nb, F, (hgj (by simp)).trans p0, hw2, cc, t, p3, p4, p5, fun i q x y hx hy hn => let ⟨v, hv, hr⟩ := p6 i q x y hx hy hn; ⟨v, hv, hc hx hy hr⟩, (fun j row e => by cases e), p8, p9, p10.1, hnb⟩⟩
        | some qq =>
          obtain ⟨j0, row0⟩ := qq
          refine ⟨p2, .inr ⟨b2, nb, F, (hgj (by simp)).trans p0, hw2, cc, t, p3, p4, p5, fun i q x y hx hy hn => let ⟨v, hv, hr⟩ := p6 i q x y hx hy hn; ⟨v, hv, hc hx hy hr⟩, fun j row e => ?_, p8, p9, p10.1, hnb⟩⟩
          cases e
          obtain ⟨q1, q2, q3⟩ := p7 j0 row0 rfl
          refine ⟨q1, by simpa using q2, fun q y hy => ?_⟩
          rw [List.getElem?_map] at hy
          cases hc : row0[q]? with
          | none => rw [hc] at hy; cases hy
          | some y0 =>
            rw [hc] at hy; cases hy
            obtain ⟨u, hu, hr⟩ := q3 q y0 hc
            exact ⟨u, hu, hrelC (hE.imp id fun hE => (allP_get (p := noFzO) hE.2 hj : False).elim) hr⟩
      | dead => trivial
  refine ⟨⟨k.sys.trans h.sys, k.tape.trans h.tape, k.output.trans h.output, Nat.le_trans h.size k.size, fun b hb hnb => ?_, fun M hM b hb => ?_, fun M N hM hN b e f => ?_, fun M => ?_⟩, hstep, RepV.ren hren hgr (hmono _ (hE.imp id (·.1))) hx, hsame, fun M hM b hm hb => ?_⟩
  · rw [hsame b (Nat.lt_of_lt_of_le hb h.size) fun L hL e => ?_]
    · exact h.same b hb hnb
    · rcases own_wr h1 (hl L hL).1 b e with q | q
      · exact hnb q
      · omega
  · rcases hown M hM with ⟨m1, m2, m3, m4⟩ | ⟨j, m1, m2, m3⟩
    · rw [m4] at hb; exact Nat.lt_of_lt_of_le (h1.bnd M m3 b hb) k.size
    · rw [m3] at hb; exact k.bnd j m2 b hb
  · have cross : ∀ {M : Nat} {j : Nat}, own os1 M → M ∉ lend → own σ' j → ∀ b, b ∈ g M → b ∈ g2 j → False := by
      intro M j m3 m2 n2 b e f
      rcases hblk j n2 b f with ⟨L, hL, e2⟩ | e2
      · exact hoth M m3 m2 L hL b e e2
      · have := h1.bnd M m3 b e; omega
    rcases hown M hM with ⟨m1, m2, m3, m4⟩ | ⟨j, m1, m2, m3⟩ <;> rcases hown N hN with ⟨n1, n2, n3, n4⟩ | ⟨i, n1, n2, n3⟩
    · exact h1.inj M N m3 n3 b (m4 ▸ e) (n4 ▸ f)
    · exact (cross m3 m2 n2 b (m4 ▸ e) (n3 ▸ f)).elim
    · exact (cross n3 n2 m2 b (n4 ▸ f) (m3 ▸ e)).elim
    · have := k.inj j i m2 n2 b (m3 ▸ e) (n3 ▸ f)
      rw [m1, n1, this]
  · by_cases hML : M < os1.length
    · by_cases hm : M ∈ lend
      · obtain ⟨j, hj, e⟩ := List.mem_iff_getElem.1 hm
        have : M = backN lend os1.length j := by unfold backN; rw [List.getElem?_eq_getElem hj]; exact e.symm
        rw [this]; exact hobj j
      · exact OOk.step hstep (merge_old hML hm) (hgo M hML hm) (fun ho b hb => hsame _ (h1.bnd M ho b hb) (fun L hL => hoth M ho hm L hL b hb)) (h1.obj M)
    · have : M = backN lend os1.length (lend.length + (M - os1.length)) := by
        unfold backN
        rw [List.getElem?_eq_none (by omega)]
        simp only; omega
      rw [this]; exact hobj _
  · rcases hown M hM with ⟨m1, m2, m3, m4⟩ | ⟨j, m1, m2, m3⟩
    · exact .inl ⟨m3, m4 ▸ hm⟩
    · rcases hblk j m2 b (m3 ▸ hm) with ⟨L, hL, e2⟩ | e2
      · exact .inr ⟨L, hL, e2⟩
      · omega

end Go.AM
end
section
/- Operations with effects: whole. Conditions: none. -/
namespace Go.AM
open Go

variable {P : Program} {c : Cx} {X : Ctx} {os : List AO} {g : Nat → List Nat} {w : World}

theorem unown1_ok (h : SRel X os g w) {o1 : List AO} {L : Nat} (e : o1 = match os[L]? with | some (.arr _ s xs) => os.set L (.arr false s xs) | some (.nst s xs none) => os.set L (.arr false s (xs.map fun x => x.map unO)) | _ => os) :
    SRel X o1 g w ∧ Step X os g w o1 g w ∧ UnN os o1 ∧ ¬ shO o1[L]? ∧ ∀ M, M ≠ L → o1[M]? = os[M]? := by
  cases hL : os[L]? with
  | none => rw [hL] at e; subst e; exact ⟨h, Step.refl _ _ _ _, UnN.refl _, by rw [hL]; exact id, fun _ _ => rfl⟩
  | some o =>
    rw [hL] at e
    have hu : ∀ o', o1 = os.set L o' → ¬ isOwn (some o') → UnN os o1 := fun o' e' hn => by
      subst e'
      refine ⟨by simp, fun M => ?_⟩
      by_cases q : L = M
      · subst q; exact .inr (by rw [set_same hL]; exact hn)
      · exact .inl (set_other q)
    cases o with
    | arr b s xs =>
      have e : o1 = os.set L (.arr false s xs) := e
      have e' : unown os (.sl L 0 0) = o1 := by simp only [unown, hL]; exact e.symm
      obtain ⟨h1, h2, _, _⟩ := unown_ok h (.sl L 0 0)
      rw [e'] at h1 h2
      exact ⟨h1, h2, hu _ e id, by rw [e, set_same hL]; exact id, fun M hM => by rw [e]; exact set_other hM.symm⟩
    | nst s xs op =>
      cases op with
      | some q => subst e; exact ⟨h, Step.refl _ _ _ _, UnN.refl _, by rw [hL]; exact id, fun _ _ => rfl⟩
      | none =>
        have e : o1 = os.set L (.arr false s (xs.map fun x => x.map unO)) := e
        have hk := h.give hL (.arr false s (xs.map fun x => x.map unO)) id (.inr ⟨(s, xs.length), rfl, by simp [AO.al]⟩) fun hm b hb => by
          have ho := h.obj L
          rw [hL] at ho
          have hown : own os L := by unfold own; rw [hL]; trivial
          obtain ⟨p2, ⟨p0, p1, _⟩ | ⟨b2, nb, F, p0, p1, c, t, p3, p4, p5, p6, p7, p8, p9, p10⟩⟩ := ho
          · rw [p0] at hb; cases hb
          obtain rfl : b2 = b := by rw [p0] at hb; simpa using hb
          have hrd : ∀ b' ∈ g L, ∀ o v, wr X b' → w.cell? ⟨b', o, none⟩ = some v → rdF X (os.set L (.arr false s (xs.map fun x => x.map unO))) g w b' o = some v := by
            intro b' hb' o v p1 hv
            refine rdF_some.2 ⟨p1.vis, ?_, hv⟩
            rintro ⟨M, hM, e2⟩
            by_cases q : L = M
            · subst q; unfold own at hM; rw [set_same hL] at hM; exact hM
            · have hM' : own os M := by unfold own at hM ⊢; rw [set_other q] at hM; exact hM
              exact q (h.inj L M hown hM' b' hb' e2)
          exact Row.freeze hm p5 (fun o v hv => hrd b2 (by simp [p0]) o v p1 (by rw [cell_of_row w b2 _ c t (0, 0) p3]; simpa using hv))
            (fun i k b' hb' o v hw hv => hrd b' (by simp [p0, p8 i k b' hb']) o v hw hv) fun i k x y hx hy => p6 i k x y hx hy id
        rw [← e] at hk
        exact ⟨hk.1, hk.2, hu _ e id, by rw [e, set_same hL]; exact id, fun M hM => by rw [e]; exact set_other hM.symm⟩
    | rc cs => subst e; exact ⟨h, Step.refl _ _ _ _, UnN.refl _, by rw [hL]; exact id, fun _ _ => rfl⟩
    | dead => subst e; exact ⟨h, Step.refl _ _ _ _, UnN.refl _, by rw [hL]; exact id, fun _ _ => rfl⟩

theorem not_shO {o o' : Option AO} (h : ¬ shO o) (e : o' = o ∨ ¬ isOwn o') : ¬ shO o' := by
  rcases e with rfl | e
  · exact h
  · intro hs
    unfold shO at hs
    split at hs
    · exact e trivial
    · exact e trivial
    · exact hs

theorem unownN_ok : ∀ (l : List Nat) {os : List AO}, SRel X os g w → SRel X (unownN os l) g w ∧ Step X os g w (unownN os l) g w ∧ UnN os (unownN os l) ∧
    (∀ L ∈ l, ¬ shO (unownN os l)[L]?) ∧ (∀ L, L ∉ l → (unownN os l)[L]? = os[L]?)
  | [], os, h => ⟨h, Step.refl _ _ _ _, UnN.refl _, fun _ h => (by cases h), fun _ _ => rfl⟩
  | a :: r, os, h => by
    obtain ⟨h1, h2, h3, h4, h5⟩ := unown1_ok h (L := a) rfl
    obtain ⟨k1, k2, k3, k4, k5⟩ := unownN_ok r h1
    refine ⟨k1, h2.trans k2, h3.trans k3, fun L hL => ?_, fun L hL => ?_⟩
    · cases hL with
      | tail _ hL => exact k4 L hL
      | head _ => exact not_shO h4 (k3.2 a)
    · simp only [List.mem_cons, not_or] at hL
      exact (k5 L hL.2).trans (h5 L hL.1)

theorem mem_shownO {ks : List Nat} {o : AO} {y : AV} (hy : y ∈ o.row) {M : Nat} (h : M ∈ shownC ks y) : M ∈ shownO ks o := by
  cases o with
  | rc cs => exact List.mem_flatMap.2 ⟨y, hy, h⟩
  | nst s xs op =>
    cases op with
    | none => cases hy
    | some q => exact List.mem_flatMap.2 ⟨y, hy, h⟩
  | arr => cases hy
  | dead => cases hy

theorem call_ok (h : SRel X os g w) (hgl : ∀ n, GOk (rdF X os g w) (c.G n) n) {n : Nat} {vs : List AV} {lend : List Nat} {esc : Bool} {post : AV → List AO → Prop}
    (con : Con P c n (vs.map (viewV lend os)) (viewS lend os) post) (hn : nodupN lend = true) (hl : ∀ L ∈ lend, own os L) {vals : Array Value} (hsz : vals.size = vs.length)
    (hrep : ∀ (i : Nat) y, vs[i]? = some y → ∃ u, vals[i]? = some u ∧ RepV (rdF X os g w) os g w y u) (hesc : ∀ x σ', post x σ' → esc = false → noFzV x ∧ allP noFzO σ') :
    CallsX P n vals w fun e w' => ∃ v x σ' gN, e = .returned v ∧ post x σ' ∧
      SRel X (merge lend (if esc = true then unownN os (shownAll lend os vs) else os) σ') gN w' ∧ Step X os g w (merge lend (if esc = true then unownN os (shownAll lend os vs) else os) σ') gN w' ∧
      RepV (rdF X (merge lend (if esc = true then unownN os (shownAll lend os vs) else os) σ') gN w') (merge lend (if esc = true then unownN os (shownAll lend os vs) else os) σ') gN w' (renV (backN lend os.length) x) v ∧
      Loc os g w (merge lend (if esc = true then unownN os (shownAll lend os vs) else os) σ') gN w' lend := by
  have hnd := nodupN_spec hn
  obtain ⟨o1, ho1⟩ : ∃ o1, o1 = (if esc = true then unownN os (shownAll lend os vs) else os) := ⟨_, rfl⟩
  have hnotsh : ∀ L ∈ shownAll lend os vs, L ∉ lend := by
    intro L hL
    unfold shownAll at hL
    rcases List.mem_append.1 hL with hL | hL
    · obtain ⟨y, _, hy⟩ := List.mem_flatMap.1 hL; exact shownV_not hy
    · obtain ⟨M, _, hy⟩ := List.mem_flatMap.1 hL
      unfold shownO at hy
      split at hy
      · obtain ⟨y, _, hy⟩ := List.mem_flatMap.1 hy; exact shownC_not hy
      · obtain ⟨y, _, hy⟩ := List.mem_flatMap.1 hy; exact shownC_not hy
      · cases hy
  have hfacts : SRel X o1 g w ∧ Step X os g w o1 g w ∧ UnN os o1 ∧ (esc = true → ∀ L ∈ shownAll lend os vs, ¬ shO o1[L]?) ∧ (∀ L ∈ lend, o1[L]? = os[L]?) := by
    subst ho1
    cases esc with
    | false => exact ⟨h, Step.refl _ _ _ _, UnN.refl _, fun h => (by cases h), fun _ _ => rfl⟩
    | true =>
      obtain ⟨k1, k2, k3, k4, k5⟩ := unownN_ok (shownAll lend os vs) h
      exact ⟨k1, k2, k3, fun _ => k4, fun L hL => k5 L (fun hm => hnotsh L hm hL)⟩
  rw [← ho1]
  clear ho1
  obtain ⟨q1, q2, q3, q4, q5⟩ := hfacts
  obtain ⟨fn, hfn⟩ := con.1
  obtain ⟨e1, e2, e3⟩ := entry_ok (os1 := o1) (lend := lend) (shown := shownAll lend os vs) (nt := fn.ntmps) h hnd hl q3 (fun L hL o ho y hy M hM => by
    unfold shownAll
    refine List.mem_append.2 (.inr (List.mem_flatMap.2 ⟨L, hL, ?_⟩))
    rw [getD_some ho]; exact mem_shownO hy hM) hnotsh
  have hc := con.2 (sub X os o1 g w lend (shownAll lend os vs) fn.ntmps) vals (sub_ok h hl) rfl (fun fn' hf => by rw [hfn] at hf; cases hf; rfl) e1 (fun n => (hgl n).mono e2) (by simpa using hsz) (fun i y hy => by
    rw [List.getElem?_map] at hy
    cases hv : vs[i]? with
    | none => rw [hv] at hy; cases hy
    | some y0 =>
      rw [hv] at hy; cases hy
      obtain ⟨u, hu, hr⟩ := hrep i y0 hv
      exact ⟨u, hu, viewV_ok (g := g) e2 (fun j L o => viewG_get) (fun L hL => e3 L (by
        unfold shownAll
        exact List.mem_append.2 (.inl (List.mem_flatMap.2 ⟨y0, List.mem_of_getElem? hv, hL⟩)))) hr⟩)
  refine CallsX.mono hc ?_
  rintro e w' ⟨v, x, σ', g2, he, hp, k1, k2, k3⟩
  obtain ⟨b1, b2, b3, b4⟩ := back_ok (os1 := o1) h q1 q3.1 hnd (fun L hL => ⟨by unfold own; rw [q5 L hL]; exact hl L hL, q5 L hL⟩) k1 k2 k3 (by
    cases esc with
    | true => exact .inl (q4 rfl)
    | false => exact .inr (hesc x σ' hp rfl))
  rw [q3.1] at b1 b2 b3 b4
  exact ⟨v, x, σ', _, he, hp, b1, q2.trans b2, b3, b4.1, fun L hL b hm hb => (b4.2 L hL b hm hb).imp (fun h' => ⟨q3.own h'.1, h'.2⟩) id⟩

theorem own_of_store {a : AV} {vs : List AV} (h : storeOk os a vs) : ∀ L ∈ names a, own os L := by
  intro L hL
  unfold storeOk at h
  split at h
  · split at h
    · rename_i hM; simp only [names, List.mem_cons, List.not_mem_nil, or_false] at hL; subst hL; unfold own; rw [hM]; trivial
    · exact h.elim
  · split at h
    · rename_i hM; simp only [names, List.mem_cons, List.not_mem_nil, or_false] at hL; subst hL; unfold own; rw [hM]; trivial
    · rename_i hM; simp only [names, List.mem_cons, List.not_mem_nil, or_false] at hL; subst hL; unfold own; rw [hM]; trivial
    · exact h.elim
  · exact h.elim

theorem own_of_app {a : AV} (h : appBase os a) : ∀ L ∈ names a, own os L := by
  intro L hL
  unfold appBase at h
  split at h
  · cases hL
  · obtain ⟨_, h⟩ := h
    split at h
    · rename_i hM; simp only [names, List.mem_cons, List.not_mem_nil, or_false] at hL; subst hL; unfold own; rw [hM]; trivial
    · exact h.elim
  · exact h.elim

theorem RepPts_get {ps : List (Nat × Nat)} : ∀ {vs : List Value}, RepPts os g ps vs → vs.length = ps.length ∧ ∀ (i : Nat) p, ps[i]? = some p → ∃ v, vs[i]? = some v ∧ RepPt os g p.1 p.2 v := by
  induction ps with
  | nil => intro vs h; cases vs with
    | nil => exact ⟨rfl, fun i p hp => by simp at hp⟩
    | cons _ _ => exact h.elim
  | cons q ps ih =>
    intro vs h
    cases vs with
    | nil => exact h.elim
    | cons v vs =>
      obtain ⟨h1, h2⟩ := ih h.2
      refine ⟨by simp [h1], fun i p hp => ?_⟩
      cases i with
      | zero => simp at hp; subst hp; exact ⟨v, rfl, h.1⟩
      | succ i => simp at hp; simpa using h2 i p hp

/-- What is called: a function, and what it has captured. -/
theorem fnC_some {rd : Nat → Nat → Option Value} {x : AV} {v : Value} {n : Nat} {cs : List AV} (h : fnC x = some (n, cs)) (hv : RepV rd os g w x v) :
    ∃ arr : Array Value, v = .func (.func n) #[] arr ∧ arr.size = cs.length ∧ ∀ (i : Nat) y, cs[i]? = some y → ∃ u, arr[i]? = some u ∧ RepV rd os g w y u := by
  unfold fnC at h
  split at h
  · rename_i m a b
    split at h
    · rename_i hs
      cases h
      have e : v = .func (.func n) a b := hv
      rw [Array.eq_empty_of_size_eq_zero hs.1, Array.eq_empty_of_size_eq_zero hs.2] at e
      exact ⟨#[], e, rfl, fun i y hy => by simp at hy⟩
    · cases h
  · rename_i m ps
    cases h
    obtain ⟨arr, e, hp⟩ := hv
    obtain ⟨h1, h2⟩ := RepPts_get hp
    refine ⟨arr, e, by simpa using h1, fun i y hy => ?_⟩
    rw [List.getElem?_map] at hy
    cases hi : ps[i]? with
    | none => rw [hi] at hy; cases hy
    | some p =>
      rw [hi] at hy; cases hy
      obtain ⟨u, hu, hr⟩ := h2 i p hi
      exact ⟨u, by simpa using hu, hr⟩
  · cases h

theorem run_equalIn_nil (w' : World) (d : Nat) (t : TypeId) (a : Option Addr) (n k : Nat) (el : TypeId) (h : P.underlying t = some (.slice el)) : (Op.equalIn (d + 1) t (.slice a n k) (.slice none 0 0)).run P w' = .ok a.isNone w' := by
  cases a <;> simp [Op.equalIn, run_underlying h]
theorem len_of_none {rd : Nat → Nat → Option Value} {x : AV} {n k : Nat} (h : RepV rd os g w x (.slice none n k)) (hk : lenOk os x) (hs : ∀ s, x ≠ .sc (.string s)) : lenA x = 0 := by
  unfold lenOk at hk
  split at hk
  · rename_i s xs
    rcases RepP.row h with ⟨rfl, _⟩ | ⟨b, o, cc, e, _⟩
    · rfl
    · cases e
  · rename_i L off m
    split at hk
    · rename_i ow s xs hL
      have h : RepC rd os g w (.sl L off m) _ := h
      simp only [RepC, hL] at h
      obtain ⟨cap, hc, _, ⟨_, _, e, _⟩ | ⟨hz, a, e⟩⟩ := h
      · cases e
      · simp only [lenA]; omega
    · rename_i s xs op hL
      have h : RepC rd os g w (.sl L off m) _ := h
      simp only [RepC, hL] at h
      obtain ⟨cap, hc, _, ⟨_, _, e, _⟩ | ⟨hz, a, e⟩⟩ := h
      · cases e
      · simp only [lenA]; omega
    · exact hk.elim
  · exact absurd rfl (hs _)
  · rfl
  · exact hk.elim

theorem eff_ok (hP : PrOk P c) (hX : X.Ok) (h : SRel X os g w) (hgl : ∀ n, GOk (rdF X os g w) (c.G n) n) {H : List Nat} (o : Oper) (rA : Operand → AV) (r : Operand → Value) (hr : ∀ x ∈ o.op.operands, RepV (rdF X os g w) os g w (rA x) (r x))
    {K : AV → List AO → Prop} (hk : effA c (Con P c) H os rA o.op K) {a : Act} {next : Act → World → Prop} {Q : Exit → Act → World → Prop}
    (hnext : ∀ v x os' g' w' ns, K x os' → SRel X os' g' w' → Step X os g w os' g' w' → RepV (rdF X os' g' w') os' g' w' x v → Loc os g w os' g' w' ns → (∀ L ∈ ns, own os L ∧ memN H L = false) → next (a.put o.dst v) w') :
    o.upon P a next Q ((execOp r o).run P w) := by
  obtain ⟨dst, op, ty, pos, af, gd⟩ := o
  simp only at hr hk hnext ⊢
  cases op <;> try exact hk.elim
  case binOp op t x y t' =>
    obtain ⟨_, kc, k0, k1, k2, k3, k4, hK⟩ := hk
    have hx := hr x (by simp [Op.operands])
    have hy := hr y (by simp [Op.operands])
    rw [kc] at hy
    have hy : r y = .slice none 0 0 := hy
    have hxs := hx.slice k3 (fun s e => by rw [e] at k4; exact k4)
    obtain ⟨ad, cap, e1, hcap⟩ := hxs
    have hz : ad.isNone = true → lenA (rA x) = 0 := fun hn => by
      have hq := hx
      rw [e1] at hq
      cases ad with
      | some _ => cases hn
      | none => exact len_of_none hq k3 (fun s e => by rw [e] at k4; exact k4)
    obtain ⟨i, d, z, i1, _, _, i4, _, _, _, i8, _⟩ := (hP.ty t k0).ex
    obtain ⟨el, hel⟩ : ∃ el, (c.T t).kind = .slice el := by
      unfold isSliceT at k1; split at k1
      · exact ⟨_, by assumption⟩
      · exact k1.elim
    rw [hel] at i8
    obtain rfl : d = .slice el := i8
    have he : (Op.equal t (.slice ad (lenA (rA x)) cap) (.slice none 0 0)).run P w = .ok ad.isNone w := by
      exact run_equalIn_nil w 9999 t ad _ cap el i4
    have hN := hnext (.bool (if op = .eql then ad.isNone else !ad.isNone)) _ os g w [] (hK ad.isNone hz) h (Step.refl _ _ _ _) rfl ⟨fun _ _ _ => rfl, fun L hL b hm _ => .inl ⟨hL, hm⟩⟩ (fun _ h => by cases h)
    rcases k2 with rfl | rfl
    · simp [execOp, e1, hy, eqGuard, binOp, he]
      exact hN
    · simp [execOp, e1, hy, eqGuard, binOp, he]
      cases ad <;> exact hN
  case alloc t =>
    obtain ⟨k0, hK⟩ := hk
    obtain ⟨v, g', w', h1, h2, h3, h4, h5⟩ := alloc_ok hP h k0
    simp only [execOp, Sem.run_bind, h1, Result.andThen_ok]
    exact hnext v _ _ g' w' [] hK h2 h3 h4.toV h5 (fun _ h => by cases h)
  case box t x =>
    obtain ⟨k0, k2, hK⟩ := hk
    obtain ⟨v, g', w', h1, h2, h3, h4, h5⟩ := box_ok hP h (hr x (by simp [Op.operands])) k0 k2
    simp only [execOp, Sem.run_bind, h1, Result.andThen_ok]
    exact hnext v _ _ g' w' [] hK h2 h3 h4.toV h5 (fun _ h => by cases h)
  case store t x y =>
    obtain ⟨k0, k1, k2, k3, hK⟩ := hk
    obtain ⟨w', h1, h2, h3, h5⟩ := store_ok hP hX h (hr x (by simp [Op.operands])) (hr y (by simp [Op.operands])) k0 k1 k2
    simp only [execOp, Sem.run_bind, h1, Result.andThen_ok]
    exact hnext undef _ _ g w' _ hK h2 h3 trivial h5 (fun L hL => ⟨own_of_store k2 L hL, allP_mem k3 L hL⟩)
  case buildSlice t n ps =>
    obtain ⟨k0, k1, k2, k3, k4, hK⟩ := hk
    obtain ⟨v, g', w', h1, h2, h3, h4, h5⟩ := lit_ok (r := r) hP h (fun p hp => hr p.2 (by simp only [Op.operands]; exact List.mem_toArray.2 (List.mem_map.2 ⟨p, hp, rfl⟩))) k0 k1 k2 k3 k4
    have e : (ps.map fun x => match x with | (i, x) => (i, r x)) = ps.map fun p => (p.1, r p.2) := rfl
    simp only [execOp, e, Sem.run_bind, h1, Result.andThen_ok]
    exact hnext v _ _ g' w' [] hK h2 h3 h4.toV h5 (fun _ h => by cases h)
  case makeSlice t l m =>
    obtain ⟨k0, k1, k2, n1, n2, k3, k4, k5, k6, hK⟩ := hk
    have hl := hr l (by simp [Op.operands])
    have hm := hr m (by simp [Op.operands])
    generalize rA l = al at *
    generalize rA m = am at *
    unfold isNum at n1 n2
    split at n1
    · split at n2
      · have e1 := RepV.sc hl
        have e2 := RepV.sc hm
        simp only [numA] at k3 k4 k5 k6 hK
        rename_i kl il _ km im
        obtain ⟨v, g', w', h1, h2, h3, h4, h5⟩ := make_ok (kl := kl) (km := km) hP h k0 k1 k2 k3 k4 k5 k6
        simp only [execOp, e1, e2, Sem.run_bind, h1, Result.andThen_ok]
        exact hnext v _ _ g' w' [] hK h2 h3 h4.toV h5 (fun _ h => by cases h)
      · exact n2.elim
    · exact n1.elim
  case call cl =>
    obtain ⟨callee, args, tys⟩ := cl
    cases callee with
    | invoke rv nm => exact hk.elim
    | builtin b =>
      cases b <;> try exact hk.elim
      case append =>
        simp only [effA] at hk
        split at hk
        · rename_i s x t u ha ht
          split at hk
          · rename_i hint
            obtain ⟨k0, k1, k2, k3, k4, k5, k6, k7, k8, K1, K2⟩ := hk
            have ha' : args = #[s, x] := by rw [← Array.toArray_toList (xs := args), ha]
            have ht' : tys = #[t, u] := by rw [← Array.toArray_toList (xs := tys), ht]
            subst ha' ht'
            have hs := hr s (by simp [Op.operands, Call.operands])
            rw [k4] at hs
            have hs : r s = .slice none 0 0 := hs
            have hx := hr x (by simp [Op.operands, Call.operands])
            obtain ⟨ki, hx⟩ := hx.num k5
            by_cases hz : numA (rA x) = 0
            · rw [hz] at hx
              obtain ⟨e, hel, i4⟩ := elemT hP k0 k1
              rw [hel] at k2
              obtain ⟨j, dj, z, j1, j2, _⟩ := (hP.ty e k2).ex
              obtain ⟨_, du, _, _, _, _, q4, _, _, _, q8, _⟩ := (hP.ty u k3).ex
              obtain ⟨kk, hkk⟩ : ∃ kk, (c.T u).kind = .int kk := by
                cases hq : (c.T u).kind <;> rw [hq] at hint <;> first | exact ⟨_, rfl⟩ | cases hint
              rw [hkk] at q8
              obtain rfl : du = .int kk := q8
              have a3 := run_app_zero0 (P := P) w t u ty e j i4 j1 q4 ki
              simp only [execOp, resolve, invoke, builtin, List.map_toArray, List.map_cons, List.map_nil, Sem.run_bind, Sem.run_pure, hs, hx, a3, Result.andThen_ok]
              exact hnext _ _ _ g w [] (K1 hz) h (Step.refl _ _ _ _) rfl ⟨fun _ _ _ => rfl, fun L hL b hm _ => .inl ⟨hL, hm⟩⟩ (fun _ h => by cases h)
            · obtain ⟨v, g', w', a2, h2, h3, h4, h5⟩ := zeros_ok hP h ty (k := ki) k0 k1 k2 k3 hint (by omega) k7 k8
              simp only [execOp, resolve, invoke, builtin, List.map_toArray, List.map_cons, List.map_nil, Sem.run_bind, Sem.run_pure, hs, hx, a2, Result.andThen_ok]
              exact hnext v _ _ g' w' [] (K2 hz) h2 h3 h4.toV h5 (fun _ h => by cases h)
          obtain ⟨k0, k1, k2, k3, k4, k5, k6, k7, k8, k9, K1, K2⟩ := hk
          have ha' : args = #[s, x] := by rw [← Array.toArray_toList (xs := args), ha]
          have ht' : tys = #[t, u] := by rw [← Array.toArray_toList (xs := tys), ht]
          subst ha' ht'
          rcases app_ok hP hX h ty (hr s (by simp [Op.operands, Call.operands])) (hr x (by simp [Op.operands, Call.operands])) k0 k1 k2 k3 k4 k5 k6 k7 k8 with ⟨a1, a2, a3⟩ | ⟨a1, v, g', w', a2, h2, h3, h4, h5⟩
          · simp only [execOp, resolve, invoke, builtin, List.map_toArray, List.map_cons, List.map_nil, Sem.run_bind, Sem.run_pure, a3, Result.andThen_ok]
            exact hnext _ _ _ g w [] (K1 a1 a2) h (Step.refl _ _ _ _) rfl ⟨fun _ _ _ => rfl, fun L hL b hm _ => .inl ⟨hL, hm⟩⟩ (fun _ h => by cases h)
          · simp only [execOp, resolve, invoke, builtin, List.map_toArray, List.map_cons, List.map_nil, Sem.run_bind, Sem.run_pure, a2, Result.andThen_ok]
            exact hnext v _ _ g' w' _ (K2 a1) h2 h3 h4.toV h5 (fun L hL => ⟨own_of_app k4 L hL, allP_mem k9 L hL⟩)
        · exact hk.elim
    | value f =>
      simp only [effA] at hk
      split at hk
      · rename_i n cs hf
        obtain ⟨lend, esc, post, con, hn, hl, hpost⟩ := hk
        obtain ⟨arr, ef', ha1, ha2⟩ := fnC_some hf (hr f (by simp [Op.operands, Call.operands]))
        have hcall := call_ok (esc := esc) h hgl con hn (fun L hL => (allP_mem hl L hL).1) (vals := args.map r ++ arr) (by simp [ha1]) (fun i y hy => by
          rw [List.getElem?_append] at hy
          split at hy
          · rename_i hlt
            rw [List.getElem?_map] at hy
            cases hx : args.toList[i]? with
            | none => rw [hx] at hy; cases hy
            | some x0 =>
              rw [hx] at hy; cases hy
              have hm : x0 ∈ args := Array.mem_toList_iff.1 (List.mem_of_getElem? hx)
              have hlt2 : i < (args.map r).size := by simpa using hlt
              refine ⟨r x0, ?_, hr x0 (by simp [Op.operands, Call.operands, hm])⟩
              rw [Array.getElem?_append_left hlt2]
              simpa using ⟨x0, by simpa using hx, rfl⟩
          · rename_i hge
            obtain ⟨u, hu, hru⟩ := ha2 _ y hy
            refine ⟨u, ?_, hru⟩
            rw [Array.getElem?_append_right (by simpa using hge)]
            simpa using hu) (fun x σ' hp he => (hpost x σ' hp).1 he)
        obtain ⟨fn, c1, c2, ⟨c3, hcall⟩ | ⟨c3, c4, ent, v, w', c5, c6, c7⟩⟩ := hcall
        · have c3' : fn.body.isNone ≠ true := by simp [c3]
          simp only [execOp, resolve, Deferred.ofValue, ef', invoke, callFunc, Sem.run_bind, Sem.run_pure, Result.andThen_ok, run_program, c1, c2, c3, Bool.false_eq_true, if_false, Array.empty_append, Array.append_empty]
          refine Calls.mono hcall ?_
          rintro e w' ⟨v, x, σ', gN, rfl, hp, b1, b2, b3, b4⟩
          exact hnext v _ _ gN w' lend ((hpost x σ' hp).2) b1 b2 b3 b4 (fun L hL => allP_mem hl L hL)
        · obtain ⟨v', x, σ', gN, he, hp, b1, b2, b3, b4⟩ := c7
          cases he
          have hrun : (callFunc n (args.map r ++ arr)).run P w = .ok (.value v) w' := by rw [run_callFunc_extern c1 c2 c3 c4 c5, c6]; rfl
          simp only [execOp, resolve, Deferred.ofValue, ef', invoke, Sem.run_bind, Sem.run_pure, Result.andThen_ok, Array.empty_append, Array.append_empty, hrun]
          exact hnext v _ _ gN w' lend ((hpost x σ' hp).2) b1 b2 b3 b4 (fun L hL => allP_mem hl L hL)
      · exact hk.elim

end Go.AM
end
section
/- Operations in regions: the model's walk follows the abstract one. Conditions: none. -/
namespace Go.AM
open Go

variable {P : Program} {c : Cx} {X : Ctx}

theorem lk_upd (e : Env) (t : Nat) (v : AV) (u : Nat) : lk (upd e t v) u = if t = u then v else lk e u := rfl

theorem lk_keepE (lv : List Nat) : ∀ (e : Env) (u : Nat), lk (keepE lv e) u = lk e u ∨ lk (keepE lv e) u = .junk
  | [], u => .inl rfl
  | (k, x) :: r, u => by
    have ih := lk_keepE lv r u
    unfold keepE
    by_cases h : memN lv k = true
    · rw [if_pos h]
      simp only [lk]
      by_cases h2 : k = u
      · rw [if_pos h2, if_pos h2]; exact .inl rfl
      · rw [if_neg h2, if_neg h2]; exact ih
    · rw [if_neg h]
      by_cases h2 : k = u
      · subst h2
        have : ∀ (r : Env), lk (keepE lv r) k = .junk := by
          intro r
          induction r with
          | nil => rfl
          | cons p r ih =>
            obtain ⟨k', y⟩ := p
            unfold keepE
            by_cases h3 : memN lv k' = true
            · rw [if_pos h3]
              simp only [lk]
              rw [if_neg (by rintro rfl; exact h h3)]; exact ih
            · rw [if_neg h3]; exact ih
        exact .inr (this r)
      · simp only [lk]
        rw [if_neg h2]; exact ih

theorem Rel.keep {st : St} {g : Nat → List Nat} {a : Act} {w : World} (h : Rel X c st g a w) (lv : List Nat) : Rel X c ⟨keepE lv st.env, st.os⟩ g a w := by
  refine ⟨h.srel, fun t => ?_, h.nt, h.defs, h.glob, h.keeps⟩
  rcases lk_keepE lv st.env t with e | e
  · simp only [e]; exact h.env t
  · simp only [e]; trivial

theorem Rel.to {st : St} {g g' : Nat → List Nat} {a : Act} {w w' : World} {os' : List AO} (h : Rel X c st g a w) (s : SRel X os' g' w') (t : Step X st.os g w os' g' w') : Rel X c ⟨st.env, os'⟩ g' a w' :=
  ⟨s, fun u => t.repV (h.env u), h.nt, h.defs, fun n => (h.glob n).mono t.rd, h.keeps.trans t.keeps⟩

theorem Rel.put {st : St} {g : Nat → List Nat} {a : Act} {w : World} (h : Rel X c st g a w) (dst : Option Nat) (hd : ∀ d, dst = some d → d < X.nt) {x : AV} {v : Value} (hx : RepV (rdF X st.os g w) st.os g w x v) :
    Rel X c ⟨put st.env dst x, st.os⟩ g (a.put dst v) w := by
  cases dst with
  | none => exact h
  | some d =>
    have hlt : d < a.tmps.size := by rw [h.nt]; exact hd d rfl
    refine ⟨h.srel, fun t => ?_, by simp only [Act.put, Array.size_setIfInBounds]; exact h.nt, h.defs, h.glob, h.keeps⟩
    simp only [AM.put, lk_upd, Act.put]
    by_cases e : d = t
    · subst e
      simp only [if_true]
      rw [Array.getD_eq_getD_getElem?, Array.getElem?_setIfInBounds_self_of_lt hlt]; exact hx
    · rw [if_neg e]
      rw [Array.getD_eq_getD_getElem?, Array.getElem?_setIfInBounds_ne e, ← Array.getD_eq_getD_getElem?]; exact h.env t

theorem guardA_ok {st : St} {g : Nat → List Nat} {a : Act} {w : World} (h : Rel X c st g a w) {ops : Array Oper} {o : Oper} {j : Nat} {want gb : Bool} (ho : o.guard = some (j, want)) (hg : guardA ops st.env j want = some gb) :
    Region.wanted o (yielded ops a.tmps) = gb := by
  unfold guardA at hg
  simp only [Region.wanted, ho, yielded]
  cases hd : (ops[j]?).bind (·.dst) with
  | none => rw [hd] at hg; cases hg
  | some t =>
    rw [hd] at hg
    have ht := h.env t
    simp only [Option.bind_some] at ⊢
    simp only at hg
    have hb : ∀ b : Bool, a.tmps.getD t undef = .bool b → a.tmps[t]? = some (.bool b) := by
      intro b e
      rw [Array.getD_eq_getD_getElem?] at e
      cases hx : a.tmps[t]? with
      | none => rw [hx] at e; simp [undef] at e
      | some x => rw [hx] at e; simp at e; rw [e]
    split at hg
    · rename_i b e
      rw [e] at ht
      have := hb b ht
      rw [this]
      simp only [Option.some.injEq] at hg
      subst hg
      cases b <;> cases want <;> rfl
    · rename_i g' b e
      rw [e] at ht
      simp only [Option.some.injEq] at hg
      subst hg
      cases g' with
      | true =>
        rw [hb b (ht.1 rfl)]
        cases b <;> cases want <;> rfl
      | false =>
        have hu := ht.2 rfl
        rw [Array.getD_eq_getD_getElem?] at hu
        cases hx : a.tmps[t]? with
        | none => rfl
        | some x => rw [hx] at hu; simp at hu; rw [hu]; rfl
    · rename_i e
      rw [e] at ht
      simp only [Option.some.injEq] at hg
      subst hg
      have hu := ht.2 rfl
      rw [Array.getD_eq_getD_getElem?] at hu
      cases hx : a.tmps[t]? with
      | none => rfl
      | some x => rw [hx] at hu; simp at hu; rw [hu]; rfl
    · cases hg

theorem RepV.ofPlain {rd : Nat → Nat → Option Value} {os : List AO} {g : Nat → List Nat} {w : World} {x : AV} {v : Value} (h : RepV rd os g w x v) (hs : plain x) : RepA rd os g w x v := by
  cases x <;> first | exact h | exact hs.elim

theorem gev_ok {st : St} {g : Nat → List Nat} {a : Act} {w : World} (h : Rel X c st g a w) {o : Op} (hk : operOk c st.env true o) (x : Operand) (hx : x ∈ o.operands) : RepV (rdF X st.os g w) st.os g w (gev c st.env o x) (a.eval x) := by
  cases o with
  | pick a x y => exact h.ev _
  | _ => exact (h.ev x).strip (allP_mem hk x (Array.mem_toList_iff.2 hx))

/-- What an operation leaves alone, where. -/
def Left (H : List Nat) (os : List AO) (g : Nat → List Nat) (w : World) (os' : List AO) (g' : Nat → List Nat) (w' : World) : Prop := ∃ ns, Loc os g w os' g' w' ns ∧ ∀ L ∈ ns, own os L ∧ memN H L = false

theorem Left.refl (H : List Nat) (os : List AO) (g : Nat → List Nat) (w : World) : Left H os g w os g w := ⟨[], ⟨fun _ _ _ => rfl, fun _ h _ hm _ => .inl ⟨h, hm⟩⟩, fun _ h => by cases h⟩

theorem step_ok (hP : PrOk P c) (hX : X.Ok) {st : St} {g : Nat → List Nat} {a : Act} {w : World} (h : Rel X c st g a w) {H : List Nat} {ops : Array Oper} {o : Oper} (hd : ∀ d, o.dst = some d → d < X.nt) {K : St → Prop} (hk : stepA c (Con P c) H ops o st K)
    {next : Act → World → Prop} {Q : Exit → Act → World → Prop} (hnext : ∀ st' g' a' w', K st' → Rel X c st' g' a' w' → Left H st.os g w st'.os g' w' → next a' w') :
    if Region.wanted o (yielded ops a.tmps) = true then o.wp P a w next Q else next (a.put o.dst undef) w := by
  -- an operation that is carried out, with operands 'rA'
  have heff : ∀ rA, (∀ x ∈ o.op.operands, RepV (rdF X st.os g w) st.os g w (rA x) (a.eval x)) → (effA c (Con P c) H st.os rA o.op fun v os => K ⟨put st.env o.dst v, os⟩) → o.wp P a w next Q := by
    intro rA hr hk
    exact eff_ok hP hX h.srel h.glob o rA a.eval hr hk fun v x os' g' w' ns hK hs hst hx hl hn =>
      hnext ⟨put st.env o.dst x, os'⟩ g' _ w' hK ((h.to hs hst).put o.dst hd hx) ⟨ns, hl, hn⟩
  have hpure : ∀ rA, isPure o.op = true → (∀ x ∈ o.op.operands, RepV (rdF X st.os g w) st.os g w (rA x) (a.eval x)) → pureOk c st.os rA o.op →
      ∃ v, RepV (rdF X st.os g w) st.os g w (pureA c st.os rA o.op) v ∧ (next (a.put o.dst v) w → o.wp P a w next Q) := by
    intro rA hp hr hk
    obtain ⟨v, hv, hrun⟩ := pure_ok hP h.srel o rA a.eval hr hp hk
    refine ⟨v, hv, fun hn => ?_⟩
    unfold Oper.wp
    rw [hrun w (fun _ _ => rfl)]
    exact hn
  unfold stepA at hk
  cases hg : o.guard with
  | none =>
    rw [hg] at hk
    have hw : Region.wanted o (yielded ops a.tmps) = true := by simp [Region.wanted, hg]
    rw [if_pos hw]
    simp only at hk
    split at hk
    · rename_i hp
      obtain ⟨k1, k2⟩ := hk
      obtain ⟨v, hv, hn⟩ := hpure _ hp (fun x _ => h.ev x) k1
      exact hn (hnext _ g _ w k2 (h.put o.dst hd hv) (Left.refl _ _ _ _))
    · exact heff _ (fun x _ => h.ev x) hk
  | some jw =>
    obtain ⟨j, want⟩ := jw
    rw [hg] at hk
    simp only at hk
    split at hk
    · exact hk.elim
    · rename_i gb hgb
      have hw := guardA_ok h hg hgb
      split at hk
      · rename_i hp
        obtain ⟨k1, k2⟩ := hk
        cases gb with
        | true =>
          rw [if_pos hw]
          obtain ⟨k1, k3, k4⟩ := k1 rfl
          obtain ⟨v, hv, hn⟩ := hpure _ hp (gev_ok h k1) k3
          exact hn (hnext _ g _ w k2 (h.put o.dst hd ⟨fun _ => hv.ofPlain k4, fun h => (by cases h)⟩) (Left.refl _ _ _ _))
        | false =>
          rw [if_neg (by rw [hw]; simp)]
          exact hnext _ g _ w k2 (h.put o.dst hd ⟨fun h => (by cases h), fun _ => rfl⟩) (Left.refl _ _ _ _)
      · obtain ⟨k1, k2⟩ := hk
        cases gb with
        | true =>
          rw [if_pos hw]
          obtain ⟨k1, k3⟩ := k1 rfl
          exact heff _ (gev_ok h k1) k3
        | false =>
          rw [if_neg (by rw [hw]; simp)]
          exact hnext _ g _ w (k2 rfl) (h.put o.dst hd ⟨fun h => (by cases h), fun _ => rfl⟩) (Left.refl _ _ _ _)

end Go.AM
end
