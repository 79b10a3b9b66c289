/- Calls: what a callee may see, and what stands behind it. Conditions: none. -/
import Derived.Test.YtcnlhdaeeeolbaaAmL
set_option linter.unusedSimpArgs false
set_option linter.unusedVariables false
namespace Go.AM
open Go

variable {P : Program} {c : Cx} {X : Ctx} {os : List AO} {g : Nat → List Nat} {w : World}

/-- A function's call: of its body, or, where it has none, of what the machine gives for it. -/
def CallsX (P : Program) (f : Nat) (vals : Array Value) (w : World) (R : Ending → World → Prop) : Prop :=
  ∃ fn, P.funcs[f]? = some fn ∧ (fn.name == "runtime.NumGoroutine") = false ∧
    ((fn.body.isNone = false ∧ Calls P f vals w R) ∨ (fn.body.isNone = true ∧ Extern.findNext fn = none ∧ ∃ ent v w', Extern.find fn = some ent ∧ (ent vals).run P w = .ok v w' ∧ R (.returned v) w'))

theorem CallsX.mono {P : Program} {f : Nat} {vals : Array Value} {w : World} {R R' : Ending → World → Prop} (h : CallsX P f vals w R) (hR : ∀ e w', R e w' → R' e w') : CallsX P f vals w R' := by
  obtain ⟨fn, h1, h2, h3⟩ := h
  refine ⟨fn, h1, h2, h3.imp (fun h => ⟨h.1, Calls.mono h.2 fun e w' => hR e w'⟩) fun ⟨a, b, ent, v, w', c, d, e⟩ => ⟨a, b, ent, v, w', c, d, hR _ _ e⟩⟩

/-- What a function does. -/
def Con (P : Program) (c : Cx) (f : Nat) (vs : List AV) (σ : List AO) (post : AV → List AO → Prop) : Prop :=
  (∃ fn, P.funcs[f]? = some fn) ∧
  ∀ (X : Ctx) (vals : Array Value), X.Ok → X.os0 = σ → (∀ fn, P.funcs[f]? = some fn → X.nt = fn.ntmps) → SRel X σ X.g0 X.W → (∀ n, GOk (rdF X σ X.g0 X.W) (c.G n) n) →
    vals.size = vs.length → (∀ (i : Nat) y, vs[i]? = some y → ∃ u, vals[i]? = some u ∧ RepV (rdF X σ X.g0 X.W) σ X.g0 X.W y u) →
    CallsX P f vals X.W fun e w' => ∃ v x σ' g', e = .returned v ∧ post x σ' ∧ SRel X σ' g' w' ∧ Keeps σ X.g0 X.W σ' g' w' ∧ RepV (rdF X σ' g' w') σ' g' w' x v

/-- Ours, and whole: what can be shown. -/
def shO : Option AO → Prop
  | some (.arr true _ _) => True
  | some (.nst _ _ none) => True
  | _ => False

/-- The same objects, some of them given up. -/
def UnN (os os' : List AO) : Prop := os'.length = os.length ∧ ∀ L : Nat, os'[L]? = os[L]? ∨ ¬ isOwn os'[L]?

theorem UnN.refl (os : List AO) : UnN os os := ⟨rfl, fun _ => .inl rfl⟩
theorem UnN.trans {a b d : List AO} (h : UnN a b) (k : UnN b d) : UnN a d := by
  refine ⟨k.1.trans h.1, fun L => ?_⟩
  rcases k.2 L with k1 | k1
  · rcases h.2 L with h1 | h1
    · exact .inl (k1.trans h1)
    · exact .inr (by rw [k1]; exact h1)
  · exact .inr k1
theorem UnN.own {os os' : List AO} (h : UnN os os') {L : Nat} (hw : own os' L) : own os L := by
  unfold AM.own at hw ⊢
  rcases h.2 L with h1 | h1
  · rw [h1] at hw; exact hw
  · exact absurd hw h1

/-- The callee's activation. -/
def sub (X : Ctx) (os os1 : List AO) (g : Nat → List Nat) (w : World) (lend shown : List Nat) (nt : Nat) : Ctx where
  W := w
  V := fun b => b < w.heap.size ∧ vis X b ∧ (∀ L ∈ lend, b ∉ g L) ∧ (¬ ownB os1 g b ∨ ∃ L ∈ shown, shO os1[L]? ∧ b ∈ g L)
  K := fun b => ∃ L ∈ lend, b ∈ g L
  nt := nt
  os0 := viewS lend os
  g0 := viewG lend os g

theorem cell_lt {b o : Nat} {v : Value} (h : w.cell? ⟨b, o, none⟩ = some v) : b < w.heap.size := by
  rcases Nat.lt_or_ge b w.heap.size with h' | h'
  · exact h'
  · simp [World.cell?, Array.getElem?_eq_none h'] at h

section entry
variable {os1 : List AO} {lend shown : List Nat} {nt : Nat}

theorem sub_ok (h : SRel X os g w) (hl : ∀ L ∈ lend, own os L) : (sub X os os1 g w lend shown nt).Ok where
  v := fun b hb => ⟨hb.1, fun ⟨L, hL, e⟩ => hb.2.2.1 L hL e⟩
  k := fun b ⟨L, hL, e⟩ => h.bnd L (hl L hL) b e

theorem entry_ok (h : SRel X os g w) (hn : lend.Nodup) (hl : ∀ L ∈ lend, own os L) (hU : UnN os os1) (hsh : ∀ L ∈ lend, ∀ o, os[L]? = some o → ∀ y ∈ o.row, ∀ M ∈ shownC lend y, M ∈ shown) (hnot : ∀ L ∈ shown, L ∉ lend) :
    SRel (sub X os os1 g w lend shown nt) (viewS lend os) (viewG lend os g) w ∧
    (∀ b o v, rdF X os g w b o = some v → rdF (sub X os os1 g w lend shown nt) (viewS lend os) (viewG lend os g) w b o = some v) ∧
    (∀ L ∈ shown, ∀ o s xs, os[L]? = some o → o.fzr = some (s, xs) → ∀ b, (g L).head? = some b → Row (rdF (sub X os os1 g w lend shown nt) (viewS lend os) (viewG lend os g) w) b 0 s xs) := by
  have hu : ∀ L, own os1 L → own os L := fun L => hU.own
  have hm : ∀ b o v, rdF X os g w b o = some v → rdF (sub X os os1 g w lend shown nt) (viewS lend os) (viewG lend os g) w b o = some v := by
    intro b o v hr
    rw [rdF_some] at hr ⊢
    obtain ⟨r1, r2, r3⟩ := hr
    refine ⟨.inl ⟨cell_lt r3, r1, fun L hL e => r2 ⟨L, hl L hL, e⟩, .inl ?_⟩, ?_, r3⟩
    · rintro ⟨L, hL, e⟩; exact r2 ⟨L, hu L hL, e⟩
    · rintro ⟨j, hj, e⟩
      obtain ⟨L, hL, ho, e⟩ := own_viewB hj e
      exact r2 ⟨L, ho, e⟩
  have hrow : ∀ L ∈ shown, ∀ o s xs, os[L]? = some o → o.fzr = some (s, xs) → ∀ b, (g L).head? = some b → Row (rdF (sub X os os1 g w lend shown nt) (viewS lend os) (viewG lend os g) w) b 0 s xs := by
    intro L hL o s xs he ef b hb
    have ho := h.obj L
    rw [he] at ho
    have hrd : own os L → shO os[L]? → ∀ b' ∈ g L, ∀ o v, wr X b' → w.cell? ⟨b', o, none⟩ = some v → rdF (sub X os os1 g w lend shown nt) (viewS lend os) (viewG lend os g) w b' o = some v := by
      intro hown hs b' hb' o v p1 hv
      refine rdF_some.2 ⟨.inl ⟨h.bnd L hown b' hb', p1.vis, fun M hM e => hnot L hL (h.inj M L (hl M hM) hown b' e hb' ▸ hM), ?_⟩, ?_, hv⟩
      · rcases hU.2 L with e | e
        · exact .inr ⟨L, hL, by rw [e]; exact hs, hb'⟩
        · refine .inl ?_
          rintro ⟨M, hM, e2⟩
          obtain rfl := h.inj M L (hu M hM) hown b' e2 hb'
          exact e hM
      · rintro ⟨j, hj, e⟩
        obtain ⟨M, hM, hom, e⟩ := own_viewB hj e
        exact hnot L hL (h.inj M L hom hown b' e hb' ▸ List.mem_of_getElem? hM)
    cases o with
    | arr ow s0 xs0 =>
      simp only [AO.fzr, Option.some.injEq, Prod.mk.injEq] at ef
      obtain ⟨rfl, rfl⟩ := ef
      cases ow with
      | false => exact Row.mono hm (ho b hb)
      | true =>
        have hown : own os L := by unfold own; rw [he]; trivial
        obtain ⟨p2, ⟨p0, p1⟩ | ⟨b2, p0, p1, c, t, p3, p4, p5, p6⟩⟩ := ho
        · rw [p0] at hb; cases hb
        obtain rfl : b2 = b := by rw [p0] at hb; simpa using hb
        refine ⟨p5, fun i k x y hx hy => ?_⟩
        obtain ⟨v, hv, hr⟩ := p6 i k x y hx hy
        exact ⟨v, hrd hown (by rw [he]; trivial) b2 (by simp [p0]) _ _ p1 (by rw [Nat.zero_add, cell_of_row w b2 _ c t (0, 0) p3]; simpa using hv), hr.mono hm⟩
    | nst s0 xs0 op =>
      cases op with
      | some q => cases ef
      | none =>
        simp only [AO.fzr, Option.some.injEq, Prod.mk.injEq] at ef
        obtain ⟨rfl, rfl⟩ := ef
        have hown : own os L := by unfold own; rw [he]; trivial
        have hs : shO os[L]? := by rw [he]; trivial
        obtain ⟨p2, ⟨p0, p1, _⟩ | ⟨b2, nb, F, p0, p1, c, t, p3, p4, p5, p6, p7, p8, p9, p10⟩⟩ := ho
        · rw [p0] at hb; cases hb
        obtain rfl : b2 = b := by rw [p0] at hb; simpa using hb
        exact Row.freeze hm p5 (fun o v hv => hrd hown hs b2 (by simp [p0]) o v p1 (by rw [cell_of_row w b2 _ c t (0, 0) p3]; simpa using hv))
          (fun i k b' hb' o v hw hv => hrd hown hs b' (by simp [p0, p8 i k b' hb']) o v hw hv) fun i k x y hx hy => p6 i k x y hx hy id
    | rc cs => cases ef
    | dead => cases ef
  refine ⟨⟨rfl, rfl, rfl, Nat.le_refl _, fun _ _ _ => rfl, fun j hj b hb => ?_, fun i j hi hj b e f => ?_, fun j => ?_⟩, hm, hrow⟩
  · obtain ⟨L, hL, ho, hb⟩ := own_viewB hj hb
    exact h.bnd L ho b hb
  · obtain ⟨L, hL, ho, e⟩ := own_viewB hi e
    obtain ⟨M, hM, hp, f⟩ := own_viewB hj f
    have := h.inj L M ho hp b e f
    subst this
    exact nodup_get hn hL hM
  · cases hk : lend[j]? with
    | none => rw [viewS_get, hk]; trivial
    | some L =>
      have hm2 := List.mem_of_getElem? hk
      exact OOk.view hm (fun j L o => viewG_get) (fun j L => viewG_none) hk (fun _ b hb => .inl ⟨L, hm2, hb⟩) (fun o ho y hy M hM o s xs he => hrow M (hsh L hm2 _ ho y hy M hM) o s xs he) (h.obj L)
end entry

theorem putAll_len : ∀ (lend : List Nat) (l os : List AO), (putAll os lend l).length = os.length
  | [], l, os => by cases l <;> rfl
  | a :: r, [], os => rfl
  | a :: r, o :: l, os => by simp only [putAll]; rw [putAll_len r l]; simp

theorem putAll_not : ∀ (lend : List Nat) (l os : List AO) {L : Nat}, L ∉ lend → (putAll os lend l)[L]? = os[L]?
  | [], l, os, _, _ => by cases l <;> rfl
  | a :: r, [], os, _, _ => rfl
  | a :: r, o :: l, os, L, h => by
    simp only [List.mem_cons, not_or] at h
    simp only [putAll]; rw [putAll_not r l _ h.2, set_other (Ne.symm h.1)]

theorem putAll_get : ∀ (lend : List Nat) (l os : List AO) {j L : Nat}, lend.Nodup → lend.length ≤ l.length → lend[j]? = some L → L < os.length → (putAll os lend l)[L]? = l[j]?
  | [], l, os, j, L, _, _, h, _ => by simp at h
  | a :: r, [], os, j, L, _, h, _, _ => by simp at h
  | a :: r, o :: l, os, j, L, hn, hl, h, hL => by
    have hn' := List.nodup_cons.1 hn
    simp only [putAll]
    cases j with
    | zero =>
      simp only [List.getElem?_cons_zero, Option.some.injEq] at h
      subst h
      rw [putAll_not r l _ hn'.1, set_get, if_pos rfl, if_pos hL]; rfl
    | succ j =>
      rw [putAll_get r l _ hn'.2 (by simpa using hl) (by simpa using h) (by simpa using hL)]; rfl

section merged
variable {lend : List Nat} {σ' : List AO}

theorem merge_old {L : Nat} (hL : L < os.length) (h : L ∉ lend) : (merge lend os σ')[L]? = os[L]? := by
  unfold merge
  rw [List.getElem?_append_left (by rw [putAll_len]; exact hL), putAll_not _ _ _ h]

theorem merge_lent {j L : Nat} (hn : lend.Nodup) (hl : lend.length ≤ σ'.length) (hj : lend[j]? = some L) (hL : L < os.length) : (merge lend os σ')[L]? = (σ'[j]?).map (renO (backN lend os.length)) := by
  unfold merge
  rw [List.getElem?_append_left (by rw [putAll_len]; exact hL), putAll_get _ _ _ hn (by simpa using hl) hj hL, List.getElem?_map]

theorem merge_new {L : Nat} (hL : os.length ≤ L) : (merge lend os σ')[L]? = (σ'[lend.length + (L - os.length)]?).map (renO (backN lend os.length)) := by
  unfold merge
  rw [List.getElem?_append_right (by rw [putAll_len]; exact hL), putAll_len, List.getElem?_map, List.getElem?_drop]

theorem merge_ren (hn : lend.Nodup) (hl : lend.length ≤ σ'.length) (hlt : ∀ L ∈ lend, L < os.length) (j : Nat) : (merge lend os σ')[backN lend os.length j]? = (σ'[j]?).map (renO (backN lend os.length)) := by
  unfold backN
  cases hj : lend[j]? with
  | some L => exact merge_lent hn hl hj (hlt L (List.mem_of_getElem? hj))
  | none =>
    have hge : lend.length ≤ j := by
      rcases Nat.lt_or_ge j lend.length with h | h
      · rw [List.getElem?_eq_getElem h] at hj; cases hj
      · exact h
    simp only
    rw [merge_new (by omega)]
    congr 2; omega

theorem merge_len : (merge lend os σ').length = os.length + (σ'.length - lend.length) := by simp [merge, putAll_len]
end merged

theorem RepP.noFz {rd rd' : Nat → Nat → Option Value} {y : AV} {v : Value} (h : RepP rd y v) (hn : noFzC y) : RepP rd' y v := by
  cases h with
  | sc hv => exact .sc hv
  | nil => exact .nil
  | fz f hc hs h1 h2 => obtain rfl := (show _ = [] from hn); exact .nil

theorem RepP.noFz0 {rd rd' : Nat → Nat → Option Value} {y : AV} {v : Value} (h : RepP rd y v) (hn : noFz0 y) : RepP rd' y v := by
  cases h with
  | sc hv => exact .sc hv
  | nil => exact .nil
  | fz f hc hs h1 h2 => obtain rfl := (show _ = [] from hn); exact .nil

theorem RepC.ren {rd rd' : Nat → Nat → Option Value} {osN : List AO} {σ' : List AO} {g2 gN : Nat → List Nat} {f : Nat → Nat} (hr : ∀ j, osN[f j]? = (σ'[j]?).map (renO f)) (hg : ∀ j o, σ'[j]? = some o → o ≠ .dead → gN (f j) = g2 j)
    {y : AV} {v : Value} (hm : (∀ b o v, rd b o = some v → rd' b o = some v) ∨ noFzC y) (h : RepC rd σ' g2 w y v) : RepC rd' osN gN w (renC f y) v := by
  cases y with
  | sc u => exact h
  | fz s xs =>
    rcases hm with hm | hm
    · exact RepP.mono hm h
    · exact RepP.noFz (y := .fz s xs) h hm
  | fp s xs i k =>
    rcases hm with hm | hm
    · obtain ⟨b, o, hv, hr⟩ := h; exact ⟨b, o, hv, hr.mono hm⟩
    · exact hm.elim
  | sl L off n =>
    simp only [RepC, renC, hr] at h ⊢
    cases hL : σ'[L]? with
    | none => rw [hL] at h; exact h
    | some o =>
      rw [hL] at h
      cases o with
      | arr ow s xs => simp only [Option.map_some, renO, hg L _ hL (by simp)]; exact h
      | nst s xs op => cases op <;> (simp only [Option.map_some, renO, hg L _ hL (by simp)]; exact h)
      | rc cs => trivial
      | dead => trivial
  | pa L i k =>
    simp only [RepC, renC, hr] at h ⊢
    cases hL : σ'[L]? with
    | none => rw [hL] at h; exact h.elim
    | some o =>
      rw [hL] at h
      cases o with
      | arr ow s xs => simp only [Option.map_some, renO, hg L _ hL (by simp)]; exact h
      | nst s xs op => cases op <;> (simp only [Option.map_some, renO, hg L _ hL (by simp)]; exact h)
      | rc cs => trivial
      | dead => trivial
  | clo n ps =>
    obtain ⟨arr, h1, h2⟩ := h
    refine ⟨arr, h1, h2.mono (by simp) fun i p q v e1 e2 c => ?_⟩
    rw [List.getElem?_map, e1] at e2
    cases e2
    unfold RepPt at c ⊢
    simp only [hr]
    cases hL : σ'[p.1]? with
    | none => rw [hL] at c; exact c.elim
    | some o =>
      rw [hL] at c
      cases o with
      | arr ow s xs => trivial
      | nst s xs op => cases op <;> trivial
      | rc cs => simp only [Option.map_some, renO, hg p.1 _ hL (by simp)]; exact c
      | dead => trivial
  | pt L k =>
    simp only [RepC, renC, hr] at h ⊢
    cases hL : σ'[L]? with
    | none => rw [hL] at h; exact h.elim
    | some o =>
      rw [hL] at h
      cases o with
      | arr ow s xs => trivial
      | nst s xs op => cases op <;> trivial
      | rc cs => simp only [Option.map_some, renO, hg L _ hL (by simp)]; exact h
      | dead => trivial
  | junk => trivial
  | own => trivial
  | agg cs => exact h.elim
  | tup cs => exact h.elim
  | opt b x => exact h.elim

theorem allP_get {α : Type} {p : α → Prop} {l : List α} (h : allP p l) {i : Nat} {x : α} (hx : l[i]? = some x) : p x := allP_mem h x (List.mem_of_getElem? hx)

theorem RepA.ren {rd rd' : Nat → Nat → Option Value} {osN : List AO} {σ' : List AO} {g2 gN : Nat → List Nat} {f : Nat → Nat} (hr : ∀ j, osN[f j]? = (σ'[j]?).map (renO f)) (hg : ∀ j o, σ'[j]? = some o → o ≠ .dead → gN (f j) = g2 j)
    {y : AV} {v : Value} (hm : (∀ b o v, rd b o = some v → rd' b o = some v) ∨ noFzA y) (h : RepA rd σ' g2 w y v) : RepA rd' osN gN w (renA f y) v := by
  cases y with
  | agg cs =>
    obtain ⟨vs, hv, hl, hp⟩ := h
    refine ⟨vs, hv, by simpa using hl, fun i y hy => ?_⟩
    rw [List.getElem?_map] at hy
    cases hc : cs[i]? with
    | none => rw [hc] at hy; cases hy
    | some y0 =>
      rw [hc] at hy; cases hy
      obtain ⟨u, hu, hp2⟩ := hp i y0 hc
      exact ⟨u, hu, RepC.ren hr hg (hm.imp id fun hm => allP_get hm hc) hp2⟩
  | tup => exact h.elim
  | opt => exact h.elim
  | sc => exact (RepC.ren hr hg (y := .sc _) hm h).toA
  | fz => exact (RepC.ren hr hg (y := .fz _ _) hm h).toA
  | fp => exact (RepC.ren hr hg (y := .fp _ _ _ _) hm h).toA
  | sl => exact (RepC.ren hr hg (y := .sl _ _ _) hm h).toA
  | pa => exact (RepC.ren hr hg (y := .pa _ _ _) hm h).toA
  | pt => exact (RepC.ren hr hg (y := .pt _ _) hm h).toA
  | clo => exact (RepC.ren hr hg (y := .clo _ _) hm h).toA
  | own => trivial
  | junk => trivial

theorem RepV.ren {rd rd' : Nat → Nat → Option Value} {osN : List AO} {σ' : List AO} {g2 gN : Nat → List Nat} {f : Nat → Nat} (hr : ∀ j, osN[f j]? = (σ'[j]?).map (renO f)) (hg : ∀ j o, σ'[j]? = some o → o ≠ .dead → gN (f j) = g2 j)
    {y : AV} {v : Value} (hm : (∀ b o v, rd b o = some v → rd' b o = some v) ∨ noFzV y) (h : RepV rd σ' g2 w y v) : RepV rd' osN gN w (renV f y) v := by
  cases y with
  | tup cs =>
    obtain ⟨vs, hv, hl, hp⟩ := h
    refine ⟨vs, hv, by simpa using hl, fun i y hy => ?_⟩
    rw [List.getElem?_map] at hy
    cases hc : cs[i]? with
    | none => rw [hc] at hy; cases hy
    | some y0 =>
      rw [hc] at hy; cases hy
      obtain ⟨u, hu, hp2⟩ := hp i y0 hc
      exact ⟨u, hu, RepA.ren hr hg (hm.imp id fun hm => allP_get hm hc) hp2⟩
  | opt b x => exact ⟨fun hb => RepA.ren hr hg (y := x) hm (h.1 hb), h.2⟩
  | agg cs => exact (RepA.ren hr hg (y := .agg cs) hm h).toV
  | sc => exact (RepC.ren hr hg (y := .sc _) hm h).toV
  | fz => exact (RepC.ren hr hg (y := .fz _ _) hm h).toV
  | fp => exact (RepC.ren hr hg (y := .fp _ _ _ _) hm h).toV
  | sl => exact (RepC.ren hr hg (y := .sl _ _ _) hm h).toV
  | pa => exact (RepC.ren hr hg (y := .pa _ _ _) hm h).toV
  | pt => exact (RepC.ren hr hg (y := .pt _ _) hm h).toV
  | clo => exact (RepC.ren hr hg (y := .clo _ _) hm h).toV
  | own => trivial
  | junk => trivial

def backG (lend : List Nat) (n : Nat) (g g2 : Nat → List Nat) : Nat → List Nat := fun M => if M < n then (match pos lend M with | some j => g2 j | none => g M) else g2 (lend.length + (M - n))

theorem isOwn_renO {f : Nat → Nat} {o : Option AO} (h : isOwn (o.map (renO f))) : isOwn o := by
  cases o with
  | none => exact h
  | some o =>
    cases o with
    | arr b s xs => cases b <;> exact h
    | nst s xs op => trivial
    | rc cs => trivial
    | dead => exact h

theorem al_renO {f : Nat → Nat} {o : AO} : (renO f o).al = o.al := by
  cases o with
  | nst s xs op => cases op <;> rfl
  | _ => rfl

theorem pos_nodup {ks : List Nat} (hn : ks.Nodup) {j L : Nat} (h : ks[j]? = some L) : pos ks L = some j := by
  obtain ⟨i, hi⟩ := pos_mem (List.mem_of_getElem? h)
  rw [hi, nodup_get hn (pos_some hi) h]

theorem back_ok (h : SRel X os g w) {os1 : List AO} (h1 : SRel X os1 g w) (hlen : os1.length = os.length) {lend shown : List Nat} {nt : Nat} (hn : lend.Nodup) (hl : ∀ L ∈ lend, own os1 L ∧ os1[L]? = os[L]?) {σ' : List AO} {g2 : Nat → List Nat} {w' : World}
    (k : SRel (sub X os os1 g w lend shown nt) σ' g2 w') (kk : Keeps (viewS lend os) (viewG lend os g) w σ' g2 w') {x : AV} {v : Value} (hx : RepV (rdF (sub X os os1 g w lend shown nt) σ' g2 w') σ' g2 w' x v)
    (hE : (∀ L ∈ shown, ¬ shO os1[L]?) ∨ (noFzV x ∧ allP noFzO σ')) :
    SRel X (merge lend os1 σ') (backG lend os1.length g g2) w' ∧ Step X os1 g w (merge lend os1 σ') (backG lend os1.length g g2) w' ∧
    RepV (rdF X (merge lend os1 σ') (backG lend os1.length g g2) w') (merge lend os1 σ') (backG lend os1.length g g2) w' (renV (backN lend os1.length) x) v ∧
    Loc os1 g w (merge lend os1 σ') (backG lend os1.length g g2) w' lend := by
  have hσl : lend.length ≤ σ'.length := by have := kk.len; simpa [viewS] using this
  have hlt : ∀ L ∈ lend, L < os1.length := fun L hL => own_lt (hl L hL).1
  have hren := merge_ren (os := os1) hn hσl hlt
  have hgr : ∀ j o, σ'[j]? = some o → o ≠ .dead → backG lend os1.length g g2 (backN lend os1.length j) = g2 j := by
    intro j o ho hd
    unfold backN backG
    cases hj : lend[j]? with
    | some L => simp only [if_pos (hlt L (List.mem_of_getElem? hj)), pos_nodup hn hj]
    | none =>
      have hge : lend.length ≤ j := by
        rcases Nat.lt_or_ge j lend.length with h | h
        · rw [List.getElem?_eq_getElem h] at hj; cases hj
        · exact h
      simp only
      rw [if_neg (by omega)]
      congr 1; omega
  have hgo : ∀ M, M < os1.length → M ∉ lend → backG lend os1.length g g2 M = g M := by
    intro M hM hm
    unfold backG
    cases hp : pos lend M with
    | some j => exact absurd (List.mem_of_getElem? (pos_some hp)) hm
    | none => simp only [if_pos hM]
  -- whose it is
  have hown : ∀ M, own (merge lend os1 σ') M → (M < os1.length ∧ M ∉ lend ∧ own os1 M ∧ backG lend os1.length g g2 M = g M) ∨ ∃ j, M = backN lend os1.length j ∧ own σ' j ∧ backG lend os1.length g g2 M = g2 j := by
    intro M hM
    have key : ∀ j, M = backN lend os1.length j → ∃ j, M = backN lend os1.length j ∧ own σ' j ∧ backG lend os1.length g g2 M = g2 j := by
      intro j e
      subst e
      unfold own at hM
      rw [hren j] at hM
      have ho := isOwn_renO hM
      refine ⟨j, rfl, ho, ?_⟩
      cases hj : σ'[j]? with
      | none => rw [hj] at ho; exact ho.elim
      | some o => exact hgr j o hj (fun e => by rw [hj, e] at ho; exact ho.elim)
    by_cases hML : M < os1.length
    · by_cases hm : M ∈ lend
      · obtain ⟨j, hj, e⟩ := List.mem_iff_getElem.1 hm
        refine .inr (key j ?_)
        unfold backN
        rw [List.getElem?_eq_getElem hj]; exact e.symm
      · unfold own at hM
        rw [merge_old hML hm] at hM
        exact .inl ⟨hML, hm, hM, hgo M hML hm⟩
    · refine .inr (key (lend.length + (M - os1.length)) ?_)
      unfold backN
      rw [List.getElem?_eq_none (by omega)]
      simp only; omega
  have hsame : ∀ b, b < w.heap.size → (∀ L ∈ lend, b ∉ g L) → w'.heap[b]? = w.heap[b]? := fun b hb hne => k.same b hb (fun ⟨L, hL, e⟩ => hne L hL e)
  have hblk : ∀ j, own σ' j → ∀ b ∈ g2 j, (∃ L ∈ lend, b ∈ g L) ∨ w.heap.size ≤ b := fun j hj => own_wr k hj
  have hoth : ∀ M, own os1 M → M ∉ lend → ∀ L ∈ lend, ∀ b ∈ g M, b ∉ g L := fun M hM hm L hL b hb e => hm (h1.inj L M (hl L hL).1 hM b e hb ▸ hL)
  -- what reads as it did for good
  have hA : ∀ b o v, rdF X os1 g w b o = some v → rdF X (merge lend os1 σ') (backG lend os1.length g g2) w' b o = some v := by
    intro b o v hr
    rw [rdF_some] at hr ⊢
    obtain ⟨r1, r2, r3⟩ := hr
    have hb := cell_lt r3
    refine ⟨r1, ?_, ?_⟩
    · rintro ⟨M, hM, e⟩
      rcases hown M hM with ⟨m1, m2, m3, m4⟩ | ⟨j, m1, m2, m3⟩
      · exact r2 ⟨M, m3, m4 ▸ e⟩
      · rcases hblk j m2 b (m3 ▸ e) with ⟨L, hL, e2⟩ | e2
        · exact r2 ⟨L, (hl L hL).1, e2⟩
        · omega
    · rw [cell_heap (hsame b hb fun L hL e => r2 ⟨L, (hl L hL).1, e⟩)]; exact r3
  have hB : (∀ L ∈ shown, ¬ shO os1[L]?) → ∀ b o v, rdF (sub X os os1 g w lend shown nt) σ' g2 w' b o = some v → rdF X (merge lend os1 σ') (backG lend os1.length g g2) w' b o = some v := by
    intro hs b o v hr
    rw [rdF_some] at hr ⊢
    obtain ⟨r1, r2, r3⟩ := hr
    refine ⟨?_, ?_, r3⟩
    · rcases r1 with r1 | ⟨L, hL, e⟩ | r1
      · exact r1.2.1
      · exact (own_wr h1 (hl L hL).1 b e).vis
      · exact .inr (.inr (Nat.le_trans h.size r1))
    · rintro ⟨M, hM, e⟩
      rcases hown M hM with ⟨m1, m2, m3, m4⟩ | ⟨j, m1, m2, m3⟩
      · rw [m4] at e
        rcases r1 with r1 | ⟨L, hL, e2⟩ | r1
        · rcases r1.2.2.2 with r4 | ⟨L, hL, ho, _⟩
          · exact r4 ⟨M, m3, e⟩
          · exact hs L hL ho
        · exact hoth M m3 m2 L hL b e e2
        · have := h1.bnd M m3 b e
          exact absurd this (Nat.not_lt.2 r1)
      · exact r2 ⟨j, m2, m3 ▸ e⟩
  have hstep : Step X os1 g w (merge lend os1 σ') (backG lend os1.length g g2) w' := by
    -- an old object: it is as it was, or it is lent
    have hcase : ∀ {L : Nat} {o o' : AO}, os1[L]? = some o → (merge lend os1 σ')[L]? = some o' → (o' = o ∧ backG lend os1.length g g2 L = g L) ∨ ∃ j q, lend[j]? = some L ∧ (viewS lend os)[j]? = some (viewO lend os o) ∧ viewG lend os g j = g L ∧ σ'[j]? = some q ∧ o' = renO (backN lend os1.length) q ∧ backG lend os1.length g g2 L = g2 j := by
      intro L o o' e1 e2
      have hL := lt_of_get e1
      by_cases hm : L ∈ lend
      · obtain ⟨j, hj, e⟩ := List.mem_iff_getElem.1 hm
        have hj' : lend[j]? = some L := by rw [List.getElem?_eq_getElem hj, e]
        rw [merge_lent hn hσl hj' hL] at e2
        cases hq : σ'[j]? with
        | none => rw [hq] at e2; cases e2
        | some q =>
          rw [hq] at e2; cases e2
          exact .inr ⟨j, q, hj', viewS_some hj' (by rw [← (hl L hm).2]; exact e1), viewG_get hj' (by rw [← (hl L hm).2]; exact e1), hq, rfl, by simp only [backG, if_pos hL, pos_nodup hn hj']⟩
      · rw [merge_old hL hm, e1] at e2; cases e2
        exact .inl ⟨rfl, hgo L hL hm⟩
    refine ⟨by rw [merge_len]; omega, ?_, ?_, ?_, ?_, ?_, hA, kk.rm⟩
    · intro L o o' a a' e1 e2 f1 f2
      rcases hcase e1 e2 with ⟨e, e3⟩ | ⟨j, q, j1, j2, j3, j4, rfl, j6⟩
      · subst e; rw [f1] at f2; cases f2; exact ⟨rfl, Nat.le_refl _, by rw [e3]⟩
      · rw [al_renO] at f2
        obtain ⟨q1, q2, q3⟩ := kk.arr _ _ _ _ _ j2 j4 (by rw [al_viewO]; exact f1) f2
        exact ⟨q1, q2, by rw [j6, q3, j3]⟩
    · intro L cs cs' e1 e2
      rcases hcase e1 e2 with ⟨e, e3⟩ | ⟨j, q, j1, j2, j3, j4, j5, j6⟩
      · exact e3
      · cases q with
        | rc cs2 => rw [j6, kk.rc _ _ _ j2 j4, j3]
        | arr => cases j5
        | nst _ _ op => cases op <;> cases j5
        | dead => cases j5
    · intro L o a cs' e1 f1 e2
      rcases hcase e1 e2 with ⟨e, e3⟩ | ⟨j, q, j1, j2, j3, j4, j5, _⟩
      · subst e; cases f1
      · cases q with
        | arr b z zs => cases j5
        | nst _ _ op => cases op <;> cases j5
        | rc cs => exact kk.rcArr _ _ _ _ j2 (by rw [al_viewO]; exact f1) j4
        | dead => cases j5
    · intro L cs o a e1 e2 f2
      rcases hcase e1 e2 with ⟨e, e3⟩ | ⟨j, q, j1, j2, j3, j4, rfl, _⟩
      · subst e; cases f2
      · rw [al_renO] at f2
        exact kk.arrRc _ _ _ _ j2 j4 f2
    · intro L e1
      have hm : L ∉ lend := fun hm => by have := (hl L hm).1; unfold own at this; rw [e1] at this; exact this.elim
      rw [merge_old (lt_of_get e1) hm]; exact e1
  have hmono : ∀ (p : Prop), (∀ L ∈ shown, ¬ shO os1[L]?) ∨ p → (∀ b o v, rdF (sub X os os1 g w lend shown nt) σ' g2 w' b o = some v → rdF X (merge lend os1 σ') (backG lend os1.length g g2) w' b o = some v) ∨ p := fun p hp => hp.imp hB id
  have hrelC : ∀ {y : AV} {u : Value}, ((∀ L ∈ shown, ¬ shO os1[L]?) ∨ noFzC y) → RepC (rdF (sub X os os1 g w lend shown nt) σ' g2 w') σ' g2 w' y u →
      RepC (rdF X (merge lend os1 σ') (backG lend os1.length g g2) w') (merge lend os1 σ') (backG lend os1.length g g2) w' (renC (backN lend os1.length) y) u :=
    fun hp hr => RepC.ren hren hgr (hmono _ hp) hr
  have hobj : ∀ j, OOk X (merge lend os1 σ') (backG lend os1.length g g2) w' (backN lend os1.length j) (merge lend os1 σ')[backN lend os1.length j]? := by
    intro j
    rw [hren j]
    have hk := k.obj j
    cases hj : σ'[j]? with
    | none => trivial
    | some o =>
      rw [hj] at hk
      have hwr : isOwn (some o) → ∀ b ∈ g2 j, wr X b := fun ho b hb => by
        have hoj : own σ' j := by unfold own; rw [hj]; exact ho
        rcases hblk j hoj b hb with ⟨L, hL, e⟩ | e
        · exact own_wr h1 (hl L hL).1 b e
        · exact .inr (Nat.le_trans h.size e)
      have hgj : o ≠ .dead → backG lend os1.length g g2 (backN lend os1.length j) = g2 j := hgr j o hj
      cases o with
      | arr b s xs =>
        cases b with
        | true =>
          obtain ⟨p2, ⟨p0, p1⟩ | ⟨b2, p0, p1, cc, t, p3, p4, p5, p6⟩⟩ := hk
          · exact ⟨p2, .inl ⟨(hgj (by simp)).trans p0, p1⟩⟩
          refine ⟨p2, .inr ⟨b2, (hgj (by simp)).trans p0, hwr trivial b2 (by simp [p0]), cc, t, p3, p4, p5, fun i q x y hx hy => ?_⟩⟩
          obtain ⟨u, hu, hr⟩ := p6 i q x y hx hy
          refine ⟨u, hu, ?_⟩
          rcases hE with hE | hE
          · exact hr.mono (hB hE)
          · have := allP_get hE.2 hj; exact hr.noFz (allP_get (allP_get this hx) hy)
        | false =>
          rcases hE with hE | hE
          · intro b hb
            rw [hgj (by simp)] at hb
            exact Row.mono (hB hE) (hk b hb)
          · exact (allP_get hE.2 hj : False).elim
      | rc cs =>
        obtain ⟨b2, p0, p1, cc, t, p3, p4, p6⟩ := hk
        refine ⟨b2, (hgj (by simp)).trans p0, hwr trivial b2 (by simp [p0]), cc, t, p3, by simpa using p4, fun q y hy => ?_⟩
        rw [List.getElem?_map] at hy
        cases hc : cs[q]? with
        | none => rw [hc] at hy; cases hy
        | some y0 =>
          rw [hc] at hy; cases hy
          obtain ⟨u, hu, hr⟩ := p6 q y0 hc
          exact ⟨u, hu, hrelC (hE.imp id fun hE => allP_get (show allP noFzC cs from allP_get (p := noFzO) hE.2 hj) hc) hr⟩
      | nst s xs op =>
        obtain ⟨p2, ⟨p0, p1, rfl⟩ | ⟨b2, nb, F, p0, p1, cc, t, p3, p4, p5, p6, p7, p8, p9, p10⟩⟩ := hk
        · exact ⟨p2, .inl ⟨(hgj (by simp)).trans p0, p1, rfl⟩⟩
        have hw2 := hwr trivial b2 (by simp [p0])
        have hnb : ∀ b' ∈ nb, wr X b' := fun b' hb' => hwr trivial b' (by simp [p0, hb'])
        have hc : ∀ {i q : Nat} {x : List AV} {y : AV} {u : Value}, xs[i]? = some x → x[q]? = some y → CellN (rdF (sub X os os1 g w lend shown nt) σ' g2 w') (sub X os os1 g w lend shown nt) w' (F i q) y u →
            CellN (rdF X (merge lend os1 σ') (backG lend os1.length g g2) w') X w' (F i q) y u := by
          intro i q x y u hx hy hr
          rcases hE with hE | hE
          · exact hr.to (hB hE) (fun _ _ => rfl) fun b' hb' _ => hnb b' (p8 _ _ b' hb')
          · cases op with
            | some _ => exact (allP_get hE.2 hj : False).elim
            | none =>
              have hn := allP_get (allP_get (show allP (allP noFzC) xs from allP_get (p := noFzO) hE.2 hj) hx) hy
              cases y with
              | own s' ys =>
                obtain ⟨h0, h1 | ⟨b, cap, r0, r1, r2, r3, c, t, r4, r5, r6, r7⟩⟩ := hr
                · exact ⟨h0, .inl h1⟩
                · refine ⟨h0, .inr ⟨b, cap, r0, hnb b (p8 i q b (by simp [r0])), r2, r3, c, t, r4, r5, r6, fun i k x y hx hy => ?_⟩⟩
                  obtain ⟨v, hv, hr⟩ := r7 i k x y hx hy
                  exact ⟨v, hv, hr.noFz0 (allP_get (allP_get hn hx) hy)⟩
              | _ => exact RepP.noFz hr hn
        cases op with
        | none => exact ⟨p2, .inr ⟨b2, nb, F, (hgj (by simp)).trans p0, hw2, cc, t, p3, p4, p5, fun i q x y hx hy hn => let ⟨v, hv, hr⟩ := p6 i q x y hx hy hn; ⟨v, hv, hc hx hy hr⟩, (fun j row e => by cases e), p8, p9, p10.1, hnb⟩⟩
        | some qq =>
          obtain ⟨j0, row0⟩ := qq
          refine ⟨p2, .inr ⟨b2, nb, F, (hgj (by simp)).trans p0, hw2, cc, t, p3, p4, p5, fun i q x y hx hy hn => let ⟨v, hv, hr⟩ := p6 i q x y hx hy hn; ⟨v, hv, hc hx hy hr⟩, fun j row e => ?_, p8, p9, p10.1, hnb⟩⟩
          cases e
          obtain ⟨q1, q2, q3⟩ := p7 j0 row0 rfl
          refine ⟨q1, by simpa using q2, fun q y hy => ?_⟩
          rw [List.getElem?_map] at hy
          cases hc : row0[q]? with
          | none => rw [hc] at hy; cases hy
          | some y0 =>
            rw [hc] at hy; cases hy
            obtain ⟨u, hu, hr⟩ := q3 q y0 hc
            exact ⟨u, hu, hrelC (hE.imp id fun hE => (allP_get (p := noFzO) hE.2 hj : False).elim) hr⟩
      | dead => trivial
  refine ⟨⟨k.sys.trans h.sys, k.tape.trans h.tape, k.output.trans h.output, Nat.le_trans h.size k.size, fun b hb hnb => ?_, fun M hM b hb => ?_, fun M N hM hN b e f => ?_, fun M => ?_⟩, hstep, RepV.ren hren hgr (hmono _ (hE.imp id (·.1))) hx, hsame, fun M hM b hm hb => ?_⟩
  · rw [hsame b (Nat.lt_of_lt_of_le hb h.size) fun L hL e => ?_]
    · exact h.same b hb hnb
    · rcases own_wr h1 (hl L hL).1 b e with q | q
      · exact hnb q
      · omega
  · rcases hown M hM with ⟨m1, m2, m3, m4⟩ | ⟨j, m1, m2, m3⟩
    · rw [m4] at hb; exact Nat.lt_of_lt_of_le (h1.bnd M m3 b hb) k.size
    · rw [m3] at hb; exact k.bnd j m2 b hb
  · have cross : ∀ {M : Nat} {j : Nat}, own os1 M → M ∉ lend → own σ' j → ∀ b, b ∈ g M → b ∈ g2 j → False := by
      intro M j m3 m2 n2 b e f
      rcases hblk j n2 b f with ⟨L, hL, e2⟩ | e2
      · exact hoth M m3 m2 L hL b e e2
      · have := h1.bnd M m3 b e; omega
    rcases hown M hM with ⟨m1, m2, m3, m4⟩ | ⟨j, m1, m2, m3⟩ <;> rcases hown N hN with ⟨n1, n2, n3, n4⟩ | ⟨i, n1, n2, n3⟩
    · exact h1.inj M N m3 n3 b (m4 ▸ e) (n4 ▸ f)
    · exact (cross m3 m2 n2 b (m4 ▸ e) (n3 ▸ f)).elim
    · exact (cross n3 n2 m2 b (n4 ▸ f) (m3 ▸ e)).elim
    · have := k.inj j i m2 n2 b (m3 ▸ e) (n3 ▸ f)
      rw [m1, n1, this]
  · by_cases hML : M < os1.length
    · by_cases hm : M ∈ lend
      · obtain ⟨j, hj, e⟩ := List.mem_iff_getElem.1 hm
        have : M = backN lend os1.length j := by unfold backN; rw [List.getElem?_eq_getElem hj]; exact e.symm
        rw [this]; exact hobj j
      · exact OOk.step hstep (merge_old hML hm) (hgo M hML hm) (fun ho b hb => hsame _ (h1.bnd M ho b hb) (fun L hL => hoth M ho hm L hL b hb)) (h1.obj M)
    · have : M = backN lend os1.length (lend.length + (M - os1.length)) := by
        unfold backN
        rw [List.getElem?_eq_none (by omega)]
        simp only; omega
      rw [this]; exact hobj _
  · rcases hown M hM with ⟨m1, m2, m3, m4⟩ | ⟨j, m1, m2, m3⟩
    · exact .inl ⟨m3, m4 ▸ hm⟩
    · rcases hblk j m2 b (m3 ▸ hm) with ⟨L, hL, e2⟩ | e2
      · exact .inr ⟨L, hL, e2⟩
      · omega

end Go.AM
