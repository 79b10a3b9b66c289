/- Several texts in one. Conditions: none. -/
import Derived.Test.YthcdhlglaeaieaaGreatDoorAmB1
import Derived.Laws.Externs
set_option linter.unusedSimpArgs false
set_option linter.unusedVariables false
section
/- Views: the same memory, told with fewer names. Conditions: none. -/
namespace Go.AM
open Go

variable {P : Program} {c : Cx} {X : Ctx} {os : List AO} {g : Nat → List Nat} {w : World}

theorem pos_some : ∀ {ks : List Nat} {L j : Nat}, pos ks L = some j → ks[j]? = some L
 | [], L, j, h => by cases h
 | a :: r, L, j, h => by
  unfold pos at h
  split at h
  ·rename_i e; subst e; cases h; rfl
  ·cases hp : pos r L with
   | none => rw [hp] at h; cases h
   | some i => rw [hp] at h; cases h; simpa using pos_some hp

theorem pos_none : ∀ {ks : List Nat} {L : Nat}, pos ks L = none → L ∉ ks
 | [], L, _ => by simp
 | a :: r, L, h => by
  unfold pos at h
  split at h
  ·cases h
  ·rename_i e
   cases hp : pos r L with
   | none => simp only [List.mem_cons, not_or]; exact ⟨fun h => e h.symm, pos_none hp⟩
   | some i => rw [hp] at h; cases h

theorem nodupN_spec : ∀ {ks : List Nat}, nodupN ks = true → ks.Nodup
 | [], _ => .nil
 | a :: r, h => by
  simp only [nodupN, Bool.and_eq_true, Option.isNone_iff_eq_none] at h
  exact List.nodup_cons.2 ⟨pos_none h.1, nodupN_spec h.2⟩

theorem nodup_get {ks : List Nat} (h : ks.Nodup) {i j L : Nat} (hi : ks[i]? = some L) (hj : ks[j]? = some L) : i = j := by
 have h1 := a8 hi
 have h2 := a8 hj
 rw [List.getElem?_eq_getElem h1] at hi
 rw [List.getElem?_eq_getElem h2] at hj
 simp only [Option.some.injEq] at hi hj
 exact (List.getElem_inj h).1 (hi.trans hj.symm)

theorem fromN_spec : ∀ {i n : Nat} {ks : List Nat}, fromN i n ks = true → ∀ j, j < n → ∃ a, ks[j]? = some a ∧ (a = i + j ∨ (1000000 ≤ a ∧ a ≤ 1999999))
 | i, 0, ks, _, j, hj => by omega
 | i, n + 1, [], h, j, hj => by simp [fromN] at h
 | i, n + 1, a :: r, h, j, hj => by
  simp only [fromN, Bool.and_eq_true, Bool.or_eq_true, beq_iff_eq, Nat.ble_eq] at h
  cases j with
  | zero => exact ⟨a, rfl, h.1⟩
  | succ j =>
   obtain ⟨b, hb, hb'⟩ := fromN_spec h.2 j (by omega)
   exact ⟨b, by simpa using hb, by omega⟩

theorem viewS_get (ks : List Nat) (os : List AO) (j : Nat) : (bh ks os)[j]? = (ks[j]?).map fun L => viewO ks os (os.getD L (virt L)) := by simp [bh]

theorem getD_some {os : List AO} {L : Nat} {o d : AO} (h : os[L]? = some o) : os.getD L d = o := by simp [List.getD, h]
theorem getD_none {os : List AO} {L : Nat} {d : AO} (h : os[L]? = none) : os.getD L d = d := by simp [List.getD, h]
theorem viewO_virt (ks : List Nat) (os : List AO) (L : Nat) : viewO ks os (virt L) = virt L := by unfold virt; split <;> rfl
theorem viewS_none {ks : List Nat} {os : List AO} {j L : Nat} (h : ks[j]? = some L) (ho : os[L]? = none) : (bh ks os)[j]? = some (virt L) := by
 rw [viewS_get, h]; simp only [Option.map_some, getD_none ho, viewO_virt]

theorem gW {ks : List Nat} {os : List AO} {j L : Nat} {o : AO} (h : ks[j]? = some L) (ho : os[L]? = some o) : (bh ks os)[j]? = some (viewO ks os o) := by
 rw [viewS_get, h]; simp only [Option.map_some, getD_some ho]

theorem fz_of_row {rd : Nat → Nat → Option Value} {s : Nat} {xs : List (List AV)} {b off n : Nat} {v : Value} {cap : Nat} (ho : Row rd b 0 s xs) (hc : n ≤ cap) (hn : off + n ≤ xs.length)
  (hv : v = .slice (some ⟨b, off * s, none⟩) n cap ∨ (cap = 0 ∧ ∃ a, v = .slice a 0 0)) : RepP rd (.fz s ((xs.drop off).take n)) v := by
 have hlen : ((xs.drop off).take n).length = n := by simp; omega
 rcases hv with rfl | ⟨rfl, a, rfl⟩
 ·have hp := Row.part ho off (off + n)
  have e : (xs.take (off + n)).drop off = (xs.drop off).take n := by rw [List.drop_take]; congr 1; omega
  rw [e, Nat.zero_add] at hp
  have := RepP.of_row hp (c := cap) (by omega)
  rw [hlen] at this
  exact this
 ·have : n = 0 := by omega
  subst this
  exact .nil

theorem posAll_some {ks : List Nat} : ∀ {ps q : List (Nat × Nat)}, posAll ks ps = some q → q.length = ps.length ∧ ∀ (i : Nat) p r, ps[i]? = some p → q[i]? = some r → ks[r.1]? = some p.1 ∧ p.2 = r.2
 | [], q, h => by
  cases h
  exact ⟨rfl, fun i p r h => by simp at h⟩
 | p :: ps, q, h => by
  simp only [posAll] at h
  cases h1 : pos ks p.1 with
  | none => rw [h1] at h; cases h
  | some j =>
   cases h2 : posAll ks ps with
   | none => rw [h1, h2] at h; cases h
   | some q' =>
    rw [h1, h2] at h
    cases h
    obtain ⟨h3, h4⟩ := posAll_some h2
    refine ⟨by simp [h3], fun i a b ha hb => ?_⟩
    cases i with
    | zero => simp at ha hb; subst ha; subst hb; exact ⟨pos_some h1, rfl⟩
    | succ i => simp at ha hb; exact h4 i a b ha hb

theorem cf {rd rd' : Nat → Nat → Option Value} {ks : List Nat} {g' : Nat → List Nat} (hm : ∀ b o v, rd b o = some v → rd' b o = some v) (hg : ∀ j L o, ks[j]? = some L → os[L]? = some o → g' j = g L) {x : AV} {v : Value}
  (hsh : ∀ L ∈ shownC ks x, ∀ o s xs, os[L]? = some (AO.arr o s xs) → ∀ b, (g L).head? = some b → Row rd' b 0 s xs) (h : RepC rd os g w x v) : RepC rd' (bh ks os) g' w (viewC ks os x) v := by
 cases x with
 | sc u => exact h
 | fz s xs => exact RepP.mono hm h
 | fp s xs i k => obtain ⟨b, o, hv, hr⟩ := h; exact ⟨b, o, hv, hr.mono hm⟩
 | sl L off n =>
  simp only [viewC]
  cases hp : pos ks L with
  | some j =>
   have hj := pos_some hp
   simp only [RepC] at h ⊢
   cases hL : os[L]? with
   | none =>
    rw [hL] at h
    obtain ⟨rfl, rfl, a, rfl⟩ := h
    rw [viewS_none hj hL]
    by_cases hv2 : 2000000 ≤ L
    ·simp only [virt, if_pos hv2]; exact ⟨0, Nat.le_refl _, Nat.zero_le _, .inr ⟨rfl, a, rfl⟩⟩
    ·simp only [virt, if_neg hv2]
   | some o =>
    rw [hL] at h
    rw [gW hj hL]
    cases o with
    | arr ow s xs => simp only [viewO, hg j L _ hj hL]; exact h
    | rc cs => trivial
    | dead => trivial
  | none =>
   simp only [RepC] at h
   cases hL : os[L]? with
   | none => trivial
   | some o =>
    rw [hL] at h
    cases o with
    | arr ow s xs =>
     obtain ⟨cap, hc, hn, hv⟩ := h
     rcases hv with ⟨b, hb, hv, _⟩ | ⟨rfl, a, rfl⟩
     ·exact fz_of_row (hsh L (by simp [shownC, hp]) ow s xs hL b hb) hc hn (.inl hv)
     ·obtain rfl : n = 0 := by omega
      simp only [List.take_zero]; exact RepP.nil
    | rc cs => trivial
    | dead => trivial
 | pa L i k =>
  simp only [viewC]
  cases hp : pos ks L with
  | some j =>
   have hj := pos_some hp
   simp only [RepC] at h ⊢
   cases hL : os[L]? with
   | none => rw [hL] at h; exact h.elim
   | some o =>
    rw [hL] at h
    rw [gW hj hL]
    cases o with
    | arr ow s xs => simp only [viewO, hg j L _ hj hL]; exact h
    | rc cs => trivial
    | dead => trivial
  | none =>
   simp only [RepC] at h
   cases hL : os[L]? with
   | none => rw [hL] at h; exact h.elim
   | some o =>
    rw [hL] at h
    cases o with
    | arr ow s xs => obtain ⟨b, hb, h⟩ := h; exact ⟨b, 0, by rw [h, Nat.zero_add], hsh L (by simp [shownC, hp]) ow s xs hL b hb⟩
    | rc cs => trivial
    | dead => trivial
 | pt L k =>
  simp only [viewC]
  cases hp : pos ks L with
  | some j =>
   have hj := pos_some hp
   simp only [RepC] at h ⊢
   cases hL : os[L]? with
   | none => rw [hL] at h; exact h.elim
   | some o =>
    rw [hL] at h
    rw [gW hj hL]
    cases o with
    | arr ow s xs => trivial
    | rc cs => simp only [viewO, hg j L _ hj hL]; exact h
    | dead => trivial
  | none => trivial
 | clo n ps =>
  simp only [viewC]
  cases hq : posAll ks ps with
  | none => trivial
  | some q =>
   obtain ⟨arr, h1, h2⟩ := h
   obtain ⟨hlen, hget⟩ := posAll_some hq
   refine ⟨arr, h1, h2.mono hlen fun i p r v a b c => ?_⟩
   obtain ⟨hj, hk⟩ := hget i p r a b
   unfold RepPt at c ⊢
   rw [← hk]
   cases hL : os[p.1]? with
   | none => rw [hL] at c; exact c.elim
   | some o =>
    rw [hL] at c
    rw [gW hj hL]
    cases o with
    | arr ow s xs => trivial
    | rc cs => simp only [viewO, hg r.1 p.1 _ hj hL]; exact c
    | dead => trivial
 | junk => trivial
 | agg cs => trivial
 | tup cs => trivial
 | opt b x => trivial

theorem mem_shownA {ks : List Nat} {cs : List AV} {y : AV} (hy : y ∈ cs) {L : Nat} (h : L ∈ shownC ks y) : L ∈ cs.flatMap (shownC ks) := List.mem_flatMap.2 ⟨y, hy, h⟩

theorem viewA_ok {rd rd' : Nat → Nat → Option Value} {ks : List Nat} {g' : Nat → List Nat} (hm : ∀ b o v, rd b o = some v → rd' b o = some v) (hg : ∀ j L o, ks[j]? = some L → os[L]? = some o → g' j = g L) {x : AV} {v : Value}
  (hsh : ∀ L ∈ shownA ks x, ∀ o s xs, os[L]? = some (AO.arr o s xs) → ∀ b, (g L).head? = some b → Row rd' b 0 s xs) (h : RepA rd os g w x v) : RepA rd' (bh ks os) g' w (viewA ks os x) v := by
 cases x with
 | agg cs =>
  obtain ⟨vs, hv, hl, hp⟩ := h
  refine ⟨vs, hv, by simpa using hl, fun i y hy => ?_⟩
  rw [List.getElem?_map] at hy
  cases hc : cs[i]? with
  | none => rw [hc] at hy; cases hy
  | some y0 =>
   rw [hc] at hy; cases hy
   obtain ⟨u, hu, hr⟩ := hp i y0 hc
   exact ⟨u, hu, cf hm hg (fun L hL => hsh L (mem_shownA (List.mem_of_getElem? hc) hL)) hr⟩
 | tup => exact h.elim
 | opt => exact h.elim
 | sc => exact (cf hm hg (x := .sc _) hsh h).toA
 | fz => exact (cf hm hg (x := .fz _ _) hsh h).toA
 | fp => exact (cf hm hg (x := .fp _ _ _ _) hsh h).toA
 | sl => exact (cf hm hg (x := .sl _ _ _) hsh h).toA
 | pa => exact (cf hm hg (x := .pa _ _ _) hsh h).toA
 | pt => exact (cf hm hg (x := .pt _ _) hsh h).toA
 | clo => exact (cf hm hg (x := .clo _ _) hsh h).toA
 | junk => trivial

theorem viewV_ok {rd rd' : Nat → Nat → Option Value} {ks : List Nat} {g' : Nat → List Nat} (hm : ∀ b o v, rd b o = some v → rd' b o = some v) (hg : ∀ j L o, ks[j]? = some L → os[L]? = some o → g' j = g L) {x : AV} {v : Value}
  (hsh : ∀ L ∈ shownV ks x, ∀ o s xs, os[L]? = some (AO.arr o s xs) → ∀ b, (g L).head? = some b → Row rd' b 0 s xs) (h : RepV rd os g w x v) : RepV rd' (bh ks os) g' w (viewV ks os x) v := by
 cases x with
 | tup cs =>
  obtain ⟨vs, hv, hl, hp⟩ := h
  refine ⟨vs, hv, by simpa using hl, fun i y hy => ?_⟩
  rw [List.getElem?_map] at hy
  cases hc : cs[i]? with
  | none => rw [hc] at hy; cases hy
  | some y0 =>
   rw [hc] at hy; cases hy
   obtain ⟨u, hu, hr⟩ := hp i y0 hc
   exact ⟨u, hu, viewA_ok hm hg (fun L hL => hsh L (List.mem_flatMap.2 ⟨y0, List.mem_of_getElem? hc, hL⟩)) hr⟩
 | opt b x => exact ⟨fun hb => viewA_ok hm hg hsh (h.1 hb), h.2⟩
 | agg cs => exact (viewA_ok hm hg (x := .agg cs) hsh h).toV
 | sc => exact (cf hm hg (x := .sc _) hsh h).toV
 | fz => exact (cf hm hg (x := .fz _ _) hsh h).toV
 | fp => exact (cf hm hg (x := .fp _ _ _ _) hsh h).toV
 | sl => exact (cf hm hg (x := .sl _ _ _) hsh h).toV
 | pa => exact (cf hm hg (x := .pa _ _ _) hsh h).toV
 | pt => exact (cf hm hg (x := .pt _ _) hsh h).toV
 | clo => exact (cf hm hg (x := .clo _ _) hsh h).toV
 | junk => trivial

theorem isOwn_viewO {ks : List Nat} {o : AO} (h : isOwn (some (viewO ks os o))) : isOwn (some o) := by
 cases o with
 | arr b s xs => cases b <;> exact h
 | rc cs => trivial
 | dead => exact h

theorem own_view {ks : List Nat} {j : Nat} (h : own (bh ks os) j) : ∃ L, ks[j]? = some L ∧ (own os L ∨ os[L]? = none) := by
 unfold own at h ⊢
 rw [viewS_get] at h
 cases hk : ks[j]? with
 | none => rw [hk] at h; exact h.elim
 | some L =>
  rw [hk] at h
  refine ⟨L, rfl, ?_⟩
  cases hL : os[L]? with
  | none => exact .inr rfl
  | some o => simp only [Option.map_some, getD_some hL] at h; exact .inl (isOwn_viewO h)

def viewG (ks : List Nat) (os : List AO) (g : Nat → List Nat) : Nat → List Nat := fun j => match os[ks.getD j 0]? with
 | some _ => g (ks.getD j 0)
 | none => []

theorem fa {ks : List Nat} {g : Nat → List Nat} {j L : Nat} {o : AO} (h : ks[j]? = some L) (ho : os[L]? = some o) : viewG ks os g j = g L := by simp [viewG, List.getD, h, ho]
theorem viewG_none {ks : List Nat} {g : Nat → List Nat} {j L : Nat} (h : ks[j]? = some L) (ho : os[L]? = none) : viewG ks os g j = [] := by simp [viewG, List.getD, h, ho]
theorem own_get {L : Nat} (h : own os L) : ∃ o, os[L]? = some o := by
 unfold own at h
 cases hL : os[L]? with
 | none => rw [hL] at h; exact h.elim
 | some o => exact ⟨o, rfl⟩
theorem gM {ks : List Nat} {g : Nat → List Nat} {j b : Nat} (h : own (bh ks os) j) (hb : b ∈ viewG ks os g j) : ∃ L, ks[j]? = some L ∧ own os L ∧ b ∈ g L := by
 obtain ⟨L, hL, ho | ho⟩ := own_view h
 ·obtain ⟨o, he⟩ := own_get ho
  rw [fa hL he] at hb
  exact ⟨L, hL, ho, hb⟩
 ·rw [viewG_none hL ho] at hb; cases hb

theorem OOk.view {X' : Ctx} {ks : List Nat} {g' : Nat → List Nat} (hm : ∀ b o v, rdF X os g w b o = some v → rdF X' (bh ks os) g' w b o = some v) (hg : ∀ j L o, ks[j]? = some L → os[L]? = some o → g' j = g L) (hv : ∀ j L, ks[j]? = some L → os[L]? = none → g' j = []) {j L : Nat} (hj : ks[j]? = some L)
  (hw : own os L → ∀ b ∈ g L, wr X' b) (hsh : ∀ cs, os[L]? = some (.rc cs) → ∀ y ∈ cs, ∀ M ∈ shownC ks y, ∀ o s xs, os[M]? = some (AO.arr o s xs) → ∀ b, (g M).head? = some b → Row (rdF X' (bh ks os) g' w) b 0 s xs)
  (h : OOk X os g w L os[L]?) : OOk X' (bh ks os) g' w j (bh ks os)[j]? := by
 cases hL : os[L]? with
 | none =>
  rw [viewS_none hj hL]
  unfold virt
  split
  ·exact ⟨Nat.succ_pos _, .inl ⟨hv j L hj hL, rfl⟩⟩
  ·trivial
 | some o =>
  rw [gW hj hL]
  rw [hL] at h
  have hw' : isOwn (some o) → ∀ b ∈ g L, wr X' b := fun h => hw (by unfold own; rw [hL]; exact h)
  have hgj := hg j L o hj hL
  cases o with
  | arr ow s xs =>
   cases ow with
   | true =>
    obtain ⟨p2, ⟨p0, p1⟩ | ⟨b, p0, p1, c, t, p3, p4, p5, p6⟩⟩ := h
    ·exact ⟨p2, .inl ⟨hgj.trans p0, p1⟩⟩
    refine ⟨p2, .inr ⟨b, hgj.trans p0, hw' trivial b (by simp [p0]), c, t, p3, p4, p5, fun i k x y hx hy => ?_⟩⟩
    obtain ⟨v, hv, hr⟩ := p6 i k x y hx hy
    exact ⟨v, hv, hr.mono hm⟩
   | false =>
    intro b hb
    rw [hgj] at hb
    exact Row.mono hm (h b hb)
  | rc cs =>
   obtain ⟨b, p0, p1, c, t, p3, p4, p6⟩ := h
   refine ⟨b, hgj.trans p0, hw' trivial b (by simp [p0]), c, t, p3, by simpa using p4, fun k y hy => ?_⟩
   rw [List.getElem?_map] at hy
   cases hc : cs[k]? with
   | none => rw [hc] at hy; cases hy
   | some y0 =>
    rw [hc] at hy; cases hy
    obtain ⟨v, hv, hr⟩ := p6 k y0 hc
    exact ⟨v, hv, cf hm hg (fun M hM => hsh cs hL y0 (List.mem_of_getElem? hc) M hM) hr⟩
  | dead => trivial

theorem SRel.view (h : SRel X os g w) {ks : List Nat} (hn : ks.Nodup) : SRel X (bh ks os) (viewG ks os g) w ∧ (∀ b o v, rdF X os g w b o = some v → rdF X (bh ks os) (viewG ks os g) w b o = some v) ∧
  (∀ L, L ∉ ks → ∀ o s xs, os[L]? = some (AO.arr o s xs) → ∀ b, (g L).head? = some b → Row (rdF X (bh ks os) (viewG ks os g) w) b 0 s xs) := by
 have hm : ∀ b o v, rdF X os g w b o = some v → rdF X (bh ks os) (viewG ks os g) w b o = some v := by
  intro b o v hr
  rw [dW] at hr ⊢
  refine ⟨hr.1, ?_, hr.2.2⟩
  rintro ⟨j, hj, e⟩
  obtain ⟨L, hL, ho, e⟩ := gM hj e
  exact hr.2.1 ⟨L, ho, e⟩
 have hrow : ∀ L, L ∉ ks → ∀ o s xs, os[L]? = some (AO.arr o s xs) → ∀ b, (g L).head? = some b → Row (rdF X (bh ks os) (viewG ks os g) w) b 0 s xs := by
  intro L hL o s xs he b hb
  have ho := h.obj L
  rw [he] at ho
  cases o with
  | false => exact Row.mono hm (ho b hb)
  | true =>
   have hown : own os L := by unfold own; rw [he]; trivial
   obtain ⟨p2, ⟨p0, p1⟩ | ⟨b2, p0, p1, c, t, p3, p4, p5, p6⟩⟩ := ho
   ·rw [p0] at hb; cases hb
   obtain rfl : b2 = b := by rw [p0] at hb; simpa using hb
   refine ⟨p5, fun i k x y hx hy => ?_⟩
   obtain ⟨v, hv, hr⟩ := p6 i k x y hx hy
   refine ⟨v, dW.2 ⟨p1.vis, ?_, ?_⟩, hr.mono hm⟩
   ·rintro ⟨j, hj, e⟩
    obtain ⟨M, hM, hom, e⟩ := gM hj e
    exact hL (h.inj M L hom hown b2 e (by simp [p0]) ▸ List.mem_of_getElem? hM)
   ·rw [Nat.zero_add, cell_of_row w b2 _ c t (0, 0) p3]; simpa using hv
 refine ⟨⟨h.sys, h.tape, h.output, h.size, h.same, fun j hj b hb => ?_, fun i j hi hj b e f => ?_, fun j => ?_⟩, hm, hrow⟩
 ·obtain ⟨L, hL, ho, hb⟩ := gM hj hb
  exact h.bnd L ho b hb
 ·obtain ⟨L, hL, ho, e⟩ := gM hi e
  obtain ⟨M, hM, hp, f⟩ := gM hj f
  have := h.inj L M ho hp b e f
  subst this
  exact nodup_get hn hL hM
 ·cases hk : ks[j]? with
  | none => rw [viewS_get, hk]; trivial
  | some L =>
   refine OOk.view hm (fun j L o => fa) (fun j L => viewG_none) hk (fun ho => ?_) (fun cs hcs y hy M hM o s xs he => hrow M ?_ o s xs he) (h.obj L)
   ·have hobj := h.obj L
    unfold own at ho
    cases hL : os[L]? with
    | none => rw [hL] at ho; exact ho.elim
    | some o =>
     rw [hL] at ho hobj
     intro b hb
     cases o with
     | arr b' s xs =>
      cases b' with
      | true =>
       obtain ⟨_, ⟨p0, _⟩ | ⟨b2, p0, p1, _⟩⟩ := hobj
       ·rw [p0] at hb; cases hb
       ·rw [p0] at hb; simp at hb; rw [hb]; exact p1
      | false => exact ho.elim
     | rc cs => obtain ⟨b2, p0, p1, _⟩ := hobj; rw [p0] at hb; simp at hb; rw [hb]; exact p1
     | dead => exact ho.elim
   ·cases y <;> simp only [shownC] at hM <;> first | cases hM | skip
    all_goals
     split at hM
     ·cases hM
     ·rename_i hp
      simp only [List.mem_cons, List.not_mem_nil, or_false] at hM
      subst hM
      exact pos_none (by simpa using hp)

theorem shownC_not {ks : List Nat} {y : AV} {M : Nat} (hM : M ∈ shownC ks y) : M ∉ ks := by
 cases y <;> simp only [shownC] at hM <;> first | cases hM | skip
 all_goals
  split at hM
  ·cases hM
  ·rename_i hp
   simp only [List.mem_cons, List.not_mem_nil, or_false] at hM
   subst hM
   exact pos_none (by simpa using hp)

theorem shownA_not {ks : List Nat} {y : AV} {M : Nat} (hM : M ∈ shownA ks y) : M ∉ ks := by
 cases y with
 | agg cs => obtain ⟨x, _, hx⟩ := List.mem_flatMap.1 hM; exact shownC_not hx
 | sl L o n => exact shownC_not (y := .sl L o n) hM
 | pa L o n => exact shownC_not (y := .pa L o n) hM
 | _ => cases hM

theorem shownV_not {ks : List Nat} {y : AV} {M : Nat} (hM : M ∈ shownV ks y) : M ∉ ks := by
 cases y with
 | tup cs => obtain ⟨x, _, hx⟩ := List.mem_flatMap.1 hM; exact shownA_not hx
 | opt b x => exact shownA_not (y := x) hM
 | agg cs => exact shownA_not (y := .agg cs) hM
 | sl L o n => exact shownC_not (y := .sl L o n) hM
 | pa L o n => exact shownC_not (y := .pa L o n) hM
 | _ => cases hM

theorem Keeps.view {os0 : List AO} {g0 : Nat → List Nat} {w0 : World} (h : Keeps os0 g0 w0 os g w) {ks : List Nat} (hkp : keepP os0.length ks os) : Keeps os0 g0 w0 (bh ks os) (viewG ks os g) w := by
 obtain ⟨hk, hbig⟩ := hkp
 simp only [bZ, Bool.and_eq_true] at hk
 have hget : ∀ L, L < os0.length → ∃ a, ks[L]? = some a ∧ (a = L ∨ (1000000 ≤ a ∧ a ≤ 1999999)) := fun L hL => by simpa using fromN_spec hk.1 L hL
 have hlen : os0.length ≤ ks.length := by
  cases hn : os0.length with
  | zero => omega
  | succ n => obtain ⟨a, ha, _⟩ := hget n (by omega); have := a8 ha; omega
 have hobj : ∀ {L : Nat} {o : AO} {o' : AO}, os0[L]? = some o → (bh ks os)[L]? = some o' → ∃ o'', (os[L]? = some o'' ∧ o' = viewO ks os o'' ∧ ks[L]? = some L) ∨ (o'' = .dead ∧ o' = viewO ks os o'') := by
  intro L o o' h1 h2
  have hl := a8 h1
  obtain ⟨o'', h3⟩ := bq h.len h1
  obtain ⟨a, ha, hc | hc⟩ := hget L hl
  ·subst hc
   rw [gW ha h3] at h2
   cases h2
   exact ⟨o'', .inl ⟨h3, rfl, ha⟩⟩
  ·rw [viewS_get, ha] at h2
   have hn : os[a]? = none := List.getElem?_eq_none (by omega)
   have hd : virt a = .dead := by unfold virt; rw [if_neg (by omega)]
   simp only [Option.map_some, getD_none hn, hd, Option.some.injEq] at h2
   exact ⟨.dead, .inr ⟨rfl, h2.symm⟩⟩
 constructor
 ·simpa [bh] using hlen
 ·intro L o s xs o' s' xs' h1 h2
  obtain ⟨o'', ⟨h3, e, hg⟩ | ⟨rfl, e⟩⟩ := hobj h1 h2
  ·cases o'' with
   | arr b z zs => cases e; rw [fa hg h3]; exact h.arr _ _ _ _ _ _ _ h1 h3
   | rc cs => cases e
   | dead => cases e
  ·cases e
 ·intro L cs cs' h1 h2
  obtain ⟨o'', ⟨h3, e, hg⟩ | ⟨rfl, e⟩⟩ := hobj h1 h2
  ·cases o'' with
   | arr b z zs => cases e
   | rc cs => cases e; rw [fa hg h3]; exact h.rc _ _ _ h1 h3
   | dead => cases e
  ·cases e
 ·intro L o s xs cs' h1 h2
  obtain ⟨o'', ⟨h3, e, hg⟩ | ⟨rfl, e⟩⟩ := hobj h1 h2
  ·cases o'' with
   | arr b z zs => cases e
   | rc cs => exact h.rcArr _ _ _ _ _ h1 h3
   | dead => cases e
  ·cases e
 ·intro L cs o s xs h1 h2
  obtain ⟨o'', ⟨h3, e, hg⟩ | ⟨rfl, e⟩⟩ := hobj h1 h2
  ·cases o'' with
   | arr b z zs => exact h.arrRc _ _ _ _ _ h1 h3
   | rc cs => cases e
   | dead => cases e
  ·cases e
 ·intro L h1
  have hl := a8 h1
  have hv : ∃ o', (bh ks os)[L]? = some o' := by
   have : L < (bh ks os).length := by simp [bh]; omega
   exact ⟨_, List.getElem?_eq_getElem this⟩
  obtain ⟨o', ho'⟩ := hv
  obtain ⟨o'', ⟨h3, e, hg⟩ | ⟨rfl, e⟩⟩ := hobj h1 ho'
  ·rw [h.dead L h1] at h3
   cases h3
   rw [ho', e]; rfl
  ·rw [ho', e]; rfl
 ·exact h.rm

theorem lk_map (ts : List Nat) (f : Nat → AV) (t : Nat) : lk (ts.map fun t => (t, f t)) t = f t ∨ lk (ts.map fun t => (t, f t)) t = .junk := by
 induction ts with
 | nil => exact .inr rfl
 | cons a r ih =>
  simp only [List.map_cons, lk]
  by_cases e : a = t
  ·subst e; rw [if_pos rfl]; exact .inl rfl
  ·rw [if_neg e]; exact ih

theorem Rel.view {st : St} {a : Act} (h : Rel X c st g a w) {ts ks : List Nat} (hk : keepP X.os0.length ks st.os) : Rel X c (dX ts ks st) (viewG ks st.os g) a w := by
 have hn : ks.Nodup := nodupN_spec (by have := hk.1; simp only [bZ, Bool.and_eq_true] at this; exact this.2)
 obtain ⟨h1, h2, h3⟩ := h.srel.view hn
 refine ⟨h1, fun t => ?_, h.nt, h.defs, fun n => (h.glob n).mono h2, h.keeps.view hk⟩
 simp only [dX]
 rcases lk_map ts (fun t => viewV ks st.os (lk st.env t)) t with e | e
 ·rw [e]; exact viewV_ok (g := g) h2 (fun j L o => fa) (fun L hL => h3 L (shownV_not hL)) (h.env t)
 ·rw [e]; trivial

theorem wkC.len : ∀ {xs ys : List AV}, wkL xs ys → ys.length = xs.length
 | [], [], _ => rfl
 | _ :: r, _ :: s, h => by simp [wkC.len h.2]
 | [], _ :: _, h => h.elim
 | _ :: _, [], h => h.elim

theorem wkL.get : ∀ {xs ys : List AV}, wkL xs ys → ∀ (i : Nat) y, ys[i]? = some y → ∃ x, xs[i]? = some x ∧ wkC x y
 | x :: r, y :: s, h, 0, z, hz => by cases hz; exact ⟨x, rfl, h.1⟩
 | x :: r, y :: s, h, i + 1, z, hz => by simpa using wkL.get h.2 i z (by simpa using hz)
 | [], [], _, i, z, hz => by simp at hz
 | [], _ :: _, h, _, _, _ => h.elim
 | _ :: _, [], h, _, _, _ => h.elim

theorem wkR.get : ∀ {xs ys : List (List AV)}, wkR xs ys → ys.length = xs.length ∧ ∀ (i : Nat) y, ys[i]? = some y → ∃ x, xs[i]? = some x ∧ wkL x y
 | [], [], _ => ⟨rfl, fun i z hz => by simp at hz⟩
 | x :: r, y :: s, h => by
  obtain ⟨h1, h2⟩ := wkR.get h.2
  refine ⟨by simp [h1], fun i z hz => ?_⟩
  cases i with
  | zero => cases hz; exact ⟨x, rfl, h.1⟩
  | succ i => simpa using h2 i z (by simpa using hz)
 | [], _ :: _, h => h.elim
 | _ :: _, [], h => h.elim

theorem wkT.get : ∀ {xs ys : List AV}, wkT xs ys → ys.length = xs.length ∧ ∀ (i : Nat) y, ys[i]? = some y → ∃ x, xs[i]? = some x ∧ wkA x y
 | [], [], _ => ⟨rfl, fun i z hz => by simp at hz⟩
 | x :: r, y :: s, h => by
  obtain ⟨h1, h2⟩ := wkT.get h.2
  refine ⟨by simp [h1], fun i z hz => ?_⟩
  cases i with
  | zero => cases hz; exact ⟨x, rfl, h.1⟩
  | succ i => simpa using h2 i z (by simpa using hz)
 | [], _ :: _, h => h.elim
 | _ :: _, [], h => h.elim

theorem wkS.get : ∀ {xs ys : List AO}, wkS xs ys → ys.length = xs.length ∧ ∀ (i : Nat) x, xs[i]? = some x → ∃ y, ys[i]? = some y ∧ wkO x y
 | [], [], _ => ⟨rfl, fun i z hz => by simp at hz⟩
 | x :: r, y :: s, h => by
  obtain ⟨h1, h2⟩ := wkS.get h.2
  refine ⟨by simp [h1], fun i z hz => ?_⟩
  cases i with
  | zero => cases hz; exact ⟨y, rfl, h.1⟩
  | succ i => simpa using h2 i z (by simpa using hz)
 | [], _ :: _, h => h.elim
 | _ :: _, [], h => h.elim

theorem nil_of {x : AV} (h : isNil x = true) : x = .sc (.slice none 0 0) := by
 unfold isNil at h
 split at h
 ·rfl
 ·cases h

theorem wkL0.get : ∀ {xs ys : List AV}, wkL0 xs ys → ys.length = xs.length ∧ ∀ (i : Nat) y, ys[i]? = some y → ∃ x, xs[i]? = some x ∧ wkC0 x y
 | [], [], _ => ⟨rfl, fun i z hz => by simp at hz⟩
 | x :: r, y :: s, h => by
  obtain ⟨h1, h2⟩ := wkL0.get h.2
  refine ⟨by simp [h1], fun i z hz => ?_⟩
  cases i with
  | zero => cases hz; exact ⟨x, rfl, h.1⟩
  | succ i => simpa using h2 i z (by simpa using hz)
 | [], _ :: _, h => h.elim
 | _ :: _, [], h => h.elim

theorem wkR0.get : ∀ {xs ys : List (List AV)}, wkR0 xs ys → ys.length = xs.length ∧ ∀ (i : Nat) y, ys[i]? = some y → ∃ x, xs[i]? = some x ∧ wkL0 x y
 | [], [], _ => ⟨rfl, fun i z hz => by simp at hz⟩
 | x :: r, y :: s, h => by
  obtain ⟨h1, h2⟩ := wkR0.get h.2
  refine ⟨by simp [h1], fun i z hz => ?_⟩
  cases i with
  | zero => cases hz; exact ⟨x, rfl, h.1⟩
  | succ i => simpa using h2 i z (by simpa using hz)
 | [], _ :: _, h => h.elim
 | _ :: _, [], h => h.elim

theorem RepP.wk0 {rd : Nat → Nat → Option Value} {x y : AV} {v : Value} (h : RepP rd x v) (hw : wkC0 x y) : RepP rd y v := by
 rcases hw with rfl | ⟨hn, s, rfl⟩
 ·exact h
 ·rw [nil_of hn] at h; cases h; exact .nil

theorem RepP.wkF {rd : Nat → Nat → Option Value} {s : Nat} {xs ys : List (List AV)} {v : Value} (h : RepP rd (.fz s xs) v) (hw : wkR0 xs ys) : RepP rd (.fz s ys) v := by
 obtain ⟨h1, h2⟩ := hw.get
 rcases h.row with ⟨rfl, a, c, rfl⟩ | ⟨b, o, c, rfl, hc, hr⟩
 ·have : ys = [] := List.eq_nil_of_length_eq_zero (by simpa using h1)
  subst this; exact .nil
 ·rw [← h1]
  refine .of_row ⟨fun y hy => ?_, fun i k y z hy hz => ?_⟩ (by omega)
  ·obtain ⟨i, hi⟩ := List.getElem?_of_mem hy
   obtain ⟨x, hx, hxy⟩ := h2 i y hi
   rw [hxy.get.1]; exact hr.1 x (List.mem_of_getElem? hx)
  ·obtain ⟨x, hx, hxy⟩ := h2 i y hy
   obtain ⟨u, hu, hw⟩ := hxy.get.2 k z hz
   obtain ⟨v, hv, hp⟩ := hr.2 i k x u hx hu
   exact ⟨v, hv, hp.wk0 hw⟩

theorem RepP.wk {rd : Nat → Nat → Option Value} {x y : AV} {v : Value} (h : RepP rd x v) (hw : wkC x y) : RepP rd y v := by
 rcases hw with rfl | ⟨hn, s, rfl⟩ | ⟨s, xs, ys, rfl, rfl, hw⟩
 ·exact h
 ·rw [nil_of hn] at h; cases h; exact .nil
 ·exact h.wkF hw

structure OAlike (os os' : List AO) : Prop where
 arr : ∀ (L : Nat) o s xs, os[L]? = some (AO.arr o s xs) → ∃ ys, os'[L]? = some (AO.arr o s ys) ∧ wkR xs ys
 rc : ∀ (L : Nat) cs, os[L]? = some (AO.rc cs) → ∃ ds, os'[L]? = some (AO.rc ds) ∧ (cs = ds ∨ wkM cs ds)
 dead : ∀ (L : Nat), os[L]? = some AO.dead → os'[L]? = some AO.dead
 len : os'.length = os.length

theorem wkL_refl : ∀ xs, wkL xs xs
 | [] => trivial
 | _ :: r => ⟨.inl rfl, wkL_refl r⟩

theorem wkR_refl : ∀ xs, wkR xs xs
 | [] => trivial
 | x :: r => ⟨wkL_refl x, wkR_refl r⟩

theorem wkS_refl : ∀ xs, wkS xs xs
 | [] => trivial
 | _ :: r => ⟨.inl rfl, wkS_refl r⟩

theorem wkE_refl : ∀ xs, wkE xs xs
 | [] => trivial
 | (_, _) :: r => ⟨rfl, .inl rfl, wkE_refl r⟩

theorem wkR_app : ∀ {xs ys zs us : List (List AV)}, wkR xs ys → wkR zs us → wkR (xs ++ zs) (ys ++ us)
 | [], [], _, _, _, h => h
 | _ :: _, _ :: _, _, _, h, k => ⟨h.1, wkR_app h.2 k⟩
 | [], _ :: _, _, _, h, _ => h.elim
 | _ :: _, [], _, _, h, _ => h.elim

theorem wkS.alike {os os' : List AO} (h : wkS os os') : OAlike os os' := by
 obtain ⟨h1, h2⟩ := h.get
 refine ⟨fun L o s xs e => ?_, fun L cs e => ?_, fun L e => ?_, h1⟩
 ·obtain ⟨y, hy, hw⟩ := h2 L _ e
  rcases hw with rfl | hw
  ·exact ⟨xs, hy, wkR_refl _⟩
  ·cases y with
   | arr b s' ys => obtain ⟨rfl, rfl, hw⟩ := hw; exact ⟨ys, hy, hw⟩
   | rc cs => exact hw.elim
   | dead => exact hw.elim
 ·obtain ⟨y, hy, hw⟩ := h2 L _ e
  rcases hw with rfl | hw
  ·exact ⟨cs, hy, .inl rfl⟩
  ·cases y with
   | arr b s' ys => exact hw.elim
   | rc ds => exact ⟨ds, hy, .inr hw⟩
   | dead => exact hw.elim
 ·obtain ⟨y, hy, hw⟩ := h2 L _ e
  rcases hw with rfl | hw
  ·exact hy
  ·cases y <;> exact hw.elim

theorem OAlike.own {os os' : List AO} (h : OAlike os os') (L : Nat) : own os' L ↔ own os L := by
 unfold AM.own
 cases hL : os[L]? with
 | none =>
  have : os'[L]? = none := by
   rw [List.getElem?_eq_none_iff] at hL ⊢; rw [h.len]; exact hL
  rw [this]
 | some o =>
  cases o with
  | arr b s xs => obtain ⟨ys, hy, _⟩ := h.arr L b s xs hL; rw [hy]; cases b <;> exact Iff.rfl
  | rc cs => obtain ⟨ds, hy, _⟩ := h.rc L cs hL; rw [hy]; exact Iff.rfl
  | dead => rw [h.dead L hL]

theorem OAlike.rd {os os' : List AO} (h : OAlike os os') (b o : Nat) : rdF X os' g w b o = rdF X os g w b o := by
 have : ownB os' g b ↔ ownB os g b := ⟨fun ⟨L, hL, e⟩ => ⟨L, (h.own L).1 hL, e⟩, fun ⟨L, hL, e⟩ => ⟨L, (h.own L).2 hL, e⟩⟩
 unfold rdF
 by_cases h1 : vis X b ∧ ¬ ownB os g b
 ·rw [if_pos h1, if_pos ⟨h1.1, fun h2 => h1.2 (this.1 h2)⟩]
 ·rw [if_neg h1, if_neg (fun h2 => h1 ⟨h2.1, fun h3 => h2.2 (this.2 h3)⟩)]

theorem wkD_refl (x : AV) : wkD x x := .inl (.inl rfl)
theorem wkM_refl : ∀ xs, wkM xs xs
 | [] => trivial
 | x :: r => ⟨wkD_refl x, wkM_refl r⟩
theorem wkM.len : ∀ {xs ys : List AV}, wkM xs ys → ys.length = xs.length
 | [], [], _ => rfl
 | _ :: r, _ :: s, h => by simp [wkM.len h.2]
 | [], _ :: _, h => h.elim
 | _ :: _, [], h => h.elim
theorem wkM.get : ∀ {xs ys : List AV}, wkM xs ys → ∀ (i : Nat) y, ys[i]? = some y → ∃ x, xs[i]? = some x ∧ wkD x y
 | x :: r, y :: s, h, 0, z, hz => by cases hz; exact ⟨x, rfl, h.1⟩
 | x :: r, y :: s, h, i + 1, z, hz => by simpa using wkM.get h.2 i z (by simpa using hz)
 | [], [], _, i, z, hz => by simp at hz
 | [], _ :: _, h, _, _, _ => h.elim
 | _ :: _, [], h, _, _, _ => h.elim

theorem OAlike.repC {rd : Nat → Nat → Option Value} {os os' : List AO} (a : OAlike os os') {x : AV} {v : Value} (h : RepC rd os g w x v) : RepC rd os' g w x v := by
 cases x with
 | sl L off n =>
  simp only [RepC] at h ⊢
  cases hL : os[L]? with
  | none =>
   rw [hL] at h
   have : os'[L]? = none := by rw [List.getElem?_eq_none_iff] at hL ⊢; rw [a.len]; exact hL
   rw [this]; exact h
  | some o =>
   rw [hL] at h
   cases o with
   | arr b s xs => obtain ⟨ys, hy, hw⟩ := a.arr L b s xs hL; rw [hy]; obtain ⟨cap, h1, h2, h3⟩ := h; exact ⟨cap, h1, by rw [hw.get.1]; exact h2, h3⟩
   | rc cs => obtain ⟨ds, hy, _⟩ := a.rc L cs hL; rw [hy]; trivial
   | dead => rw [a.dead L hL]; trivial
 | pa L i k =>
  simp only [RepC] at h ⊢
  cases hL : os[L]? with
  | none => rw [hL] at h; exact h.elim
  | some o =>
   rw [hL] at h
   cases o with
   | arr b s xs => obtain ⟨ys, hy, hw⟩ := a.arr L b s xs hL; rw [hy]; exact h
   | rc cs => obtain ⟨ds, hy, _⟩ := a.rc L cs hL; rw [hy]; trivial
   | dead => rw [a.dead L hL]; trivial
 | pt L k =>
  simp only [RepC] at h ⊢
  cases hL : os[L]? with
  | none => rw [hL] at h; exact h.elim
  | some o =>
   rw [hL] at h
   cases o with
   | arr b s xs => obtain ⟨ys, hy, hw⟩ := a.arr L b s xs hL; rw [hy]; trivial
   | rc cs => obtain ⟨ds, hy, _⟩ := a.rc L cs hL; rw [hy]; exact h
   | dead => rw [a.dead L hL]; trivial
 | clo n ps =>
  obtain ⟨arr, h1, h2⟩ := h
  refine ⟨arr, h1, h2.mono rfl fun i p q v e1 e2 c => ?_⟩
  rw [e1] at e2; cases e2
  unfold RepPt at c ⊢
  cases hL : os[p.1]? with
  | none => rw [hL] at c; exact c.elim
  | some o =>
   rw [hL] at c
   cases o with
   | arr b s xs => obtain ⟨ys, hy, hw⟩ := a.arr _ b s xs hL; rw [hy]; trivial
   | rc cs => obtain ⟨ds, hy, _⟩ := a.rc _ cs hL; rw [hy]; exact c
   | dead => rw [a.dead _ hL]; trivial
 | _ => exact h

theorem RepC.wk {rd : Nat → Nat → Option Value} {x y : AV} {v : Value} (h : RepC rd os g w x v) (hw : wkC x y) : RepC rd os g w y v := by
 rcases hw with rfl | ⟨hn, s, rfl⟩ | ⟨s, xs, ys, rfl, rfl, hw⟩
 ·exact h
 ·rw [nil_of hn] at h
  obtain rfl : v = .slice none 0 0 := h
  exact .nil
 ·exact RepP.wkF (show RepP rd (.fz s xs) v from h) hw

theorem RepC.wkD' {rd : Nat → Nat → Option Value} {x y : AV} {v : Value} (h : RepC rd os g w x v) (hw : wkD x y) : RepC rd os g w y v := by
 rcases hw with hw | ⟨hn, L, rfl⟩
 ·exact h.wk hw
 ·rw [nil_of hn] at h
  obtain rfl : v = .slice none 0 0 := h
  simp only [RepC]
  cases os[L]? with
  | none => exact ⟨trivial, trivial, none, rfl⟩
  | some o =>
   cases o with
   | arr ow z xs => exact ⟨0, Nat.le_refl _, Nat.zero_le _, .inr ⟨rfl, none, rfl⟩⟩
   | rc cs => trivial
   | dead => trivial

theorem OAlike.repA {rd : Nat → Nat → Option Value} {os os' : List AO} (a : OAlike os os') {x : AV} {v : Value} (h : RepA rd os g w x v) : RepA rd os' g w x v := by
 cases x with
 | agg cs => obtain ⟨vs, hv, hl, hp⟩ := h; exact ⟨vs, hv, hl, fun i y hy => let ⟨u, hu, hr⟩ := hp i y hy; ⟨u, hu, a.repC hr⟩⟩
 | sc => exact h
 | fz => exact h
 | fp => exact h
 | sl => exact a.repC (rd := rd) (w := w) (g := g) (x := .sl _ _ _) h
 | pa => exact a.repC (rd := rd) (w := w) (g := g) (x := .pa _ _ _) h
 | pt => exact a.repC (rd := rd) (w := w) (g := g) (x := .pt _ _) h
 | clo => exact a.repC (rd := rd) (w := w) (g := g) (x := .clo _ _) h
 | junk => trivial
 | tup => exact h.elim
 | opt => exact h.elim

theorem OAlike.repV {rd : Nat → Nat → Option Value} {os os' : List AO} (a : OAlike os os') {x : AV} {v : Value} (h : RepV rd os g w x v) : RepV rd os' g w x v := by
 cases x with
 | tup cs => obtain ⟨vs, hv, hl, hp⟩ := h; exact ⟨vs, hv, hl, fun i y hy => let ⟨u, hu, hr⟩ := hp i y hy; ⟨u, hu, a.repA hr⟩⟩
 | opt b x => exact ⟨fun hb => a.repA (h.1 hb), h.2⟩
 | agg cs => exact a.repA (x := .agg cs) h
 | sc => exact h
 | fz => exact h
 | fp => exact h
 | sl => exact a.repC (rd := rd) (w := w) (g := g) (x := .sl _ _ _) h
 | pa => exact a.repC (rd := rd) (w := w) (g := g) (x := .pa _ _ _) h
 | pt => exact a.repC (rd := rd) (w := w) (g := g) (x := .pt _ _) h
 | clo => exact a.repC (rd := rd) (w := w) (g := g) (x := .clo _ _) h
 | junk => trivial

def notAgg : AV → Prop
 | .agg _ => False
 | _ => True

def notTup : AV → Prop
 | .tup _ => False
 | _ => True

theorem wkA_cell {x y : AV} (h : wkA x y) (hx : notAgg x) : wkD x y := by
 rcases h with rfl | h
 ·exact wkD_refl _
 ·cases x <;> first | exact hx.elim | exact h | (cases y <;> exact h)

theorem wkV_one {x y : AV} (h : wkV x y) (hx : notTup x) : wkA x y := by
 rcases h with rfl | h
 ·exact .inl rfl
 ·cases x <;> first | exact hx.elim | exact h | (cases y <;> exact h)

theorem RepA.toC {rd : Nat → Nat → Option Value} {x : AV} {v : Value} (h : RepA rd os g w x v) (hx : notAgg x) : RepC rd os g w x v := by
 cases x <;> first | exact hx.elim | exact h

theorem RepV.toA1 {rd : Nat → Nat → Option Value} {x : AV} {v : Value} (h : RepV rd os g w x v) (hx : notTup x) (ho : ∀ b z, x ≠ .opt b z) : RepA rd os g w x v := by
 cases x <;> first | exact hx.elim | exact h | exact absurd rfl (ho _ _)

theorem RepA.wk {rd : Nat → Nat → Option Value} {x y : AV} {v : Value} (h : RepA rd os g w x v) (hw : wkA x y) : RepA rd os g w y v := by
 by_cases hx : notAgg x
 ·exact ((h.toC hx).wkD' (wkA_cell hw hx)).toA
 ·cases x with
  | agg cs =>
   rcases hw with rfl | hw
   ·exact h
   ·cases y with
    | agg ds =>
     obtain ⟨vs, hv, hl, hp⟩ := h
     refine ⟨vs, hv, by rw [hl]; exact (wkM.len hw).symm, fun i y hy => ?_⟩
     obtain ⟨x, hx, hxy⟩ := wkM.get hw i y hy
     obtain ⟨u, hu, hr⟩ := hp i x hx
     exact ⟨u, hu, hr.wkD' hxy⟩
    | _ => rcases hw with (e | ⟨hn, _⟩ | ⟨_, _, _, e, _⟩) | ⟨hn, _⟩ <;> first | cases e | cases hn
  | _ => exact absurd trivial hx

theorem RepV.wk {rd : Nat → Nat → Option Value} {x y : AV} {v : Value} (h : RepV rd os g w x v) (hw : wkV x y) : RepV rd os g w y v := by
 cases x with
 | tup vs =>
  rcases hw with rfl | hw
  ·exact h
  ·cases y with
   | tup us =>
    obtain ⟨vs', hv, hl, hp⟩ := h
    refine ⟨vs', hv, by rw [hl]; exact hw.get.1.symm, fun i y hy => ?_⟩
    obtain ⟨x, hx, hxy⟩ := hw.get.2 i y hy
    obtain ⟨u, hu, hr⟩ := hp i x hx
    exact ⟨u, hu, hr.wk hxy⟩
   | _ =>
    rcases hw with e | hw
    ·cases e
    ·rcases hw with (e | ⟨hn, _⟩ | ⟨_, _, _, e, _⟩) | ⟨hn, _⟩ <;> first | cases e | cases hn
 | opt b z =>
  rcases wkA_cell (wkV_one hw trivial) trivial with (rfl | ⟨hn, _⟩ | ⟨_, _, _, e, _⟩) | ⟨hn, _⟩
  ·exact h
  ·cases hn
  ·cases e
  ·cases hn
 | sc u => exact ((h.toA1 trivial (by simp)).wk (wkV_one hw trivial)).toV
 | fz s xs => exact ((h.toA1 trivial (by simp)).wk (wkV_one hw trivial)).toV
 | fp s xs i k => exact ((h.toA1 trivial (by simp)).wk (wkV_one hw trivial)).toV
 | sl L o n => exact ((h.toA1 trivial (by simp)).wk (wkV_one hw trivial)).toV
 | pa L i k => exact ((h.toA1 trivial (by simp)).wk (wkV_one hw trivial)).toV
 | pt L k => exact ((h.toA1 trivial (by simp)).wk (wkV_one hw trivial)).toV
 | clo L k => exact ((h.toA1 trivial (by simp)).wk (wkV_one hw trivial)).toV
 | agg cs => exact ((h.toA1 trivial (by simp)).wk (wkV_one hw trivial)).toV
 | junk => exact ((h.toA1 trivial (by simp)).wk (wkV_one hw trivial)).toV

theorem SRel.wk (h : SRel X os g w) {os' : List AO} (hw : wkS os os') : SRel X os' g w := by
 have a := hw.alike
 have hrd : rdF X os' g w = rdF X os g w := by funext b o; exact a.rd b o
 refine ⟨h.sys, h.tape, h.output, h.size, h.same, fun L hL => h.bnd L ((a.own L).1 hL), fun L M hL hM b e f => h.inj L M ((a.own L).1 hL) ((a.own M).1 hM) b e f, fun L => ?_⟩
 have hobj := h.obj L
 cases hL : os[L]? with
 | none =>
  have : os'[L]? = none := by rw [List.getElem?_eq_none_iff] at hL ⊢; rw [a.len]; exact hL
  rw [this]; trivial
 | some o =>
  rw [hL] at hobj
  cases o with
  | arr b s xs =>
   obtain ⟨ys, hy, hxy⟩ := a.arr L b s xs hL
   rw [hy]
   obtain ⟨hl, hg⟩ := hxy.get
   cases b with
   | true =>
    obtain ⟨p2, ⟨p0, p1⟩ | ⟨b, p0, p1, c, t, p3, p4, p5, p6⟩⟩ := hobj
    ·exact ⟨p2, .inl ⟨p0, List.eq_nil_of_length_eq_zero (by rw [hl, p1]; rfl)⟩⟩
    refine ⟨p2, .inr ⟨b, p0, p1, c, t, p3, by rw [hl]; exact p4, fun y hm => ?_, fun i k y z hy hz => ?_⟩⟩
    ·obtain ⟨i, hi, e⟩ := List.mem_iff_getElem.1 hm
     obtain ⟨x, hx, hxy⟩ := hg i y (by rw [List.getElem?_eq_getElem hi, e])
     rw [wkC.len hxy]; exact p5 x (List.mem_of_getElem? hx)
    ·obtain ⟨x, hx, hxy⟩ := hg i y hy
     obtain ⟨z0, hz0, hzz⟩ := hxy.get k z hz
     obtain ⟨v, hv, hr⟩ := p6 i k x z0 hx hz0
     exact ⟨v, hv, by rw [hrd]; exact hr.wk hzz⟩
   | false =>
    intro b hb
    have hobj : Row _ _ _ _ _ := hobj b hb
    rw [hrd]
    refine ⟨fun y hm => ?_, fun i k y z hy hz => ?_⟩
    ·obtain ⟨i, hi, e⟩ := List.mem_iff_getElem.1 hm
     obtain ⟨x, hx, hxy⟩ := hg i y (by rw [List.getElem?_eq_getElem hi, e])
     rw [wkC.len hxy]; exact (show Row _ _ _ _ _ from hobj).1 x (List.mem_of_getElem? hx)
    ·obtain ⟨x, hx, hxy⟩ := hg i y hy
     obtain ⟨z0, hz0, hzz⟩ := hxy.get k z hz
     obtain ⟨v, hv, hr⟩ := (show Row _ _ _ _ _ from hobj).2 i k x z0 hx hz0
     exact ⟨v, hv, hr.wk hzz⟩
  | rc cs =>
   obtain ⟨ds, hy, hcd⟩ := a.rc L cs hL
   rw [hy]
   obtain ⟨b, p0, p1, c, t, p3, p4, p6⟩ := hobj
   have hcd' : wkM cs ds := by
    rcases hcd with rfl | h
    ·exact wkM_refl _
    ·exact h
   refine ⟨b, p0, p1, c, t, p3, by rw [wkM.len hcd']; exact p4, fun k y hy => ?_⟩
   obtain ⟨x, hx, hxy⟩ := wkM.get hcd' k y hy
   obtain ⟨v, hv, hr⟩ := p6 k x hx
   exact ⟨v, hv, by rw [hrd]; exact a.repC (hr.wkD' hxy)⟩
  | dead => rw [a.dead L hL]; trivial

theorem Keeps.wk {os0 : List AO} {g0 : Nat → List Nat} {w0 : World} (h : Keeps os0 g0 w0 os g w) {os' : List AO} (hw : wkS os os') : Keeps os0 g0 w0 os' g w := by
 obtain ⟨hl, hg⟩ := hw.get
 have a := hw.alike
 have back : ∀ {L : Nat} {o o0 : AO}, os0[L]? = some o0 → os'[L]? = some o → ∃ q, os[L]? = some q ∧ wkO q o := by
  intro L o o0 h0 ho
  obtain ⟨q, hq⟩ := bq h.len h0
  obtain ⟨y, hy, hwk⟩ := hg L q hq
  rw [ho] at hy; cases hy
  exact ⟨q, hq, hwk⟩
 refine ⟨by rw [hl]; exact h.len, fun L o s xs o' s' xs' h0 h1 => ?_, fun L cs cs' h0 h1 => ?_, fun L o s xs cs' h0 h1 => ?_, fun L cs o s xs h0 h1 => ?_, fun L h0 => a.dead L (h.dead L h0), h.rm⟩
 ·obtain ⟨q, hq, hwk⟩ := back h0 h1
  rcases hwk with rfl | hwk
  ·exact h.arr _ _ _ _ _ _ _ h0 hq
  ·cases q with
   | arr b z zs => obtain ⟨rfl, rfl, hr⟩ := hwk; have := h.arr _ _ _ _ _ _ _ h0 hq; rw [hr.get.1]; exact this
   | rc cs => exact hwk.elim
   | dead => exact hwk.elim
 ·obtain ⟨q, hq, hwk⟩ := back h0 h1
  rcases hwk with rfl | hwk
  ·exact h.rc _ _ _ h0 hq
  ·cases q with
   | arr b z zs => exact hwk.elim
   | rc cs => exact h.rc _ _ _ h0 hq
   | dead => exact hwk.elim
 ·obtain ⟨q, hq, hwk⟩ := back h0 h1
  rcases hwk with rfl | hwk
  ·exact h.rcArr _ _ _ _ _ h0 hq
  ·cases q with
   | arr b z zs => exact hwk.elim
   | rc cs => exact h.rcArr _ _ _ _ _ h0 hq
   | dead => exact hwk.elim
 ·obtain ⟨q, hq, hwk⟩ := back h0 h1
  rcases hwk with rfl | hwk
  ·exact h.arrRc _ _ _ _ _ h0 hq
  ·cases q with
   | arr b z zs => exact h.arrRc _ _ _ _ _ h0 hq
   | rc cs => exact hwk.elim
   | dead => exact hwk.elim

theorem wkE.lk : ∀ {e e' : Env}, wkE e e' → ∀ t, wkV (lk e t) (lk e' t)
 | [], [], _, t => .inl rfl
 | (i, x) :: r, (j, y) :: s, h, t => by
  obtain ⟨rfl, h1, h2⟩ := h
  simp only [AM.lk]
  by_cases e : i = t
  ·rw [if_pos e, if_pos e]; exact h1
  ·rw [if_neg e, if_neg e]; exact wkE.lk h2 t
 | [], (_, _) :: _, h, _ => h.elim
 | (_, _) :: _, [], h, _ => h.elim

theorem Rel.wk {st st' : St} {a : Act} (h : Rel X c st g a w) (hw : wkSt st st') : Rel X c st' g a w := by
 have al := hw.2.alike
 have hrd : rdF X st'.os g w = rdF X st.os g w := by funext b o; exact al.rd b o
 refine ⟨h.srel.wk hw.2, fun t => ?_, h.nt, h.defs, fun n => by rw [hrd]; exact h.glob n, h.keeps.wk hw.2⟩
 rw [hrd]
 exact al.repV ((h.env t).wk (hw.1.lk t))

end Go.AM
end
section
/- Calls: what a callee may see, and what stands behind it. Conditions: none. -/
namespace Go.AM
open Go

variable {P : Program} {c : Cx} {X : Ctx} {os : List AO} {g : Nat → List Nat} {w : World}

def CallsX (P : Program) (f : Nat) (vals : Array Value) (w : World) (R : Ending → World → Prop) : Prop :=
 ∃ fn, P.funcs[f]? = some fn ∧ (fn.name == "runtime.NumGoroutine") = false ∧
  ((fn.body.isNone = false ∧ Calls P f vals w R) ∨ (fn.body.isNone = true ∧ Extern.findNext fn = none ∧ ∃ ent v w', Extern.find fn = some ent ∧ (ent vals).run P w = .ok v w' ∧ R (.returned v) w'))

theorem CallsX.mono {P : Program} {f : Nat} {vals : Array Value} {w : World} {R R' : Ending → World → Prop} (h : CallsX P f vals w R) (hR : ∀ e w', R e w' → R' e w') : CallsX P f vals w R' := by
 obtain ⟨fn, h1, h2, h3⟩ := h
 refine ⟨fn, h1, h2, h3.imp (fun h => ⟨h.1, Calls.mono h.2 fun e w' => hR e w'⟩) fun ⟨a, b, ent, v, w', c, d, e⟩ => ⟨a, b, ent, v, w', c, d, hR _ _ e⟩⟩

def Con (P : Program) (c : Cx) (f : Nat) (vs : List AV) (σ : List AO) (post : AV → List AO → Prop) : Prop :=
 (∃ fn, P.funcs[f]? = some fn) ∧
 ∀ (X : Ctx) (vals : Array Value), X.Ok → X.os0 = σ → (∀ fn, P.funcs[f]? = some fn → X.nt = fn.ntmps) → SRel X σ X.g0 X.W → (∀ n, GOk (rdF X σ X.g0 X.W) (c.G n) n) →
  vals.size = vs.length → (∀ (i : Nat) y, vs[i]? = some y → ∃ u, vals[i]? = some u ∧ RepV (rdF X σ X.g0 X.W) σ X.g0 X.W y u) →
  CallsX P f vals X.W fun e w' => ∃ v x σ' g', e = .returned v ∧ post x σ' ∧ SRel X σ' g' w' ∧ Keeps σ X.g0 X.W σ' g' w' ∧ RepV (rdF X σ' g' w') σ' g' w' x v

def sub (X : Ctx) (os os1 : List AO) (g : Nat → List Nat) (w : World) (lend shown : List Nat) (nt : Nat) : Ctx where
 W := w
 V := fun b => b < w.heap.size ∧ vis X b ∧ (∀ L ∈ lend, b ∉ g L) ∧ (¬ ownB os1 g b ∨ ∃ L ∈ shown, (∃ s xs, os1[L]? = some (.arr true s xs)) ∧ b ∈ g L)
 K := fun b => ∃ L ∈ lend, b ∈ g L
 nt := nt
 os0 := bh lend os
 g0 := viewG lend os g

theorem own_wr (h : SRel X os g w) {L : Nat} (ho : own os L) : ∀ b ∈ g L, wr X b := by
 intro k hk
 have hobj := h.obj L
 unfold own at ho
 cases hL : os[L]? with
 | none => rw [hL] at ho; exact ho.elim
 | some o =>
  rw [hL] at ho hobj
  cases o with
  | arr b s xs =>
   cases b with
   | true =>
    obtain ⟨_, ⟨p0, _⟩ | ⟨b2, p0, p1, _⟩⟩ := hobj
    ·rw [p0] at hk; cases hk
    ·rw [p0] at hk; simp at hk; rw [hk]; exact p1
   | false => exact ho.elim
  | rc cs => obtain ⟨b2, p0, p1, _⟩ := hobj; rw [p0] at hk; simp at hk; rw [hk]; exact p1
  | dead => exact ho.elim

theorem cell_lt {b o : Nat} {v : Value} (h : w.cell? ⟨b, o, none⟩ = some v) : b < w.heap.size := by
 rcases Nat.lt_or_ge b w.heap.size with h' | h'
 ·exact h'
 ·simp [World.cell?, Array.getElem?_eq_none h'] at h

section entry
variable {os1 : List AO} {lend shown : List Nat} {nt : Nat}

theorem sub_ok (h : SRel X os g w) (hl : ∀ L ∈ lend, own os L) : (sub X os os1 g w lend shown nt).Ok where
 v := fun b hb => ⟨hb.1, fun ⟨L, hL, e⟩ => hb.2.2.1 L hL e⟩
 k := fun b ⟨L, hL, e⟩ => h.bnd L (hl L hL) b e

theorem entry_ok (h : SRel X os g w) (hn : lend.Nodup) (hl : ∀ L ∈ lend, own os L) (hU : Un os os1) (hsh : ∀ L ∈ lend, ∀ cs, os[L]? = some (.rc cs) → ∀ y ∈ cs, ∀ M ∈ shownC lend y, M ∈ shown) (hnot : ∀ L ∈ shown, L ∉ lend) :
  SRel (sub X os os1 g w lend shown nt) (bh lend os) (viewG lend os g) w ∧
  (∀ b o v, rdF X os g w b o = some v → rdF (sub X os os1 g w lend shown nt) (bh lend os) (viewG lend os g) w b o = some v) ∧
  (∀ L ∈ shown, ∀ o s xs, os[L]? = some (AO.arr o s xs) → ∀ b, (g L).head? = some b → Row (rdF (sub X os os1 g w lend shown nt) (bh lend os) (viewG lend os g) w) b 0 s xs) := by
 have hu : ∀ L, own os1 L → own os L := fun L => hU.own
 have hm : ∀ b o v, rdF X os g w b o = some v → rdF (sub X os os1 g w lend shown nt) (bh lend os) (viewG lend os g) w b o = some v := by
  intro b o v hr
  rw [dW] at hr ⊢
  obtain ⟨r1, r2, r3⟩ := hr
  refine ⟨.inl ⟨cell_lt r3, r1, fun L hL e => r2 ⟨L, hl L hL, e⟩, .inl ?_⟩, ?_, r3⟩
  ·rintro ⟨L, hL, e⟩; exact r2 ⟨L, hu L hL, e⟩
  ·rintro ⟨j, hj, e⟩
   obtain ⟨L, hL, ho, e⟩ := gM hj e
   exact r2 ⟨L, ho, e⟩
 have hrow : ∀ L ∈ shown, ∀ o s xs, os[L]? = some (AO.arr o s xs) → ∀ b, (g L).head? = some b → Row (rdF (sub X os os1 g w lend shown nt) (bh lend os) (viewG lend os g) w) b 0 s xs := by
  intro L hL o s xs he b hb
  have ho := h.obj L
  rw [he] at ho
  cases o with
  | false => exact Row.mono hm (ho b hb)
  | true =>
   have hown : own os L := by unfold own; rw [he]; trivial
   obtain ⟨p2, ⟨p0, p1⟩ | ⟨b2, p0, p1, c, t, p3, p4, p5, p6⟩⟩ := ho
   ·rw [p0] at hb; cases hb
   obtain rfl : b2 = b := by rw [p0] at hb; simpa using hb
   have hmem : b2 ∈ g L := by simp [p0]
   refine ⟨p5, fun i k x y hx hy => ?_⟩
   obtain ⟨v, hv, hr⟩ := p6 i k x y hx hy
   refine ⟨v, dW.2 ⟨.inl ⟨h.bnd L hown b2 hmem, p1.vis, fun M hM e => hnot L hL (h.inj M L (hl M hM) hown b2 e hmem ▸ hM), ?_⟩, ?_, ?_⟩, hr.mono hm⟩
   ·by_cases ho1 : own os1 L
    ·refine .inr ⟨L, hL, ⟨s, xs, ?_⟩, hmem⟩
     rcases hU.2 L with e | ⟨s', xs', e1, e2⟩
     ·rw [e]; exact he
     ·unfold own at ho1; rw [e2] at ho1; exact ho1.elim
    ·refine .inl ?_
     rintro ⟨M, hM, e⟩
     exact ho1 (h.inj M L (hu M hM) hown b2 e hmem ▸ hM)
   ·rintro ⟨j, hj, e⟩
    obtain ⟨M, hM, hom, e⟩ := gM hj e
    exact hnot L hL (h.inj M L hom hown b2 e hmem ▸ List.mem_of_getElem? hM)
   ·rw [Nat.zero_add, cell_of_row w b2 _ c t (0, 0) p3]; simpa using hv
 refine ⟨⟨rfl, rfl, rfl, Nat.le_refl _, fun _ _ _ => rfl, fun j hj b hb => ?_, fun i j hi hj b e f => ?_, fun j => ?_⟩, hm, hrow⟩
 ·obtain ⟨L, hL, ho, hb⟩ := gM hj hb
  exact h.bnd L ho b hb
 ·obtain ⟨L, hL, ho, e⟩ := gM hi e
  obtain ⟨M, hM, hp, f⟩ := gM hj f
  have := h.inj L M ho hp b e f
  subst this
  exact nodup_get hn hL hM
 ·cases hk : lend[j]? with
  | none => rw [viewS_get, hk]; trivial
  | some L =>
   have hm2 := List.mem_of_getElem? hk
   exact OOk.view hm (fun j L o => fa) (fun j L => viewG_none) hk (fun _ b hb => .inl ⟨L, hm2, hb⟩) (fun cs hcs y hy M hM o s xs he => hrow M (hsh L hm2 cs hcs y hy M hM) o s xs he) (h.obj L)
end entry

theorem putAll_len : ∀ (lend : List Nat) (l os : List AO), (putAll os lend l).length = os.length
 | [], l, os => by cases l <;> rfl
 | a :: r, [], os => rfl
 | a :: r, o :: l, os => by simp only [putAll]; rw [putAll_len r l]; simp

theorem putAll_not : ∀ (lend : List Nat) (l os : List AO) {L : Nat}, L ∉ lend → (putAll os lend l)[L]? = os[L]?
 | [], l, os, _, _ => by cases l <;> rfl
 | a :: r, [], os, _, _ => rfl
 | a :: r, o :: l, os, L, h => by
  simp only [List.mem_cons, not_or] at h
  simp only [putAll]; rw [putAll_not r l _ h.2, cu (Ne.symm h.1)]

theorem putAll_get : ∀ (lend : List Nat) (l os : List AO) {j L : Nat}, lend.Nodup → lend.length ≤ l.length → lend[j]? = some L → L < os.length → (putAll os lend l)[L]? = l[j]?
 | [], l, os, j, L, _, _, h, _ => by simp at h
 | a :: r, [], os, j, L, _, h, _, _ => by simp at h
 | a :: r, o :: l, os, j, L, hn, hl, h, hL => by
  have hn' := List.nodup_cons.1 hn
  simp only [putAll]
  cases j with
  | zero =>
   simp only [List.getElem?_cons_zero, Option.some.injEq] at h
   subst h
   rw [putAll_not r l _ hn'.1, set_get, if_pos rfl, if_pos hL]; rfl
  | succ j =>
   rw [putAll_get r l _ hn'.2 (by simpa using hl) (by simpa using h) (by simpa using hL)]; rfl

section merged
variable {lend : List Nat} {σ' : List AO}

theorem merge_old {L : Nat} (hL : L < os.length) (h : L ∉ lend) : (merge lend os σ')[L]? = os[L]? := by
 unfold merge
 rw [List.getElem?_append_left (by rw [putAll_len]; exact hL), putAll_not _ _ _ h]

theorem merge_lent {j L : Nat} (hn : lend.Nodup) (hl : lend.length ≤ σ'.length) (hj : lend[j]? = some L) (hL : L < os.length) : (merge lend os σ')[L]? = (σ'[j]?).map (renO (ek lend os.length)) := by
 unfold merge
 rw [List.getElem?_append_left (by rw [putAll_len]; exact hL), putAll_get _ _ _ hn (by simpa using hl) hj hL, List.getElem?_map]

theorem merge_new {L : Nat} (hL : os.length ≤ L) : (merge lend os σ')[L]? = (σ'[lend.length + (L - os.length)]?).map (renO (ek lend os.length)) := by
 unfold merge
 rw [List.getElem?_append_right (by rw [putAll_len]; exact hL), putAll_len, List.getElem?_map, List.getElem?_drop]

theorem merge_ren (hn : lend.Nodup) (hl : lend.length ≤ σ'.length) (hlt : ∀ L ∈ lend, L < os.length) (j : Nat) : (merge lend os σ')[ek lend os.length j]? = (σ'[j]?).map (renO (ek lend os.length)) := by
 unfold ek
 cases hj : lend[j]? with
 | some L => exact merge_lent hn hl hj (hlt L (List.mem_of_getElem? hj))
 | none =>
  have hge : lend.length ≤ j := by
   rcases Nat.lt_or_ge j lend.length with h | h
   ·rw [List.getElem?_eq_getElem h] at hj; cases hj
   ·exact h
  simp only
  rw [merge_new (by omega)]
  congr 2; omega

theorem merge_len : (merge lend os σ').length = os.length + (σ'.length - lend.length) := by simp [merge, putAll_len]
end merged

theorem RepP.noFz {rd rd' : Nat → Nat → Option Value} {y : AV} {v : Value} (h : RepP rd y v) (hn : noFzC y) : RepP rd' y v := by
 cases h with
 | sc hv => exact .sc hv
 | nil => exact .nil
 | fz f hc hs h1 h2 => obtain rfl := (show _ = [] from hn); exact .nil

theorem RepC.ren {rd rd' : Nat → Nat → Option Value} {osN : List AO} {σ' : List AO} {g2 gN : Nat → List Nat} {f : Nat → Nat} (hr : ∀ j, osN[f j]? = (σ'[j]?).map (renO f)) (hg : ∀ j o, σ'[j]? = some o → o ≠ .dead → gN (f j) = g2 j)
  {y : AV} {v : Value} (hm : (∀ b o v, rd b o = some v → rd' b o = some v) ∨ noFzC y) (h : RepC rd σ' g2 w y v) : RepC rd' osN gN w (renC f y) v := by
 cases y with
 | sc u => exact h
 | fz s xs =>
  rcases hm with hm | hm
  ·exact RepP.mono hm h
  ·exact RepP.noFz (y := .fz s xs) h hm
 | fp s xs i k =>
  rcases hm with hm | hm
  ·obtain ⟨b, o, hv, hr⟩ := h; exact ⟨b, o, hv, hr.mono hm⟩
  ·exact hm.elim
 | sl L off n =>
  simp only [RepC, renC, hr] at h ⊢
  cases hL : σ'[L]? with
  | none => rw [hL] at h; exact h
  | some o =>
   rw [hL] at h
   cases o with
   | arr ow s xs => simp only [Option.map_some, renO, hg L _ hL (by simp)]; exact h
   | rc cs => trivial
   | dead => trivial
 | pa L i k =>
  simp only [RepC, renC, hr] at h ⊢
  cases hL : σ'[L]? with
  | none => rw [hL] at h; exact h.elim
  | some o =>
   rw [hL] at h
   cases o with
   | arr ow s xs => simp only [Option.map_some, renO, hg L _ hL (by simp)]; exact h
   | rc cs => trivial
   | dead => trivial
 | clo n ps =>
  obtain ⟨arr, h1, h2⟩ := h
  refine ⟨arr, h1, h2.mono (by simp) fun i p q v e1 e2 c => ?_⟩
  rw [List.getElem?_map, e1] at e2
  cases e2
  unfold RepPt at c ⊢
  simp only [hr]
  cases hL : σ'[p.1]? with
  | none => rw [hL] at c; exact c.elim
  | some o =>
   rw [hL] at c
   cases o with
   | arr ow s xs => trivial
   | rc cs => simp only [Option.map_some, renO, hg p.1 _ hL (by simp)]; exact c
   | dead => trivial
 | pt L k =>
  simp only [RepC, renC, hr] at h ⊢
  cases hL : σ'[L]? with
  | none => rw [hL] at h; exact h.elim
  | some o =>
   rw [hL] at h
   cases o with
   | arr ow s xs => trivial
   | rc cs => simp only [Option.map_some, renO, hg L _ hL (by simp)]; exact h
   | dead => trivial
 | junk => trivial
 | agg cs => exact h.elim
 | tup cs => exact h.elim
 | opt b x => exact h.elim

theorem allP_get {α : Type} {p : α → Prop} {l : List α} (h : allP p l) {i : Nat} {x : α} (hx : l[i]? = some x) : p x := cH h x (List.mem_of_getElem? hx)

theorem RepA.ren {rd rd' : Nat → Nat → Option Value} {osN : List AO} {σ' : List AO} {g2 gN : Nat → List Nat} {f : Nat → Nat} (hr : ∀ j, osN[f j]? = (σ'[j]?).map (renO f)) (hg : ∀ j o, σ'[j]? = some o → o ≠ .dead → gN (f j) = g2 j)
  {y : AV} {v : Value} (hm : (∀ b o v, rd b o = some v → rd' b o = some v) ∨ noFzA y) (h : RepA rd σ' g2 w y v) : RepA rd' osN gN w (renA f y) v := by
 cases y with
 | agg cs =>
  obtain ⟨vs, hv, hl, hp⟩ := h
  refine ⟨vs, hv, by simpa using hl, fun i y hy => ?_⟩
  rw [List.getElem?_map] at hy
  cases hc : cs[i]? with
  | none => rw [hc] at hy; cases hy
  | some y0 =>
   rw [hc] at hy; cases hy
   obtain ⟨u, hu, hp2⟩ := hp i y0 hc
   exact ⟨u, hu, RepC.ren hr hg (hm.imp id fun hm => allP_get hm hc) hp2⟩
 | tup => exact h.elim
 | opt => exact h.elim
 | sc => exact (RepC.ren hr hg (y := .sc _) hm h).toA
 | fz => exact (RepC.ren hr hg (y := .fz _ _) hm h).toA
 | fp => exact (RepC.ren hr hg (y := .fp _ _ _ _) hm h).toA
 | sl => exact (RepC.ren hr hg (y := .sl _ _ _) hm h).toA
 | pa => exact (RepC.ren hr hg (y := .pa _ _ _) hm h).toA
 | pt => exact (RepC.ren hr hg (y := .pt _ _) hm h).toA
 | clo => exact (RepC.ren hr hg (y := .clo _ _) hm h).toA
 | junk => trivial

theorem RepV.ren {rd rd' : Nat → Nat → Option Value} {osN : List AO} {σ' : List AO} {g2 gN : Nat → List Nat} {f : Nat → Nat} (hr : ∀ j, osN[f j]? = (σ'[j]?).map (renO f)) (hg : ∀ j o, σ'[j]? = some o → o ≠ .dead → gN (f j) = g2 j)
  {y : AV} {v : Value} (hm : (∀ b o v, rd b o = some v → rd' b o = some v) ∨ noFzV y) (h : RepV rd σ' g2 w y v) : RepV rd' osN gN w (renV f y) v := by
 cases y with
 | tup cs =>
  obtain ⟨vs, hv, hl, hp⟩ := h
  refine ⟨vs, hv, by simpa using hl, fun i y hy => ?_⟩
  rw [List.getElem?_map] at hy
  cases hc : cs[i]? with
  | none => rw [hc] at hy; cases hy
  | some y0 =>
   rw [hc] at hy; cases hy
   obtain ⟨u, hu, hp2⟩ := hp i y0 hc
   exact ⟨u, hu, RepA.ren hr hg (hm.imp id fun hm => allP_get hm hc) hp2⟩
 | opt b x => exact ⟨fun hb => RepA.ren hr hg (y := x) hm (h.1 hb), h.2⟩
 | agg cs => exact (RepA.ren hr hg (y := .agg cs) hm h).toV
 | sc => exact (RepC.ren hr hg (y := .sc _) hm h).toV
 | fz => exact (RepC.ren hr hg (y := .fz _ _) hm h).toV
 | fp => exact (RepC.ren hr hg (y := .fp _ _ _ _) hm h).toV
 | sl => exact (RepC.ren hr hg (y := .sl _ _ _) hm h).toV
 | pa => exact (RepC.ren hr hg (y := .pa _ _ _) hm h).toV
 | pt => exact (RepC.ren hr hg (y := .pt _ _) hm h).toV
 | clo => exact (RepC.ren hr hg (y := .clo _ _) hm h).toV
 | junk => trivial

def backG (lend : List Nat) (n : Nat) (g g2 : Nat → List Nat) : Nat → List Nat := fun M => if M < n then g M else g2 (lend.length + (M - n))

theorem isOwn_renO {f : Nat → Nat} {o : Option AO} (h : isOwn (o.map (renO f))) : isOwn o := by
 cases o with
 | none => exact h
 | some o =>
  cases o with
  | arr b s xs => cases b <;> exact h
  | rc cs => trivial
  | dead => exact h

theorem back_ok (h : SRel X os g w) {os1 : List AO} (h1 : SRel X os1 g w) (hlen : os1.length = os.length) {lend shown : List Nat} {nt : Nat} (hn : lend.Nodup) (hl : ∀ L ∈ lend, own os1 L ∧ os1[L]? = os[L]?) {σ' : List AO} {g2 : Nat → List Nat} {w' : World}
  (k : SRel (sub X os os1 g w lend shown nt) σ' g2 w') (kk : Keeps (bh lend os) (viewG lend os g) w σ' g2 w') {x : AV} {v : Value} (hx : RepV (rdF (sub X os os1 g w lend shown nt) σ' g2 w') σ' g2 w' x v)
  (hE : (∀ L ∈ shown, ∀ s xs, os1[L]? ≠ some (.arr true s xs)) ∨ (noFzV x ∧ allP noFzO σ')) :
  SRel X (merge lend os1 σ') (backG lend os1.length g g2) w' ∧ Step X os1 g w (merge lend os1 σ') (backG lend os1.length g g2) w' ∧
  RepV (rdF X (merge lend os1 σ') (backG lend os1.length g g2) w') (merge lend os1 σ') (backG lend os1.length g g2) w' (renV (ek lend os1.length) x) v ∧
  Loc os1 g w (merge lend os1 σ') (backG lend os1.length g g2) w' lend := by
 have hσl : lend.length ≤ σ'.length := by have := kk.len; simpa [bh] using this
 have hlt : ∀ L ∈ lend, L < os1.length := fun L hL => own_lt (hl L hL).1
 have hren := merge_ren (os := os1) hn hσl hlt
 -- what is lent keeps its block while it stands
 have hlent : ∀ j L, lend[j]? = some L → ∀ o, σ'[j]? = some o → o ≠ .dead → g2 j = g L := by
  intro j L hj o ho hd
  have hm := List.mem_of_getElem? hj
  obtain ⟨l1, l2⟩ := hl L hm
  unfold own at l1
  rw [l2] at l1
  cases hL : os[L]? with
  | none => rw [hL] at l1; exact l1.elim
  | some o0 =>
   have hv := gW hj hL
   rw [hL] at l1
   cases o0 with
   | arr b s xs =>
    cases o with
    | arr b' s' xs' => rw [(kk.arr _ _ _ _ _ _ _ hv ho).2.2, fa hj hL]
    | rc cs => exact (kk.rcArr _ _ _ _ _ hv ho).elim
    | dead => exact absurd rfl hd
   | rc cs =>
    cases o with
    | arr b' s' xs' => exact (kk.arrRc _ _ _ _ _ hv ho).elim
    | rc cs' => rw [kk.rc _ _ _ hv ho, fa hj hL]
    | dead => exact absurd rfl hd
   | dead => exact l1.elim
 have hgr : ∀ j o, σ'[j]? = some o → o ≠ .dead → backG lend os1.length g g2 (ek lend os1.length j) = g2 j := by
  intro j o ho hd
  unfold ek backG
  cases hj : lend[j]? with
  | some L => simp only [if_pos (hlt L (List.mem_of_getElem? hj))]; exact (hlent j L hj o ho hd).symm
  | none =>
   have hge : lend.length ≤ j := by
    rcases Nat.lt_or_ge j lend.length with h | h
    ·rw [List.getElem?_eq_getElem h] at hj; cases hj
    ·exact h
   simp only
   rw [if_neg (by omega)]
   congr 1; omega
 -- whose it is
 have hown : ∀ M, own (merge lend os1 σ') M → (M < os1.length ∧ M ∉ lend ∧ own os1 M ∧ backG lend os1.length g g2 M = g M) ∨ ∃ j, M = ek lend os1.length j ∧ own σ' j ∧ backG lend os1.length g g2 M = g2 j := by
  intro M hM
  have key : ∀ j, M = ek lend os1.length j → ∃ j, M = ek lend os1.length j ∧ own σ' j ∧ backG lend os1.length g g2 M = g2 j := by
   intro j e
   subst e
   unfold own at hM
   rw [hren j] at hM
   have ho := isOwn_renO hM
   refine ⟨j, rfl, ho, ?_⟩
   cases hj : σ'[j]? with
   | none => rw [hj] at ho; exact ho.elim
   | some o => exact hgr j o hj (fun e => by rw [hj, e] at ho; exact ho.elim)
  by_cases hML : M < os1.length
  ·by_cases hm : M ∈ lend
   ·obtain ⟨j, hj, e⟩ := List.mem_iff_getElem.1 hm
    refine .inr (key j ?_)
    unfold ek
    rw [List.getElem?_eq_getElem hj]; exact e.symm
   ·unfold own at hM
    rw [merge_old hML hm] at hM
    exact .inl ⟨hML, hm, hM, by simp [backG, hML]⟩
  ·refine .inr (key (lend.length + (M - os1.length)) ?_)
   unfold ek
   rw [List.getElem?_eq_none (by omega)]
   simp only; omega
 have hsame : ∀ b, b < w.heap.size → (∀ L ∈ lend, b ∉ g L) → w'.heap[b]? = w.heap[b]? := fun b hb hne => k.same b hb (fun ⟨L, hL, e⟩ => hne L hL e)
 have hblk : ∀ j, own σ' j → ∀ b ∈ g2 j, (∃ L ∈ lend, b ∈ g L) ∨ w.heap.size ≤ b := fun j hj => own_wr k hj
 have hoth : ∀ M, own os1 M → M ∉ lend → ∀ L ∈ lend, ∀ b ∈ g M, b ∉ g L := fun M hM hm L hL b hb e => hm (h1.inj L M (hl L hL).1 hM b e hb ▸ hL)
 -- what reads as it did for good
 have hA : ∀ b o v, rdF X os1 g w b o = some v → rdF X (merge lend os1 σ') (backG lend os1.length g g2) w' b o = some v := by
  intro b o v hr
  rw [dW] at hr ⊢
  obtain ⟨r1, r2, r3⟩ := hr
  have hb := cell_lt r3
  refine ⟨r1, ?_, ?_⟩
  ·rintro ⟨M, hM, e⟩
   rcases hown M hM with ⟨m1, m2, m3, m4⟩ | ⟨j, m1, m2, m3⟩
   ·exact r2 ⟨M, m3, m4 ▸ e⟩
   ·rcases hblk j m2 b (m3 ▸ e) with ⟨L, hL, e2⟩ | e2
    ·exact r2 ⟨L, (hl L hL).1, e2⟩
    ·omega
  ·rw [cell_heap (hsame b hb fun L hL e => r2 ⟨L, (hl L hL).1, e⟩)]; exact r3
 have hB : (∀ L ∈ shown, ∀ s xs, os1[L]? ≠ some (.arr true s xs)) → ∀ b o v, rdF (sub X os os1 g w lend shown nt) σ' g2 w' b o = some v → rdF X (merge lend os1 σ') (backG lend os1.length g g2) w' b o = some v := by
  intro hs b o v hr
  rw [dW] at hr ⊢
  obtain ⟨r1, r2, r3⟩ := hr
  refine ⟨?_, ?_, r3⟩
  ·rcases r1 with r1 | ⟨L, hL, e⟩ | r1
   ·exact r1.2.1
   ·exact (own_wr h1 (hl L hL).1 b e).vis
   ·exact .inr (.inr (Nat.le_trans h.size r1))
  ·rintro ⟨M, hM, e⟩
   rcases hown M hM with ⟨m1, m2, m3, m4⟩ | ⟨j, m1, m2, m3⟩
   ·rw [m4] at e
    rcases r1 with r1 | ⟨L, hL, e2⟩ | r1
    ·rcases r1.2.2.2 with r4 | ⟨L, hL, ho, _⟩
     ·exact r4 ⟨M, m3, e⟩
     ·obtain ⟨s, xs, ho⟩ := ho; exact hs L hL s xs ho
    ·exact hoth M m3 m2 L hL b e e2
    ·have := h1.bnd M m3 b e
     exact absurd this (Nat.not_lt.2 r1)
   ·exact r2 ⟨j, m2, m3 ▸ e⟩
 have hstep : Step X os1 g w (merge lend os1 σ') (backG lend os1.length g g2) w' := by
  -- an old object: it is as it was, or it is lent
  have hcase : ∀ {L : Nat} {o o' : AO}, os1[L]? = some o → (merge lend os1 σ')[L]? = some o' → (o' = o ∧ backG lend os1.length g g2 L = g L) ∨ ∃ j q, lend[j]? = some L ∧ (bh lend os)[j]? = some (viewO lend os o) ∧ viewG lend os g j = g L ∧ σ'[j]? = some q ∧ o' = renO (ek lend os1.length) q := by
   intro L o o' e1 e2
   have hL := a8 e1
   by_cases hm : L ∈ lend
   ·obtain ⟨j, hj, e⟩ := List.mem_iff_getElem.1 hm
    have hj' : lend[j]? = some L := by rw [List.getElem?_eq_getElem hj, e]
    rw [merge_lent hn hσl hj' hL] at e2
    cases hq : σ'[j]? with
    | none => rw [hq] at e2; cases e2
    | some q =>
     rw [hq] at e2; cases e2
     exact .inr ⟨j, q, hj', gW hj' (by rw [← (hl L hm).2]; exact e1), fa hj' (by rw [← (hl L hm).2]; exact e1), hq, rfl⟩
   ·rw [merge_old hL hm, e1] at e2; cases e2
    exact .inl ⟨rfl, by simp [backG, hL]⟩
  have hgL : ∀ {L : Nat} {o : AO}, os1[L]? = some o → backG lend os1.length g g2 L = g L := fun e => by simp [backG, a8 e]
  refine ⟨by rw [merge_len]; omega, ?_, ?_, ?_, ?_, ?_, hA, kk.rm⟩
  ·intro L o s xs o' s' xs' e1 e2
   rcases hcase e1 e2 with ⟨e, e3⟩ | ⟨j, q, j1, j2, j3, j4, j5⟩
   ·cases e; exact ⟨rfl, Nat.le_refl _, e3⟩
   ·cases q with
    | arr b z zs => cases j5; obtain ⟨q1, q2, q3⟩ := kk.arr _ _ _ _ _ _ _ j2 j4; exact ⟨q1, q2, hgL e1⟩
    | rc cs => cases j5
    | dead => cases j5
  ·intro L cs cs' e1 e2; exact hgL e1
  ·intro L o s xs cs' e1 e2
   rcases hcase e1 e2 with ⟨e, e3⟩ | ⟨j, q, j1, j2, j3, j4, j5⟩
   ·cases e
   ·cases q with
    | arr b z zs => cases j5
    | rc cs => exact kk.rcArr _ _ _ _ _ j2 j4
    | dead => cases j5
  ·intro L cs o s xs e1 e2
   rcases hcase e1 e2 with ⟨e, e3⟩ | ⟨j, q, j1, j2, j3, j4, j5⟩
   ·cases e
   ·cases q with
    | arr b z zs => exact kk.arrRc _ _ _ _ _ j2 j4
    | rc cs => cases j5
    | dead => cases j5
  ·intro L e1
   have hm : L ∉ lend := fun hm => by have := (hl L hm).1; unfold own at this; rw [e1] at this; exact this.elim
   rw [merge_old (a8 e1) hm]; exact e1
 have hmono : ∀ (p : Prop), (∀ L ∈ shown, ∀ s xs, os1[L]? ≠ some (.arr true s xs)) ∨ p → (∀ b o v, rdF (sub X os os1 g w lend shown nt) σ' g2 w' b o = some v → rdF X (merge lend os1 σ') (backG lend os1.length g g2) w' b o = some v) ∨ p := fun p hp => hp.imp hB id
 have hrelC : ∀ {y : AV} {u : Value}, ((∀ L ∈ shown, ∀ s xs, os1[L]? ≠ some (.arr true s xs)) ∨ noFzC y) → RepC (rdF (sub X os os1 g w lend shown nt) σ' g2 w') σ' g2 w' y u →
   RepC (rdF X (merge lend os1 σ') (backG lend os1.length g g2) w') (merge lend os1 σ') (backG lend os1.length g g2) w' (renC (ek lend os1.length) y) u :=
  fun hp hr => RepC.ren hren hgr (hmono _ hp) hr
 have hobj : ∀ j, OOk X (merge lend os1 σ') (backG lend os1.length g g2) w' (ek lend os1.length j) (merge lend os1 σ')[ek lend os1.length j]? := by
  intro j
  rw [hren j]
  have hk := k.obj j
  cases hj : σ'[j]? with
  | none => trivial
  | some o =>
   rw [hj] at hk
   have hwr : isOwn (some o) → ∀ b ∈ g2 j, wr X b := fun ho b hb => by
    have hoj : own σ' j := by unfold own; rw [hj]; exact ho
    rcases hblk j hoj b hb with ⟨L, hL, e⟩ | e
    ·exact own_wr h1 (hl L hL).1 b e
    ·exact .inr (Nat.le_trans h.size e)
   have hgj : o ≠ .dead → backG lend os1.length g g2 (ek lend os1.length j) = g2 j := hgr j o hj
   cases o with
   | arr b s xs =>
    cases b with
    | true =>
     obtain ⟨p2, ⟨p0, p1⟩ | ⟨b2, p0, p1, cc, t, p3, p4, p5, p6⟩⟩ := hk
     ·exact ⟨p2, .inl ⟨(hgj (by simp)).trans p0, p1⟩⟩
     refine ⟨p2, .inr ⟨b2, (hgj (by simp)).trans p0, hwr trivial b2 (by simp [p0]), cc, t, p3, p4, p5, fun i q x y hx hy => ?_⟩⟩
     obtain ⟨u, hu, hr⟩ := p6 i q x y hx hy
     refine ⟨u, hu, ?_⟩
     rcases hE with hE | hE
     ·exact hr.mono (hB hE)
     ·have := allP_get hE.2 hj; exact hr.noFz (allP_get (allP_get this hx) hy)
    | false =>
     rcases hE with hE | hE
     ·intro b hb
      rw [hgj (by simp)] at hb
      exact Row.mono (hB hE) (hk b hb)
     ·exact (allP_get hE.2 hj : False).elim
   | rc cs =>
    obtain ⟨b2, p0, p1, cc, t, p3, p4, p6⟩ := hk
    refine ⟨b2, (hgj (by simp)).trans p0, hwr trivial b2 (by simp [p0]), cc, t, p3, by simpa using p4, fun q y hy => ?_⟩
    rw [List.getElem?_map] at hy
    cases hc : cs[q]? with
    | none => rw [hc] at hy; cases hy
    | some y0 =>
     rw [hc] at hy; cases hy
     obtain ⟨u, hu, hr⟩ := p6 q y0 hc
     exact ⟨u, hu, hrelC (hE.imp id fun hE => allP_get (show allP noFzC cs from allP_get (p := noFzO) hE.2 hj) hc) hr⟩
   | dead => trivial
 refine ⟨⟨k.sys.trans h.sys, k.tape.trans h.tape, k.output.trans h.output, Nat.le_trans h.size k.size, fun b hb hnb => ?_, fun M hM b hb => ?_, fun M N hM hN b e f => ?_, fun M => ?_⟩, hstep, RepV.ren hren hgr (hmono _ (hE.imp id (·.1))) hx, hsame, fun M hM b hm hb => ?_⟩
 ·rw [hsame b (Nat.lt_of_lt_of_le hb h.size) fun L hL e => ?_]
  ·exact h.same b hb hnb
  ·rcases own_wr h1 (hl L hL).1 b e with q | q
   ·exact hnb q
   ·omega
 ·rcases hown M hM with ⟨m1, m2, m3, m4⟩ | ⟨j, m1, m2, m3⟩
  ·rw [m4] at hb; exact Nat.lt_of_lt_of_le (h1.bnd M m3 b hb) k.size
  ·rw [m3] at hb; exact k.bnd j m2 b hb
 ·have cross : ∀ {M : Nat} {j : Nat}, own os1 M → M ∉ lend → own σ' j → ∀ b, b ∈ g M → b ∈ g2 j → False := by
   intro M j m3 m2 n2 b e f
   rcases hblk j n2 b f with ⟨L, hL, e2⟩ | e2
   ·exact hoth M m3 m2 L hL b e e2
   ·have := h1.bnd M m3 b e; omega
  rcases hown M hM with ⟨m1, m2, m3, m4⟩ | ⟨j, m1, m2, m3⟩ <;> rcases hown N hN with ⟨n1, n2, n3, n4⟩ | ⟨i, n1, n2, n3⟩
  ·exact h1.inj M N m3 n3 b (m4 ▸ e) (n4 ▸ f)
  ·exact (cross m3 m2 n2 b (m4 ▸ e) (n3 ▸ f)).elim
  ·exact (cross n3 n2 m2 b (n4 ▸ f) (m3 ▸ e)).elim
  ·have := k.inj j i m2 n2 b (m3 ▸ e) (n3 ▸ f)
   rw [m1, n1, this]
 ·by_cases hML : M < os1.length
  ·by_cases hm : M ∈ lend
   ·obtain ⟨j, hj, e⟩ := List.mem_iff_getElem.1 hm
    have : M = ek lend os1.length j := by unfold ek; rw [List.getElem?_eq_getElem hj]; exact e.symm
    rw [this]; exact hobj j
   ·exact OOk.step hstep (merge_old hML hm) (by simp [backG, hML]) (fun ho b hb => hsame _ (h1.bnd M ho b hb) (fun L hL => hoth M ho hm L hL b hb)) (h1.obj M)
  ·have : M = ek lend os1.length (lend.length + (M - os1.length)) := by
    unfold ek
    rw [List.getElem?_eq_none (by omega)]
    simp only; omega
   rw [this]; exact hobj _
 ·rcases hown M hM with ⟨m1, m2, m3, m4⟩ | ⟨j, m1, m2, m3⟩
  ·exact .inl ⟨m3, m4 ▸ hm⟩
  ·rcases hblk j m2 b (m3 ▸ hm) with ⟨L, hL, e2⟩ | e2
   ·exact .inr ⟨L, hL, e2⟩
   ·omega

end Go.AM
end
section
/- Operations with effects: whole. Conditions: none. -/
namespace Go.AM
open Go

variable {P : Program} {c : Cx} {X : Ctx} {os : List AO} {g : Nat → List Nat} {w : World}

theorem unownN_ok : ∀ (l : List Nat) {os : List AO}, SRel X os g w → SRel X (e8 os l) g w ∧ Step X os g w (e8 os l) g w ∧ Un os (e8 os l) ∧
  (∀ L ∈ l, ∀ s xs, (e8 os l)[L]? ≠ some (.arr true s xs)) ∧ (∀ L, L ∉ l → (e8 os l)[L]? = os[L]?)
 | [], os, h => ⟨h, Step.refl _ _ _ _, Un.refl _, fun _ h => (by cases h), fun _ _ => rfl⟩
 | a :: r, os, h => by
  have e : (match os[a]? with | some (.arr _ s xs) => os.set a (.arr false s xs) | _ => os) = unown os (.sl a 0 0) := by rfl
  obtain ⟨h1, h2, h3, h4⟩ := unown_ok h (.sl a 0 0)
  obtain ⟨k1, k2, k3, k4, k5⟩ := unownN_ok r h1
  have e2 : e8 os (a :: r) = e8 (unown os (.sl a 0 0)) r := rfl
  rw [e2]
  refine ⟨k1, h2.trans k2, h3.trans k3, fun L hL s xs he => ?_, fun L hL => ?_⟩
  ·cases hL with
   | tail _ hL => exact k4 L hL s xs he
   | head _ =>
    rcases k3.2 a with q | ⟨s', xs', q1, q2⟩
    ·rw [q] at he
     have hfr : frzOk os (.sl a 0 0) := by
      simp only [unown] at he
      simp only [frzOk]
      split at he
      ·trivial
      ·rename_i hn; exact absurd he (hn true s xs)
     obtain ⟨s2, xs2, q2⟩ := h4 a 0 0 rfl hfr
     rw [he] at q2; cases q2
    ·rw [he] at q2; cases q2
  ·simp only [List.mem_cons, not_or] at hL
   rw [k5 L hL.2]
   refine unown_notSl (x := .sl a 0 0) ?_ os
   exact fun e => hL.1 e.symm

theorem call_ok (h : SRel X os g w) (hgl : ∀ n, GOk (rdF X os g w) (c.G n) n) {n : Nat} {vs : List AV} {lend : List Nat} {esc : Bool} {post : AV → List AO → Prop}
  (con : Con P c n (vs.map (viewV lend os)) (bh lend os) post) (hn : nodupN lend = true) (hl : ∀ L ∈ lend, own os L) {vals : Array Value} (hsz : vals.size = vs.length)
  (hrep : ∀ (i : Nat) y, vs[i]? = some y → ∃ u, vals[i]? = some u ∧ RepV (rdF X os g w) os g w y u) (hesc : ∀ x σ', post x σ' → esc = false → noFzV x ∧ allP noFzO σ') :
  CallsX P n vals w fun e w' => ∃ v x σ' gN, e = .returned v ∧ post x σ' ∧
   SRel X (merge lend (if esc = true then e8 os (cX lend os vs) else os) σ') gN w' ∧ Step X os g w (merge lend (if esc = true then e8 os (cX lend os vs) else os) σ') gN w' ∧
   RepV (rdF X (merge lend (if esc = true then e8 os (cX lend os vs) else os) σ') gN w') (merge lend (if esc = true then e8 os (cX lend os vs) else os) σ') gN w' (renV (ek lend os.length) x) v ∧
   Loc os g w (merge lend (if esc = true then e8 os (cX lend os vs) else os) σ') gN w' lend := by
 have hnd := nodupN_spec hn
 obtain ⟨o1, ho1⟩ : ∃ o1, o1 = (if esc = true then e8 os (cX lend os vs) else os) := ⟨_, rfl⟩
 have hnotsh : ∀ L ∈ cX lend os vs, L ∉ lend := by
  intro L hL
  unfold cX at hL
  rcases List.mem_append.1 hL with hL | hL
  ·obtain ⟨y, _, hy⟩ := List.mem_flatMap.1 hL; exact shownV_not hy
  ·obtain ⟨M, _, hy⟩ := List.mem_flatMap.1 hL
   unfold shownO at hy
   split at hy
   ·obtain ⟨y, _, hy⟩ := List.mem_flatMap.1 hy; exact shownC_not hy
   ·cases hy
 have hfacts : SRel X o1 g w ∧ Step X os g w o1 g w ∧ Un os o1 ∧ (esc = true → ∀ L ∈ cX lend os vs, ∀ s xs, o1[L]? ≠ some (.arr true s xs)) ∧ (∀ L ∈ lend, o1[L]? = os[L]?) := by
  subst ho1
  cases esc with
  | false => exact ⟨h, Step.refl _ _ _ _, Un.refl _, fun h => (by cases h), fun _ _ => rfl⟩
  | true =>
   obtain ⟨k1, k2, k3, k4, k5⟩ := unownN_ok (cX lend os vs) h
   exact ⟨k1, k2, k3, fun _ => k4, fun L hL => k5 L (fun hm => hnotsh L hm hL)⟩
 rw [← ho1]
 clear ho1
 obtain ⟨q1, q2, q3, q4, q5⟩ := hfacts
 obtain ⟨fn, hfn⟩ := con.1
 obtain ⟨e1, e2, e3⟩ := entry_ok (os1 := o1) (lend := lend) (shown := cX lend os vs) (nt := fn.ntmps) h hnd hl q3 (fun L hL cs hcs y hy M hM => by
  unfold cX
  refine List.mem_append.2 (.inr (List.mem_flatMap.2 ⟨L, hL, ?_⟩))
  rw [getD_some hcs]; exact List.mem_flatMap.2 ⟨y, hy, hM⟩) hnotsh
 have hc := con.2 (sub X os o1 g w lend (cX lend os vs) fn.ntmps) vals (sub_ok h hl) rfl (fun fn' hf => by rw [hfn] at hf; cases hf; rfl) e1 (fun n => (hgl n).mono e2) (by simpa using hsz) (fun i y hy => by
  rw [List.getElem?_map] at hy
  cases hv : vs[i]? with
  | none => rw [hv] at hy; cases hy
  | some y0 =>
   rw [hv] at hy; cases hy
   obtain ⟨u, hu, hr⟩ := hrep i y0 hv
   exact ⟨u, hu, viewV_ok (g := g) e2 (fun j L o => fa) (fun L hL => e3 L (by
    unfold cX
    exact List.mem_append.2 (.inl (List.mem_flatMap.2 ⟨y0, List.mem_of_getElem? hv, hL⟩)))) hr⟩)
 refine CallsX.mono hc ?_
 rintro e w' ⟨v, x, σ', g2, he, hp, k1, k2, k3⟩
 obtain ⟨b1, b2, b3, b4⟩ := back_ok (os1 := o1) h q1 q3.1 hnd (fun L hL => ⟨by unfold own; rw [q5 L hL]; exact hl L hL, q5 L hL⟩) k1 k2 k3 (by
  cases esc with
  | true => exact .inl (q4 rfl)
  | false => exact .inr (hesc x σ' hp rfl))
 rw [q3.1] at b1 b2 b3 b4
 exact ⟨v, x, σ', _, he, hp, b1, q2.trans b2, b3, b4.1, fun L hL b hm hb => (b4.2 L hL b hm hb).imp (fun h' => ⟨q3.own h'.1, h'.2⟩) id⟩

theorem own_of_store {a : AV} {vs : List AV} (h : storeOk os a vs) : ∀ L ∈ names a, own os L := by
 intro L hL
 unfold storeOk at h
 split at h
 ·split at h
  ·rename_i hM; simp only [names, List.mem_cons, List.not_mem_nil, or_false] at hL; subst hL; unfold own; rw [hM]; trivial
  ·exact h.elim
 ·split at h
  ·rename_i hM; simp only [names, List.mem_cons, List.not_mem_nil, or_false] at hL; subst hL; unfold own; rw [hM]; trivial
  ·exact h.elim
 ·exact h.elim

theorem own_of_app {a : AV} (h : appBase os a) : ∀ L ∈ names a, own os L := by
 intro L hL
 unfold appBase at h
 split at h
 ·cases hL
 ·obtain ⟨_, h⟩ := h
  split at h
  ·rename_i hM; simp only [names, List.mem_cons, List.not_mem_nil, or_false] at hL; subst hL; unfold own; rw [hM]; trivial
  ·exact h.elim
 ·exact h.elim

theorem RepPts_get {ps : List (Nat × Nat)} : ∀ {vs : List Value}, RepPts os g ps vs → vs.length = ps.length ∧ ∀ (i : Nat) p, ps[i]? = some p → ∃ v, vs[i]? = some v ∧ RepPt os g p.1 p.2 v := by
 induction ps with
 | nil => intro vs h; cases vs with
  | nil => exact ⟨rfl, fun i p hp => by simp at hp⟩
  | cons _ _ => exact h.elim
 | cons q ps ih =>
  intro vs h
  cases vs with
  | nil => exact h.elim
  | cons v vs =>
   obtain ⟨h1, h2⟩ := ih h.2
   refine ⟨by simp [h1], fun i p hp => ?_⟩
   cases i with
   | zero => simp at hp; subst hp; exact ⟨v, rfl, h.1⟩
   | succ i => simp at hp; simpa using h2 i p hp

theorem fnC_some {rd : Nat → Nat → Option Value} {x : AV} {v : Value} {n : Nat} {cs : List AV} (h : fnC x = some (n, cs)) (hv : RepV rd os g w x v) :
  ∃ arr : Array Value, v = .func (.func n) #[] arr ∧ arr.size = cs.length ∧ ∀ (i : Nat) y, cs[i]? = some y → ∃ u, arr[i]? = some u ∧ RepV rd os g w y u := by
 unfold fnC at h
 split at h
 ·rename_i m a b
  split at h
  ·rename_i hs
   cases h
   have e : v = .func (.func n) a b := hv
   rw [Array.eq_empty_of_size_eq_zero hs.1, Array.eq_empty_of_size_eq_zero hs.2] at e
   exact ⟨#[], e, rfl, fun i y hy => by simp at hy⟩
  ·cases h
 ·rename_i m ps
  cases h
  obtain ⟨arr, e, hp⟩ := hv
  obtain ⟨h1, h2⟩ := RepPts_get hp
  refine ⟨arr, e, by simpa using h1, fun i y hy => ?_⟩
  rw [List.getElem?_map] at hy
  cases hi : ps[i]? with
  | none => rw [hi] at hy; cases hy
  | some p =>
   rw [hi] at hy; cases hy
   obtain ⟨u, hu, hr⟩ := h2 i p hi
   exact ⟨u, by simpa using hu, hr⟩
 ·cases h

theorem run_equalIn_nil (w' : World) (d : Nat) (t : TypeId) (a : Option Addr) (n k : Nat) (el : TypeId) (h : P.underlying t = some (.slice el)) : (Op.equalIn (d + 1) t (.slice a n k) (.slice none 0 0)).run P w' = .ok a.isNone w' := by
 cases a <;> simp [Op.equalIn, run_underlying h]
theorem len_of_none {rd : Nat → Nat → Option Value} {x : AV} {n k : Nat} (h : RepV rd os g w x (.slice none n k)) (hk : lenOk os x) (hs : ∀ s, x ≠ .sc (.string s)) : lenA x = 0 := by
 unfold lenOk at hk
 split at hk
 ·rename_i s xs
  rcases RepP.row h with ⟨rfl, _⟩ | ⟨b, o, cc, e, _⟩
  ·rfl
  ·cases e
 ·rename_i L off m
  split at hk
  ·rename_i ow s xs hL
   have h : RepC rd os g w (.sl L off m) _ := h
   simp only [RepC, hL] at h
   obtain ⟨cap, hc, _, ⟨_, _, e, _⟩ | ⟨hz, a, e⟩⟩ := h
   ·cases e
   ·simp only [lenA]; omega
  ·exact hk.elim
 ·exact absurd rfl (hs _)
 ·rfl
 ·exact hk.elim

theorem eff_ok (hP : PrOk P c) (hX : X.Ok) (h : SRel X os g w) (hgl : ∀ n, GOk (rdF X os g w) (c.G n) n) {H : List Nat} (o : Oper) (rA : Operand → AV) (r : Operand → Value) (hr : ∀ x ∈ o.op.operands, RepV (rdF X os g w) os g w (rA x) (r x))
  {K : AV → List AO → Prop} (hk : effA c (Con P c) H os rA o.op K) {a : Act} {next : Act → World → Prop} {Q : Exit → Act → World → Prop}
  (hnext : ∀ v x os' g' w' ns, K x os' → SRel X os' g' w' → Step X os g w os' g' w' → RepV (rdF X os' g' w') os' g' w' x v → Loc os g w os' g' w' ns → (∀ L ∈ ns, own os L ∧ memN H L = false) → next (a.put o.dst v) w') :
  o.upon P a next Q ((execOp r o).run P w) := by
 obtain ⟨dst, op, ty, pos, af, gd⟩ := o
 simp only at hr hk hnext ⊢
 cases op <;> try exact hk.elim
 case binOp op t x y t' =>
  obtain ⟨_, kc, k0, k1, k2, k3, k4, hK⟩ := hk
  have hx := hr x (by simp [Op.operands])
  have hy := hr y (by simp [Op.operands])
  rw [kc] at hy
  have hy : r y = .slice none 0 0 := hy
  have hxs := hx.slice k3 (fun s e => by rw [e] at k4; exact k4)
  obtain ⟨ad, cap, e1, hcap⟩ := hxs
  have hz : ad.isNone = true → lenA (rA x) = 0 := fun hn => by
   have hq := hx
   rw [e1] at hq
   cases ad with
   | some _ => cases hn
   | none => exact len_of_none hq k3 (fun s e => by rw [e] at k4; exact k4)
  obtain ⟨i, d, z, i1, _, _, i4, _, _, _, i8, _⟩ := (hP.ty t k0).ex
  obtain ⟨el, hel⟩ : ∃ el, (c.T t).kind = .slice el := by
   unfold aW at k1; split at k1
   ·exact ⟨_, by assumption⟩
   ·exact k1.elim
  rw [hel] at i8
  obtain rfl : d = .slice el := i8
  have he : (Op.equal t (.slice ad (lenA (rA x)) cap) (.slice none 0 0)).run P w = .ok ad.isNone w := by
   exact run_equalIn_nil w 9999 t ad _ cap el i4
  have hN := hnext (.bool (if op = .eql then ad.isNone else !ad.isNone)) _ os g w [] (hK ad.isNone hz) h (Step.refl _ _ _ _) rfl ⟨fun _ _ _ => rfl, fun L hL b hm _ => .inl ⟨hL, hm⟩⟩ (fun _ h => by cases h)
  rcases k2 with rfl | rfl
  ·simp [execOp, e1, hy, eqGuard, binOp, he]
   exact hN
  ·simp [execOp, e1, hy, eqGuard, binOp, he]
   cases ad <;> exact hN
 case alloc t =>
  obtain ⟨k0, hK⟩ := hk
  obtain ⟨v, g', w', h1, h2, h3, h4, h5⟩ := alloc_ok hP h k0
  simp only [execOp, Sem.run_bind, h1, Result.andThen_ok]
  exact hnext v _ _ g' w' [] hK h2 h3 h4.toV h5 (fun _ h => by cases h)
 case box t x =>
  obtain ⟨k0, k2, hK⟩ := hk
  obtain ⟨v, g', w', h1, h2, h3, h4, h5⟩ := box_ok hP h (hr x (by simp [Op.operands])) k0 k2
  simp only [execOp, Sem.run_bind, h1, Result.andThen_ok]
  exact hnext v _ _ g' w' [] hK h2 h3 h4.toV h5 (fun _ h => by cases h)
 case store t x y =>
  obtain ⟨k0, k1, k2, k3, hK⟩ := hk
  obtain ⟨w', h1, h2, h3, h5⟩ := store_ok hP hX h (hr x (by simp [Op.operands])) (hr y (by simp [Op.operands])) k0 k1 k2
  simp only [execOp, Sem.run_bind, h1, Result.andThen_ok]
  exact hnext undef _ _ g w' _ hK h2 h3 trivial h5 (fun L hL => ⟨own_of_store k2 L hL, cH k3 L hL⟩)
 case buildSlice t n ps =>
  obtain ⟨k0, k1, k2, k3, k4, hK⟩ := hk
  obtain ⟨v, g', w', h1, h2, h3, h4, h5⟩ := lit_ok (r := r) hP h (fun p hp => hr p.2 (by simp only [Op.operands]; exact List.mem_toArray.2 (List.mem_map.2 ⟨p, hp, rfl⟩))) k0 k1 k2 k3 k4
  have e : (ps.map fun x => match x with | (i, x) => (i, r x)) = ps.map fun p => (p.1, r p.2) := rfl
  simp only [execOp, e, Sem.run_bind, h1, Result.andThen_ok]
  exact hnext v _ _ g' w' [] hK h2 h3 h4.toV h5 (fun _ h => by cases h)
 case makeSlice t l m =>
  obtain ⟨k0, k1, k2, n1, n2, k3, k4, k5, k6, hK⟩ := hk
  have hl := hr l (by simp [Op.operands])
  have hm := hr m (by simp [Op.operands])
  generalize rA l = al at *
  generalize rA m = am at *
  unfold isNum at n1 n2
  split at n1
  ·split at n2
   ·have e1 := RepV.sc hl
    have e2 := RepV.sc hm
    simp only [numA] at k3 k4 k5 k6 hK
    rename_i kl il _ km im
    obtain ⟨v, g', w', h1, h2, h3, h4, h5⟩ := make_ok (kl := kl) (km := km) hP h k0 k1 k2 k3 k4 k5 k6
    simp only [execOp, e1, e2, Sem.run_bind, h1, Result.andThen_ok]
    exact hnext v _ _ g' w' [] hK h2 h3 h4.toV h5 (fun _ h => by cases h)
   ·exact n2.elim
  ·exact n1.elim
 case call cl =>
  obtain ⟨callee, args, tys⟩ := cl
  cases callee with
  | invoke rv nm => exact hk.elim
  | builtin b =>
   cases b <;> try exact hk.elim
   case append =>
    simp only [effA] at hk
    split at hk
    ·rename_i s x t u ha ht
     split at hk
     ·rename_i hint
      obtain ⟨k0, k1, k2, k3, k4, k5, k6, k7, k8, K1, K2⟩ := hk
      have ha' : args = #[s, x] := by rw [← Array.toArray_toList (xs := args), ha]
      have ht' : tys = #[t, u] := by rw [← Array.toArray_toList (xs := tys), ht]
      subst ha' ht'
      have hs := hr s (by simp [Op.operands, Call.operands])
      rw [k4] at hs
      have hs : r s = .slice none 0 0 := hs
      have hx := hr x (by simp [Op.operands, Call.operands])
      obtain ⟨ki, hx⟩ := hx.num k5
      by_cases hz : numA (rA x) = 0
      ·rw [hz] at hx
       obtain ⟨e, hel, i4⟩ := elemT hP k0 k1
       rw [hel] at k2
       obtain ⟨j, dj, z, j1, j2, _⟩ := (hP.ty e k2).ex
       obtain ⟨_, du, _, _, _, _, q4, _, _, _, q8, _⟩ := (hP.ty u k3).ex
       obtain ⟨kk, hkk⟩ : ∃ kk, (c.T u).kind = .int kk := by
        cases hq : (c.T u).kind <;> rw [hq] at hint <;> first | exact ⟨_, rfl⟩ | cases hint
       rw [hkk] at q8
       obtain rfl : du = .int kk := q8
       have a3 := run_app_zero0 (P := P) w t u ty e j i4 j1 q4 ki
       simp only [execOp, resolve, invoke, builtin, List.map_toArray, List.map_cons, List.map_nil, Sem.run_bind, Sem.run_pure, hs, hx, a3, Result.andThen_ok]
       exact hnext _ _ _ g w [] (K1 hz) h (Step.refl _ _ _ _) rfl ⟨fun _ _ _ => rfl, fun L hL b hm _ => .inl ⟨hL, hm⟩⟩ (fun _ h => by cases h)
      ·obtain ⟨v, g', w', a2, h2, h3, h4, h5⟩ := zeros_ok hP h ty (k := ki) k0 k1 k2 k3 hint (by omega) k7 k8
       simp only [execOp, resolve, invoke, builtin, List.map_toArray, List.map_cons, List.map_nil, Sem.run_bind, Sem.run_pure, hs, hx, a2, Result.andThen_ok]
       exact hnext v _ _ g' w' [] (K2 hz) h2 h3 h4.toV h5 (fun _ h => by cases h)
     obtain ⟨k0, k1, k2, k3, k4, k5, k6, k7, k8, k9, K1, K2⟩ := hk
     have ha' : args = #[s, x] := by rw [← Array.toArray_toList (xs := args), ha]
     have ht' : tys = #[t, u] := by rw [← Array.toArray_toList (xs := tys), ht]
     subst ha' ht'
     rcases app_ok hP hX h ty (hr s (by simp [Op.operands, Call.operands])) (hr x (by simp [Op.operands, Call.operands])) k0 k1 k2 k3 k4 k5 k6 k7 k8 with ⟨a1, a2, a3⟩ | ⟨a1, v, g', w', a2, h2, h3, h4, h5⟩
     ·simp only [execOp, resolve, invoke, builtin, List.map_toArray, List.map_cons, List.map_nil, Sem.run_bind, Sem.run_pure, a3, Result.andThen_ok]
      exact hnext _ _ _ g w [] (K1 a1 a2) h (Step.refl _ _ _ _) rfl ⟨fun _ _ _ => rfl, fun L hL b hm _ => .inl ⟨hL, hm⟩⟩ (fun _ h => by cases h)
     ·simp only [execOp, resolve, invoke, builtin, List.map_toArray, List.map_cons, List.map_nil, Sem.run_bind, Sem.run_pure, a2, Result.andThen_ok]
      exact hnext v _ _ g' w' _ (K2 a1) h2 h3 h4.toV h5 (fun L hL => ⟨own_of_app k4 L hL, cH k9 L hL⟩)
    ·exact hk.elim
  | value f =>
   simp only [effA] at hk
   split at hk
   ·rename_i n cs hf
    obtain ⟨lend, esc, post, con, hn, hl, hpost⟩ := hk
    obtain ⟨arr, ef', ha1, ha2⟩ := fnC_some hf (hr f (by simp [Op.operands, Call.operands]))
    have hcall := call_ok (esc := esc) h hgl con hn (fun L hL => (cH hl L hL).1) (vals := args.map r ++ arr) (by simp [ha1]) (fun i y hy => by
     rw [List.getElem?_append] at hy
     split at hy
     ·rename_i hlt
      rw [List.getElem?_map] at hy
      cases hx : args.toList[i]? with
      | none => rw [hx] at hy; cases hy
      | some x0 =>
       rw [hx] at hy; cases hy
       have hm : x0 ∈ args := Array.mem_toList_iff.1 (List.mem_of_getElem? hx)
       have hlt2 : i < (args.map r).size := by simpa using hlt
       refine ⟨r x0, ?_, hr x0 (by simp [Op.operands, Call.operands, hm])⟩
       rw [Array.getElem?_append_left hlt2]
       simpa using ⟨x0, by simpa using hx, rfl⟩
     ·rename_i hge
      obtain ⟨u, hu, hru⟩ := ha2 _ y hy
      refine ⟨u, ?_, hru⟩
      rw [Array.getElem?_append_right (by simpa using hge)]
      simpa using hu) (fun x σ' hp he => (hpost x σ' hp).1 he)
    obtain ⟨fn, c1, c2, ⟨c3, hcall⟩ | ⟨c3, c4, ent, v, w', c5, c6, c7⟩⟩ := hcall
    ·have c3' : fn.body.isNone ≠ true := by simp [c3]
     simp only [execOp, resolve, Deferred.ofValue, ef', invoke, callFunc, Sem.run_bind, Sem.run_pure, Result.andThen_ok, run_program, c1, c2, c3, Bool.false_eq_true, if_false, Array.empty_append, Array.append_empty]
     refine Calls.mono hcall ?_
     rintro e w' ⟨v, x, σ', gN, rfl, hp, b1, b2, b3, b4⟩
     exact hnext v _ _ gN w' lend ((hpost x σ' hp).2) b1 b2 b3 b4 (fun L hL => cH hl L hL)
    ·obtain ⟨v', x, σ', gN, he, hp, b1, b2, b3, b4⟩ := c7
     cases he
     have hrun : (callFunc n (args.map r ++ arr)).run P w = .ok (.value v) w' := by rw [run_callFunc_extern c1 c2 c3 c4 c5, c6]; rfl
     simp only [execOp, resolve, Deferred.ofValue, ef', invoke, Sem.run_bind, Sem.run_pure, Result.andThen_ok, Array.empty_append, Array.append_empty, hrun]
     exact hnext v _ _ gN w' lend ((hpost x σ' hp).2) b1 b2 b3 b4 (fun L hL => cH hl L hL)
   ·exact hk.elim

end Go.AM
end
section
/- Operations in regions: the model's walk follows the abstract one. Conditions: none. -/
namespace Go.AM
open Go

variable {P : Program} {c : Cx} {X : Ctx}

theorem lk_upd (e : Env) (t : Nat) (v : AV) (u : Nat) : lk (upd e t v) u = if t = u then v else lk e u := rfl

theorem lk_keepE (lv : List Nat) : ∀ (e : Env) (u : Nat), lk (keepE lv e) u = lk e u ∨ lk (keepE lv e) u = .junk
 | [], u => .inl rfl
 | (k, x) :: r, u => by
  have ih := lk_keepE lv r u
  unfold keepE
  by_cases h : memN lv k = true
  ·rw [if_pos h]
   simp only [lk]
   by_cases h2 : k = u
   ·rw [if_pos h2, if_pos h2]; exact .inl rfl
   ·rw [if_neg h2, if_neg h2]; exact ih
  ·rw [if_neg h]
   by_cases h2 : k = u
   ·subst h2
    have : ∀ (r : Env), lk (keepE lv r) k = .junk := by
     intro r
     induction r with
     | nil => rfl
     | cons p r ih =>
      obtain ⟨k', y⟩ := p
      unfold keepE
      by_cases h3 : memN lv k' = true
      ·rw [if_pos h3]
       simp only [lk]
       rw [if_neg (by rintro rfl; exact h h3)]; exact ih
      ·rw [if_neg h3]; exact ih
    exact .inr (this r)
   ·simp only [lk]
    rw [if_neg h2]; exact ih

theorem Rel.keep {st : St} {g : Nat → List Nat} {a : Act} {w : World} (h : Rel X c st g a w) (lv : List Nat) : Rel X c ⟨keepE lv st.env, st.os⟩ g a w := by
 refine ⟨h.srel, fun t => ?_, h.nt, h.defs, h.glob, h.keeps⟩
 rcases lk_keepE lv st.env t with e | e
 ·simp only [e]; exact h.env t
 ·simp only [e]; trivial

theorem Rel.to {st : St} {g g' : Nat → List Nat} {a : Act} {w w' : World} {os' : List AO} (h : Rel X c st g a w) (s : SRel X os' g' w') (t : Step X st.os g w os' g' w') : Rel X c ⟨st.env, os'⟩ g' a w' :=
 ⟨s, fun u => t.repV (h.env u), h.nt, h.defs, fun n => (h.glob n).mono t.rd, h.keeps.trans t.keeps⟩

theorem Rel.put {st : St} {g : Nat → List Nat} {a : Act} {w : World} (h : Rel X c st g a w) (dst : Option Nat) (hd : ∀ d, dst = some d → d < X.nt) {x : AV} {v : Value} (hx : RepV (rdF X st.os g w) st.os g w x v) :
  Rel X c ⟨put st.env dst x, st.os⟩ g (a.put dst v) w := by
 cases dst with
 | none => exact h
 | some d =>
  have hlt : d < a.tmps.size := by rw [h.nt]; exact hd d rfl
  refine ⟨h.srel, fun t => ?_, by simp only [Act.put, Array.size_setIfInBounds]; exact h.nt, h.defs, h.glob, h.keeps⟩
  simp only [AM.put, lk_upd, Act.put]
  by_cases e : d = t
  ·subst e
   simp only [if_true]
   rw [Array.getD_eq_getD_getElem?, Array.getElem?_setIfInBounds_self_of_lt hlt]; exact hx
  ·rw [if_neg e]
   rw [Array.getD_eq_getD_getElem?, Array.getElem?_setIfInBounds_ne e, ← Array.getD_eq_getD_getElem?]; exact h.env t

theorem guardA_ok {st : St} {g : Nat → List Nat} {a : Act} {w : World} (h : Rel X c st g a w) {ops : Array Oper} {o : Oper} {j : Nat} {want gb : Bool} (ho : o.guard = some (j, want)) (hg : guardA ops st.env j want = some gb) :
  Region.wanted o (yielded ops a.tmps) = gb := by
 unfold guardA at hg
 simp only [Region.wanted, ho, yielded]
 cases hd : (ops[j]?).bind (·.dst) with
 | none => rw [hd] at hg; cases hg
 | some t =>
  rw [hd] at hg
  have ht := h.env t
  simp only [Option.bind_some] at ⊢
  simp only at hg
  have hb : ∀ b : Bool, a.tmps.getD t undef = .bool b → a.tmps[t]? = some (.bool b) := by
   intro b e
   rw [Array.getD_eq_getD_getElem?] at e
   cases hx : a.tmps[t]? with
   | none => rw [hx] at e; simp [undef] at e
   | some x => rw [hx] at e; simp at e; rw [e]
  split at hg
  ·rename_i b e
   rw [e] at ht
   have := hb b ht
   rw [this]
   simp only [Option.some.injEq] at hg
   subst hg
   cases b <;> cases want <;> rfl
  ·rename_i g' b e
   rw [e] at ht
   simp only [Option.some.injEq] at hg
   subst hg
   cases g' with
   | true =>
    rw [hb b (ht.1 rfl)]
    cases b <;> cases want <;> rfl
   | false =>
    have hu := ht.2 rfl
    rw [Array.getD_eq_getD_getElem?] at hu
    cases hx : a.tmps[t]? with
    | none => rfl
    | some x => rw [hx] at hu; simp at hu; rw [hu]; rfl
  ·rename_i e
   rw [e] at ht
   simp only [Option.some.injEq] at hg
   subst hg
   have hu := ht.2 rfl
   rw [Array.getD_eq_getD_getElem?] at hu
   cases hx : a.tmps[t]? with
   | none => rfl
   | some x => rw [hx] at hu; simp at hu; rw [hu]; rfl
  ·cases hg

theorem RepV.ofPlain {rd : Nat → Nat → Option Value} {os : List AO} {g : Nat → List Nat} {w : World} {x : AV} {v : Value} (h : RepV rd os g w x v) (hs : plain x) : RepA rd os g w x v := by
 cases x <;> first | exact h | exact hs.elim

theorem gev_ok {st : St} {g : Nat → List Nat} {a : Act} {w : World} (h : Rel X c st g a w) {o : Op} (hk : operOk c st.env true o) (x : Operand) (hx : x ∈ o.operands) : RepV (rdF X st.os g w) st.os g w (gev c st.env o x) (a.eval x) := by
 cases o with
 | pick a x y => exact h.ev _
 | _ => exact (h.ev x).strip (cH hk x (Array.mem_toList_iff.2 hx))

def Left (H : List Nat) (os : List AO) (g : Nat → List Nat) (w : World) (os' : List AO) (g' : Nat → List Nat) (w' : World) : Prop := ∃ ns, Loc os g w os' g' w' ns ∧ ∀ L ∈ ns, own os L ∧ memN H L = false

theorem Left.refl (H : List Nat) (os : List AO) (g : Nat → List Nat) (w : World) : Left H os g w os g w := ⟨[], ⟨fun _ _ _ => rfl, fun _ h _ hm _ => .inl ⟨h, hm⟩⟩, fun _ h => by cases h⟩

theorem step_ok (hP : PrOk P c) (hX : X.Ok) {st : St} {g : Nat → List Nat} {a : Act} {w : World} (h : Rel X c st g a w) {H : List Nat} {ops : Array Oper} {o : Oper} (hd : ∀ d, o.dst = some d → d < X.nt) {K : St → Prop} (hk : stepA c (Con P c) H ops o st K)
  {next : Act → World → Prop} {Q : Exit → Act → World → Prop} (hnext : ∀ st' g' a' w', K st' → Rel X c st' g' a' w' → Left H st.os g w st'.os g' w' → next a' w') :
  if Region.wanted o (yielded ops a.tmps) = true then o.wp P a w next Q else next (a.put o.dst undef) w := by
 -- an operation that is carried out, with operands 'rA'
 have heff : ∀ rA, (∀ x ∈ o.op.operands, RepV (rdF X st.os g w) st.os g w (rA x) (a.eval x)) → (effA c (Con P c) H st.os rA o.op fun v os => K ⟨put st.env o.dst v, os⟩) → o.wp P a w next Q := by
  intro rA hr hk
  exact eff_ok hP hX h.srel h.glob o rA a.eval hr hk fun v x os' g' w' ns hK hs hst hx hl hn =>
   hnext ⟨put st.env o.dst x, os'⟩ g' _ w' hK ((h.to hs hst).put o.dst hd hx) ⟨ns, hl, hn⟩
 have hpure : ∀ rA, isPure o.op = true → (∀ x ∈ o.op.operands, RepV (rdF X st.os g w) st.os g w (rA x) (a.eval x)) → pureOk c st.os rA o.op →
   ∃ v, RepV (rdF X st.os g w) st.os g w (pureA c st.os rA o.op) v ∧ (next (a.put o.dst v) w → o.wp P a w next Q) := by
  intro rA hp hr hk
  obtain ⟨v, hv, hrun⟩ := pure_ok hP h.srel o rA a.eval hr hp hk
  refine ⟨v, hv, fun hn => ?_⟩
  unfold Oper.wp
  rw [hrun w (fun _ _ => rfl)]
  exact hn
 unfold stepA at hk
 cases hg : o.guard with
 | none =>
  rw [hg] at hk
  have hw : Region.wanted o (yielded ops a.tmps) = true := by simp [Region.wanted, hg]
  rw [if_pos hw]
  simp only at hk
  split at hk
  ·rename_i hp
   obtain ⟨k1, k2⟩ := hk
   obtain ⟨v, hv, hn⟩ := hpure _ hp (fun x _ => h.ev x) k1
   exact hn (hnext _ g _ w k2 (h.put o.dst hd hv) (Left.refl _ _ _ _))
  ·exact heff _ (fun x _ => h.ev x) hk
 | some jw =>
  obtain ⟨j, want⟩ := jw
  rw [hg] at hk
  simp only at hk
  split at hk
  ·exact hk.elim
  ·rename_i gb hgb
   have hw := guardA_ok h hg hgb
   split at hk
   ·rename_i hp
    obtain ⟨k1, k2⟩ := hk
    cases gb with
    | true =>
     rw [if_pos hw]
     obtain ⟨k1, k3, k4⟩ := k1 rfl
     obtain ⟨v, hv, hn⟩ := hpure _ hp (gev_ok h k1) k3
     exact hn (hnext _ g _ w k2 (h.put o.dst hd ⟨fun _ => hv.ofPlain k4, fun h => (by cases h)⟩) (Left.refl _ _ _ _))
    | false =>
     rw [if_neg (by rw [hw]; simp)]
     exact hnext _ g _ w k2 (h.put o.dst hd ⟨fun h => (by cases h), fun _ => rfl⟩) (Left.refl _ _ _ _)
   ·obtain ⟨k1, k2⟩ := hk
    cases gb with
    | true =>
     rw [if_pos hw]
     obtain ⟨k1, k3⟩ := k1 rfl
     exact heff _ (gev_ok h k1) k3
    | false =>
     rw [if_neg (by rw [hw]; simp)]
     exact hnext _ g _ w (k2 rfl) (h.put o.dst hd ⟨fun h => (by cases h), fun _ => rfl⟩) (Left.refl _ _ _ _)

end Go.AM
end
