/- Operations with effects: whole. Conditions: none. -/
import Derived.Test.YtcnlhdaeeeolbaaAmM
import Derived.Laws.Externs
set_option linter.unusedSimpArgs false
set_option linter.unusedVariables false
namespace Go.AM
open Go

variable {P : Program} {c : Cx} {X : Ctx} {os : List AO} {g : Nat → List Nat} {w : World}

theorem unown1_ok (h : SRel X os g w) {o1 : List AO} {L : Nat} (e : o1 = match os[L]? with | some (.arr _ s xs) => os.set L (.arr false s xs) | some (.nst s xs none) => os.set L (.arr false s (xs.map fun x => x.map unO)) | _ => os) :
    SRel X o1 g w ∧ Step X os g w o1 g w ∧ UnN os o1 ∧ ¬ shO o1[L]? ∧ ∀ M, M ≠ L → o1[M]? = os[M]? := by
  cases hL : os[L]? with
  | none => rw [hL] at e; subst e; exact ⟨h, Step.refl _ _ _ _, UnN.refl _, by rw [hL]; exact id, fun _ _ => rfl⟩
  | some o =>
    rw [hL] at e
    have hu : ∀ o', o1 = os.set L o' → ¬ isOwn (some o') → UnN os o1 := fun o' e' hn => by
      subst e'
      refine ⟨by simp, fun M => ?_⟩
      by_cases q : L = M
      · subst q; exact .inr (by rw [set_same hL]; exact hn)
      · exact .inl (set_other q)
    cases o with
    | arr b s xs =>
      have e : o1 = os.set L (.arr false s xs) := e
      have e' : unown os (.sl L 0 0) = o1 := by simp only [unown, hL]; exact e.symm
      obtain ⟨h1, h2, _, _⟩ := unown_ok h (.sl L 0 0)
      rw [e'] at h1 h2
      exact ⟨h1, h2, hu _ e id, by rw [e, set_same hL]; exact id, fun M hM => by rw [e]; exact set_other hM.symm⟩
    | nst s xs op =>
      cases op with
      | some q => subst e; exact ⟨h, Step.refl _ _ _ _, UnN.refl _, by rw [hL]; exact id, fun _ _ => rfl⟩
      | none =>
        have e : o1 = os.set L (.arr false s (xs.map fun x => x.map unO)) := e
        have hk := h.give hL (.arr false s (xs.map fun x => x.map unO)) id (.inr ⟨(s, xs.length), rfl, by simp [AO.al]⟩) fun hm b hb => by
          have ho := h.obj L
          rw [hL] at ho
          have hown : own os L := by unfold own; rw [hL]; trivial
          obtain ⟨p2, ⟨p0, p1, _⟩ | ⟨b2, nb, F, p0, p1, c, t, p3, p4, p5, p6, p7, p8, p9, p10⟩⟩ := ho
          · rw [p0] at hb; cases hb
          obtain rfl : b2 = b := by rw [p0] at hb; simpa using hb
          have hrd : ∀ b' ∈ g L, ∀ o v, wr X b' → w.cell? ⟨b', o, none⟩ = some v → rdF X (os.set L (.arr false s (xs.map fun x => x.map unO))) g w b' o = some v := by
            intro b' hb' o v p1 hv
            refine rdF_some.2 ⟨p1.vis, ?_, hv⟩
            rintro ⟨M, hM, e2⟩
            by_cases q : L = M
            · subst q; unfold own at hM; rw [set_same hL] at hM; exact hM
            · have hM' : own os M := by unfold own at hM ⊢; rw [set_other q] at hM; exact hM
              exact q (h.inj L M hown hM' b' hb' e2)
          exact Row.freeze hm p5 (fun o v hv => hrd b2 (by simp [p0]) o v p1 (by rw [cell_of_row w b2 _ c t (0, 0) p3]; simpa using hv))
            (fun i k b' hb' o v hw hv => hrd b' (by simp [p0, p8 i k b' hb']) o v hw hv) fun i k x y hx hy => p6 i k x y hx hy id
        rw [← e] at hk
        exact ⟨hk.1, hk.2, hu _ e id, by rw [e, set_same hL]; exact id, fun M hM => by rw [e]; exact set_other hM.symm⟩
    | rc cs => subst e; exact ⟨h, Step.refl _ _ _ _, UnN.refl _, by rw [hL]; exact id, fun _ _ => rfl⟩
    | dead => subst e; exact ⟨h, Step.refl _ _ _ _, UnN.refl _, by rw [hL]; exact id, fun _ _ => rfl⟩

theorem not_shO {o o' : Option AO} (h : ¬ shO o) (e : o' = o ∨ ¬ isOwn o') : ¬ shO o' := by
  rcases e with rfl | e
  · exact h
  · intro hs
    unfold shO at hs
    split at hs
    · exact e trivial
    · exact e trivial
    · exact hs

theorem unownN_ok : ∀ (l : List Nat) {os : List AO}, SRel X os g w → SRel X (unownN os l) g w ∧ Step X os g w (unownN os l) g w ∧ UnN os (unownN os l) ∧
    (∀ L ∈ l, ¬ shO (unownN os l)[L]?) ∧ (∀ L, L ∉ l → (unownN os l)[L]? = os[L]?)
  | [], os, h => ⟨h, Step.refl _ _ _ _, UnN.refl _, fun _ h => (by cases h), fun _ _ => rfl⟩
  | a :: r, os, h => by
    obtain ⟨h1, h2, h3, h4, h5⟩ := unown1_ok h (L := a) rfl
    obtain ⟨k1, k2, k3, k4, k5⟩ := unownN_ok r h1
    refine ⟨k1, h2.trans k2, h3.trans k3, fun L hL => ?_, fun L hL => ?_⟩
    · cases hL with
      | tail _ hL => exact k4 L hL
      | head _ => exact not_shO h4 (k3.2 a)
    · simp only [List.mem_cons, not_or] at hL
      exact (k5 L hL.2).trans (h5 L hL.1)

theorem mem_shownO {ks : List Nat} {o : AO} {y : AV} (hy : y ∈ o.row) {M : Nat} (h : M ∈ shownC ks y) : M ∈ shownO ks o := by
  cases o with
  | rc cs => exact List.mem_flatMap.2 ⟨y, hy, h⟩
  | nst s xs op =>
    cases op with
    | none => cases hy
    | some q => exact List.mem_flatMap.2 ⟨y, hy, h⟩
  | arr => cases hy
  | dead => cases hy

theorem call_ok (h : SRel X os g w) (hgl : ∀ n, GOk (rdF X os g w) (c.G n) n) {n : Nat} {vs : List AV} {lend : List Nat} {esc : Bool} {post : AV → List AO → Prop}
    (con : Con P c n (vs.map (viewV lend os)) (viewS lend os) post) (hn : nodupN lend = true) (hl : ∀ L ∈ lend, own os L) {vals : Array Value} (hsz : vals.size = vs.length)
    (hrep : ∀ (i : Nat) y, vs[i]? = some y → ∃ u, vals[i]? = some u ∧ RepV (rdF X os g w) os g w y u) (hesc : ∀ x σ', post x σ' → esc = false → noFzV x ∧ allP noFzO σ') :
    CallsX P n vals w fun e w' => ∃ v x σ' gN, e = .returned v ∧ post x σ' ∧
      SRel X (merge lend (if esc = true then unownN os (shownAll lend os vs) else os) σ') gN w' ∧ Step X os g w (merge lend (if esc = true then unownN os (shownAll lend os vs) else os) σ') gN w' ∧
      RepV (rdF X (merge lend (if esc = true then unownN os (shownAll lend os vs) else os) σ') gN w') (merge lend (if esc = true then unownN os (shownAll lend os vs) else os) σ') gN w' (renV (backN lend os.length) x) v ∧
      Loc os g w (merge lend (if esc = true then unownN os (shownAll lend os vs) else os) σ') gN w' lend := by
  have hnd := nodupN_spec hn
  obtain ⟨o1, ho1⟩ : ∃ o1, o1 = (if esc = true then unownN os (shownAll lend os vs) else os) := ⟨_, rfl⟩
  have hnotsh : ∀ L ∈ shownAll lend os vs, L ∉ lend := by
    intro L hL
    unfold shownAll at hL
    rcases List.mem_append.1 hL with hL | hL
    · obtain ⟨y, _, hy⟩ := List.mem_flatMap.1 hL; exact shownV_not hy
    · obtain ⟨M, _, hy⟩ := List.mem_flatMap.1 hL
      unfold shownO at hy
      split at hy
      · obtain ⟨y, _, hy⟩ := List.mem_flatMap.1 hy; exact shownC_not hy
      · obtain ⟨y, _, hy⟩ := List.mem_flatMap.1 hy; exact shownC_not hy
      · cases hy
  have hfacts : SRel X o1 g w ∧ Step X os g w o1 g w ∧ UnN os o1 ∧ (esc = true → ∀ L ∈ shownAll lend os vs, ¬ shO o1[L]?) ∧ (∀ L ∈ lend, o1[L]? = os[L]?) := by
    subst ho1
    cases esc with
    | false => exact ⟨h, Step.refl _ _ _ _, UnN.refl _, fun h => (by cases h), fun _ _ => rfl⟩
    | true =>
      obtain ⟨k1, k2, k3, k4, k5⟩ := unownN_ok (shownAll lend os vs) h
      exact ⟨k1, k2, k3, fun _ => k4, fun L hL => k5 L (fun hm => hnotsh L hm hL)⟩
  rw [← ho1]
  clear ho1
  obtain ⟨q1, q2, q3, q4, q5⟩ := hfacts
  obtain ⟨fn, hfn⟩ := con.1
  obtain ⟨e1, e2, e3⟩ := entry_ok (os1 := o1) (lend := lend) (shown := shownAll lend os vs) (nt := fn.ntmps) h hnd hl q3 (fun L hL o ho y hy M hM => by
    unfold shownAll
    refine List.mem_append.2 (.inr (List.mem_flatMap.2 ⟨L, hL, ?_⟩))
    rw [getD_some ho]; exact mem_shownO hy hM) hnotsh
  have hc := con.2 (sub X os o1 g w lend (shownAll lend os vs) fn.ntmps) vals (sub_ok h hl) rfl (fun fn' hf => by rw [hfn] at hf; cases hf; rfl) e1 (fun n => (hgl n).mono e2) (by simpa using hsz) (fun i y hy => by
    rw [List.getElem?_map] at hy
    cases hv : vs[i]? with
    | none => rw [hv] at hy; cases hy
    | some y0 =>
      rw [hv] at hy; cases hy
      obtain ⟨u, hu, hr⟩ := hrep i y0 hv
      exact ⟨u, hu, viewV_ok (g := g) e2 (fun j L o => viewG_get) (fun L hL => e3 L (by
        unfold shownAll
        exact List.mem_append.2 (.inl (List.mem_flatMap.2 ⟨y0, List.mem_of_getElem? hv, hL⟩)))) hr⟩)
  refine CallsX.mono hc ?_
  rintro e w' ⟨v, x, σ', g2, he, hp, k1, k2, k3⟩
  obtain ⟨b1, b2, b3, b4⟩ := back_ok (os1 := o1) h q1 q3.1 hnd (fun L hL => ⟨by unfold own; rw [q5 L hL]; exact hl L hL, q5 L hL⟩) k1 k2 k3 (by
    cases esc with
    | true => exact .inl (q4 rfl)
    | false => exact .inr (hesc x σ' hp rfl))
  rw [q3.1] at b1 b2 b3 b4
  exact ⟨v, x, σ', _, he, hp, b1, q2.trans b2, b3, b4.1, fun L hL b hm hb => (b4.2 L hL b hm hb).imp (fun h' => ⟨q3.own h'.1, h'.2⟩) id⟩

theorem own_of_store {a : AV} {vs : List AV} (h : storeOk os a vs) : ∀ L ∈ names a, own os L := by
  intro L hL
  unfold storeOk at h
  split at h
  · split at h
    · rename_i hM; simp only [names, List.mem_cons, List.not_mem_nil, or_false] at hL; subst hL; unfold own; rw [hM]; trivial
    · exact h.elim
  · split at h
    · rename_i hM; simp only [names, List.mem_cons, List.not_mem_nil, or_false] at hL; subst hL; unfold own; rw [hM]; trivial
    · rename_i hM; simp only [names, List.mem_cons, List.not_mem_nil, or_false] at hL; subst hL; unfold own; rw [hM]; trivial
    · exact h.elim
  · exact h.elim

theorem own_of_app {a : AV} (h : appBase os a) : ∀ L ∈ names a, own os L := by
  intro L hL
  unfold appBase at h
  split at h
  · cases hL
  · obtain ⟨_, h⟩ := h
    split at h
    · rename_i hM; simp only [names, List.mem_cons, List.not_mem_nil, or_false] at hL; subst hL; unfold own; rw [hM]; trivial
    · exact h.elim
  · exact h.elim

theorem RepPts_get {ps : List (Nat × Nat)} : ∀ {vs : List Value}, RepPts os g ps vs → vs.length = ps.length ∧ ∀ (i : Nat) p, ps[i]? = some p → ∃ v, vs[i]? = some v ∧ RepPt os g p.1 p.2 v := by
  induction ps with
  | nil => intro vs h; cases vs with
    | nil => exact ⟨rfl, fun i p hp => by simp at hp⟩
    | cons _ _ => exact h.elim
  | cons q ps ih =>
    intro vs h
    cases vs with
    | nil => exact h.elim
    | cons v vs =>
      obtain ⟨h1, h2⟩ := ih h.2
      refine ⟨by simp [h1], fun i p hp => ?_⟩
      cases i with
      | zero => simp at hp; subst hp; exact ⟨v, rfl, h.1⟩
      | succ i => simp at hp; simpa using h2 i p hp

/-- What is called: a function, and what it has captured. -/
theorem fnC_some {rd : Nat → Nat → Option Value} {x : AV} {v : Value} {n : Nat} {cs : List AV} (h : fnC x = some (n, cs)) (hv : RepV rd os g w x v) :
    ∃ arr : Array Value, v = .func (.func n) #[] arr ∧ arr.size = cs.length ∧ ∀ (i : Nat) y, cs[i]? = some y → ∃ u, arr[i]? = some u ∧ RepV rd os g w y u := by
  unfold fnC at h
  split at h
  · rename_i m a b
    split at h
    · rename_i hs
      cases h
      have e : v = .func (.func n) a b := hv
      rw [Array.eq_empty_of_size_eq_zero hs.1, Array.eq_empty_of_size_eq_zero hs.2] at e
      exact ⟨#[], e, rfl, fun i y hy => by simp at hy⟩
    · cases h
  · rename_i m ps
    cases h
    obtain ⟨arr, e, hp⟩ := hv
    obtain ⟨h1, h2⟩ := RepPts_get hp
    refine ⟨arr, e, by simpa using h1, fun i y hy => ?_⟩
    rw [List.getElem?_map] at hy
    cases hi : ps[i]? with
    | none => rw [hi] at hy; cases hy
    | some p =>
      rw [hi] at hy; cases hy
      obtain ⟨u, hu, hr⟩ := h2 i p hi
      exact ⟨u, by simpa using hu, hr⟩
  · cases h

theorem run_equalIn_nil (w' : World) (d : Nat) (t : TypeId) (a : Option Addr) (n k : Nat) (el : TypeId) (h : P.underlying t = some (.slice el)) : (Op.equalIn (d + 1) t (.slice a n k) (.slice none 0 0)).run P w' = .ok a.isNone w' := by
  cases a <;> simp [Op.equalIn, run_underlying h]
theorem len_of_none {rd : Nat → Nat → Option Value} {x : AV} {n k : Nat} (h : RepV rd os g w x (.slice none n k)) (hk : lenOk os x) (hs : ∀ s, x ≠ .sc (.string s)) : lenA x = 0 := by
  unfold lenOk at hk
  split at hk
  · rename_i s xs
    rcases RepP.row h with ⟨rfl, _⟩ | ⟨b, o, cc, e, _⟩
    · rfl
    · cases e
  · rename_i L off m
    split at hk
    · rename_i ow s xs hL
      have h : RepC rd os g w (.sl L off m) _ := h
      simp only [RepC, hL] at h
      obtain ⟨cap, hc, _, ⟨_, _, e, _⟩ | ⟨hz, a, e⟩⟩ := h
      · cases e
      · simp only [lenA]; omega
    · rename_i s xs op hL
      have h : RepC rd os g w (.sl L off m) _ := h
      simp only [RepC, hL] at h
      obtain ⟨cap, hc, _, ⟨_, _, e, _⟩ | ⟨hz, a, e⟩⟩ := h
      · cases e
      · simp only [lenA]; omega
    · exact hk.elim
  · exact absurd rfl (hs _)
  · rfl
  · exact hk.elim

theorem eff_ok (hP : PrOk P c) (hX : X.Ok) (h : SRel X os g w) (hgl : ∀ n, GOk (rdF X os g w) (c.G n) n) {H : List Nat} (o : Oper) (rA : Operand → AV) (r : Operand → Value) (hr : ∀ x ∈ o.op.operands, RepV (rdF X os g w) os g w (rA x) (r x))
    {K : AV → List AO → Prop} (hk : effA c (Con P c) H os rA o.op K) {a : Act} {next : Act → World → Prop} {Q : Exit → Act → World → Prop}
    (hnext : ∀ v x os' g' w' ns, K x os' → SRel X os' g' w' → Step X os g w os' g' w' → RepV (rdF X os' g' w') os' g' w' x v → Loc os g w os' g' w' ns → (∀ L ∈ ns, own os L ∧ memN H L = false) → next (a.put o.dst v) w') :
    o.upon P a next Q ((execOp r o).run P w) := by
  obtain ⟨dst, op, ty, pos, af, gd⟩ := o
  simp only at hr hk hnext ⊢
  cases op <;> try exact hk.elim
  case binOp op t x y t' =>
    obtain ⟨_, kc, k0, k1, k2, k3, k4, hK⟩ := hk
    have hx := hr x (by simp [Op.operands])
    have hy := hr y (by simp [Op.operands])
    rw [kc] at hy
    have hy : r y = .slice none 0 0 := hy
    have hxs := hx.slice k3 (fun s e => by rw [e] at k4; exact k4)
    obtain ⟨ad, cap, e1, hcap⟩ := hxs
    have hz : ad.isNone = true → lenA (rA x) = 0 := fun hn => by
      have hq := hx
      rw [e1] at hq
      cases ad with
      | some _ => cases hn
      | none => exact len_of_none hq k3 (fun s e => by rw [e] at k4; exact k4)
    obtain ⟨i, d, z, i1, _, _, i4, _, _, _, i8, _⟩ := (hP.ty t k0).ex
    obtain ⟨el, hel⟩ : ∃ el, (c.T t).kind = .slice el := by
      unfold isSliceT at k1; split at k1
      · exact ⟨_, by assumption⟩
      · exact k1.elim
    rw [hel] at i8
    obtain rfl : d = .slice el := i8
    have he : (Op.equal t (.slice ad (lenA (rA x)) cap) (.slice none 0 0)).run P w = .ok ad.isNone w := by
      exact run_equalIn_nil w 9999 t ad _ cap el i4
    have hN := hnext (.bool (if op = .eql then ad.isNone else !ad.isNone)) _ os g w [] (hK ad.isNone hz) h (Step.refl _ _ _ _) rfl ⟨fun _ _ _ => rfl, fun L hL b hm _ => .inl ⟨hL, hm⟩⟩ (fun _ h => by cases h)
    rcases k2 with rfl | rfl
    · simp [execOp, e1, hy, eqGuard, binOp, he]
      exact hN
    · simp [execOp, e1, hy, eqGuard, binOp, he]
      cases ad <;> exact hN
  case alloc t =>
    obtain ⟨k0, hK⟩ := hk
    obtain ⟨v, g', w', h1, h2, h3, h4, h5⟩ := alloc_ok hP h k0
    simp only [execOp, Sem.run_bind, h1, Result.andThen_ok]
    exact hnext v _ _ g' w' [] hK h2 h3 h4.toV h5 (fun _ h => by cases h)
  case box t x =>
    obtain ⟨k0, k2, hK⟩ := hk
    obtain ⟨v, g', w', h1, h2, h3, h4, h5⟩ := box_ok hP h (hr x (by simp [Op.operands])) k0 k2
    simp only [execOp, Sem.run_bind, h1, Result.andThen_ok]
    exact hnext v _ _ g' w' [] hK h2 h3 h4.toV h5 (fun _ h => by cases h)
  case store t x y =>
    obtain ⟨k0, k1, k2, k3, hK⟩ := hk
    obtain ⟨w', h1, h2, h3, h5⟩ := store_ok hP hX h (hr x (by simp [Op.operands])) (hr y (by simp [Op.operands])) k0 k1 k2
    simp only [execOp, Sem.run_bind, h1, Result.andThen_ok]
    exact hnext undef _ _ g w' _ hK h2 h3 trivial h5 (fun L hL => ⟨own_of_store k2 L hL, allP_mem k3 L hL⟩)
  case buildSlice t n ps =>
    obtain ⟨k0, k1, k2, k3, k4, hK⟩ := hk
    obtain ⟨v, g', w', h1, h2, h3, h4, h5⟩ := lit_ok (r := r) hP h (fun p hp => hr p.2 (by simp only [Op.operands]; exact List.mem_toArray.2 (List.mem_map.2 ⟨p, hp, rfl⟩))) k0 k1 k2 k3 k4
    have e : (ps.map fun x => match x with | (i, x) => (i, r x)) = ps.map fun p => (p.1, r p.2) := rfl
    simp only [execOp, e, Sem.run_bind, h1, Result.andThen_ok]
    exact hnext v _ _ g' w' [] hK h2 h3 h4.toV h5 (fun _ h => by cases h)
  case makeSlice t l m =>
    obtain ⟨k0, k1, k2, n1, n2, k3, k4, k5, k6, hK⟩ := hk
    have hl := hr l (by simp [Op.operands])
    have hm := hr m (by simp [Op.operands])
    generalize rA l = al at *
    generalize rA m = am at *
    unfold isNum at n1 n2
    split at n1
    · split at n2
      · have e1 := RepV.sc hl
        have e2 := RepV.sc hm
        simp only [numA] at k3 k4 k5 k6 hK
        rename_i kl il _ km im
        obtain ⟨v, g', w', h1, h2, h3, h4, h5⟩ := make_ok (kl := kl) (km := km) hP h k0 k1 k2 k3 k4 k5 k6
        simp only [execOp, e1, e2, Sem.run_bind, h1, Result.andThen_ok]
        exact hnext v _ _ g' w' [] hK h2 h3 h4.toV h5 (fun _ h => by cases h)
      · exact n2.elim
    · exact n1.elim
  case call cl =>
    obtain ⟨callee, args, tys⟩ := cl
    cases callee with
    | invoke rv nm => exact hk.elim
    | builtin b =>
      cases b <;> try exact hk.elim
      case append =>
        simp only [effA] at hk
        split at hk
        · rename_i s x t u ha ht
          split at hk
          · rename_i hint
            obtain ⟨k0, k1, k2, k3, k4, k5, k6, k7, k8, K1, K2⟩ := hk
            have ha' : args = #[s, x] := by rw [← Array.toArray_toList (xs := args), ha]
            have ht' : tys = #[t, u] := by rw [← Array.toArray_toList (xs := tys), ht]
            subst ha' ht'
            have hs := hr s (by simp [Op.operands, Call.operands])
            rw [k4] at hs
            have hs : r s = .slice none 0 0 := hs
            have hx := hr x (by simp [Op.operands, Call.operands])
            obtain ⟨ki, hx⟩ := hx.num k5
            by_cases hz : numA (rA x) = 0
            · rw [hz] at hx
              obtain ⟨e, hel, i4⟩ := elemT hP k0 k1
              rw [hel] at k2
              obtain ⟨j, dj, z, j1, j2, _⟩ := (hP.ty e k2).ex
              obtain ⟨_, du, _, _, _, _, q4, _, _, _, q8, _⟩ := (hP.ty u k3).ex
              obtain ⟨kk, hkk⟩ : ∃ kk, (c.T u).kind = .int kk := by
                cases hq : (c.T u).kind <;> rw [hq] at hint <;> first | exact ⟨_, rfl⟩ | cases hint
              rw [hkk] at q8
              obtain rfl : du = .int kk := q8
              have a3 := run_app_zero0 (P := P) w t u ty e j i4 j1 q4 ki
              simp only [execOp, resolve, invoke, builtin, List.map_toArray, List.map_cons, List.map_nil, Sem.run_bind, Sem.run_pure, hs, hx, a3, Result.andThen_ok]
              exact hnext _ _ _ g w [] (K1 hz) h (Step.refl _ _ _ _) rfl ⟨fun _ _ _ => rfl, fun L hL b hm _ => .inl ⟨hL, hm⟩⟩ (fun _ h => by cases h)
            · obtain ⟨v, g', w', a2, h2, h3, h4, h5⟩ := zeros_ok hP h ty (k := ki) k0 k1 k2 k3 hint (by omega) k7 k8
              simp only [execOp, resolve, invoke, builtin, List.map_toArray, List.map_cons, List.map_nil, Sem.run_bind, Sem.run_pure, hs, hx, a2, Result.andThen_ok]
              exact hnext v _ _ g' w' [] (K2 hz) h2 h3 h4.toV h5 (fun _ h => by cases h)
          obtain ⟨k0, k1, k2, k3, k4, k5, k6, k7, k8, k9, K1, K2⟩ := hk
          have ha' : args = #[s, x] := by rw [← Array.toArray_toList (xs := args), ha]
          have ht' : tys = #[t, u] := by rw [← Array.toArray_toList (xs := tys), ht]
          subst ha' ht'
          rcases app_ok hP hX h ty (hr s (by simp [Op.operands, Call.operands])) (hr x (by simp [Op.operands, Call.operands])) k0 k1 k2 k3 k4 k5 k6 k7 k8 with ⟨a1, a2, a3⟩ | ⟨a1, v, g', w', a2, h2, h3, h4, h5⟩
          · simp only [execOp, resolve, invoke, builtin, List.map_toArray, List.map_cons, List.map_nil, Sem.run_bind, Sem.run_pure, a3, Result.andThen_ok]
            exact hnext _ _ _ g w [] (K1 a1 a2) h (Step.refl _ _ _ _) rfl ⟨fun _ _ _ => rfl, fun L hL b hm _ => .inl ⟨hL, hm⟩⟩ (fun _ h => by cases h)
          · simp only [execOp, resolve, invoke, builtin, List.map_toArray, List.map_cons, List.map_nil, Sem.run_bind, Sem.run_pure, a2, Result.andThen_ok]
            exact hnext v _ _ g' w' _ (K2 a1) h2 h3 h4.toV h5 (fun L hL => ⟨own_of_app k4 L hL, allP_mem k9 L hL⟩)
        · exact hk.elim
    | value f =>
      simp only [effA] at hk
      split at hk
      · rename_i n cs hf
        obtain ⟨lend, esc, post, con, hn, hl, hpost⟩ := hk
        obtain ⟨arr, ef', ha1, ha2⟩ := fnC_some hf (hr f (by simp [Op.operands, Call.operands]))
        have hcall := call_ok (esc := esc) h hgl con hn (fun L hL => (allP_mem hl L hL).1) (vals := args.map r ++ arr) (by simp [ha1]) (fun i y hy => by
          rw [List.getElem?_append] at hy
          split at hy
          · rename_i hlt
            rw [List.getElem?_map] at hy
            cases hx : args.toList[i]? with
            | none => rw [hx] at hy; cases hy
            | some x0 =>
              rw [hx] at hy; cases hy
              have hm : x0 ∈ args := Array.mem_toList_iff.1 (List.mem_of_getElem? hx)
              have hlt2 : i < (args.map r).size := by simpa using hlt
              refine ⟨r x0, ?_, hr x0 (by simp [Op.operands, Call.operands, hm])⟩
              rw [Array.getElem?_append_left hlt2]
              simpa using ⟨x0, by simpa using hx, rfl⟩
          · rename_i hge
            obtain ⟨u, hu, hru⟩ := ha2 _ y hy
            refine ⟨u, ?_, hru⟩
            rw [Array.getElem?_append_right (by simpa using hge)]
            simpa using hu) (fun x σ' hp he => (hpost x σ' hp).1 he)
        obtain ⟨fn, c1, c2, ⟨c3, hcall⟩ | ⟨c3, c4, ent, v, w', c5, c6, c7⟩⟩ := hcall
        · have c3' : fn.body.isNone ≠ true := by simp [c3]
          simp only [execOp, resolve, Deferred.ofValue, ef', invoke, callFunc, Sem.run_bind, Sem.run_pure, Result.andThen_ok, run_program, c1, c2, c3, Bool.false_eq_true, if_false, Array.empty_append, Array.append_empty]
          refine Calls.mono hcall ?_
          rintro e w' ⟨v, x, σ', gN, rfl, hp, b1, b2, b3, b4⟩
          exact hnext v _ _ gN w' lend ((hpost x σ' hp).2) b1 b2 b3 b4 (fun L hL => allP_mem hl L hL)
        · obtain ⟨v', x, σ', gN, he, hp, b1, b2, b3, b4⟩ := c7
          cases he
          have hrun : (callFunc n (args.map r ++ arr)).run P w = .ok (.value v) w' := by rw [run_callFunc_extern c1 c2 c3 c4 c5, c6]; rfl
          simp only [execOp, resolve, Deferred.ofValue, ef', invoke, Sem.run_bind, Sem.run_pure, Result.andThen_ok, Array.empty_append, Array.append_empty, hrun]
          exact hnext v _ _ gN w' lend ((hpost x σ' hp).2) b1 b2 b3 b4 (fun L hL => allP_mem hl L hL)
      · exact hk.elim

end Go.AM
