/- Operations in regions: the model's walk follows the abstract one. Conditions: none. -/
import Derived.Test.YtcnlhdaeeeolbaaAmN
set_option linter.unusedSimpArgs false
set_option linter.unusedVariables false
namespace Go.AM
open Go

variable {P : Program} {c : Cx} {X : Ctx}

theorem lk_upd (e : Env) (t : Nat) (v : AV) (u : Nat) : lk (upd e t v) u = if t = u then v else lk e u := rfl

theorem lk_keepE (lv : List Nat) : ∀ (e : Env) (u : Nat), lk (keepE lv e) u = lk e u ∨ lk (keepE lv e) u = .junk
  | [], u => .inl rfl
  | (k, x) :: r, u => by
    have ih := lk_keepE lv r u
    unfold keepE
    by_cases h : memN lv k = true
    · rw [if_pos h]
      simp only [lk]
      by_cases h2 : k = u
      · rw [if_pos h2, if_pos h2]; exact .inl rfl
      · rw [if_neg h2, if_neg h2]; exact ih
    · rw [if_neg h]
      by_cases h2 : k = u
      · subst h2
        have : ∀ (r : Env), lk (keepE lv r) k = .junk := by
          intro r
          induction r with
          | nil => rfl
          | cons p r ih =>
            obtain ⟨k', y⟩ := p
            unfold keepE
            by_cases h3 : memN lv k' = true
            · rw [if_pos h3]
              simp only [lk]
              rw [if_neg (by rintro rfl; exact h h3)]; exact ih
            · rw [if_neg h3]; exact ih
        exact .inr (this r)
      · simp only [lk]
        rw [if_neg h2]; exact ih

theorem Rel.keep {st : St} {g : Nat → List Nat} {a : Act} {w : World} (h : Rel X c st g a w) (lv : List Nat) : Rel X c ⟨keepE lv st.env, st.os⟩ g a w := by
  refine ⟨h.srel, fun t => ?_, h.nt, h.defs, h.glob, h.keeps⟩
  rcases lk_keepE lv st.env t with e | e
  · simp only [e]; exact h.env t
  · simp only [e]; trivial

theorem Rel.to {st : St} {g g' : Nat → List Nat} {a : Act} {w w' : World} {os' : List AO} (h : Rel X c st g a w) (s : SRel X os' g' w') (t : Step X st.os g w os' g' w') : Rel X c ⟨st.env, os'⟩ g' a w' :=
  ⟨s, fun u => t.repV (h.env u), h.nt, h.defs, fun n => (h.glob n).mono t.rd, h.keeps.trans t.keeps⟩

theorem Rel.put {st : St} {g : Nat → List Nat} {a : Act} {w : World} (h : Rel X c st g a w) (dst : Option Nat) (hd : ∀ d, dst = some d → d < X.nt) {x : AV} {v : Value} (hx : RepV (rdF X st.os g w) st.os g w x v) :
    Rel X c ⟨put st.env dst x, st.os⟩ g (a.put dst v) w := by
  cases dst with
  | none => exact h
  | some d =>
    have hlt : d < a.tmps.size := by rw [h.nt]; exact hd d rfl
    refine ⟨h.srel, fun t => ?_, by simp only [Act.put, Array.size_setIfInBounds]; exact h.nt, h.defs, h.glob, h.keeps⟩
    simp only [AM.put, lk_upd, Act.put]
    by_cases e : d = t
    · subst e
      simp only [if_true]
      rw [Array.getD_eq_getD_getElem?, Array.getElem?_setIfInBounds_self_of_lt hlt]; exact hx
    · rw [if_neg e]
      rw [Array.getD_eq_getD_getElem?, Array.getElem?_setIfInBounds_ne e, ← Array.getD_eq_getD_getElem?]; exact h.env t

theorem guardA_ok {st : St} {g : Nat → List Nat} {a : Act} {w : World} (h : Rel X c st g a w) {ops : Array Oper} {o : Oper} {j : Nat} {want gb : Bool} (ho : o.guard = some (j, want)) (hg : guardA ops st.env j want = some gb) :
    Region.wanted o (yielded ops a.tmps) = gb := by
  unfold guardA at hg
  simp only [Region.wanted, ho, yielded]
  cases hd : (ops[j]?).bind (·.dst) with
  | none => rw [hd] at hg; cases hg
  | some t =>
    rw [hd] at hg
    have ht := h.env t
    simp only [Option.bind_some] at ⊢
    simp only at hg
    have hb : ∀ b : Bool, a.tmps.getD t undef = .bool b → a.tmps[t]? = some (.bool b) := by
      intro b e
      rw [Array.getD_eq_getD_getElem?] at e
      cases hx : a.tmps[t]? with
      | none => rw [hx] at e; simp [undef] at e
      | some x => rw [hx] at e; simp at e; rw [e]
    split at hg
    · rename_i b e
      rw [e] at ht
      have := hb b ht
      rw [this]
      simp only [Option.some.injEq] at hg
      subst hg
      cases b <;> cases want <;> rfl
    · rename_i g' b e
      rw [e] at ht
      simp only [Option.some.injEq] at hg
      subst hg
      cases g' with
      | true =>
        rw [hb b (ht.1 rfl)]
        cases b <;> cases want <;> rfl
      | false =>
        have hu := ht.2 rfl
        rw [Array.getD_eq_getD_getElem?] at hu
        cases hx : a.tmps[t]? with
        | none => rfl
        | some x => rw [hx] at hu; simp at hu; rw [hu]; rfl
    · rename_i e
      rw [e] at ht
      simp only [Option.some.injEq] at hg
      subst hg
      have hu := ht.2 rfl
      rw [Array.getD_eq_getD_getElem?] at hu
      cases hx : a.tmps[t]? with
      | none => rfl
      | some x => rw [hx] at hu; simp at hu; rw [hu]; rfl
    · cases hg

theorem RepV.ofPlain {rd : Nat → Nat → Option Value} {os : List AO} {g : Nat → List Nat} {w : World} {x : AV} {v : Value} (h : RepV rd os g w x v) (hs : plain x) : RepA rd os g w x v := by
  cases x <;> first | exact h | exact hs.elim

theorem gev_ok {st : St} {g : Nat → List Nat} {a : Act} {w : World} (h : Rel X c st g a w) {o : Op} (hk : operOk c st.env true o) (x : Operand) (hx : x ∈ o.operands) : RepV (rdF X st.os g w) st.os g w (gev c st.env o x) (a.eval x) := by
  cases o with
  | pick a x y => exact h.ev _
  | _ => exact (h.ev x).strip (allP_mem hk x (Array.mem_toList_iff.2 hx))

/-- What an operation leaves alone, where. -/
def Left (H : List Nat) (os : List AO) (g : Nat → List Nat) (w : World) (os' : List AO) (g' : Nat → List Nat) (w' : World) : Prop := ∃ ns, Loc os g w os' g' w' ns ∧ ∀ L ∈ ns, own os L ∧ memN H L = false

theorem Left.refl (H : List Nat) (os : List AO) (g : Nat → List Nat) (w : World) : Left H os g w os g w := ⟨[], ⟨fun _ _ _ => rfl, fun _ h _ hm _ => .inl ⟨h, hm⟩⟩, fun _ h => by cases h⟩

theorem step_ok (hP : PrOk P c) (hX : X.Ok) {st : St} {g : Nat → List Nat} {a : Act} {w : World} (h : Rel X c st g a w) {H : List Nat} {ops : Array Oper} {o : Oper} (hd : ∀ d, o.dst = some d → d < X.nt) {K : St → Prop} (hk : stepA c (Con P c) H ops o st K)
    {next : Act → World → Prop} {Q : Exit → Act → World → Prop} (hnext : ∀ st' g' a' w', K st' → Rel X c st' g' a' w' → Left H st.os g w st'.os g' w' → next a' w') :
    if Region.wanted o (yielded ops a.tmps) = true then o.wp P a w next Q else next (a.put o.dst undef) w := by
  -- an operation that is carried out, with operands 'rA'
  have heff : ∀ rA, (∀ x ∈ o.op.operands, RepV (rdF X st.os g w) st.os g w (rA x) (a.eval x)) → (effA c (Con P c) H st.os rA o.op fun v os => K ⟨put st.env o.dst v, os⟩) → o.wp P a w next Q := by
    intro rA hr hk
    exact eff_ok hP hX h.srel h.glob o rA a.eval hr hk fun v x os' g' w' ns hK hs hst hx hl hn =>
      hnext ⟨put st.env o.dst x, os'⟩ g' _ w' hK ((h.to hs hst).put o.dst hd hx) ⟨ns, hl, hn⟩
  have hpure : ∀ rA, isPure o.op = true → (∀ x ∈ o.op.operands, RepV (rdF X st.os g w) st.os g w (rA x) (a.eval x)) → pureOk c st.os rA o.op →
      ∃ v, RepV (rdF X st.os g w) st.os g w (pureA c st.os rA o.op) v ∧ (next (a.put o.dst v) w → o.wp P a w next Q) := by
    intro rA hp hr hk
    obtain ⟨v, hv, hrun⟩ := pure_ok hP h.srel o rA a.eval hr hp hk
    refine ⟨v, hv, fun hn => ?_⟩
    unfold Oper.wp
    rw [hrun w (fun _ _ => rfl)]
    exact hn
  unfold stepA at hk
  cases hg : o.guard with
  | none =>
    rw [hg] at hk
    have hw : Region.wanted o (yielded ops a.tmps) = true := by simp [Region.wanted, hg]
    rw [if_pos hw]
    simp only at hk
    split at hk
    · rename_i hp
      obtain ⟨k1, k2⟩ := hk
      obtain ⟨v, hv, hn⟩ := hpure _ hp (fun x _ => h.ev x) k1
      exact hn (hnext _ g _ w k2 (h.put o.dst hd hv) (Left.refl _ _ _ _))
    · exact heff _ (fun x _ => h.ev x) hk
  | some jw =>
    obtain ⟨j, want⟩ := jw
    rw [hg] at hk
    simp only at hk
    split at hk
    · exact hk.elim
    · rename_i gb hgb
      have hw := guardA_ok h hg hgb
      split at hk
      · rename_i hp
        obtain ⟨k1, k2⟩ := hk
        cases gb with
        | true =>
          rw [if_pos hw]
          obtain ⟨k1, k3, k4⟩ := k1 rfl
          obtain ⟨v, hv, hn⟩ := hpure _ hp (gev_ok h k1) k3
          exact hn (hnext _ g _ w k2 (h.put o.dst hd ⟨fun _ => hv.ofPlain k4, fun h => (by cases h)⟩) (Left.refl _ _ _ _))
        | false =>
          rw [if_neg (by rw [hw]; simp)]
          exact hnext _ g _ w k2 (h.put o.dst hd ⟨fun h => (by cases h), fun _ => rfl⟩) (Left.refl _ _ _ _)
      · obtain ⟨k1, k2⟩ := hk
        cases gb with
        | true =>
          rw [if_pos hw]
          obtain ⟨k1, k3⟩ := k1 rfl
          exact heff _ (gev_ok h k1) k3
        | false =>
          rw [if_neg (by rw [hw]; simp)]
          exact hnext _ g _ w (k2 rfl) (h.put o.dst hd ⟨fun h => (by cases h), fun _ => rfl⟩) (Left.refl _ _ _ _)

end Go.AM
