/- The draws end well: drawn lists. Conditions: none. -/
import Derived.Test.YtbmoclfnkefomaaDoorAmPuE
set_option linter.unusedSimpArgs false
set_option linter.unusedVariables false
namespace Go.AM
open Go
def okM (L : Nat) (l : List Inst) : Prop := l.length ≤ L ∧ ∀ i ∈ l, okI i
theorem okM.up {L M : Nat} {l : List Inst} (h : okM L l) (hm : L ≤ M) : okM M l := ⟨Nat.le_trans h.1 hm, h.2⟩
theorem okM.app {L M : Nat} {l m : List Inst} (h : okM L l) (h2 : okM M m) : okM (L + M) (l ++ m) := ⟨by have := h.1; have := h2.1; simp; omega, fun j hj => by
  rcases List.mem_append.1 hj with q | q
  · exact h.2 j q
  · exact h2.2 j q⟩
theorem okM.one {i : Inst} (hi : okI i) : okM 1 [i] := ⟨by simp, fun j hj => by simp at hj; subst hj; exact hi⟩
theorem okM.two {i j : Inst} (hi : okI i) (hj : okI j) : okM 2 [i, j] := ⟨by simp, fun k hk => by simp at hk; rcases hk with rfl | rfl <;> assumption⟩
theorem okM.take {L : Nat} {l : List Inst} (h : okM L l) (n : Nat) : okM L (l.take n) := ⟨by have := h.1; simp; omega, fun j hj => h.2 j (List.mem_of_mem_take hj)⟩
theorem okM.drop {L : Nat} {l : List Inst} (h : okM L l) (n : Nat) : okM L (l.drop n) := ⟨by have := h.1; simp; omega, fun j hj => h.2 j (List.mem_of_mem_drop hj)⟩
theorem okM.set {L : Nat} {l : List Inst} (h : okM L l) (n : Nat) {i : Inst} (hi : okI i) : okM L (l.set n i) := ⟨by have := h.1; simp; omega, fun j hj => by
  rcases List.mem_or_eq_of_mem_set hj with q | rfl
  · exact h.2 j q
  · exact hi⟩
theorem okM.ap {L : Nat} {l : List Inst} (h : okM L l) (hL : L ≤ 1000000) : apOk l.length 40 = true := apOk_of (by have := h.1; omega) (by have := h.1; omega)
theorem okM.nil (L : Nat) : okM L [] := ⟨by simp, by simp⟩
theorem okL.toM {K L : Nat} {l : List Inst} (h : okL K L l) : okM L l := ⟨h.2.1, h.2.2⟩
theorem okI_bare (c : Int) : okI ⟨c, 0, []⟩ := by simp [okI]
theorem l11Sure_ok {N : Int} {r : l26Rd} (h : G N r) (hN : N ≤ 1000000000) : OK (spec_l11Sure r) (fun x => G (N + 20000000) x.2 ∧ okM 6200 x.1) := by
  unfold spec_l11Sure
  refine OK.bind (pick_ok h (by omega)) ?_
  rintro ⟨m, r⟩ ⟨r1, r2, r3⟩
  dsimp only at r1 r2 r3
  refine OK.cond (fun _ => ?_) (fun _ => ?_)
  · exact OK.mk ⟨r1.up (by omega), okM.nil _⟩
  · refine OK.bind (pick_ok r1 (by omega)) ?_
    rintro ⟨k, r⟩ ⟨s1, s2, s3⟩
    dsimp only at s1 s2 s3
    have e : IntKind.i64.wrap (1 + k) = 1 + k := w64 (by omega) (by omega)
    dsimp only
    rw [e]
    refine OK.loop (Q := fun z : Z7 => PL (N + 900000) 0 6100 (pl z))
      (fun z : Z8 => 0 ≤ z.2.2.2.2.2.2.2 ∧ z.2.2.2.2.2.2.2 ≤ 3 ∧ PL (N + 2 + 200010 * (3 - z.2.2.2.2.2.2.2)) 0 (2000 * (3 - z.2.2.2.2.2.2.2).toNat) (pl8 z))
      (fun z => z.2.2.2.2.2.2.2.toNat) ?_ ?_ ?_
    · refine ⟨by dsimp only; omega, by dsimp only; omega, s1.up (by dsimp only; omega), ⟨by simp, by simp, by simp⟩, ?_, ?_, ?_, ?_⟩ <;> simp
    · rintro ⟨b, p, o, x, y, u, v, i⟩ ⟨i0, i1, hp⟩
      dsimp only at i0 i1 hp
      simp only [spec_l11Sure_s17]
      refine OK.cond (fun hc => ?_) (fun hc => ?_)
      · simp only [decide_eq_true_eq] at hc
        refine OK.bind (pick_ok hp.1 (by omega)) ?_
        rintro ⟨q, r⟩ ⟨t1, t2, t3⟩
        dsimp only at t1 t2 t3
        refine OK.bind (rung_ok (p := ⟨r, o, x, y, u, v⟩) ⟨t1, hp.2⟩ (by omega) (by omega) t2 (by dsimp only; omega)) ?_
        intro z hz
        have e : IntKind.i64.wrap (i - 1) = i - 1 := w64 (by omega) (by omega)
        refine OK.mk ?_
        dsimp only [Sum.elim_inl]
        rw [e]
        exact ⟨⟨by omega, by omega, hz.1.up (by omega), ⟨by omega, (hz.2.1.up (by omega)).2⟩, hz.2.2⟩, by omega⟩
      · exact OK.mk (hp.up (by omega) (by omega))
    · rintro ⟨b, p, o, x, y, u, v⟩ hp
      simp only [spec_l11Sure_j13]
      refine OK.bind (pick_ok hp.1 (by omega)) ?_
      rintro ⟨q, r⟩ ⟨t1, t2, t3⟩
      dsimp only at t1 t2 t3
      have fin : ∀ z : Z7, PL (N + 15000000) 0 6100 (pl z) → OK (spec_l11Sure_j28 z) (fun x => G (N + 20000000) x.2 ∧ okM 6200 x.1) := by
        rintro ⟨b, p, o, x, y, u, v⟩ hp
        exact OK.mk ⟨hp.1.up (by omega), (hp.2.1.toM).up (by omega)⟩
      refine OK.cond (fun _ => ?_) (fun _ => ?_)
      · refine OK.loop (Q := fun z : Z7 => PL (N + 15000000) 0 6100 (pl z))
          (fun z : Z7 => PL (N + 900001 + 200010 * (min z.2.2.1.length 60 : Nat)) 0 6100 (pl z))
          (fun z => 60 - z.2.2.1.length) ?_ ?_ ?_
        · exact ⟨t1.up (by dsimp only; omega), hp.2⟩
        · rintro ⟨b, p, o, x, y, u, v⟩ hp
          dsimp only at hp
          simp only [spec_l11Sure_s33]
          refine OK.cond (fun hc => ?_) (fun hc => ?_)
          · simp only [decide_eq_true_eq] at hc
            refine OK.bind (pick_ok hp.1 (by omega)) ?_
            rintro ⟨q, r⟩ ⟨t1, t2, t3⟩
            dsimp only at t1 t2 t3
            refine OK.bind (rung_ok (L := 60) (p := ⟨r, o, x, y, u, v⟩) ⟨t1, ⟨hp.2.1.1, by dsimp only; omega, hp.2.1.2.2⟩, hp.2.2⟩ (by omega) (by omega) t2 (by dsimp only; omega)) ?_
            intro z hz
            have hl := hz.2.1.1
            have hl2 := hz.2.1.2.1
            dsimp only at hl hl2
            refine OK.mk ?_
            dsimp only [Sum.elim_inl]
            exact ⟨⟨hz.1.up (by omega), ⟨by omega, by dsimp only; omega, hz.2.1.2.2⟩, hz.2.2⟩, by omega⟩
          · exact OK.mk (hp.up (by omega) (by omega))
        · intro z hz; exact fin z hz
      · exact fin _ ⟨t1.up (by omega), hp.2⟩
end Go.AM
