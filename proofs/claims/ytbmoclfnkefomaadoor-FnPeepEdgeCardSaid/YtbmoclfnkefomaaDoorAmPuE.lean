/- The draws end well: rungs and lists. Conditions: none. -/
import Derived.Test.YtbmoclfnkefomaaDoorAmPuD
set_option linter.unusedSimpArgs false
set_option linter.unusedVariables false
namespace Go.AM
open Go
set_option maxHeartbeats 4000000 in
theorem pstep_ok {N : Int} {K L : Nat} {p : l11Play} (h : PL N K L p) (hN : N ≤ 20000000000) (hL : L ≤ 800000) : OK (spec_l11Play_step p) (fun q => PL (N + 3000) K (L + 30) q) := by
  obtain ⟨⟨b, k⟩, o, x, y, u, v⟩ := p
  obtain ⟨h1, h2, h3, h4, h5, h6⟩ := h
  dsimp only at h1 h2 h3 h4 h5 h6
  have P0 : ∀ (M : Int) (r : l26Rd), G M r → M ≤ N + 10 → OK (some (⟨r, o, x, y, u, v⟩ : l11Play)) (fun q => PL (N + 3000) K (L + 30) q) := fun M r hr hM => OK.mk ⟨hr.up (by omega), h2.up (by omega), h3, h4, h5, h6⟩
  have put : ∀ (M : Int) (r : l26Rd) (c : Int) (J : l11Play → Option l11Play), G M r → M ≤ N + 10 → (∀ q, PL (N + 100) K (L + 1) q → q.out.length = o.length + 1 → q.bits = x → q.forks = y → OK (J q) (fun q => PL (N + 3000) K (L + 30) q)) → OK ((spec_l11Play_put ⟨r, o, x, y, u, v⟩ c).bind J) (fun q => PL (N + 3000) K (L + 30) q) := by
    intro M r c J hr hM hJ
    refine OK.bind (put_ok (p := ⟨r, o, x, y, u, v⟩) ⟨hr, h2, h3, h4, h5, h6⟩ (by omega) (by omega)) ?_
    rintro q ⟨q1, q2, q3, q4⟩
    exact hJ q (q1.up (by omega) (by omega)) q2 q3 q4
  have F1 : ∀ (q : l11Play) (x' y' : Int), PL (N + 100) K (L + 1) q → 0 ≤ x' → x' ≤ 16 → 0 ≤ y' → y' ≤ 8 → OK (some (⟨⟨q.r.b, q.r.p⟩, q.out, x', y', q.base, q.fresh⟩ : l11Play)) (fun q => PL (N + 3000) K (L + 30) q) :=
    fun q x' y' hq a b c d => OK.mk ⟨hq.1.up (by omega), hq.2.1.up (by omega), a, b, c, d⟩
  unfold spec_l11Play_step
  have key : ∀ low : Int, 1 ≤ low → OK (spec_l11Play_step_j3 ⟨⟨b, k⟩, o, x, y, u, v⟩ low) (fun q => PL (N + 3000) K (L + 30) q) := by
    intro low hlow
    simp only [spec_l11Play_step_j3]
    refine OK.bind (pick_ok h1 (by omega)) ?_
    rintro ⟨m, r⟩ ⟨r1, r2, r3⟩
    dsimp only at r1 r2 r3
    simp only [spec_l11Play_step_j12, spec_l11Play_step_j26]
    have wx : ∀ z : Int, -100 ≤ z → z ≤ 100 → IntKind.i64.wrap z = z := fun z a b => w64 (by omega) (by omega)
    repeat' (first
      | exact P0 _ _ (by assumption) (by omega)
      | exact F1 _ _ _ (by assumption) (by omega) (by omega) (by omega) (by omega)
      | (refine put _ _ _ _ (by assumption) (by omega) ?_; intro q q1 q2 q3 q4)
      | (refine OK.bind (pick_ok (by assumption) (by omega)) ?_; rintro ⟨m', r'⟩ ⟨_, _, _⟩)
      | (refine OK.bind (close_ok (p := ⟨r, o, x, y, u, v⟩) ⟨r1, h2, h3, h4, h5, h6⟩ (by omega) (by omega)) ?_; rintro q ⟨q1, q2⟩)
      | (refine OK.cond (fun hc => ?_) (fun hc => ?_) <;> try simp only [decide_eq_true_eq, decide_eq_false_iff_not, Bool.and_eq_true, beq_iff_eq, beq_eq_false_iff_ne] at hc)
      | (rw [wx _ (by omega) (by omega)]))
    all_goals
      rename_i hc q q1 q2
      dsimp only at q2
      have q5 := q1.2.2
      refine OK.bind (pick_ok (r := ⟨q.r.b, q.r.p⟩) q1.1 (by omega)) ?_
      rintro ⟨m', r'⟩ ⟨s1, s2, s3⟩
      dsimp only
      refine OK.bind (put_ok (p := ⟨r', q.out, q.bits, q.forks, q.base, q.fresh⟩) ⟨s1, q1.2.1, q1.2.2⟩ (by omega) (by omega)) ?_
      rintro z ⟨z1, z2, z3, z4⟩
      dsimp only at z2 z3 z4
      have zl := z1.2.1.2.1
      have z5 := z1.2.2
      rw [w64 (by omega) (by omega)]
      refine OK.idx (by omega) (by omega) ?_
      intro w _ _
      refine OK.cond (fun _ => ?_) (fun _ => ?_)
      · refine OK.mk ⟨z1.1.up (by omega), z1.2.1.up (by omega), z5.1, z5.2.1, ?_, ?_⟩ <;> dsimp only <;> rw [wx _ (by omega) (by omega)] <;> omega
      · exact OK.mk ⟨z1.1.up (by omega), z1.2.1.up (by omega), z1.2.2⟩
  refine OK.cond (fun _ => ?_) (fun _ => ?_)
  · exact key 2 (by omega)
  · exact key 1 (by omega)
abbrev Z7 := List Int × Int × List Inst × Int × Int × Bool × Bool
abbrev pl (z : Z7) : l11Play := ⟨⟨z.1, z.2.1⟩, z.2.2.1, z.2.2.2.1, z.2.2.2.2.1, z.2.2.2.2.2.1, z.2.2.2.2.2.2⟩
abbrev Z8 := List Int × Int × List Inst × Int × Int × Bool × Bool × Int
abbrev pl8 (z : Z8) : l11Play := ⟨⟨z.1, z.2.1⟩, z.2.2.1, z.2.2.2.1, z.2.2.2.2.1, z.2.2.2.2.2.1, z.2.2.2.2.2.2.1⟩
theorem rung_ok {N n : Int} {K L : Nat} {p : l11Play} (h : PL N K L p) (hN : N ≤ 10000000000) (hL : L ≤ 700000) (hn : 0 ≤ n) (hn2 : n ≤ 40) : OK (spec_l11Play_rung p n) (fun q => PL (N + 200000) (p.out.length + 1) (L + 2000) q) := by
  unfold spec_l11Play_rung
  refine OK.bind (put_ok (p := ⟨⟨p.r.b, p.r.p⟩, p.out, p.bits, p.forks, false, p.fresh⟩) ⟨h.1, h.2⟩ (by omega) (by omega)) ?_
  rintro q ⟨q1', q2, q3, q4⟩
  obtain ⟨K', hK⟩ : ∃ K', K' = p.out.length + 1 := ⟨_, rfl⟩
  rw [← hK]
  have q1 : PL (N + 60) K' (L + 1) q := ⟨q1'.1, ⟨by rw [hK]; exact Nat.le_of_eq q2.symm, q1'.2.1.2⟩, q1'.2.2⟩
  refine OK.loop (Q := fun z : Z7 => PL (N + 60 + 3000 * 40) K' (L + 1 + 30 * 40) (pl z))
    (fun z : Z8 => 0 ≤ z.2.2.2.2.2.2.2 ∧ z.2.2.2.2.2.2.2 ≤ n ∧ PL (N + 60 + 3000 * z.2.2.2.2.2.2.2) K' (L + 1 + 30 * z.2.2.2.2.2.2.2.toNat) (pl8 z))
    (fun z => (n - z.2.2.2.2.2.2.2).toNat) ?_ ?_ ?_
  · refine ⟨Int.le_refl _, hn, q1.1.up (by dsimp only; omega), q1.2.1.up (by simp), ?_, ?_, q1.2.2.2.2⟩ <;> simp
  · rintro ⟨b, k, o, x, y, u, v, i⟩ ⟨i0, i1, hp⟩
    dsimp only at i0 i1 hp
    simp only [spec_l11Play_rung_s11]
    refine OK.cond (fun hc => ?_) (fun hc => ?_)
    · simp only [decide_eq_true_eq] at hc
      refine OK.bind (pstep_ok hp (by omega) (by omega)) ?_
      intro z hz
      refine OK.mk ?_
      have e : IntKind.i64.wrap (i + 1) = i + 1 := w64 (by omega) (by omega)
      dsimp only [Sum.elim_inl]
      rw [e]
      refine ⟨⟨by omega, by omega, hz.1.up (by omega), hz.2.1.up (by omega), hz.2.2⟩, by omega⟩
    · exact OK.mk (hp.up (by omega) (by omega))
  · rintro ⟨b, k, o, x, y, u, v⟩ hp
    simp only [spec_l11Play_rung_j7]
    refine OK.bind (close_ok hp (by omega) (by omega)) ?_
    rintro q ⟨hq, _⟩
    refine OK.loop (Q := fun z : Z7 => PL (N + 150000) K' (L + 1800) (pl z))
      (fun z : Z7 => PL (N + 130000 + 2300 * (8 - z.2.2.2.2.1)) K' (L + 1400 + 30 * (8 - z.2.2.2.2.1).toNat) (pl z))
      (fun z => z.2.2.2.2.1.toNat) ?_ ?_ ?_
    · have := hq.2.2
      exact ⟨hq.1.up (by dsimp only; omega), hq.2.1.up (by dsimp only; omega), hq.2.2⟩
    · rintro ⟨b, k, o, x, y, u, v⟩ hp
      dsimp only at hp
      have hy := hp.2.2
      dsimp only at hy
      simp only [spec_l11Play_rung_s26]
      refine OK.cond (fun hc => ?_) (fun hc => ?_)
      · simp only [decide_eq_true_eq] at hc
        refine OK.bind (put_ok hp (by omega) (by omega)) ?_
        rintro z ⟨z1, z2, z3, z4⟩
        dsimp only at z3 z4
        have z5 := z1.2.2
        have e : IntKind.i64.wrap (z.forks - 1) = y - 1 := by rw [z4]; exact w64 (by omega) (by omega)
        rw [e]
        refine OK.bind (close_ok (p := ⟨⟨z.r.b, z.r.p⟩, z.out, z.bits, y - 1, z.base, z.fresh⟩) ⟨z1.1, z1.2.1, z5.1, z5.2.1, by dsimp only; omega, by dsimp only; omega⟩ (by omega) (by omega)) ?_
        rintro w ⟨w1, w2⟩
        dsimp only at w2
        refine OK.mk ?_
        dsimp only [Sum.elim_inl]
        refine ⟨⟨w1.1.up (by omega), w1.2.1.up (by omega), w1.2.2⟩, by omega⟩
      · exact OK.mk (hp.up (by omega) (by omega))
    · rintro ⟨b, k, o, x, y, u, v⟩ hp
      simp only [spec_l11Play_rung_j24]
      refine OK.bind (put_ok hp (by omega) (by omega)) ?_
      rintro z ⟨z1, z2, z3, z4⟩
      have z5 := z1.2.2
      exact OK.mk ⟨z1.1.up (by omega), z1.2.1.up (by omega), by simp, by simp, z5.2.2⟩
end Go.AM
