/- The draws end well: lists. Conditions: none. -/
import Derived.Test.YtbmoclfnkefomaaDoorAmPuC
set_option linter.unusedSimpArgs false
set_option linter.unusedVariables false
namespace Go.AM
open Go
def okL (K L : Nat) (l : List Inst) : Prop := K ≤ l.length ∧ l.length ≤ L ∧ ∀ i ∈ l, okI i
theorem okL.up {K L M : Nat} {l : List Inst} (h : okL K L l) (hm : L ≤ M) : okL K M l := ⟨h.1, Nat.le_trans h.2.1 hm, h.2.2⟩
theorem okL.snoc {K L : Nat} {l : List Inst} {i : Inst} (h : okL K L l) (hi : okI i) : okL K (L + 1) (l ++ [i]) := ⟨by have := h.1; simp; omega, by have := h.2.1; simp; omega, fun j hj => by
  rcases List.mem_append.1 hj with q | q
  · exact h.2.2 j q
  · simp at q; subst q; exact hi⟩
def PL (N : Int) (K L : Nat) (p : l11Play) : Prop := G N p.r ∧ okL K L p.out ∧ 0 ≤ p.bits ∧ p.bits ≤ 16 ∧ 0 ≤ p.forks ∧ p.forks ≤ 8
theorem PL.mk {N : Int} {K L : Nat} {p : l11Play} {b : List Int} {q : Int} {o : List Inst} {x y : Int} {u v : Bool} (h1 : G N ⟨b, q⟩) (h2 : okL K L o) (h3 : 0 ≤ x) (h4 : x ≤ 16) (h5 : 0 ≤ y) (h6 : y ≤ 8) : PL N K L ⟨⟨b, q⟩, o, x, y, u, v⟩ := ⟨h1, h2, h3, h4, h5, h6⟩
theorem PL.up {N M : Int} {K L L2 : Nat} {p : l11Play} (h : PL N K L p) (h1 : N ≤ M) (h2 : L ≤ L2) : PL M K L2 p := ⟨h.1.up h1, h.2.1.up h2, h.2.2⟩
theorem put_ok {N c : Int} {K L : Nat} {p : l11Play} (h : PL N K L p) (hN : N ≤ 40000000000) (hL : L ≤ 1000000) : OK (spec_l11Play_put p c) (fun q => PL (N + 60) K (L + 1) q ∧ q.out.length = p.out.length + 1 ∧ q.bits = p.bits ∧ q.forks = p.forks) := by
  obtain ⟨⟨b, k⟩, o, x, y, u, v⟩ := p
  obtain ⟨h1, h2, h3, h4, h5, h6⟩ := h
  dsimp only at h1 h2 h3 h4 h5 h6
  have hlen := h2.2.1
  unfold spec_l11Play_put
  dsimp only
  have fin : ∀ (M : Int) (b' : List Int) (k' op : Int) (args : List DevArg), G M ⟨b', k'⟩ → M ≤ N + 60 → args.length ≤ 5 → OK (spec_l11Play_put_j9 ⟨⟨b, k⟩, o, x, y, u, v⟩ c (b', k', op, args)) (fun q => PL (N + 60) K (L + 1) q ∧ q.out.length = o.length + 1 ∧ q.bits = x ∧ q.forks = y) := by
    intro M b' k' op args hG hM ha
    simp only [spec_l11Play_put_j9]
    refine OK.gd (apOk_of (by simp; omega) (by simp; omega)) ?_
    refine OK.cond (fun _ => ?_) (fun _ => ?_)
    · exact OK.mk ⟨⟨hG.up hM, h2.snoc (by simpa [okI] using ha), h3, h4, h5, h6⟩, by simp, rfl, rfl⟩
    · exact OK.mk ⟨⟨hG.up hM, h2.snoc (by simpa [okI] using ha), h3, h4, h5, h6⟩, by simp, rfl, rfl⟩
  have mid : ∀ (M : Int) (b' : List Int) (k' op : Int) (args : List DevArg), G M ⟨b', k'⟩ → M ≤ N + 30 → args.length ≤ 5 → OK (spec_l11Play_put_j3 ⟨⟨b, k⟩, o, x, y, u, v⟩ c (b', k', op, args)) (fun q => PL (N + 60) K (L + 1) q ∧ q.out.length = o.length + 1 ∧ q.bits = x ∧ q.forks = y) := by
    intro M b' k' op args hG hM ha
    simp only [spec_l11Play_put_j3]
    refine OK.cond (fun _ => ?_) (fun _ => ?_)
    · refine OK.bind (l4Coil_ok hG (by omega)) ?_
      rintro z ⟨z1, z2⟩
      exact fin _ _ _ _ _ z1 (by omega) (by omega)
    · exact fin _ _ _ _ _ hG (by omega) ha
  refine OK.cond (fun _ => ?_) (fun _ => ?_)
  · refine OK.bind (l4Contact_ok h1 (by omega)) ?_
    rintro z ⟨z1, z2⟩
    exact mid _ _ _ _ _ z1 (by omega) (by omega)
  · exact mid _ _ _ _ _ h1 (by omega) (by simp)
theorem close_ok {N : Int} {K L : Nat} {p : l11Play} (h : PL N K L p) (hN : N ≤ 30000000000) (hL : L ≤ 900000) : OK (spec_l11Play_close p) (fun q => PL (N + 2000) K (L + 20) q ∧ q.forks = p.forks) := by
  obtain ⟨⟨b, k⟩, o, x, y, u, v⟩ := p
  obtain ⟨h1, h2, h3, h4, h5, h6⟩ := h
  dsimp only at h1 h2 h3 h4 h5 h6
  unfold spec_l11Play_close
  dsimp only
  refine OK.loop (Q := fun z : List Int × Int × List Inst × Int × Int × Bool × Bool => PL (N + 1600) K (L + 16) ⟨⟨z.1, z.2.1⟩, z.2.2.1, z.2.2.2.1, z.2.2.2.2.1, z.2.2.2.2.2.1, z.2.2.2.2.2.2⟩ ∧ z.2.2.2.2.1 = y)
    (fun z : List Int × Int × List Inst × Int × Int × Bool × Bool => PL (N + 100 * (16 - z.2.2.2.1)) K (L + (16 - z.2.2.2.1).toNat) ⟨⟨z.1, z.2.1⟩, z.2.2.1, z.2.2.2.1, z.2.2.2.2.1, z.2.2.2.2.2.1, z.2.2.2.2.2.2⟩ ∧ z.2.2.2.2.1 = y)
    (fun z => z.2.2.2.1.toNat) ?_ ?_ ?_
  · exact ⟨⟨h1.up (by dsimp only; omega), h2.up (by omega), h3, h4, h5, h6⟩, rfl⟩
  · rintro ⟨b, k, o, x, y', u, v⟩ ⟨hp, hy⟩
    dsimp only at hp hy
    obtain ⟨g1, g2, g3, g4, g5, g6⟩ := id hp
    dsimp only at g1 g2 g3 g4 g5 g6
    simp only [spec_l11Play_close_s3]
    have go : ∀ (M : Int) (q : l11Play), PL M K (L + (16 - x).toNat + 1) q → M ≤ N + 100 * (16 - x) + 100 → q.bits = x → q.forks = y' → 1 < x → OK (spec_l11Play_close_j11 (q.r.b, q.r.p, q.out, q.bits, q.forks, q.base, q.fresh)) (Sum.elim (fun z => (PL (N + 100 * (16 - z.2.2.2.1)) K (L + (16 - z.2.2.2.1).toNat) ⟨⟨z.1, z.2.1⟩, z.2.2.1, z.2.2.2.1, z.2.2.2.2.1, z.2.2.2.2.2.1, z.2.2.2.2.2.2⟩ ∧ z.2.2.2.2.1 = y) ∧ z.2.2.2.1.toNat < x.toNat) (fun z : List Int × Int × List Inst × Int × Int × Bool × Bool => PL (N + 1600) K (L + 16) ⟨⟨z.1, z.2.1⟩, z.2.2.1, z.2.2.2.1, z.2.2.2.2.1, z.2.2.2.2.2.1, z.2.2.2.2.2.2⟩ ∧ z.2.2.2.2.1 = y)) := by
      intro M q hq hM hb hf hx
      simp only [spec_l11Play_close_j11]
      have hw : IntKind.i64.wrap (q.bits - 1) = x - 1 := by rw [hb]; exact w64 (by omega) (by omega)
      refine OK.mk ⟨⟨⟨hq.1.up ?_, hq.2.1.up ?_, ?_, ?_, ?_, ?_⟩, ?_⟩, ?_⟩ <;> dsimp only <;> (try rw [hw]) <;> first | omega | (have := hq.2.2; omega)
    refine OK.cond (fun hc => ?_) (fun hc => ?_)
    · simp only [decide_eq_true_eq] at hc
      refine OK.cond (fun _ => ?_) (fun _ => ?_)
      · refine OK.cond (fun _ => ?_) (fun _ => ?_)
        · refine OK.bind (put_ok (p := ⟨⟨b, k⟩, o, x, y', true, v⟩) ⟨g1, g2, g3, g4, g5, g6⟩ (by omega) (by omega)) ?_
          rintro q ⟨q1, q2, q3, q4⟩
          exact go _ q q1 (by omega) q3 q4 (by omega)
        · refine OK.bind (pick_ok g1 (by omega)) ?_
          rintro ⟨m, r⟩ ⟨r1, _, _⟩
          refine OK.cond (fun _ => ?_) (fun _ => ?_)
          · refine OK.bind (put_ok (p := ⟨r, o, x, y', true, v⟩) ⟨r1, g2, g3, g4, g5, g6⟩ (by omega) (by omega)) ?_
            rintro q ⟨q1, q2, q3, q4⟩
            exact go _ q q1 (by omega) q3 q4 (by omega)
          · refine OK.bind (put_ok (p := ⟨r, o, x, y', true, v⟩) ⟨r1, g2, g3, g4, g5, g6⟩ (by omega) (by omega)) ?_
            rintro q ⟨q1, q2, q3, q4⟩
            exact go _ q q1 (by omega) q3 q4 (by omega)
      · refine OK.bind (pick_ok g1 (by omega)) ?_
        rintro ⟨m, r⟩ ⟨r1, _, _⟩
        refine OK.cond (fun _ => ?_) (fun _ => ?_)
        · refine OK.bind (put_ok (p := ⟨r, o, x, y', false, v⟩) ⟨r1, g2, g3, g4, g5, g6⟩ (by omega) (by omega)) ?_
          rintro q ⟨q1, q2, q3, q4⟩
          exact go _ q q1 (by omega) q3 q4 (by omega)
        · refine OK.bind (put_ok (p := ⟨r, o, x, y', false, v⟩) ⟨r1, g2, g3, g4, g5, g6⟩ (by omega) (by omega)) ?_
          rintro q ⟨q1, q2, q3, q4⟩
          exact go _ q q1 (by omega) q3 q4 (by omega)
    · exact OK.mk ⟨hp.up (by omega) (by omega), hy⟩
  · rintro ⟨b, k, o, x, y', u, v⟩ ⟨hp, rfl⟩
    simp only [spec_l11Play_close_j1]
    refine OK.cond (fun _ => ?_) (fun _ => ?_)
    · refine OK.bind (put_ok hp (by omega) (by omega)) ?_
      rintro q ⟨q1, q2, q3, q4⟩
      exact OK.mk ⟨⟨q1.1.up (by omega), q1.2.1.up (by omega), q1.2.2⟩, q4⟩
    · exact OK.mk ⟨hp.up (by omega) (by omega), rfl⟩
end Go.AM
