/- The draws end well. Conditions: none. -/
import Derived.Test.YtbmoclfnkefomaaDoorAmPuA
import Derived.Test.YtbmoclfnkefomaaDoorAmQa8
set_option linter.unusedSimpArgs false
set_option linter.unusedVariables false
namespace Go.AM
open Go
def G (N : Int) (r : l26Rd) : Prop := (∀ y ∈ r.b, 0 ≤ y ∧ y < 256) ∧ r.b.length ≤ 2000 ∧ 0 ≤ r.p ∧ r.p ≤ N
theorem G.up {N M : Int} {r : l26Rd} (h : G N r) (hm : N ≤ M) : G M r := ⟨h.1, h.2.1, h.2.2.1, by have := h.2.2.2; omega⟩
theorem pick_ok {N n : Int} {r : l26Rd} (h : G N r) (hN : N ≤ 1000000000000) : OK (spec_l26Rd_pick r n) (fun x => G (N + 1) x.2 ∧ 0 ≤ x.1 ∧ (1 ≤ n → x.1 < n)) := by
  obtain ⟨b, p⟩ := r
  obtain ⟨hb, hl, hp, hpN⟩ := h
  simp only at hb hl hp hpN
  have e1 : IntKind.i64.wrap (p + 1) = p + 1 := w64 (by omega) (by omega)
  have e2 : IntKind.i64.wrap (p + 1 - 1) = p := by rw [w64 (by omega) (by omega)]; omega
  have e3 : IntKind.i64.wrap (p * 7) = p * 7 := w64 (by omega) (by omega)
  have e4 : IntKind.i64.wrap (p * 7 + 3) = p * 7 + 3 := w64 (by omega) (by omega)
  have hG : G (N + 1) ⟨b, p + 1⟩ := ⟨hb, hl, by show 0 ≤ p + 1; omega, by show p + 1 ≤ N + 1; omega⟩
  have ew : ∀ y ∈ b, IntKind.i64.wrap y = y := fun y hy => w64 (by have := hb y hy; omega) (by have := hb y hy; omega)
  unfold spec_l26Rd_pick
  simp only [e1, e2, e3, e4]
  refine OK.cond (fun hc => ?_) (fun hc => ?_)
  · exact OK.mk ⟨hG, Int.le_refl _, fun h => by omega⟩
  · simp only [Bool.or_eq_false_iff, decide_eq_false_iff_not, beq_eq_false_iff_ne, ne_eq] at hc
    obtain ⟨hc1, hc2⟩ := hc
    have hn : 1 ≤ n := by omega
    have hn0 : (n != 0) = true := by simp; omega
    have hl0 : ((b.length : Int) != 0) = true := by simpa using hc2
    have hL : (0 : Int) < b.length := by omega
    refine OK.cond (fun hd => ?_) (fun hd => ?_)
    · simp only [decide_eq_true_eq] at hd
      refine OK.idx hp hd fun y hy _ => OK.gd hn0 (OK.mk ⟨hG, ?_, fun _ => ?_⟩)
      · simp only [ew y hy]; exact Int.tmod_nonneg _ (hb y hy).1
      · simp only [ew y hy]; exact Int.tmod_lt_of_pos _ (by omega)
    · simp only [decide_eq_false_iff_not] at hd
      refine OK.gd hl0 (OK.idx (Int.tmod_nonneg _ hp) (Int.tmod_lt_of_pos _ hL) fun y hy _ => OK.gd hl0 (OK.idx (Int.tmod_nonneg _ (by omega)) (Int.tmod_lt_of_pos _ hL) fun z hz _ => OK.gd hl0 (OK.gd hn0 (OK.mk ⟨hG, ?_, fun _ => Int.tmod_lt_of_pos _ (by omega)⟩))))
      refine Int.tmod_nonneg _ ?_
      have hy1 := hb y hy
      have hz1 := hb z hz
      have q5 : 0 ≤ p.tdiv b.length := Int.tdiv_nonneg hp (by omega)
      have q6 : p.tdiv b.length ≤ p := Int.tdiv_le_self _ hp
      simp only [ew y hy, ew z hz]
      generalize p.tdiv b.length = t at q5 q6
      have f1 : IntKind.i64.wrap (y * 131) = y * 131 := w64 (by omega) (by omega)
      have f2 : IntKind.i64.wrap (z * 1117) = z * 1117 := w64 (by omega) (by omega)
      have f3 : IntKind.i64.wrap (y * 131 + z * 1117) = y * 131 + z * 1117 := w64 (by omega) (by omega)
      have f4 : IntKind.i64.wrap (p * 29) = p * 29 := w64 (by omega) (by omega)
      have f5 : IntKind.i64.wrap (y * 131 + z * 1117 + p * 29) = y * 131 + z * 1117 + p * 29 := w64 (by omega) (by omega)
      have f6 : IntKind.i64.wrap t = t := w64 (by omega) (by omega)
      have f7 : IntKind.i64.wrap (t * 53) = t * 53 := w64 (by omega) (by omega)
      have f8 : IntKind.i64.wrap (y * 131 + z * 1117 + p * 29 + t * 53) = y * 131 + z * 1117 + p * 29 + t * 53 := w64 (by omega) (by omega)
      simp only [f1, f2, f3, f4, f5, f6, f7, f8]
      generalize hX : y * 131 + z * 1117 + p * 29 + t * 53 = X
      have h0 : 0 ≤ X := by omega
      have h1 : X < 9000000000000000000 := by omega
      have g1 : 0 ≤ X.tdiv 64 := Int.tdiv_nonneg h0 (by omega)
      have g2 : X.tdiv 64 ≤ X := Int.tdiv_le_self 64 h0
      rw [w64 (by omega) (by omega)]
      exact xor64' X _ h0 (by omega) g1 (by omega)
theorem num_ok {N : Int} {r : l26Rd} {l : List Int} (h : G N r) (hN : N ≤ 1000000000000) (hl : 0 < l.length) : OK (spec_l26Rd_num r l) (fun x => G (N + 1) x.2 ∧ x.1 ∈ l) := by
  unfold spec_l26Rd_num
  refine OK.bind (pick_ok h hN) fun x hx => ?_
  obtain ⟨h1, h2, h3⟩ := hx
  exact OK.idx h2 (h3 (by omega)) fun y hy _ => OK.mk ⟨h1, hy⟩
theorem DevSize_ok (k : Int) : OK (spec_DevSize k) (fun _ => True) := by
  unfold spec_DevSize spec_DevSize_j7 spec_DevSize_j31
  repeat' (first | exact OK.mk trivial | refine OK.cond (fun _ => ?_) (fun _ => ?_) | (simp only []))
theorem l2Arg_ok {N k : Int} {r : l26Rd} (h : G N r) (hN : N ≤ 900000000000) : OK (spec_l2Arg r k) (fun x => G (N + 4) x.2) := by
  unfold spec_l2Arg
  repeat' (first
    | (refine OK.mk ?_; refine G.up (by assumption) ?_; omega)
    | refine OK.cond (fun _ => ?_) (fun _ => ?_)
    | (refine OK.bind (num_ok (by assumption) (by omega) (by simp)) ?_; rintro x ⟨hx, _⟩)
    | (refine OK.bind (pick_ok (by assumption) (by omega)) ?_; rintro x ⟨hx, _, _⟩)
    | (refine OK.bind (DevSize_ok _) ?_; rintro x _)
    | simp only [spec_l2Arg_j20, spec_l2Arg_j38, spec_l2Arg_j44])
end Go.AM
