/- Images: how both packages read operands. Conditions: none. -/
import Derived.Test.YtcnlhdaeeeolbaaAmPuQ
set_option linter.unusedSimpArgs false
set_option linter.unusedVariables false
namespace Go.AM
open Go
def s2 (a b : Int) : Int := if a ≥ 128 then a * 256 + b - 65536 else a * 256 + b
def s4 (a b c d : Int) : Int := if a ≥ 128 then a * 16777216 + b * 65536 + c * 256 + d - 4294967296 else a * 16777216 + b * 65536 + c * 256 + d
def rN (k : Int) : List Int → Int ⊕ (DevArg × List Int)
  | n :: r => .inr (⟨k, n, 0⟩, r)
  | [] => .inl 6
def rW : List Int → Int ⊕ (DevArg × List Int)
  | a :: b :: r => .inr (⟨11, s2 a b, 0⟩, r)
  | _ => .inl 6
def rD : List Int → Int ⊕ (DevArg × List Int)
  | a :: b :: c :: d :: p :: r => .inr (⟨12, s4 a b c d, p⟩, r)
  | _ => .inl 6
def rK (k : Int) (r : List Int) : Int ⊕ (DevArg × List Int) := if k < 1 ∨ k > 13 then .inl 3 else if k = 11 then rW r else if k = 12 then rD r else rN k r
def rA : List Int → Int ⊕ (DevArg × List Int)
  | [] => .inl 6
  | k :: r => rK k r
theorem by8.hd {x : Int} {l : List Int} (h : by8 (x :: l)) : 0 ≤ x ∧ x < 256 := h x (.head _)
theorem by8.tl {x : Int} {l : List Int} (h : by8 (x :: l)) : by8 l := fun y hy => h y (.tail _ hy)
theorem rA_enc {l : List Int} {a : DevArg} {r : List Int} (hl : by8 l) (h : rA l = .inr (a, r)) : l = encA a ++ r ∧ argOk a = true := by
  cases l with
  | nil => cases h
  | cons k l =>
    have hk := hl.hd
    simp only [rA, rK] at h
    split at h
    · cases h
    rename_i h1
    split at h
    · rename_i h2
      match l, h with
      | a :: b :: r', h =>
        cases h
        have ha := hl.tl.hd
        have hb := hl.tl.tl.hd
        refine ⟨?_, ?_⟩
        · simp only [encA, be2, if_pos, List.cons_append, List.nil_append, List.cons.injEq, and_true]
          refine ⟨by omega, ?_, ?_⟩ <;> (unfold s2; split <;> omega)
        · have h1 : -32768 ≤ s2 a b := by unfold s2; split <;> omega
          have h2 : s2 a b ≤ 32767 := by unfold s2; split <;> omega
          unfold argOk
          rw [if_pos rfl, decide_eq_true_eq]
          exact ⟨h1, h2, rfl⟩
    rename_i h2
    split at h
    · rename_i h3
      match l, h with
      | a :: b :: c :: d :: p :: r', h =>
        cases h
        have ha := hl.tl.hd
        have hb := hl.tl.tl.hd
        have hc := hl.tl.tl.tl.hd
        have hd := hl.tl.tl.tl.tl.hd
        have hp := hl.tl.tl.tl.tl.tl.hd
        refine ⟨?_, ?_⟩
        · rw [encA, if_neg (show ¬ (12 : Int) = 11 by decide), if_pos rfl]
          simp only [be4, List.cons_append, List.nil_append, List.cons.injEq, and_true]
          refine ⟨by omega, ?_, ?_, ?_, ?_, by omega⟩ <;> (unfold s4; split <;> omega)
        · unfold argOk s4
          rw [if_neg (show ¬ (12 : Int) = 11 by decide), if_pos rfl, decide_eq_true_eq]
          dsimp only
          split <;> omega
    rename_i h3
    match l, h with
    | n :: r', h =>
      cases h
      have hn := hl.tl.hd
      refine ⟨?_, ?_⟩
      · rw [encA, if_neg h2, if_neg h3]
        simp only [List.cons_append, List.nil_append, List.cons.injEq, and_true]
        omega
      · unfold argOk
        rw [if_neg h2, if_neg h3, decide_eq_true_eq]
        dsimp only
        omega
/-! bytes as numbers -/
theorem bor_byte {x y : Int} (hx : 0 ≤ x) (hx2 : x < 1099511627776) (hy : 0 ≤ y) (hy2 : y < 256) : bor .i64 (IntKind.i64.wrap (x * 256)) (IntKind.i64.wrap y) = x * 256 + y := by
  rw [w64 (by omega) (by omega), w64 (by omega) (by omega)]
  show IntKind.i64.wrap (BitVec.ofInt 64 (x * 256) ||| BitVec.ofInt 64 y).toNat = _
  have h1 : (BitVec.ofInt 64 (x * 256)).toNat = 2 ^ 8 * x.toNat := by rw [BitVec.toNat_ofInt]; omega
  have h2 : (BitVec.ofInt 64 y).toNat = y.toNat := by rw [BitVec.toNat_ofInt]; omega
  rw [BitVec.toNat_or, h1, h2, ← Nat.two_pow_add_eq_or_of_lt (by omega), w64 (by omega) (by omega)]
  omega
theorem fb_on {l : List Int} {x i y : Int} (h0 : 0 ≤ i) (h1 : i < l.length) (hl : l.length ≤ 1000) (hx : 0 ≤ x) (hx2 : x < 1099511627776) (hy : l.getD i.toNat default = y) (hy0 : 0 ≤ y) (hy2 : y < 256) : impl_fromBig_s9 l (x, i) = some (.inl (x * 256 + y, i + 1)) := by
  refine OK.eq ?_
  simp only [impl_fromBig_s9]
  refine OK.cond (fun _ => ?_) (fun hc => ?_)
  · refine OK.idx h0 h1 fun z _ hz => ?_
    rw [hy] at hz
    subst hz
    rw [bor_byte hx hx2 hy0 hy2, w64 (by omega) (by omega)]
    exact OK.mk rfl
  · simp only [decide_eq_false_iff_not] at hc; omega
theorem fb_out {l : List Int} {x i : Int} (h : ¬ i < l.length) : impl_fromBig_s9 l (x, i) = some (.inr x) := by
  simp only [impl_fromBig_s9]
  rw [decide_eq_false h]; rfl
theorem fb2 {a b : Int} (h : by8 [a, b]) : impl_fromBig [a, b] = some (a * 256 + b) := by
  have ha := h.hd
  have hb := h.tl.hd
  unfold impl_fromBig
  rw [loop_on (fb_on (y := a) (by omega) (by simp) (by simp) (by omega) (by omega) rfl ha.1 ha.2), loop_on (fb_on (y := b) (by omega) (by simp) (by simp) (by omega) (by omega) rfl hb.1 hb.2), loop_out (fb_out (by simp))]
  simp [impl_fromBig_j5]
theorem fb4 {a b c d : Int} (h : by8 [a, b, c, d]) : impl_fromBig [a, b, c, d] = some (a * 16777216 + b * 65536 + c * 256 + d) := by
  have ha := h.hd
  have hb := h.tl.hd
  have hc := h.tl.tl.hd
  have hd := h.tl.tl.tl.hd
  unfold impl_fromBig
  rw [loop_on (fb_on (y := a) (by omega) (by simp) (by simp) (by omega) (by omega) rfl ha.1 ha.2), loop_on (fb_on (y := b) (by omega) (by simp) (by simp) (by omega) (by omega) rfl hb.1 hb.2),
    loop_on (fb_on (y := c) (by omega) (by simp) (by simp) (by omega) (by omega) rfl hc.1 hc.2), loop_on (fb_on (y := d) (by omega) (by simp) (by simp) (by omega) (by omega) rfl hd.1 hd.2), loop_out (fb_out (by simp))]
  simp only [impl_fromBig_j5, Option.bind_some, Option.some.injEq]
  omega
theorem sg2 {a b : Int} (h : by8 [a, b]) : impl_signed [a, b] = some (s2 a b) := by
  have ha := h.hd
  have hb := h.tl.hd
  refine OK.eq ?_
  unfold impl_signed
  rw [fb2 h, Option.bind_some]
  refine OK.idx (by omega) (by simp) fun y _ hy => ?_
  obtain rfl : a = y := hy
  have e0 : IntKind.i64.wrap (8 * (([a, b].length : Nat) : Int)) = 16 := by rfl
  have e : IntKind.i64.wrap (1 * pw .i64 16) = 65536 := by decide
  rw [e0, e, show decide ((0 : Int) ≤ 16) = true by decide, gd_t]
  simp only [impl_signed_j5]
  refine OK.cond (fun hc => OK.mk ?_) (fun hc => OK.mk ?_)
  · simp only [decide_eq_true_eq] at hc
    rw [w64 (by omega) (by omega), s2, if_pos hc]
  · simp only [decide_eq_false_iff_not] at hc
    rw [s2, if_neg hc]
theorem sg4 {a b c d : Int} (h : by8 [a, b, c, d]) : impl_signed [a, b, c, d] = some (s4 a b c d) := by
  have ha := h.hd
  have hb := h.tl.hd
  have hc := h.tl.tl.hd
  have hd := h.tl.tl.tl.hd
  refine OK.eq ?_
  unfold impl_signed
  rw [fb4 h, Option.bind_some]
  refine OK.idx (by omega) (by simp) fun y _ hy => ?_
  obtain rfl : a = y := hy
  have e0 : IntKind.i64.wrap (8 * (([a, b, c, d].length : Nat) : Int)) = 32 := by rfl
  have e : IntKind.i64.wrap (1 * pw .i64 32) = 4294967296 := by decide
  rw [e0, e, show decide ((0 : Int) ≤ 32) = true by decide, gd_t]
  simp only [impl_signed_j5]
  refine OK.cond (fun hc => OK.mk ?_) (fun hc => OK.mk ?_)
  · simp only [decide_eq_true_eq] at hc
    rw [w64 (by omega) (by omega), s4, if_pos hc]
  · simp only [decide_eq_false_iff_not] at hc
    rw [s4, if_neg hc]
theorem sv_on {l : List Int} {x p i y : Int} (h0 : 0 ≤ i) (h1 : i < l.length) (hl : l.length ≤ 1000) (hx : 0 ≤ x) (hx2 : x < 1099511627776) (hp : 0 ≤ p) (hp2 : p < 1099511627776) (hy : l.getD i.toNat default = y) (hy0 : 0 ≤ y) (hy2 : y < 256) : spec_l17Val_s11 l (x, p, i) = some (.inl (x * 256 + y, p * 256, i + 1)) := by
  refine OK.eq ?_
  simp only [spec_l17Val_s11]
  refine OK.cond (fun _ => ?_) (fun hc => ?_)
  · refine OK.idx h0 h1 fun z _ hz => ?_
    rw [hy] at hz
    subst hz
    rw [w64 (n := i + 1) (by omega) (by omega), w64 (n := y) (by omega) (by omega), w64 (n := x * 256) (by omega) (by omega), w64 (by omega) (by omega), w64 (by omega) (by omega)]
    exact OK.mk rfl
  · simp only [decide_eq_false_iff_not] at hc; omega
theorem sv_out {l : List Int} {x p i : Int} (h : ¬ i < l.length) : spec_l17Val_s11 l (x, p, i) = some (.inr (x, p)) := by
  simp only [spec_l17Val_s11]
  rw [decide_eq_false h]; rfl
theorem sv1 {a : Int} (h : by8 [a]) : spec_l17Val [a] = some a := by
  have ha := h.hd
  unfold spec_l17Val
  rw [loop_on (sv_on (y := a) (by omega) (by simp) (by simp) (by omega) (by omega) (by omega) (by omega) rfl ha.1 ha.2), loop_out (sv_out (by simp))]
  simp [spec_l17Val_j7, spec_l17Val_j24]
theorem sv2 {a b : Int} (h : by8 [a, b]) : spec_l17Val [a, b] = some (s2 a b) := by
  have ha := h.hd
  have hb := h.tl.hd
  refine OK.eq ?_
  unfold spec_l17Val
  rw [loop_on (sv_on (y := a) (by omega) (by simp) (by simp) (by omega) (by omega) (by omega) (by omega) rfl ha.1 ha.2), loop_on (sv_on (y := b) (by omega) (by simp) (by simp) (by omega) (by omega) (by omega) (by omega) rfl hb.1 hb.2), loop_out (sv_out (by simp)), Option.bind_some]
  simp only [spec_l17Val_j7, spec_l17Val_j24]
  refine OK.cond (fun _ => OK.idx (by omega) (by simp) fun y _ hy => ?_) (fun hc => by simp at hc)
  obtain rfl : a = y := hy
  refine OK.cond (fun hc => OK.mk ?_) (fun hc => OK.mk ?_)
  · simp only [decide_eq_true_eq] at hc
    rw [w64 (by omega) (by omega), s2, if_pos hc]; omega
  · simp only [decide_eq_false_iff_not] at hc
    rw [s2, if_neg hc]; omega
theorem sv4 {a b c d : Int} (h : by8 [a, b, c, d]) : spec_l17Val [a, b, c, d] = some (s4 a b c d) := by
  have ha := h.hd
  have hb := h.tl.hd
  have hc := h.tl.tl.hd
  have hd := h.tl.tl.tl.hd
  refine OK.eq ?_
  unfold spec_l17Val
  rw [loop_on (sv_on (y := a) (by omega) (by simp) (by simp) (by omega) (by omega) (by omega) (by omega) rfl ha.1 ha.2), loop_on (sv_on (y := b) (by omega) (by simp) (by simp) (by omega) (by omega) (by omega) (by omega) rfl hb.1 hb.2),
    loop_on (sv_on (y := c) (by omega) (by simp) (by simp) (by omega) (by omega) (by omega) (by omega) rfl hc.1 hc.2), loop_on (sv_on (y := d) (by omega) (by simp) (by simp) (by omega) (by omega) (by omega) (by omega) rfl hd.1 hd.2), loop_out (sv_out (by simp)), Option.bind_some]
  simp only [spec_l17Val_j7, spec_l17Val_j24]
  refine OK.cond (fun _ => OK.idx (by omega) (by simp) fun y _ hy => ?_) (fun hc => by simp at hc)
  obtain rfl : a = y := hy
  refine OK.cond (fun hc => OK.mk ?_) (fun hc => OK.mk ?_)
  · simp only [decide_eq_true_eq] at hc
    rw [w64 (by omega) (by omega), s4, if_pos hc]; omega
  · simp only [decide_eq_false_iff_not] at hc
    rw [s4, if_neg hc]; omega
end Go.AM
