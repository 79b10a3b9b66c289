/- Sums of images: the program's and the document's are the same. Conditions: none. -/
import Derived.Test.YtcnlhdaeeeolbaaAmPuM
set_option linter.unusedSimpArgs false
set_option linter.unusedVariables false
namespace Go.AM
open Go
theorem bxor16 {a b : Int} (ha : 0 ≤ a) (ha2 : a < 65536) (hb : 0 ≤ b) (hb2 : b < 65536) : bxor .u16 a b = ((a.toNat ^^^ b.toNat : Nat) : Int) := by
  show IntKind.u16.wrap (BitVec.ofInt 16 a ^^^ BitVec.ofInt 16 b).toNat = _
  have h1 : (BitVec.ofInt 16 a).toNat = a.toNat := by rw [BitVec.toNat_ofInt]; omega
  have h2 : (BitVec.ofInt 16 b).toNat = b.toNat := by rw [BitVec.toNat_ofInt]; omega
  rw [BitVec.toNat_xor, h1, h2]
  have h3 : a.toNat ^^^ b.toNat < 2 ^ 16 := Nat.xor_lt_two_pow (by omega) (by omega)
  simp [IntKind.wrap, IntKind.bits, IntKind.signed]
  omega
theorem xor_step (x y k : Nat) : (x ^^^ y) % 2 ^ (k + 1) = (x ^^^ y) % 2 ^ k + (if x / 2 ^ k % 2 = y / 2 ^ k % 2 then 0 else 2 ^ k) := by
  have h0 : (x ^^^ y) / 2 ^ k % 2 = if x / 2 ^ k % 2 = y / 2 ^ k % 2 then 0 else 1 := by
    have h := Nat.testBit_xor x y k
    rw [Nat.testBit_eq_decide_div_mod_eq, Nat.testBit_eq_decide_div_mod_eq, Nat.testBit_eq_decide_div_mod_eq] at h
    have h1 : x / 2 ^ k % 2 = 0 ∨ x / 2 ^ k % 2 = 1 := by omega
    have h2 : y / 2 ^ k % 2 = 0 ∨ y / 2 ^ k % 2 = 1 := by omega
    have h3 : (x ^^^ y) / 2 ^ k % 2 = 0 ∨ (x ^^^ y) / 2 ^ k % 2 = 1 := by omega
    rcases h1 with h1 | h1 <;> rcases h2 with h2 | h2 <;> rcases h3 with h3 | h3 <;> simp [h1, h2, h3] at h ⊢
  rw [Nat.mod_pow_succ, h0]
  split <;> simp
theorem half {u : Nat} (h : u < 65536) : IntKind.i64.wrap (((u : Nat) : Int).tdiv 2) = ((u / 2 : Nat) : Int) := by
  rw [Int.tdiv_eq_ediv_of_nonneg (by omega), w64 (by omega) (by omega)]; omega
theorem dbl {u : Nat} (h : u < 65536) : IntKind.i64.wrap (((u : Nat) : Int) * 2) = ((u * 2 : Nat) : Int) := by
  rw [w64 (by omega) (by omega)]; omega
theorem pls {u v : Nat} (h : u < 65536) (h2 : v < 65536) : IntKind.i64.wrap ((u : Int) + (v : Int)) = ((u + v : Nat) : Int) := by
  rw [w64 (by omega) (by omega)]; omega
theorem bitne {u v : Nat} : (((u : Int)).tmod 2 != ((v : Int)).tmod 2) = !decide (u % 2 = v % 2) := by
  rw [Int.tmod_eq_emod_of_nonneg (by omega), Int.tmod_eq_emod_of_nonneg (by omega)]
  by_cases h : u % 2 = v % 2
  · simp [h]; omega
  · simp [h]; omega
theorem sXor_ok {a b : Int} (ha : 0 ≤ a) (ha2 : a < 65536) (hb : 0 ≤ b) (hb2 : b < 65536) : OK (spec_l17Xor a b) (fun x => x = bxor .u16 a b) := by
  rw [bxor16 ha ha2 hb hb2]
  obtain ⟨x, rfl⟩ := Int.eq_ofNat_of_zero_le ha
  obtain ⟨y, rfl⟩ := Int.eq_ofNat_of_zero_le hb
  simp only [Int.toNat_natCast]
  have hx : x ^^^ y < 2 ^ 16 := Nat.xor_lt_two_pow (by omega) (by omega)
  unfold spec_l17Xor
  refine OK.loop (Q := fun o => o = ((x ^^^ y : Nat) : Int)) (fun z : Int × Int × Int × Int => ∃ k : Nat, k ≤ 16 ∧ z.2.2.2 = ((2 ^ k : Nat) : Int) ∧ z.1 = ((x / 2 ^ k : Nat) : Int) ∧ z.2.1 = ((y / 2 ^ k : Nat) : Int) ∧ z.2.2.1 = (((x ^^^ y) % 2 ^ k : Nat) : Int)) (fun z => (65536 - z.2.2.2).toNat) ⟨0, by omega, by simp, by simp, by simp, by simp [Nat.mod_one]⟩ ?_ ?_
  · rintro ⟨p, q, o, m⟩ ⟨k, hk, e1, e2, e3, e4⟩
    dsimp only at e1 e2 e3 e4
    subst e1 e2 e3 e4
    simp only [spec_l17Xor_s9]
    refine OK.cond (fun hc => ?_) (fun hc => ?_)
    · simp only [decide_eq_true_eq] at hc
      have hk16 : k < 16 := by
        rcases Nat.lt_or_ge k 16 with q | q
        · exact q
        · have : k = 16 := by omega
          subst this; simp at hc
      have hp : (2 : Nat) ^ k ≤ 2 ^ 15 := Nat.pow_le_pow_right (by omega) (by omega)
      have hpos : 0 < (2 : Nat) ^ k := Nat.pow_pos (by omega)
      have hxk : x / 2 ^ k ≤ x := Nat.div_le_self _ _
      have hyk : y / 2 ^ k ≤ y := Nat.div_le_self _ _
      have hmo : (x ^^^ y) % 2 ^ k < 2 ^ k := Nat.mod_lt _ hpos
      have fin : ∀ o2 : Int, o2 = (((x ^^^ y) % 2 ^ (k + 1) : Nat) : Int) → OK (spec_l17Xor_j17 ((x / 2 ^ k : Nat) : Int) ((y / 2 ^ k : Nat) : Int) ((2 ^ k : Nat) : Int) o2) (Sum.elim (fun a' => (∃ k : Nat, k ≤ 16 ∧ a'.2.2.2 = ((2 ^ k : Nat) : Int) ∧ a'.1 = ((x / 2 ^ k : Nat) : Int) ∧ a'.2.1 = ((y / 2 ^ k : Nat) : Int) ∧ a'.2.2.1 = (((x ^^^ y) % 2 ^ k : Nat) : Int)) ∧ (65536 - a'.2.2.2).toNat < (65536 - ((2 ^ k : Nat) : Int)).toNat) (fun o => o = ((x ^^^ y : Nat) : Int))) := by
        intro o2 ho2
        simp only [spec_l17Xor_j17]
        have e1 := half (u := x / 2 ^ k) (by omega)
        have e2 := half (u := y / 2 ^ k) (by omega)
        have e3 := dbl (u := 2 ^ k) (by omega)
        rw [Nat.div_div_eq_div_mul, ← Nat.pow_succ] at e1 e2
        rw [← Nat.pow_succ] at e3
        rw [e1, e2, e3]
        refine OK.mk ⟨⟨k + 1, by omega, rfl, rfl, rfl, ho2⟩, ?_⟩
        show (65536 - ((2 ^ (k + 1) : Nat) : Int)).toNat < _
        rw [Nat.pow_succ]
        generalize (2 : Nat) ^ k = m at *
        omega
      rw [bitne]
      have hs := xor_step x y k
      refine OK.cond (fun hd => ?_) (fun hd => ?_)
      · refine fin _ ?_
        have hd : ¬ (x / 2 ^ k % 2 = y / 2 ^ k % 2) := by simpa using hd
        rw [if_neg hd] at hs
        rw [hs, pls (by omega) (by omega)]
      · refine fin _ ?_
        have hd : x / 2 ^ k % 2 = y / 2 ^ k % 2 := by simpa using hd
        rw [if_pos hd] at hs
        rw [hs, Nat.add_zero]
    · simp only [decide_eq_false_iff_not] at hc
      refine OK.mk ?_
      have : k = 16 := by
        rcases Nat.lt_or_ge k 16 with q | q
        · exfalso
          have hp : (2 : Nat) ^ k ≤ 2 ^ 15 := Nat.pow_le_pow_right (by omega) (by omega)
          omega
        · omega
      subst this
      show (((x ^^^ y) % 2 ^ 16 : Nat) : Int) = _
      rw [Nat.mod_eq_of_lt hx]
  · rintro o rfl
    exact OK.mk rfl
def rnd (s : Int) : Int := if s < 32768 then s * 2 else bxor .u16 (s * 2 - 65536) 4129
def iter (f : Int → Int) : Nat → Int → Int
  | 0, s => s
  | n + 1, s => f (iter f n s)
theorem iter_succ (f : Int → Int) (n : Nat) (s : Int) : iter f (n + 1) s = f (iter f n s) := rfl
theorem iter_zero (f : Int → Int) (s : Int) : iter f 0 s = s := rfl
attribute [irreducible] iter
def sumL (s : Int) : List Int → Int
  | [] => s
  | y :: r => sumL (iter rnd 8 (bxor .u16 s (y * 256))) r
theorem bxor_bd {a b : Int} (ha : 0 ≤ a) (ha2 : a < 65536) (hb : 0 ≤ b) (hb2 : b < 65536) : 0 ≤ bxor .u16 a b ∧ bxor .u16 a b < 65536 := by
  rw [bxor16 ha ha2 hb hb2]
  have h3 : a.toNat ^^^ b.toNat < 2 ^ 16 := Nat.xor_lt_two_pow (by omega) (by omega)
  omega
theorem rnd_bd {s : Int} (h0 : 0 ≤ s) (h1 : s < 65536) : 0 ≤ rnd s ∧ rnd s < 65536 := by
  unfold rnd
  split
  · omega
  · exact bxor_bd (by omega) (by omega) (by omega) (by omega)
theorem iter_bd {s : Int} (h0 : 0 ≤ s) (h1 : s < 65536) : ∀ n, 0 ≤ iter rnd n s ∧ iter rnd n s < 65536
  | 0 => by rw [iter_zero]; exact ⟨h0, h1⟩
  | n + 1 => by rw [iter_succ]; exact rnd_bd (iter_bd h0 h1 n).1 (iter_bd h0 h1 n).2
theorem sumL_app (s : Int) (l m : List Int) : sumL s (l ++ m) = sumL (sumL s l) m := by
  induction l generalizing s with
  | nil => rfl
  | cons y l ih => exact ih _
theorem sumL_bd {l : List Int} (hl : by8 l) : ∀ {s : Int}, 0 ≤ s → s < 65536 → 0 ≤ sumL s l ∧ sumL s l < 65536 := by
  induction l with
  | nil => intro s h0 h1; exact ⟨h0, h1⟩
  | cons y l ih =>
    intro s h0 h1
    have hy := hl y (.head _)
    have hb := bxor_bd h0 h1 (show 0 ≤ y * 256 by omega) (by omega)
    have hi := iter_bd hb.1 hb.2 8
    exact ih (fun z hz => hl z (.tail _ hz)) hi.1 hi.2
theorem take1' {l : List Int} {i : Int} (h0 : 0 ≤ i) (h1 : i < l.length) {y : Int} (hy : l.getD i.toNat default = y) : l.take (i + 1).toNat = l.take i.toNat ++ [y] := by
  have e : (i + 1).toNat = i.toNat + 1 := by omega
  have hlt : i.toNat < l.length := by omega
  rw [e, List.take_succ_eq_append_getElem hlt, ← hy, List.getD_eq_getElem?_getD, List.getElem?_eq_getElem hlt]
  rfl
theorem sRound_ok {s : Int} (h0 : 0 ≤ s) (h1 : s < 65536) : OK (spec_l17Round s) (fun x => x = rnd s) := by
  unfold spec_l17Round
  have e : IntKind.i64.wrap (s * 2) = s * 2 := w64 (by omega) (by omega)
  rw [e]
  refine OK.cond (fun hc => ?_) (fun hc => ?_)
  · simp only [decide_eq_true_eq] at hc
    rw [w64 (by omega) (by omega)]
    refine OK.bind (sXor_ok (by omega) (by omega) (by omega) (by omega)) ?_
    rintro x rfl
    exact OK.mk (by rw [rnd, if_neg (by omega)])
  · simp only [decide_eq_false_iff_not] at hc
    exact OK.mk (by rw [rnd, if_pos (by omega)])
theorem sSum_ok {l : List Int} (hl : by8 l) (hlen : l.length ≤ 1000000) : OK (spec_PicSum l) (fun x => x = sumL 65535 l) := by
  unfold spec_PicSum
  refine OK.loop (Q := fun x => x = sumL 65535 l) (fun z : Int × Int => 0 ≤ z.2 ∧ z.2 ≤ l.length ∧ z.1 = sumL 65535 (l.take z.2.toNat)) (fun z => (l.length - z.2).toNat) ⟨Int.le_refl _, by dsimp only; omega, rfl⟩ ?_ ?_
  · rintro ⟨s, i⟩ ⟨h1, h2, h3⟩
    dsimp only at h1 h2 h3
    have hsb : 0 ≤ s ∧ s < 65536 := by rw [h3]; exact sumL_bd (fun y hy => hl y (List.mem_of_mem_take hy)) (by omega) (by omega)
    simp only [spec_PicSum_s9]
    refine OK.cond (fun hc => ?_) (fun hc => ?_)
    · simp only [decide_eq_true_eq] at hc
      refine OK.idx h1 hc fun y hy hyd => ?_
      have hyb := hl y hy
      have e1 : IntKind.i64.wrap y = y := w64 (by omega) (by omega)
      have e2 : IntKind.i64.wrap (y * 256) = y * 256 := w64 (by omega) (by omega)
      rw [e1, e2]
      refine OK.bind (sXor_ok hsb.1 hsb.2 (by omega) (by omega)) ?_
      rintro t rfl
      have hb := bxor_bd hsb.1 hsb.2 (show 0 ≤ y * 256 by omega) (by omega)
      refine OK.loop (Q := fun x => x = iter rnd 8 (bxor .u16 s (y * 256))) (fun z : Int × Int => 0 ≤ z.2 ∧ z.2 ≤ 8 ∧ z.1 = iter rnd z.2.toNat (bxor .u16 s (y * 256))) (fun z => (8 - z.2).toNat) ⟨Int.le_refl _, by dsimp only; omega, (iter_zero _ _).symm⟩ ?_ ?_
      · rintro ⟨t, j⟩ ⟨j1, j2, j3⟩
        dsimp only at j1 j2 j3
        simp only [spec_PicSum_s23]
        refine OK.cond (fun hd => ?_) (fun hd => ?_)
        · simp only [decide_eq_true_eq] at hd
          have ht := iter_bd hb.1 hb.2 j.toNat
          rw [← j3] at ht
          refine OK.bind (sRound_ok ht.1 ht.2) ?_
          rintro u rfl
          have e : IntKind.i64.wrap (j + 1) = j + 1 := w64 (by omega) (by omega)
          rw [e]
          refine OK.mk ⟨⟨by dsimp only; omega, by dsimp only; omega, ?_⟩, by dsimp only; omega⟩
          dsimp only
          rw [show (j + 1).toNat = j.toNat + 1 by omega, j3, iter_succ]
        · simp only [decide_eq_false_iff_not] at hd
          have : j = 8 := by omega
          subst this
          exact OK.mk j3
      · rintro t rfl
        simp only [spec_PicSum_j16]
        have e : IntKind.i64.wrap (i + 1) = i + 1 := w64 (by omega) (by omega)
        rw [e]
        refine OK.mk ⟨⟨by dsimp only; omega, by dsimp only; omega, ?_⟩, by dsimp only; omega⟩
        dsimp only
        rw [take1' h1 hc hyd, sumL_app, ← h3]
        rfl
    · simp only [decide_eq_false_iff_not] at hc
      refine OK.mk (show s = _ from ?_)
      rw [h3, List.take_of_length_le (by omega)]
  · rintro x rfl
    simp only [spec_PicSum_j5]
    refine OK.mk ?_
    have hb := sumL_bd hl (s := 65535) (by omega) (by omega)
    simp [IntKind.wrap, IntKind.bits, IntKind.signed]
    omega
theorem u16w {n : Int} (h0 : 0 ≤ n) (h1 : n < 65536) : IntKind.u16.wrap n = n := by simp [IntKind.wrap, IntKind.bits, IntKind.signed]; omega
theorem iSum_ok {l : List Int} (hl : by8 l) (hlen : l.length ≤ 1000000) : OK (impl_PicSum l) (fun x => x = sumL 65535 l) := by
  unfold impl_PicSum
  refine OK.loop (Q := fun x => x = sumL 65535 l) (fun z : Int × Int => 0 ≤ z.2 ∧ z.2 ≤ l.length ∧ z.1 = sumL 65535 (l.take z.2.toNat)) (fun z => (l.length - z.2).toNat) ⟨Int.le_refl _, by dsimp only; omega, rfl⟩ ?_ ?_
  · rintro ⟨s, i⟩ ⟨h1, h2, h3⟩
    dsimp only at h1 h2 h3
    have hsb : 0 ≤ s ∧ s < 65536 := by rw [h3]; exact sumL_bd (fun y hy => hl y (List.mem_of_mem_take hy)) (by omega) (by omega)
    simp only [impl_PicSum_s9]
    refine OK.cond (fun hc => ?_) (fun hc => ?_)
    · simp only [decide_eq_true_eq] at hc
      refine OK.idx h1 hc fun y hy hyd => ?_
      have hyb := hl y hy
      have e1 : IntKind.u16.wrap y = y := u16w (by omega) (by omega)
      have e2 : IntKind.u16.wrap (y * 256) = y * 256 := u16w (by omega) (by omega)
      rw [e1, e2]
      have hb := bxor_bd hsb.1 hsb.2 (show 0 ≤ y * 256 by omega) (by omega)
      refine OK.loop (Q := fun x => x = iter rnd 8 (bxor .u16 s (y * 256))) (fun z : Int × Int => 0 ≤ z.2 ∧ z.2 ≤ 8 ∧ z.1 = iter rnd z.2.toNat (bxor .u16 s (y * 256))) (fun z => (8 - z.2).toNat) ⟨Int.le_refl _, by dsimp only; omega, (iter_zero _ _).symm⟩ ?_ ?_
      · rintro ⟨t, j⟩ ⟨j1, j2, j3⟩
        dsimp only at j1 j2 j3
        simp only [impl_PicSum_s25]
        refine OK.cond (fun hd => ?_) (fun hd => ?_)
        · simp only [decide_eq_true_eq] at hd
          have ht := iter_bd hb.1 hb.2 j.toNat
          rw [← j3] at ht
          have e : IntKind.i64.wrap (j + 1) = j + 1 := w64 (by omega) (by omega)
          have fin : ∀ u, u = rnd t → OK (impl_PicSum_j32 j u) (Sum.elim (fun a' => (0 ≤ a'.2 ∧ a'.2 ≤ 8 ∧ a'.1 = iter rnd a'.2.toNat (bxor .u16 s (y * 256))) ∧ (8 - a'.2).toNat < (8 - j).toNat) (fun x => x = iter rnd 8 (bxor .u16 s (y * 256)))) := by
            rintro u rfl
            simp only [impl_PicSum_j32, e]
            refine OK.mk ⟨⟨by dsimp only; omega, by dsimp only; omega, ?_⟩, by dsimp only; omega⟩
            dsimp only
            rw [show (j + 1).toNat = j.toNat + 1 by omega, j3, iter_succ]
          have q1 : t.fdiv 32768 = t / 32768 := Int.fdiv_eq_ediv_of_nonneg _ (by omega)
          rw [q1]
          refine OK.cond (fun hx => ?_) (fun hx => ?_)
          · simp only [beq_iff_eq] at hx
            refine fin _ ?_
            rw [rnd, if_neg (by omega)]
            have : IntKind.u16.wrap (t * 2) = t * 2 - 65536 := by simp [IntKind.wrap, IntKind.bits, IntKind.signed]; omega
            rw [this]
          · simp only [beq_eq_false_iff_ne] at hx
            refine fin _ ?_
            rw [rnd, if_pos (by omega), u16w (by omega) (by omega)]
        · simp only [decide_eq_false_iff_not] at hd
          have : j = 8 := by omega
          subst this
          exact OK.mk j3
      · rintro t rfl
        simp only [impl_PicSum_j16]
        have e : IntKind.i64.wrap (i + 1) = i + 1 := w64 (by omega) (by omega)
        rw [e]
        refine OK.mk ⟨⟨by dsimp only; omega, by dsimp only; omega, ?_⟩, by dsimp only; omega⟩
        dsimp only
        rw [take1' h1 hc hyd, sumL_app, ← h3]
        rfl
    · simp only [decide_eq_false_iff_not] at hc
      refine OK.mk (show s = _ from ?_)
      rw [h3, List.take_of_length_le (by omega)]
  · rintro x rfl
    exact OK.mk rfl
end Go.AM
