/- An image with one byte changed is never accepted. Conditions: none. -/
import Derived.Test.YtkafcijfljjlaabAmPuXb
import Derived.Test.YtkafcijfljjlaabAmPuY0
set_option linter.unusedSimpArgs false
set_option linter.unusedVariables false
namespace Go.AM
open Go
theorem xor_inj {x y z : Nat} (h : x ^^^ z = y ^^^ z) : x = y := by
  have h2 := congrArg (· ^^^ z) h
  simpa [Nat.xor_assoc, Nat.xor_self] using h2
theorem bxor_inj1 {a b c : Int} (ha : 0 ≤ a) (ha2 : a < 65536) (hb : 0 ≤ b) (hb2 : b < 65536) (hc : 0 ≤ c) (hc2 : c < 65536) (h : bxor .u16 a c = bxor .u16 b c) : a = b := by
  rw [bxor16 ha ha2 hc hc2, bxor16 hb hb2 hc hc2] at h
  have := xor_inj (Int.ofNat.inj h)
  omega
theorem bxor_inj2 {a b c : Int} (ha : 0 ≤ a) (ha2 : a < 65536) (hb : 0 ≤ b) (hb2 : b < 65536) (hc : 0 ≤ c) (hc2 : c < 65536) (h : bxor .u16 c a = bxor .u16 c b) : a = b := by
  rw [bxor16 hc hc2 ha ha2, bxor16 hc hc2 hb hb2, Nat.xor_comm, Nat.xor_comm c.toNat] at h
  have := xor_inj (Int.ofNat.inj h)
  omega
theorem rnd_odd {s : Int} (h0 : 32768 ≤ s) (h1 : s < 65536) : rnd s % 2 = 1 := by
  unfold rnd
  rw [if_neg (by omega), bxor16 (by omega) (by omega) (by omega) (by omega)]
  have h := xor_step (s * 2 - 65536).toNat (4129 : Int).toNat 0
  simp only [Nat.pow_zero, Nat.div_one, Nat.mod_one, Nat.zero_add, Nat.pow_one] at h
  rw [if_neg (by omega)] at h
  omega
theorem rnd_inj {a b : Int} (ha : 0 ≤ a) (ha2 : a < 65536) (hb : 0 ≤ b) (hb2 : b < 65536) (h : rnd a = rnd b) : a = b := by
  by_cases h1 : a < 32768
  · by_cases h2 : b < 32768
    · rw [rnd, rnd, if_pos h1, if_pos h2] at h; omega
    · have := rnd_odd (s := b) (by omega) hb2
      rw [← h, rnd, if_pos h1] at this; omega
  · by_cases h2 : b < 32768
    · have := rnd_odd (s := a) (by omega) ha2
      rw [h, rnd, if_pos h2] at this; omega
    · rw [rnd, rnd, if_neg h1, if_neg h2] at h
      have := bxor_inj1 (by omega) (by omega) (by omega) (by omega) (by omega) (by omega) h
      omega
theorem iter_inj {a b : Int} (ha : 0 ≤ a) (ha2 : a < 65536) (hb : 0 ≤ b) (hb2 : b < 65536) : ∀ n, iter rnd n a = iter rnd n b → a = b
  | 0, h => by rw [iter_zero, iter_zero] at h; exact h
  | n + 1, h => by
    rw [iter_succ, iter_succ] at h
    exact iter_inj ha ha2 hb hb2 n (rnd_inj (iter_bd ha ha2 n).1 (iter_bd ha ha2 n).2 (iter_bd hb hb2 n).1 (iter_bd hb hb2 n).2 h)
theorem sumL_inj : ∀ {l : List Int} {a b : Int}, by8 l → 0 ≤ a → a < 65536 → 0 ≤ b → b < 65536 → sumL a l = sumL b l → a = b
  | [], _, _, _, _, _, _, _, h => h
  | y :: l, a, b, hl, ha, ha2, hb, hb2, h => by
    have hy := hl.hd
    have h1 := bxor_bd ha ha2 (show 0 ≤ y * 256 by omega) (by omega)
    have h2 := bxor_bd hb hb2 (show 0 ≤ y * 256 by omega) (by omega)
    have i1 := iter_bd h1.1 h1.2 8
    have i2 := iter_bd h2.1 h2.2 8
    have h3 := sumL_inj hl.tl i1.1 i1.2 i2.1 i2.2 h
    have h4 := iter_inj h1.1 h1.2 h2.1 h2.2 8 h3
    exact bxor_inj1 ha ha2 hb hb2 (by omega) (by omega) h4
theorem sum_diff {l m : List Int} {a b : Int} (hl : by8 l) (hm : by8 m) (ha : 0 ≤ a ∧ a < 256) (hb : 0 ≤ b ∧ b < 256) (h : sumL 65535 (l ++ a :: m) = sumL 65535 (l ++ b :: m)) : a = b := by
  rw [sumL_app, sumL_app] at h
  have hs := sumL_bd hl (s := 65535) (by omega) (by omega)
  generalize sumL 65535 l = s at h hs
  have h1 := bxor_bd hs.1 hs.2 (show 0 ≤ a * 256 by omega) (by omega)
  have h2 := bxor_bd hs.1 hs.2 (show 0 ≤ b * 256 by omega) (by omega)
  have i1 := iter_bd h1.1 h1.2 8
  have i2 := iter_bd h2.1 h2.2 8
  have h3 := sumL_inj hm i1.1 i1.2 i2.1 i2.2 h
  have h4 := iter_inj h1.1 h1.2 h2.1 h2.2 8 h3
  have h5 := bxor_inj2 (by omega) (by omega) (by omega) (by omega) hs.1 hs.2 h4
  omega
theorem be2_inj {u v : Int} (hu : 0 ≤ u ∧ u < 65536) (hv : 0 ≤ v ∧ v < 65536) (h : be2 u = be2 v) : u = v := by
  simp only [be2, List.cons.injEq, and_true] at h; omega
theorem one_differs {H K : List Int} {k : Nat} {y : Int} (h8 : by8 (H ++ be2 (sumL 65535 H))) (hy : 0 ≤ y ∧ y < 256) (hk : k < (H ++ be2 (sumL 65535 H)).length) (hne : (H ++ be2 (sumL 65535 H)).getD k default ≠ y)
    (h : (H ++ be2 (sumL 65535 H)).set k y = K ++ be2 (sumL 65535 K)) : False := by
  have hH : by8 H := fun z hz => h8 z (List.mem_append_left _ hz)
  have hs := sumL_bd hH (s := 65535) (by omega) (by omega)
  have hlen : H.length = K.length := by
    have := congrArg List.length h
    simp [be2] at this; omega
  by_cases hkH : k < H.length
  · rw [List.set_append_left _ _ hkH] at h
    obtain ⟨e1, e2⟩ := List.append_inj h (by simp [hlen])
    have hK : by8 K := by rw [← e1]; intro z hz; rcases List.mem_or_eq_of_mem_set hz with q | rfl; exact hH z q; exact hy
    have hsK := sumL_bd hK (s := 65535) (by omega) (by omega)
    have e3 := be2_inj hs hsK e2
    rw [← e1, List.set_eq_take_append_cons_drop, if_pos hkH] at e3
    have e4 : H = H.take k ++ H.getD k default :: H.drop (k + 1) := by
      have : H.getD k default = H[k] := by simp [List.getD, hkH]
      rw [this, List.getElem_cons_drop, List.take_append_drop]
    rw [e4] at e3
    have hb : 0 ≤ H.getD k default ∧ H.getD k default < 256 := hH _ (getD_mem hkH)
    have e5 : (H.take k ++ H.getD k default :: H.drop (k + 1)).take k = H.take k := by rw [← e4]
    have e6 : (H.take k ++ H.getD k default :: H.drop (k + 1)).drop (k + 1) = H.drop (k + 1) := by rw [← e4]
    rw [e5, e6] at e3
    have := sum_diff (hH.take k) (hH.drop (k + 1)) hb hy e3
    apply hne
    rw [← this]
    simp [List.getD, List.getElem?_append_left hkH]
  · rw [List.set_append_right _ _ (by omega)] at h
    obtain ⟨e1, e2⟩ := List.append_inj h hlen
    subst e1
    have hk2 : k - H.length < 2 := by simp [be2] at hk; omega
    have hg : (H ++ be2 (sumL 65535 H)).getD k default = (be2 (sumL 65535 H)).getD (k - H.length) default := by
      simp [List.getD, List.getElem?_append_right (Nat.le_of_not_lt hkH)]
    rw [hg] at hne
    have hl : k - H.length < (be2 (sumL 65535 H)).length := by show k - H.length < 2; exact hk2
    generalize be2 (sumL 65535 H) = t at e2 hne hl
    have : t.set (k - H.length) y = t := e2
    have h2 := congrArg (fun l => l.getD (k - H.length) default) this
    simp [List.getD, hl] at h2
    simp [List.getD, hl] at hne
    exact hne h2.symm
theorem acc_img {d : List Int} {l : List Inst} {f : PicFault} (h8 : by8 d) (hr : impl_PicRead d = some (l, f)) (hf : f.Code = 0) : 8 ≤ d.length ∧ ∃ H, d = H ++ be2 (sumL 65535 H) := by
  by_cases hd : d.length < 8 ∨ d.length > 20008
  · rw [iRead_bad hd] at hr; cases hr; cases hf
  · obtain ⟨a0, a1, a2, a3, a4, a5, body, x, y, rfl⟩ := img_split (d := d) (by omega)
    have hl : body.length ≤ 20000 := by simp at hd; omega
    rw [iRead_ok h8 hl] at hr
    have hr := Option.some.inj hr
    have hz : (rF a0 a1 a2 a3 a4 a5 body x y).2.Code = 0 := by rw [hr]; exact hf
    obtain ⟨_, _, g3⟩ := rF_good h8 hz
    exact ⟨by simp, imgH (rF a0 a1 a2 a3 a4 a5 body x y).1, by rw [← g3]; rfl⟩
theorem read_any {d : List Int} (h8 : by8 d) : ∃ l f, impl_PicRead d = some (l, f) ∧ spec_PicRead d = some (l, f) ∧ 0 ≤ f.Code ∧ (f.Code ≠ 0 → l = []) := by
  by_cases hd : d.length < 8 ∨ d.length > 20008
  · exact ⟨[], ⟨4, 0⟩, iRead_bad hd, sRead_bad hd, by show (0 : Int) ≤ 4; omega, fun _ => rfl⟩
  · obtain ⟨a0, a1, a2, a3, a4, a5, body, x, y, rfl⟩ := img_split (d := d) (by omega)
    have hl : body.length ≤ 20000 := by simp at hd; omega
    exact ⟨_, _, iRead_ok h8 hl, sRead_ok h8 hl, rF_nn, rF_bad⟩
theorem bxor8 {a b : Int} (ha : 0 ≤ a) (ha2 : a < 256) (hb : 0 ≤ b) (hb2 : b < 256) : bxor .u8 a b = ((a.toNat ^^^ b.toNat : Nat) : Int) ∧ a.toNat ^^^ b.toNat < 256 := by
  have h3 : a.toNat ^^^ b.toNat < 2 ^ 8 := Nat.xor_lt_two_pow (by omega) (by omega)
  refine ⟨?_, h3⟩
  show IntKind.u8.wrap (BitVec.ofInt 8 a ^^^ BitVec.ofInt 8 b).toNat = _
  have h1 : (BitVec.ofInt 8 a).toNat = a.toNat := by rw [BitVec.toNat_ofInt]; omega
  have h2 : (BitVec.ofInt 8 b).toNat = b.toNat := by rw [BitVec.toNat_ofInt]; omega
  rw [BitVec.toNat_xor, h1, h2, u8w_eq]
  omega
theorem law_PicOne {xs ys : List Int} (hx : ∀ n ∈ xs, 0 ≤ n ∧ n < 256) (hy : ∀ n ∈ ys, 0 ≤ n ∧ n < 256) : laws_FnPicOne xs ys = some true := by
  refine OK.eq ?_
  unfold laws_FnPicOne
  refine OK.cond (fun _ => OK.mk rfl) (fun hc => ?_)
  simp only [Bool.or_eq_false_iff, decide_eq_false_iff_not] at hc
  refine OK.bind (DrawPicRead_okO hx) ?_
  rintro ⟨a, n⟩ ⟨a1, a2, a3⟩
  dsimp only at a1 a2 a3 ⊢
  have hd : (a.take n).length = n := by rw [List.length_take]; omega
  obtain ⟨l, f, r1, r2, r3, r4⟩ := read_any (a1.take n)
  rw [r1, r2, Option.bind_some, Option.bind_some]
  refine OK.cond (fun hc => by simp at hc) (fun _ => ?_)
  refine OK.cond (fun _ => OK.mk rfl) (fun hf => ?_)
  simp only [decide_eq_false_iff_not] at hf
  obtain ⟨g1, H, g2⟩ := acc_img (a1.take n) r1 (by omega)
  refine OK.idx (by omega) (by omega) fun z hz hzd => ?_
  refine OK.cond (fun _ => OK.mk rfl) (fun hz0 => ?_)
  simp only [beq_eq_false_iff_ne] at hz0
  have hzb := hy z hz
  refine OK.idx (by omega) (by omega) fun p hp _ => ?_
  refine OK.idx (by omega) (by omega) fun q hq _ => ?_
  have hpb := hy p hp
  have hqb := hy q hq
  refine OK.gd (by simp; omega) ?_
  rw [w64 (n := p) (by omega) (by omega), w64 (n := q) (by omega) (by omega), w64 (n := p * 256) (by omega) (by omega), w64 (by omega) (by omega)]
  have k0 : 0 ≤ (p * 256 + q).tmod (n : Int) := Int.tmod_nonneg _ (by omega)
  have k1 : (p * 256 + q).tmod (n : Int) < n := Int.tmod_lt_of_pos _ (by omega)
  generalize (p * 256 + q).tmod (n : Int) = k at k0 k1
  refine OK.idx k0 (by omega) fun u hu hud => ?_
  have hub := a1.take n u hu
  refine OK.idx (by omega) (by omega) fun z2 _ hzd2 => ?_
  obtain rfl : z2 = z := by rw [← hzd, ← hzd2]
  obtain ⟨e1, e2⟩ := bxor8 hub.1 hub.2 hzb.1 hzb.2
  have hyb : 0 ≤ bxor .u8 u z2 ∧ bxor .u8 u z2 < 256 := by rw [e1]; omega
  have hne : u ≠ bxor .u8 u z2 := by
    rw [e1]
    intro e
    have e3 : u.toNat = u.toNat ^^^ z2.toNat := by omega
    have e4 : z2.toNat = 0 := by
      have h2 := congrArg (u.toNat ^^^ ·) e3
      simp only [← Nat.xor_assoc, Nat.xor_self, Nat.zero_xor] at h2
      exact h2.symm
    omega
  have hset : (a.set k.toNat (bxor .u8 u z2)).take n = (a.take n).set k.toNat (bxor .u8 u z2) := by rw [List.take_set]
  rw [hset]
  have h8' : by8 ((a.take n).set k.toNat (bxor .u8 u z2)) := fun w hw => by
    rcases List.mem_or_eq_of_mem_set hw with q | rfl
    · exact a1.take n w q
    · exact hyb
  obtain ⟨l2, f2, s1, s2, s3, s4⟩ := read_any h8'
  rw [s1, Option.bind_some]
  have hbad : f2.Code ≠ 0 := by
    intro e
    obtain ⟨_, K, g5⟩ := acc_img h8' s1 e
    have h9 := a1.take n
    rw [g2] at h9 g5 hud
    refine one_differs h9 hyb ?_ ?_ g5
    · rw [← g2, hd]; omega
    · rw [hud]; exact hne
  refine OK.mk ?_
  rw [s4 hbad]
  simp; omega
end Go.AM
