/- Several texts in one. Conditions: none. -/
import Derived.Test.YthcdhlglaeaieaaGreatDoorAmU0
set_option linter.unusedSimpArgs false
set_option linter.unusedVariables false
section
/- The draws end well: images. Conditions: none. -/
namespace Go.AM
open Go
def by8 (l : List Int) : Prop := ∀ y ∈ l, 0 ≤ y ∧ y < 256
theorem u8w_eq (n : Int) : IntKind.u8.wrap n = n % 256 := by simp [IntKind.wrap, IntKind.bits, IntKind.signed]
theorem u8w (n : Int) : 0 ≤ IntKind.u8.wrap n ∧ IntKind.u8.wrap n < 256 := by rw [u8w_eq]; omega
theorem by8.app {l m : List Int} (h : by8 l) (k : by8 m) : by8 (l ++ m) := fun y hy => by
 rcases List.mem_append.1 hy with q | q
 ·exact h y q
 ·exact k y q
theorem by8.one (n : Int) : by8 [IntKind.u8.wrap n] := fun y hy => by simp at hy; subst hy; exact u8w n
theorem by8.set {l : List Int} (h : by8 l) (k : Nat) (n : Int) : by8 (l.set k (IntKind.u8.wrap n)) := fun y hy => by
 rcases List.mem_or_eq_of_mem_set hy with q | rfl
 ·exact h y q
 ·exact u8w n
theorem l11Any_ok {N : Int} {r : l26Rd} (h : G N r) (hN : N ≤ 1000000000) : OK (s_l11Any r) (fun x => okW 12000 x.1 ∧ G (N + 21000000) x.2) := by
 unfold s_l11Any
 refine OK.bind (l11Sure_ok h (by omega)) ?_
 rintro ⟨l, r⟩ ⟨g1, hl⟩
 dsimp only at g1 hl
 refine OK.bind (aU g1 (by omega)) ?_
 rintro ⟨m, r⟩ ⟨m1, m2, m3⟩
 dsimp only at m1
 refine OK.cond (fun _ => ?_) (fun _ => ?_)
 ·refine OK.bind (l11Spoil_ok m1 (by omega) (hl.up (by omega))) ?_
  rintro ⟨l, r⟩ ⟨q1, q2⟩
  exact OK.mk ⟨q1, q2.up (by omega)⟩
 ·exact OK.mk ⟨hl.toW (by omega), m1.up (by omega)⟩
theorem l17Arg_ok {N : Int} {r : l26Rd} (h : G N r) (hN : N ≤ 70000000000) : OK (s_l17Arg r) (fun x => G (N + 4) x.2) := by
 unfold s_l17Arg
 repeat' (first
  | (refine OK.mk ?_; (refine G.up (by assumption) ?_; omega))
  | (refine OK.bind (aU (by assumption) (by omega)) ?_; rintro x ⟨_, _, _⟩)
  | (refine OK.bind (num_ok (by assumption) (by omega) (by simp)) ?_; rintro x ⟨_, _⟩)
  | refine OK.cond (fun _ => ?_) (fun _ => ?_))
theorem l17List_ok {N : Int} {r : l26Rd} (h : G N r) (hN : N ≤ 900000000) : OK (s_l17List r) (fun x => okW 12000 x.1 ∧ G (N + 22000000) x.2) := by
 unfold s_l17List
 refine OK.bind (aU h (by omega)) ?_
 rintro ⟨m, r⟩ ⟨m1, m2, m3⟩
 dsimp only at m1
 refine OK.cond (fun _ => ?_) (fun _ => ?_)
 ·refine OK.bind (l11Any_ok m1 (by omega)) ?_
  rintro ⟨l, r⟩ ⟨q1, q2⟩
  exact OK.mk ⟨q1, q2.up (by omega)⟩
 ·refine OK.bind (aU m1 (by omega)) ?_
  rintro ⟨n, r⟩ ⟨n1, n2, n3⟩
  dsimp only at n1 n2 n3
  refine OK.loop (Q := fun z : List Int × Int × List Inst => okM 20 z.2.2 ∧ G (N + 22000000) ⟨z.1, z.2.1⟩) (fun z : List Int × Int × List Inst × Int => 0 ≤ z.2.2.2 ∧ z.2.2.2 ≤ 11 ∧ G (N + 1000 - 50 * z.2.2.2) ⟨z.1, z.2.1⟩ ∧ okM (11 - z.2.2.2).toNat z.2.2.1) (fun z => z.2.2.2.toNat) ?_ ?_ ?_
  ·exact ⟨n2, by dsimp only; omega, n1.up (by dsimp only; omega), okM.nil _⟩
  ·rintro ⟨b, p, l, i⟩ ⟨i0, i1, hg, hl⟩
   dsimp only at i0 i1 hg hl
   simp only [s_l17List_s17]
   refine OK.cond (fun hc => ?_) (fun hc => ?_)
   ·simp only [decide_eq_true_eq] at hc
    refine OK.bind (l11Inst_ok2 hg (by omega)) ?_
    rintro ⟨x, r⟩ ⟨t1, t2, t3⟩
    dsimp only at t1 t2 t3
    have fin : ∀ (b : List Int) (p : Int) (a : List DevArg), G (N + 1000 - 50 * i + 50) ⟨b, p⟩ → a.length ≤ 5 → OK (fC l i (x, r) (b, p, a)) (Sum.elim (fun a' => (0 ≤ a'.2.2.2 ∧ a'.2.2.2 ≤ 11 ∧ G (N + 1000 - 50 * a'.2.2.2) ⟨a'.1, a'.2.1⟩ ∧ okM (11 - a'.2.2.2).toNat a'.2.2.1) ∧ a'.2.2.2.toNat < i.toNat) (fun z : List Int × Int × List Inst => okM 20 z.2.2 ∧ G (N + 22000000) ⟨z.1, z.2.1⟩)) := by
     intro b p a hg ha
     simp only [fC]
     have hl2 := hl.app (okM.one (i := ⟨x.Code, x.One_Op, a⟩) (by simpa [okI] using ha))
     refine OK.gd (hl2.ap (by omega)) ?_
     have e : IntKind.i64.wrap (i - 1) = i - 1 := w64 (by omega) (by omega)
     rw [e]
     exact OK.mk ⟨⟨by dsimp only; omega, by dsimp only; omega, hg.up (by dsimp only; omega), hl2.up (by dsimp only; omega)⟩, by dsimp only; omega⟩
    have hx5 : x.One_Args.length ≤ 5 := t2
    refine OK.bind (Q := fun b => b = true → 1 ≤ x.One_Args.length) ?_ ?_
    ·unfold s_l17Has
     refine OK.mk fun hh => ?_
     simp only [Bool.or_eq_true, beq_iff_eq] at hh
     rcases Nat.eq_zero_or_pos x.One_Args.length with q | q
     ·have := t3 q; omega
     ·exact q
    ·intro hb hbt
     refine OK.cond (fun hb1 => ?_) (fun _ => fin _ _ _ (t1.up (by omega)) hx5)
     have h1 := hbt hb1
     refine OK.bind (aU t1 (by omega)) ?_
     rintro ⟨u, r⟩ ⟨u1, _, _⟩
     dsimp only at u1
     refine OK.cond (fun _ => ?_) (fun _ => fin _ _ _ (u1.up (by omega)) hx5)
     refine OK.gd (apOk_of (by show x.One_Args.length * 24 ≤ _; omega) (by show x.One_Args.length ≤ _; omega)) ?_
     refine OK.bind (aU u1 (by omega)) ?_
     rintro ⟨j, r⟩ ⟨j1, j2, j3⟩
     dsimp only at j1 j2 j3
     refine OK.bind (l17Arg_ok j1 (by omega)) ?_
     rintro ⟨a, r⟩ a1
     dsimp only at a1
     refine OK.idx j2 (j3 (by omega)) fun y _ _ => ?_
     exact fin _ _ _ (a1.up (by omega)) (by simpa using hx5)
   ·exact OK.mk ⟨hl.up (by omega), hg.up (by omega)⟩
  ·rintro ⟨b, p, l⟩ ⟨hl, hg⟩
   exact OK.mk ⟨hl.toW (by omega), hg⟩
theorem l17Num_ok {v n : Int} (hn0 : 0 ≤ n) (hn : n ≤ 100) : OK (dU v n) (fun l => by8 l ∧ l.length = n.toNat) := by
 unfold dU
 refine OK.gd (mkOk_of hn0 (Int.le_refl _) (by omega) (by omega)) ?_
 refine OK.loop (Q := fun l => by8 l ∧ l.length = n.toNat) (fun z : Int × List Int × Int => by8 z.2.1 ∧ z.2.1.length = n.toNat ∧ -1 ≤ z.2.2 ∧ z.2.2 < n) (fun z => (z.2.2 + 1).toNat) ?_ ?_ ?_
 ·have e : IntKind.i64.wrap (n - 1) = n - 1 := w64 (by omega) (by omega)
  rw [e]
  exact ⟨fun y hy => by rw [List.mem_replicate] at hy; omega, by simp, by dsimp only; omega, by dsimp only; omega⟩
 ·rintro ⟨a, l, i⟩ ⟨h1, h2, h3, h4⟩
  dsimp only at h1 h2 h3 h4
  have key : ∀ d, eE (a, l, i) = eE (a, l, i) → i ≥ 0 → OK (ff a l i d) (Sum.elim (fun a' => (by8 a'.2.1 ∧ a'.2.1.length = n.toNat ∧ -1 ≤ a'.2.2 ∧ a'.2.2 < n) ∧ (a'.2.2 + 1).toNat < (i + 1).toNat) (fun l => by8 l ∧ l.length = n.toNat)) := by
   intro d _ hi
   simp only [ff]
   refine OK.idx hi (by omega) fun y _ _ => ?_
   have e : IntKind.i64.wrap (i - 1) = i - 1 := w64 (by omega) (by omega)
   rw [e]
   exact OK.mk ⟨⟨h1.set _ _, by simpa using h2, by dsimp only; omega, by dsimp only; omega⟩, by dsimp only; omega⟩
  simp only [eE]
  refine OK.cond (fun hc => ?_) (fun _ => OK.mk ⟨h1, h2⟩)
  simp only [decide_eq_true_eq] at hc
  exact OK.cond (fun _ => key _ rfl hc) (fun _ => key _ rfl hc)
 ·intro l hl
  exact OK.mk hl
theorem l17Inst_ok {i : Inst} (hi : i.One_Args.length ≤ 10) : OK (s_l17Inst i) (fun l => by8 l ∧ l.length ≤ 62) := by
 unfold s_l17Inst
 refine OK.bind (Q := fun _ => True) (OK.mk trivial) fun b _ => ?_
 refine OK.cond (fun _ => OK.mk ⟨by8.one _, by simp⟩) (fun _ => ?_)
 refine OK.gd (apOk_of (by simp) (by simp)) ?_
 refine OK.loop (Q := fun l => by8 l ∧ l.length ≤ 62) (fun z : List Int × Int => by8 z.1 ∧ 0 ≤ z.2 ∧ z.2 ≤ i.One_Args.length ∧ (z.1.length : Int) ≤ 2 + 6 * z.2) (fun z => (i.One_Args.length - z.2).toNat) ?_ ?_ ?_
 ·exact ⟨(by8.one _).app (by8.one _), Int.le_refl _, by dsimp only; omega, by simp⟩
 ·rintro ⟨l, k⟩ ⟨h1, h2, h3, h4⟩
  dsimp only at h1 h2 h3 h4
  simp only [iH]
  refine OK.cond (fun hc => ?_) (fun _ => OK.mk ⟨h1, by omega⟩)
  simp only [decide_eq_true_eq] at hc
  refine OK.idx h2 hc fun a _ _ => ?_
  refine OK.gd (apOk_of (by simp; omega) (by simp; omega)) ?_
  refine OK.bind (Q := fun w => 1 ≤ w ∧ w ≤ 4) (by
   unfold db
   exact OK.cond (fun _ => OK.mk (by omega)) (fun _ => OK.cond (fun _ => OK.mk (by omega)) (fun _ => OK.mk (by omega)))) ?_
  rintro w ⟨w1, w2⟩
  refine OK.bind (l17Num_ok (by omega) (by omega)) ?_
  rintro m ⟨m1, m2⟩
  have e : IntKind.i64.wrap (k + 1) = k + 1 := w64 (by omega) (by omega)
  have hb := (h1.app (by8.one a.Kind)).app m1
  refine OK.gd (apOk_of (by simp; omega) (by simp; omega)) ?_
  refine OK.cond (fun _ => ?_) (fun _ => ?_)
  ·refine OK.gd (apOk_of (by simp; omega) (by simp; omega)) ?_
   simp only [dP, e]
   exact OK.mk ⟨⟨hb.app (by8.one _), by dsimp only; omega, by dsimp only; omega, by simp; omega⟩, by dsimp only; omega⟩
  ·simp only [dP, e]
   exact OK.mk ⟨⟨hb, by dsimp only; omega, by dsimp only; omega, by simp; omega⟩, by dsimp only; omega⟩
 ·intro l hl
  exact OK.mk hl
theorem l17Xor_ok (a b : Int) : OK (s_l17Xor a b) (fun _ => True) := by
 unfold s_l17Xor
 refine OK.loop (Q := fun _ => True) (fun z : Int × Int × Int × Int => ∃ k : Nat, k ≤ 16 ∧ z.2.2.2 = 2 ^ k) (fun z => (65536 - z.2.2.2).toNat) ⟨0, by omega, rfl⟩ ?_ (fun _ _ => OK.mk trivial)
 rintro ⟨x, y, o, p⟩ ⟨k, hk, hp⟩
 dsimp only at hp
 subst hp
 have key : ∀ o', (2 : Int) ^ k < 65536 → OK (fm x y (2 ^ k) o') (Sum.elim (fun a' => (∃ k : Nat, k ≤ 16 ∧ a'.2.2.2 = 2 ^ k) ∧ (65536 - a'.2.2.2).toNat < (65536 - (2 : Int) ^ k).toNat) (fun _ => True)) := by
  intro o' hlt
  simp only [fm]
  have hpos : (0 : Int) < 2 ^ k := Int.pow_pos (by omega)
  have e : IntKind.i64.wrap (2 ^ k * 2) = 2 ^ k * 2 := w64 (by omega) (by omega)
  rw [e]
  refine OK.mk ⟨⟨k + 1, ?_, by dsimp only; rw [Int.pow_succ]⟩, by dsimp only; omega⟩
  rcases Nat.lt_or_ge k 16 with q | q
  ·exact q
  ·have : k = 16 := by omega
   subst this
   simp at hlt
 simp only [s_l17Xor_s9]
 refine OK.cond (fun hc => ?_) (fun _ => OK.mk trivial)
 simp only [decide_eq_true_eq] at hc
 exact OK.cond (fun _ => key _ hc) (fun _ => key _ hc)
theorem l17Round_ok (a : Int) : OK (s_l17Round a) (fun _ => True) := by
 unfold s_l17Round
 exact OK.cond (fun _ => OK.bind (l17Xor_ok _ _) fun _ _ => OK.mk trivial) (fun _ => OK.mk trivial)
theorem sPicSum_ok {l : List Int} (hl : l.length ≤ 1000000000) : OK (s_PicSum l) (fun _ => True) := by
 unfold s_PicSum
 refine OK.loop (Q := fun _ => True) (fun z : Int × Int => 0 ≤ z.2) (fun z => (l.length - z.2).toNat) (by dsimp only; omega) ?_ (fun _ _ => OK.mk trivial)
 rintro ⟨s, i⟩ hi
 dsimp only at hi
 simp only [s_PicSum_s9]
 refine OK.cond (fun hc => ?_) (fun _ => OK.mk trivial)
 simp only [decide_eq_true_eq] at hc
 refine OK.idx hi hc fun y _ _ => ?_
 refine OK.bind (l17Xor_ok _ _) fun s2 _ => ?_
 refine OK.loop (Q := fun _ => True) (fun z : Int × Int => 0 ≤ z.2) (fun z => (8 - z.2).toNat) (by dsimp only; omega) ?_ ?_
 ·rintro ⟨t, j⟩ hj
  dsimp only at hj
  simp only [s_PicSum_s23]
  refine OK.cond (fun hd => ?_) (fun _ => OK.mk trivial)
  simp only [decide_eq_true_eq] at hd
  refine OK.bind (l17Round_ok _) fun t2 _ => ?_
  have e : IntKind.i64.wrap (j + 1) = j + 1 := w64 (by omega) (by omega)
  rw [e]
  exact OK.mk ⟨by dsimp only; omega, by dsimp only; omega⟩
 ·intro t _
  simp only [s_PicSum_j16]
  have e : IntKind.i64.wrap (i + 1) = i + 1 := w64 (by omega) (by omega)
  rw [e]
  exact OK.mk ⟨by dsimp only; omega, by dsimp only; omega⟩
theorem l17Wrong_ok {i : Inst} (hi : i.One_Args.length ≤ 1000) : OK (s_l17Wrong i) (fun _ => True) := by
 unfold s_l17Wrong
 refine OK.cond (fun _ => OK.mk trivial) (fun _ => ?_)
 refine OK.bind (Q := fun _ => True) (OK.mk trivial) fun b _ => ?_
 refine OK.cond (fun _ => OK.cond (fun _ => OK.mk trivial) (fun _ => OK.mk trivial)) (fun _ => ?_)
 refine OK.bind (Q := fun _ => True) (by unfold s_l17Known; exact OK.cond (fun _ => OK.mk trivial) (fun _ => OK.mk trivial)) fun b _ => ?_
 refine OK.cond (fun _ => ?_) (fun _ => OK.mk trivial)
 refine OK.bind (ElemArity_ok _) fun a _ => ?_
 refine OK.cond (fun _ => OK.mk trivial) (fun _ => ?_)
 refine OK.loop (Q := fun _ => True) (fun z : Int => 0 ≤ z) (fun z => (i.One_Args.length - z).toNat) (by omega) ?_ ?_
 ·intro k hk
  simp only [hO]
  refine OK.cond (fun hc => ?_) (fun _ => OK.mk trivial)
  simp only [decide_eq_true_eq] at hc
  refine OK.idx hk hc fun y _ _ => ?_
  refine OK.bind (Q := fun _ => True) (by unfold s_l17Field; repeat' (first | exact OK.mk trivial | refine OK.cond (fun _ => ?_) (fun _ => ?_))) fun b _ => ?_
  refine OK.cond (fun _ => OK.mk trivial) (fun _ => ?_)
  have e : IntKind.i64.wrap (k + 1) = k + 1 := w64 (by omega) (by omega)
  rw [e]
  exact OK.mk ⟨by omega, by omega⟩
 ·rintro (_ | _) _ <;> exact OK.mk trivial
theorem sPicMake_ok {l : List Inst} (hl : ∀ i ∈ l, i.One_Args.length ≤ 10) : OK (iu l) (fun x => by8 x.1 ∧ x.1.length ≤ 70000) := by
 unfold iu
 refine OK.cond (fun _ => OK.mk ⟨fun y hy => (by cases hy), by simp⟩) (fun hc => ?_)
 simp only [decide_eq_false_iff_not] at hc
 have hsm : by8 [83, 116] := fun y hy => by simp at hy; omega
 refine OK.loop (Q := Sum.elim (fun _ => True) (fun b : List Int => by8 b ∧ b.length ≤ 62000)) (fun z : List Int × Int => by8 z.1 ∧ 0 ≤ z.2 ∧ z.2 ≤ l.length ∧ (z.1.length : Int) ≤ 62 * z.2) (fun z => (l.length - z.2).toNat) ?_ ?_ ?_
 ·exact ⟨fun y hy => (by cases hy), Int.le_refl _, by dsimp only; omega, by simp⟩
 ·rintro ⟨b, k⟩ ⟨h1, h2, h3, h4⟩
  dsimp only at h1 h2 h3 h4
  simp only [iQ]
  refine OK.cond (fun hd => ?_) (fun _ => OK.mk ⟨h1, by omega⟩)
  simp only [decide_eq_true_eq] at hd
  refine OK.idx h2 hd fun i him _ => ?_
  refine OK.bind (l17Wrong_ok (by have := hl i him; omega)) fun c _ => ?_
  refine OK.cond (fun _ => OK.mk trivial) (fun _ => ?_)
  refine OK.idx h2 hd fun i him _ => ?_
  refine OK.bind (l17Inst_ok (hl i him)) ?_
  rintro m ⟨m1, m2⟩
  refine OK.gd (apOk_of (by simp; omega) (by simp; omega)) ?_
  have e : IntKind.i64.wrap (k + 1) = k + 1 := w64 (by omega) (by omega)
  rw [e]
  exact OK.mk ⟨⟨h1.app m1, by dsimp only; omega, by dsimp only; omega, by simp; omega⟩, by dsimp only; omega⟩
 ·rintro (x | b) hx
  ·exact OK.mk ⟨fun y hy => (by cases hy), by simp⟩
  ·obtain ⟨b1, b2⟩ := hx
   simp only [Sum.elim_inr, iJ]
   refine OK.bind (l17Num_ok (by omega) (by omega)) ?_
   rintro m ⟨m1, m2⟩
   refine OK.gd (apOk_of (by simp; omega) (by simp; omega)) ?_
   refine OK.bind (l17Num_ok (by omega) (by omega)) ?_
   rintro n ⟨n1, n2⟩
   refine OK.gd (apOk_of (by simp; omega) (by simp; omega)) (OK.gd (apOk_of (by simp; omega) (by simp; omega)) ?_)
   refine OK.bind (sPicSum_ok (by simp; omega)) fun s _ => ?_
   refine OK.bind (l17Num_ok (by omega) (by omega)) ?_
   rintro t ⟨t1, t2⟩
   refine OK.gd (apOk_of (by simp; omega) (by simp; omega)) ?_
   exact OK.mk ⟨(((hsm.app m1).app n1).app b1).app t1, by simp; omega⟩
theorem l17Image_ok {N : Int} {r : l26Rd} (h : G N r) (hN : N ≤ 700000000) : OK (s_l17Image r) (fun x => (by8 x.1 ∧ x.1.length ≤ 70000) ∧ G (N + 100000000) x.2) := by
 unfold s_l17Image
 refine OK.loop (Q := Sum.elim (fun z : List Int × Int × List Int => (by8 z.2.2 ∧ z.2.2.length ≤ 70000) ∧ G (N + 100000000) ⟨z.1, z.2.1⟩) (fun z : List Int × Int => G (N + 100000000) ⟨z.1, z.2⟩)) (fun z : List Int × Int × Int => 0 ≤ z.2.2 ∧ z.2.2 ≤ 4 ∧ G (N + 22000000 * z.2.2) ⟨z.1, z.2.1⟩) (fun z => (4 - z.2.2).toNat) ?_ ?_ ?_
 ·exact ⟨Int.le_refl _, by dsimp only; omega, h.up (by dsimp only; omega)⟩
 ·rintro ⟨b, p, k⟩ ⟨h1, h2, h3⟩
  dsimp only at h1 h2 h3
  simp only [s_l17Image_s7]
  refine OK.cond (fun hc => ?_) (fun _ => OK.mk (h3.up (by omega)))
  simp only [decide_eq_true_eq] at hc
  refine OK.bind (l17List_ok h3 (by omega)) ?_
  rintro ⟨l, r⟩ ⟨hl, hr⟩
  dsimp only at hl hr
  refine OK.bind (sPicMake_ok hl.2) ?_
  rintro ⟨m, f⟩ hm
  refine OK.cond (fun _ => OK.mk ⟨hm, hr.up (by omega)⟩) (fun _ => ?_)
  have e : IntKind.i64.wrap (k + 1) = k + 1 := w64 (by omega) (by omega)
  rw [e]
  exact OK.mk ⟨⟨by dsimp only; omega, by dsimp only; omega, hr.up (by dsimp only; omega)⟩, by dsimp only; omega⟩
 ·rintro (z | z) hz
  ·exact OK.mk hz
  ·simp only [Sum.elim_inr, s_l17Image_j3]
   refine OK.bind (sPicMake_ok (fun i hi => by cases hi)) ?_
   rintro ⟨m, f⟩ hm
   exact OK.mk ⟨hm, hz⟩
end Go.AM
end
section
/- Sums of images: the program's and the document's are the same. Conditions: none. -/
namespace Go.AM
open Go
theorem bxor16 {a b : Int} (ha : 0 ≤ a) (ha2 : a < 65536) (hb : 0 ≤ b) (hb2 : b < 65536) : bxor .u16 a b = ((a.toNat ^^^ b.toNat : Nat) : Int) := by
 show IntKind.u16.wrap (BitVec.ofInt 16 a ^^^ BitVec.ofInt 16 b).toNat = _
 have h1 : (BitVec.ofInt 16 a).toNat = a.toNat := by rw [BitVec.toNat_ofInt]; omega
 have h2 : (BitVec.ofInt 16 b).toNat = b.toNat := by rw [BitVec.toNat_ofInt]; omega
 rw [BitVec.toNat_xor, h1, h2]
 have h3 : a.toNat ^^^ b.toNat < 2 ^ 16 := Nat.xor_lt_two_pow (by omega) (by omega)
 simp [IntKind.wrap, IntKind.bits, IntKind.signed]
 omega
theorem xor_step (x y k : Nat) : (x ^^^ y) % 2 ^ (k + 1) = (x ^^^ y) % 2 ^ k + (if x / 2 ^ k % 2 = y / 2 ^ k % 2 then 0 else 2 ^ k) := by
 have h0 : (x ^^^ y) / 2 ^ k % 2 = if x / 2 ^ k % 2 = y / 2 ^ k % 2 then 0 else 1 := by
  have h := Nat.testBit_xor x y k
  rw [Nat.testBit_eq_decide_div_mod_eq, Nat.testBit_eq_decide_div_mod_eq, Nat.testBit_eq_decide_div_mod_eq] at h
  have h1 : x / 2 ^ k % 2 = 0 ∨ x / 2 ^ k % 2 = 1 := by omega
  have h2 : y / 2 ^ k % 2 = 0 ∨ y / 2 ^ k % 2 = 1 := by omega
  have h3 : (x ^^^ y) / 2 ^ k % 2 = 0 ∨ (x ^^^ y) / 2 ^ k % 2 = 1 := by omega
  rcases h1 with h1 | h1 <;> rcases h2 with h2 | h2 <;> rcases h3 with h3 | h3 <;> simp [h1, h2, h3] at h ⊢
 rw [Nat.mod_pow_succ, h0]
 split <;> simp
theorem half {u : Nat} (h : u < 65536) : IntKind.i64.wrap (((u : Nat) : Int).tdiv 2) = ((u / 2 : Nat) : Int) := by
 rw [Int.tdiv_eq_ediv_of_nonneg (by omega), w64 (by omega) (by omega)]; omega
theorem dbl {u : Nat} (h : u < 65536) : IntKind.i64.wrap (((u : Nat) : Int) * 2) = ((u * 2 : Nat) : Int) := by
 rw [w64 (by omega) (by omega)]; omega
theorem pls {u v : Nat} (h : u < 65536) (h2 : v < 65536) : IntKind.i64.wrap ((u : Int) + (v : Int)) = ((u + v : Nat) : Int) := by
 rw [w64 (by omega) (by omega)]; omega
theorem bitne {u v : Nat} : (((u : Int)).tmod 2 != ((v : Int)).tmod 2) = !decide (u % 2 = v % 2) := by
 rw [Int.tmod_eq_emod_of_nonneg (by omega), Int.tmod_eq_emod_of_nonneg (by omega)]
 by_cases h : u % 2 = v % 2
 ·simp [h]; omega
 ·simp [h]; omega
theorem sXor_ok {a b : Int} (ha : 0 ≤ a) (ha2 : a < 65536) (hb : 0 ≤ b) (hb2 : b < 65536) : OK (s_l17Xor a b) (fun x => x = bxor .u16 a b) := by
 rw [bxor16 ha ha2 hb hb2]
 obtain ⟨x, rfl⟩ := Int.eq_ofNat_of_zero_le ha
 obtain ⟨y, rfl⟩ := Int.eq_ofNat_of_zero_le hb
 simp only [Int.toNat_natCast]
 have hx : x ^^^ y < 2 ^ 16 := Nat.xor_lt_two_pow (by omega) (by omega)
 unfold s_l17Xor
 refine OK.loop (Q := fun o => o = ((x ^^^ y : Nat) : Int)) (fun z : Int × Int × Int × Int => ∃ k : Nat, k ≤ 16 ∧ z.2.2.2 = ((2 ^ k : Nat) : Int) ∧ z.1 = ((x / 2 ^ k : Nat) : Int) ∧ z.2.1 = ((y / 2 ^ k : Nat) : Int) ∧ z.2.2.1 = (((x ^^^ y) % 2 ^ k : Nat) : Int)) (fun z => (65536 - z.2.2.2).toNat) ⟨0, by omega, by simp, by simp, by simp, by simp [Nat.mod_one]⟩ ?_ ?_
 ·rintro ⟨p, q, o, m⟩ ⟨k, hk, e1, e2, e3, e4⟩
  dsimp only at e1 e2 e3 e4
  subst e1 e2 e3 e4
  simp only [s_l17Xor_s9]
  refine OK.cond (fun hc => ?_) (fun hc => ?_)
  ·simp only [decide_eq_true_eq] at hc
   have hk16 : k < 16 := by
    rcases Nat.lt_or_ge k 16 with q | q
    ·exact q
    ·have : k = 16 := by omega
     subst this; simp at hc
   have hp : (2 : Nat) ^ k ≤ 2 ^ 15 := Nat.pow_le_pow_right (by omega) (by omega)
   have hpos : 0 < (2 : Nat) ^ k := Nat.pow_pos (by omega)
   have hxk : x / 2 ^ k ≤ x := Nat.div_le_self _ _
   have hyk : y / 2 ^ k ≤ y := Nat.div_le_self _ _
   have hmo : (x ^^^ y) % 2 ^ k < 2 ^ k := Nat.mod_lt _ hpos
   have fin : ∀ o2 : Int, o2 = (((x ^^^ y) % 2 ^ (k + 1) : Nat) : Int) → OK (fm ((x / 2 ^ k : Nat) : Int) ((y / 2 ^ k : Nat) : Int) ((2 ^ k : Nat) : Int) o2) (Sum.elim (fun a' => (∃ k : Nat, k ≤ 16 ∧ a'.2.2.2 = ((2 ^ k : Nat) : Int) ∧ a'.1 = ((x / 2 ^ k : Nat) : Int) ∧ a'.2.1 = ((y / 2 ^ k : Nat) : Int) ∧ a'.2.2.1 = (((x ^^^ y) % 2 ^ k : Nat) : Int)) ∧ (65536 - a'.2.2.2).toNat < (65536 - ((2 ^ k : Nat) : Int)).toNat) (fun o => o = ((x ^^^ y : Nat) : Int))) := by
    intro o2 ho2
    simp only [fm]
    have e1 := half (u := x / 2 ^ k) (by omega)
    have e2 := half (u := y / 2 ^ k) (by omega)
    have e3 := dbl (u := 2 ^ k) (by omega)
    rw [Nat.div_div_eq_div_mul, ← Nat.pow_succ] at e1 e2
    rw [← Nat.pow_succ] at e3
    rw [e1, e2, e3]
    refine OK.mk ⟨⟨k + 1, by omega, rfl, rfl, rfl, ho2⟩, ?_⟩
    show (65536 - ((2 ^ (k + 1) : Nat) : Int)).toNat < _
    rw [Nat.pow_succ]
    generalize (2 : Nat) ^ k = m at *
    omega
   rw [bitne]
   have hs := xor_step x y k
   refine OK.cond (fun hd => ?_) (fun hd => ?_)
   ·refine fin _ ?_
    have hd : ¬ (x / 2 ^ k % 2 = y / 2 ^ k % 2) := by simpa using hd
    rw [if_neg hd] at hs
    rw [hs, pls (by omega) (by omega)]
   ·refine fin _ ?_
    have hd : x / 2 ^ k % 2 = y / 2 ^ k % 2 := by simpa using hd
    rw [if_pos hd] at hs
    rw [hs, Nat.add_zero]
  ·simp only [decide_eq_false_iff_not] at hc
   refine OK.mk ?_
   have : k = 16 := by
    rcases Nat.lt_or_ge k 16 with q | q
    ·exfalso
     have hp : (2 : Nat) ^ k ≤ 2 ^ 15 := Nat.pow_le_pow_right (by omega) (by omega)
     omega
    ·omega
   subst this
   show (((x ^^^ y) % 2 ^ 16 : Nat) : Int) = _
   rw [Nat.mod_eq_of_lt hx]
 ·rintro o rfl
  exact OK.mk rfl
def rnd (s : Int) : Int := if s < 32768 then s * 2 else bxor .u16 (s * 2 - 65536) 4129
def iter (f : Int → Int) : Nat → Int → Int
 | 0, s => s
 | n + 1, s => f (iter f n s)
theorem iter_succ (f : Int → Int) (n : Nat) (s : Int) : iter f (n + 1) s = f (iter f n s) := rfl
theorem iter_zero (f : Int → Int) (s : Int) : iter f 0 s = s := rfl
attribute [irreducible] iter
def sumL (s : Int) : List Int → Int
 | [] => s
 | y :: r => sumL (iter rnd 8 (bxor .u16 s (y * 256))) r
theorem bxor_bd {a b : Int} (ha : 0 ≤ a) (ha2 : a < 65536) (hb : 0 ≤ b) (hb2 : b < 65536) : 0 ≤ bxor .u16 a b ∧ bxor .u16 a b < 65536 := by
 rw [bxor16 ha ha2 hb hb2]
 have h3 : a.toNat ^^^ b.toNat < 2 ^ 16 := Nat.xor_lt_two_pow (by omega) (by omega)
 omega
theorem rnd_bd {s : Int} (h0 : 0 ≤ s) (h1 : s < 65536) : 0 ≤ rnd s ∧ rnd s < 65536 := by
 unfold rnd
 split
 ·omega
 ·exact bxor_bd (by omega) (by omega) (by omega) (by omega)
theorem iter_bd {s : Int} (h0 : 0 ≤ s) (h1 : s < 65536) : ∀ n, 0 ≤ iter rnd n s ∧ iter rnd n s < 65536
 | 0 => by rw [iter_zero]; exact ⟨h0, h1⟩
 | n + 1 => by rw [iter_succ]; exact rnd_bd (iter_bd h0 h1 n).1 (iter_bd h0 h1 n).2
theorem sumL_app (s : Int) (l m : List Int) : sumL s (l ++ m) = sumL (sumL s l) m := by
 induction l generalizing s with
 | nil => rfl
 | cons y l ih => exact ih _
theorem sumL_bd {l : List Int} (hl : by8 l) : ∀ {s : Int}, 0 ≤ s → s < 65536 → 0 ≤ sumL s l ∧ sumL s l < 65536 := by
 induction l with
 | nil => intro s h0 h1; exact ⟨h0, h1⟩
 | cons y l ih =>
  intro s h0 h1
  have hy := hl y (.head _)
  have hb := bxor_bd h0 h1 (show 0 ≤ y * 256 by omega) (by omega)
  have hi := iter_bd hb.1 hb.2 8
  exact ih (fun z hz => hl z (.tail _ hz)) hi.1 hi.2
theorem take1' {l : List Int} {i : Int} (h0 : 0 ≤ i) (h1 : i < l.length) {y : Int} (hy : l.getD i.toNat default = y) : l.take (i + 1).toNat = l.take i.toNat ++ [y] := by
 have e : (i + 1).toNat = i.toNat + 1 := by omega
 have hlt : i.toNat < l.length := by omega
 rw [e, List.take_succ_eq_append_getElem hlt, ← hy, List.getD_eq_getElem?_getD, List.getElem?_eq_getElem hlt]
 rfl
theorem sRound_ok {s : Int} (h0 : 0 ≤ s) (h1 : s < 65536) : OK (s_l17Round s) (fun x => x = rnd s) := by
 unfold s_l17Round
 have e : IntKind.i64.wrap (s * 2) = s * 2 := w64 (by omega) (by omega)
 rw [e]
 refine OK.cond (fun hc => ?_) (fun hc => ?_)
 ·simp only [decide_eq_true_eq] at hc
  rw [w64 (by omega) (by omega)]
  refine OK.bind (sXor_ok (by omega) (by omega) (by omega) (by omega)) ?_
  rintro x rfl
  exact OK.mk (by rw [rnd, if_neg (by omega)])
 ·simp only [decide_eq_false_iff_not] at hc
  exact OK.mk (by rw [rnd, if_pos (by omega)])
theorem sSum_ok {l : List Int} (hl : by8 l) (hlen : l.length ≤ 1000000) : OK (s_PicSum l) (fun x => x = sumL 65535 l) := by
 unfold s_PicSum
 refine OK.loop (Q := fun x => x = sumL 65535 l) (fun z : Int × Int => 0 ≤ z.2 ∧ z.2 ≤ l.length ∧ z.1 = sumL 65535 (l.take z.2.toNat)) (fun z => (l.length - z.2).toNat) ⟨Int.le_refl _, by dsimp only; omega, rfl⟩ ?_ ?_
 ·rintro ⟨s, i⟩ ⟨h1, h2, h3⟩
  dsimp only at h1 h2 h3
  have hsb : 0 ≤ s ∧ s < 65536 := by rw [h3]; exact sumL_bd (fun y hy => hl y (List.mem_of_mem_take hy)) (by omega) (by omega)
  simp only [s_PicSum_s9]
  refine OK.cond (fun hc => ?_) (fun hc => ?_)
  ·simp only [decide_eq_true_eq] at hc
   refine OK.idx h1 hc fun y hy hyd => ?_
   have hyb := hl y hy
   have e1 : IntKind.i64.wrap y = y := w64 (by omega) (by omega)
   have e2 : IntKind.i64.wrap (y * 256) = y * 256 := w64 (by omega) (by omega)
   rw [e1, e2]
   refine OK.bind (sXor_ok hsb.1 hsb.2 (by omega) (by omega)) ?_
   rintro t rfl
   have hb := bxor_bd hsb.1 hsb.2 (show 0 ≤ y * 256 by omega) (by omega)
   refine OK.loop (Q := fun x => x = iter rnd 8 (bxor .u16 s (y * 256))) (fun z : Int × Int => 0 ≤ z.2 ∧ z.2 ≤ 8 ∧ z.1 = iter rnd z.2.toNat (bxor .u16 s (y * 256))) (fun z => (8 - z.2).toNat) ⟨Int.le_refl _, by dsimp only; omega, (iter_zero _ _).symm⟩ ?_ ?_
   ·rintro ⟨t, j⟩ ⟨j1, j2, j3⟩
    dsimp only at j1 j2 j3
    simp only [s_PicSum_s23]
    refine OK.cond (fun hd => ?_) (fun hd => ?_)
    ·simp only [decide_eq_true_eq] at hd
     have ht := iter_bd hb.1 hb.2 j.toNat
     rw [← j3] at ht
     refine OK.bind (sRound_ok ht.1 ht.2) ?_
     rintro u rfl
     have e : IntKind.i64.wrap (j + 1) = j + 1 := w64 (by omega) (by omega)
     rw [e]
     refine OK.mk ⟨⟨by dsimp only; omega, by dsimp only; omega, ?_⟩, by dsimp only; omega⟩
     dsimp only
     rw [show (j + 1).toNat = j.toNat + 1 by omega, j3, iter_succ]
    ·simp only [decide_eq_false_iff_not] at hd
     have : j = 8 := by omega
     subst this
     exact OK.mk j3
   ·rintro t rfl
    simp only [s_PicSum_j16]
    have e : IntKind.i64.wrap (i + 1) = i + 1 := w64 (by omega) (by omega)
    rw [e]
    refine OK.mk ⟨⟨by dsimp only; omega, by dsimp only; omega, ?_⟩, by dsimp only; omega⟩
    dsimp only
    rw [take1' h1 hc hyd, sumL_app, ← h3]
    rfl
  ·simp only [decide_eq_false_iff_not] at hc
   refine OK.mk (show s = _ from ?_)
   rw [h3, List.take_of_length_le (by omega)]
 ·rintro x rfl
  simp only [s_PicSum_j5]
  refine OK.mk ?_
  have hb := sumL_bd hl (s := 65535) (by omega) (by omega)
  simp [IntKind.wrap, IntKind.bits, IntKind.signed]
  omega
theorem u16w {n : Int} (h0 : 0 ≤ n) (h1 : n < 65536) : IntKind.u16.wrap n = n := by simp [IntKind.wrap, IntKind.bits, IntKind.signed]; omega
theorem iSum_ok {l : List Int} (hl : by8 l) (hlen : l.length ≤ 1000000) : OK (m_PicSum l) (fun x => x = sumL 65535 l) := by
 unfold m_PicSum
 refine OK.loop (Q := fun x => x = sumL 65535 l) (fun z : Int × Int => 0 ≤ z.2 ∧ z.2 ≤ l.length ∧ z.1 = sumL 65535 (l.take z.2.toNat)) (fun z => (l.length - z.2).toNat) ⟨Int.le_refl _, by dsimp only; omega, rfl⟩ ?_ ?_
 ·rintro ⟨s, i⟩ ⟨h1, h2, h3⟩
  dsimp only at h1 h2 h3
  have hsb : 0 ≤ s ∧ s < 65536 := by rw [h3]; exact sumL_bd (fun y hy => hl y (List.mem_of_mem_take hy)) (by omega) (by omega)
  simp only [m_PicSum_s9]
  refine OK.cond (fun hc => ?_) (fun hc => ?_)
  ·simp only [decide_eq_true_eq] at hc
   refine OK.idx h1 hc fun y hy hyd => ?_
   have hyb := hl y hy
   have e1 : IntKind.u16.wrap y = y := u16w (by omega) (by omega)
   have e2 : IntKind.u16.wrap (y * 256) = y * 256 := u16w (by omega) (by omega)
   rw [e1, e2]
   have hb := bxor_bd hsb.1 hsb.2 (show 0 ≤ y * 256 by omega) (by omega)
   refine OK.loop (Q := fun x => x = iter rnd 8 (bxor .u16 s (y * 256))) (fun z : Int × Int => 0 ≤ z.2 ∧ z.2 ≤ 8 ∧ z.1 = iter rnd z.2.toNat (bxor .u16 s (y * 256))) (fun z => (8 - z.2).toNat) ⟨Int.le_refl _, by dsimp only; omega, (iter_zero _ _).symm⟩ ?_ ?_
   ·rintro ⟨t, j⟩ ⟨j1, j2, j3⟩
    dsimp only at j1 j2 j3
    simp only [m_PicSum_s25]
    refine OK.cond (fun hd => ?_) (fun hd => ?_)
    ·simp only [decide_eq_true_eq] at hd
     have ht := iter_bd hb.1 hb.2 j.toNat
     rw [← j3] at ht
     have e : IntKind.i64.wrap (j + 1) = j + 1 := w64 (by omega) (by omega)
     have fin : ∀ u, u = rnd t → OK (ib j u) (Sum.elim (fun a' => (0 ≤ a'.2 ∧ a'.2 ≤ 8 ∧ a'.1 = iter rnd a'.2.toNat (bxor .u16 s (y * 256))) ∧ (8 - a'.2).toNat < (8 - j).toNat) (fun x => x = iter rnd 8 (bxor .u16 s (y * 256)))) := by
      rintro u rfl
      simp only [ib, e]
      refine OK.mk ⟨⟨by dsimp only; omega, by dsimp only; omega, ?_⟩, by dsimp only; omega⟩
      dsimp only
      rw [show (j + 1).toNat = j.toNat + 1 by omega, j3, iter_succ]
     have q1 : t.fdiv 32768 = t / 32768 := Int.fdiv_eq_ediv_of_nonneg _ (by omega)
     rw [q1]
     refine OK.cond (fun hx => ?_) (fun hx => ?_)
     ·simp only [beq_iff_eq] at hx
      refine fin _ ?_
      rw [rnd, if_neg (by omega)]
      have : IntKind.u16.wrap (t * 2) = t * 2 - 65536 := by simp [IntKind.wrap, IntKind.bits, IntKind.signed]; omega
      rw [this]
     ·simp only [beq_eq_false_iff_ne] at hx
      refine fin _ ?_
      rw [rnd, if_pos (by omega), u16w (by omega) (by omega)]
    ·simp only [decide_eq_false_iff_not] at hd
     have : j = 8 := by omega
     subst this
     exact OK.mk j3
   ·rintro t rfl
    simp only [m_PicSum_j16]
    have e : IntKind.i64.wrap (i + 1) = i + 1 := w64 (by omega) (by omega)
    rw [e]
    refine OK.mk ⟨⟨by dsimp only; omega, by dsimp only; omega, ?_⟩, by dsimp only; omega⟩
    dsimp only
    rw [take1' h1 hc hyd, sumL_app, ← h3]
    rfl
  ·simp only [decide_eq_false_iff_not] at hc
   refine OK.mk (show s = _ from ?_)
   rw [h3, List.take_of_length_le (by omega)]
 ·rintro x rfl
  exact OK.mk rfl
end Go.AM
end
section
/- Images: how both packages write instructions. Conditions: none. -/
namespace Go.AM
open Go
def be2 (v : Int) : List Int := [v / 256 % 256, v % 256]
def be4 (v : Int) : List Int := [v / 16777216 % 256, v / 65536 % 256, v / 256 % 256, v % 256]
def ar (op : Int) : Int := if op = 1 ∨ op = 2 ∨ op = 21 ∨ op = 22 ∨ op = 23 ∨ op = 25 then 1 else if 31 ≤ op ∧ op ≤ 35 then 3 else if (1 ≤ op ∧ op ≤ 10) ∨ (21 ≤ op ∧ op ≤ 37) then 2 else 0
def isHas (c : Int) : Bool := c == 1 || c == 2 || c == 3 || c == 10
def known (c op : Int) : Bool := if c = 10 then decide (21 ≤ op ∧ op ≤ 37) else decide (1 ≤ op ∧ op ≤ 10)
def dx (a : DevArg) : Bool :=
 if a.Kind = 11 then decide (-32768 ≤ a.N ∧ a.N ≤ 32767 ∧ a.P = 0)
 else if a.Kind = 12 then decide (-2147483648 ≤ a.N ∧ a.N ≤ 2147483647 ∧ 0 ≤ a.P ∧ a.P ≤ 255)
 else decide (((1 ≤ a.Kind ∧ a.Kind ≤ 10) ∨ a.Kind = 13) ∧ 0 ≤ a.N ∧ a.N ≤ 255 ∧ a.P = 0)
def encA (a : DevArg) : List Int := a.Kind % 256 :: (if a.Kind = 11 then be2 a.N else if a.Kind = 12 then be4 a.N ++ [a.P % 256] else [a.N % 256])
def encI (i : Inst) : List Int := i.Code % 256 :: (if isHas i.Code = true then i.One_Op % 256 :: i.One_Args.flatMap encA else [])
def wro (i : Inst) : Int :=
 if i.Code < 1 ∨ i.Code > 11 then 2
 else if isHas i.Code = false then (if i.One_Op ≠ 0 ∨ i.One_Args.length > 0 then 2 else 0)
 else if known i.Code i.One_Op = false ∨ (i.One_Args.length : Int) ≠ ar i.One_Op then 2
 else if i.One_Args.all dx = true then 0 else 3
theorem ar_bd (op : Int) : 0 ≤ ar op ∧ ar op ≤ 3 := by unfold ar; repeat' split <;> omega
theorem sArity_ok (op : Int) : OK (cj op) (fun x => x = ar op) := by
 unfold cj
 repeat' (first
  | (refine OK.mk ?_; simp only [beq_iff_eq, beq_eq_false_iff_ne, ne_eq, Bool.or_eq_true, Bool.and_eq_true, decide_eq_true_eq, Bool.or_eq_false_iff, Bool.and_eq_false_iff, decide_eq_false_iff_not] at *; unfold ar; repeat' split <;> omega)
  | simp only [b9, ck]
  | refine OK.cond (fun _ => ?_) (fun _ => ?_))
theorem in_eq (a b c : Int) : m_in a b c = some (decide (b ≤ a ∧ a ≤ c)) := by unfold m_in; simp [Bool.decide_and]
theorem iArity_ok (op : Int) : OK (eF op) (fun x => x = ar op) := by
 unfold eF
 simp only [in_eq, Option.bind_some]
 repeat' (first
  | (refine OK.mk ?_; simp only [beq_iff_eq, beq_eq_false_iff_ne, ne_eq, Bool.or_eq_true, Bool.and_eq_true, decide_eq_true_eq, Bool.or_eq_false_iff, Bool.and_eq_false_iff, decide_eq_false_iff_not] at *; unfold ar; repeat' split <;> omega)
  | simp only [dV, fb, in_eq, Option.bind_some]
  | refine OK.cond (fun _ => ?_) (fun _ => ?_))
theorem sHas_eq (c : Int) : s_l17Has c = some (isHas c) := rfl
theorem iHas_eq (c : Int) : m_hasOne c = some (isHas c) := by
 unfold m_hasOne
 rw [in_eq, Option.bind_some]
 congr 1
 unfold isHas
 rw [Bool.eq_iff_iff]
 simp
 omega
theorem sKnown_eq (c op : Int) : s_l17Known c op = some (known c op) := by
 refine OK.eq ?_
 unfold s_l17Known known
 refine OK.cond (fun h => OK.mk ?_) (fun h => OK.mk ?_)
 ·rw [if_pos (by simpa using h)]; simp [Bool.decide_and]
 ·rw [if_neg (by simpa using h)]; simp [Bool.decide_and]
theorem iFits_eq (c op : Int) : m_opFits c op = some (known c op) := by
 refine OK.eq ?_
 unfold m_opFits known
 simp only [in_eq, Option.bind_some]
 refine OK.cond (fun h => OK.mk ?_) (fun h => OK.mk ?_)
 ·rw [if_pos (by simpa using h)]
 ·rw [if_neg (by simpa using h)]
theorem sField_eq (a : DevArg) : s_l17Field a = some (dx a) := by
 refine OK.eq ?_
 unfold s_l17Field dx
 refine OK.cond (fun h => OK.mk ?_) (fun h => ?_)
 ·rw [if_pos (by simpa using h), Bool.eq_iff_iff]; simp [and_assoc]
 have h : ¬ a.Kind = 11 := by simpa using h
 rw [if_neg h]
 refine OK.cond (fun h2 => OK.mk ?_) (fun h2 => ?_)
 ·rw [if_pos (by simpa using h2), Bool.eq_iff_iff]; simp [and_assoc]
 have h2 : ¬ a.Kind = 12 := by simpa using h2
 rw [if_neg h2]
 refine OK.cond (fun h3 => OK.mk ?_) (fun h3 => OK.mk ?_)
 ·have h3 : a.Kind = 13 := by simpa using h3
  rw [Bool.eq_iff_iff]; simp [h3, and_assoc]
 ·have h3 : ¬ a.Kind = 13 := by simpa using h3
  rw [Bool.eq_iff_iff]; simp [h3, and_assoc]
theorem tmod256 (v : Int) : (v.tmod 256 < 0 → v.tmod 256 + 256 = v % 256) ∧ (¬ v.tmod 256 < 0 → v.tmod 256 = v % 256) ∧ -256 < v.tmod 256 ∧ v.tmod 256 < 256 := by
 rw [Int.tmod_eq_emod]
 split <;> omega
theorem num_step {v : Int} {l : List Int} {i : Int} (hv : -4611686018427387904 ≤ v) (hv2 : v ≤ 4611686018427387904) (h0 : 0 ≤ i) (h1 : i < l.length) (hi : i ≤ 100) : eE (v, l, i) = some (.inl (v / 256, l.set i.toNat (v % 256), i - 1)) := by
 refine OK.eq ?_
 simp only [eE]
 have fin : ∀ d, d = v % 256 → OK (ff v l i d) (fun y => y = .inl (v / 256, l.set i.toNat (v % 256), i - 1)) := by
  rintro d rfl
  simp only [ff]
  refine OK.idx h0 h1 fun y _ _ => ?_
  have e1 : IntKind.i64.wrap (v - v % 256) = v - v % 256 := w64 (by omega) (by omega)
  have e2 : IntKind.i64.wrap ((v - v % 256).tdiv 256) = v / 256 := by
   have : (v - v % 256).tdiv 256 = v / 256 := by
    have h : v - v % 256 = v / 256 * 256 := by omega
    rw [h, Int.mul_tdiv_cancel _ (by omega)]
   rw [this]; exact w64 (by omega) (by omega)
  have e3 : IntKind.i64.wrap (i - 1) = i - 1 := w64 (by omega) (by omega)
  have e4 : IntKind.u8.wrap (v % 256) = v % 256 := by rw [u8w_eq]; omega
  rw [e1, e2, e3, e4]
  exact OK.mk rfl
 obtain ⟨t1, t2, t3, t4⟩ := tmod256 v
 refine OK.cond (fun _ => ?_) (fun hc => ?_)
 ·refine OK.cond (fun hd => ?_) (fun hd => ?_)
  ·simp only [decide_eq_true_eq] at hd
   refine fin _ ?_
   rw [w64 (by omega) (by omega)]; exact t1 hd
  ·simp only [decide_eq_false_iff_not] at hd
   exact fin _ (t2 hd)
 ·simp only [decide_eq_false_iff_not] at hc; omega
theorem num_out {v : Int} {l : List Int} {i : Int} (h : i < 0) : eE (v, l, i) = some (.inr l) := by
 simp only [eE]
 rw [show decide (i ≥ 0) = false from decide_eq_false (by omega)]; rfl
theorem num1 {v : Int} (hv : -4611686018427387904 ≤ v) (hv2 : v ≤ 4611686018427387904) : dU v 1 = some [v % 256] := by
 unfold dU
 rw [show mkOk 1 1 1 = true from rfl, gd_t, show IntKind.i64.wrap (1 - 1) = 0 from rfl, show List.replicate (1 : Int).toNat (0 : Int) = [0] from rfl]
 rw [loop_on (num_step hv hv2 (by omega) (by simp) (by omega)), fg (num_out (by omega))]; rfl
theorem num2 {v : Int} (hv : -4611686018427387904 ≤ v) (hv2 : v ≤ 4611686018427387904) : dU v 2 = some (be2 v) := by
 unfold dU
 rw [show mkOk 2 2 1 = true from rfl, gd_t, show IntKind.i64.wrap (2 - 1) = 1 from rfl, show List.replicate (2 : Int).toNat (0 : Int) = [0, 0] from rfl]
 rw [loop_on (num_step hv hv2 (by omega) (by simp) (by omega)), loop_on (num_step (by omega) (by omega) (by omega) (by simp) (by omega)), fg (num_out (by omega))]; rfl
theorem num4 {v : Int} (hv : -4611686018427387904 ≤ v) (hv2 : v ≤ 4611686018427387904) : dU v 4 = some (be4 v) := by
 unfold dU
 rw [show mkOk 4 4 1 = true from rfl, gd_t, show IntKind.i64.wrap (4 - 1) = 3 from rfl, show List.replicate (4 : Int).toNat (0 : Int) = [0, 0, 0, 0] from rfl]
 rw [loop_on (num_step hv hv2 (by omega) (by simp) (by omega)), loop_on (num_step (by omega) (by omega) (by omega) (by simp) (by omega)), loop_on (num_step (by omega) (by omega) (by omega) (by simp) (by omega)), loop_on (num_step (by omega) (by omega) (by omega) (by simp) (by omega)), fg (num_out (by omega))]
 show some [_, _, _, _] = some (be4 v)
 unfold be4
 have e1 : v / 256 / 256 = v / 65536 := by omega
 have e2 : v / 256 / 256 / 256 = v / 16777216 := by omega
 rw [e2, e1]
theorem big_step {v n : Int} {l : List Int} {i w : Int} (h0 : 0 ≤ i) (h1 : i < ((n.toNat : Nat) : Int)) (hl : i < l.length) (hi : i ≤ 100) (hs : 0 ≤ IntKind.i64.wrap (8 * IntKind.i64.wrap (IntKind.i64.wrap (n - 1) - i))) (hw : pw .i64 (IntKind.i64.wrap (8 * IntKind.i64.wrap (IntKind.i64.wrap (n - 1) - i))) = w) (hw0 : 0 ≤ w) :
  m_big_s9 v n (l, i) = some (.inl (l.set i.toNat (v / w % 256), i + 1)) := by
 refine OK.eq ?_
 simp only [m_big_s9]
 rw [hw]
 refine OK.cond (fun _ => ?_) (fun hc => ?_)
 ·refine OK.gd (by simpa using hs) (OK.idx h0 hl fun y _ _ => ?_)
  have e : IntKind.i64.wrap (i + 1) = i + 1 := w64 (by omega) (by omega)
  rw [e, u8w_eq, Int.fdiv_eq_ediv_of_nonneg _ hw0]
  exact OK.mk rfl
 ·simp only [decide_eq_false_iff_not] at hc; omega
theorem big_out {v n : Int} {l : List Int} {i : Int} (h1 : ¬ i < ((n.toNat : Nat) : Int)) : m_big_s9 v n (l, i) = some (.inr l) := by
 simp only [m_big_s9]
 rw [decide_eq_false h1]; rfl
theorem big2 (v : Int) : m_big v 2 = some (be2 v) := by
 unfold m_big
 rw [show mkOk 2 2 1 = true from rfl, gd_t, show List.replicate (2 : Int).toNat (0 : Int) = [0, 0] from rfl]
 rw [loop_on (big_step (w := 256) (by omega) (by decide) (by simp) (by omega) (by decide) (by rfl) (by omega)), loop_on (big_step (w := 1) (by omega) (by decide) (by simp) (by omega) (by decide) (by rfl) (by omega)), fg (big_out (by decide))]
 show some [_, _] = some (be2 v)
 rw [be2, Int.ediv_one]
theorem big4 (v : Int) : m_big v 4 = some (be4 v) := by
 unfold m_big
 rw [show mkOk 4 4 1 = true from rfl, gd_t, show List.replicate (4 : Int).toNat (0 : Int) = [0, 0, 0, 0] from rfl]
 rw [loop_on (big_step (w := 16777216) (by omega) (by decide) (by simp) (by omega) (by decide) (by rfl) (by omega)), loop_on (big_step (w := 65536) (by omega) (by decide) (by simp) (by omega) (by decide) (by rfl) (by omega)), loop_on (big_step (w := 256) (by omega) (by decide) (by simp) (by omega) (by decide) (by rfl) (by omega)), loop_on (big_step (w := 1) (by omega) (by decide) (by simp) (by omega) (by decide) (by rfl) (by omega)), fg (big_out (by decide))]
 show some [_, _, _, _] = some (be4 v)
 rw [be4, Int.ediv_one]
theorem encA_len (a : DevArg) : 2 ≤ (encA a).length ∧ (encA a).length ≤ 6 := by
 unfold encA
 split
 ·simp [be2]
 ·split <;> simp [be4]
theorem encA_by8 (a : DevArg) : by8 (encA a) := by
 unfold encA
 intro y hy
 split at hy
 ·simp [be2] at hy; omega
 ·split at hy
  ·simp [be4] at hy; omega
  ·simp at hy; omega
theorem iArg_ok (a : DevArg) : OK (m_picArg a) (fun x => x.2 = dx a ∧ (x.2 = true → x.1 = encA a)) := by
 unfold m_picArg
 simp only [in_eq, Option.bind_some]
 refine OK.cond (fun h => ?_) (fun h => ?_)
 ·simp only [Bool.and_eq_true, bne_iff_ne, ne_eq] at h
  refine OK.mk ⟨?_, fun e => by cases e⟩
  unfold dx
  symm
  split
  ·simp; omega
  ·rw [if_neg h.1]; simp; omega
 ·simp only [Bool.and_eq_false_iff, bne_eq_false_iff_eq] at h
  refine OK.cond (fun hk => ?_) (fun hk => ?_)
  ·simp only [Bool.or_eq_true, decide_eq_true_eq, beq_iff_eq] at hk
   refine OK.gd rfl (OK.mk ⟨?_, fun _ => ?_⟩)
   ·unfold dx
    rw [if_neg (by omega), if_neg (by omega), Bool.eq_iff_iff]
    simp; omega
   ·unfold encA
    rw [if_neg (by omega), if_neg (by omega), u8w_eq, u8w_eq]; rfl
  ·simp only [Bool.or_eq_false_iff, decide_eq_false_iff_not, beq_eq_false_iff_ne] at hk
   refine OK.cond (fun hk1 => ?_) (fun hk1 => ?_)
   ·simp only [beq_iff_eq] at hk1
    rw [big2, Option.bind_some]
    refine OK.gd rfl (OK.mk ⟨?_, fun _ => ?_⟩)
    ·unfold dx
     rw [if_pos hk1, Bool.eq_iff_iff]
     simp; omega
    ·unfold encA
     rw [if_pos hk1, u8w_eq]; rfl
   ·simp only [beq_eq_false_iff_ne] at hk1
    refine OK.cond (fun hk2 => ?_) (fun hk2 => ?_)
    ·simp only [beq_iff_eq] at hk2
     rw [big4, Option.bind_some]
     refine OK.gd rfl (OK.gd rfl ?_)
     have key : encA a = [IntKind.u8.wrap a.Kind] ++ be4 a.N ++ [IntKind.u8.wrap a.P] := by
      unfold encA
      rw [if_neg hk1, if_pos hk2, u8w_eq, u8w_eq]; rfl
     rw [key]
     refine OK.cond (fun hn => OK.mk ⟨?_, fun _ => rfl⟩) (fun hn => OK.mk ⟨?_, fun e => by cases e⟩)
     ·simp only [decide_eq_true_eq] at hn
      unfold dx
      rw [if_neg hk1, if_pos hk2, Bool.eq_iff_iff]
      simp; omega
     ·simp only [decide_eq_false_iff_not] at hn
      unfold dx
      rw [if_neg hk1, if_pos hk2]
      symm; simp; omega
    ·simp only [beq_eq_false_iff_ne] at hk2
     refine OK.mk ⟨?_, fun e => by cases e⟩
     unfold dx
     rw [if_neg hk1, if_neg hk2]
     symm; simp; omega
end Go.AM
end
section
/- Images: how both packages write lists. Conditions: none. -/
namespace Go.AM
open Go
theorem take1G {α : Type} [Inhabited α] {l : List α} {i : Int} (h0 : 0 ≤ i) (h1 : i < l.length) {y : α} (hy : l.getD i.toNat default = y) : l.take (i + 1).toNat = l.take i.toNat ++ [y] := by
 have e : (i + 1).toNat = i.toNat + 1 := by omega
 have hlt : i.toNat < l.length := by omega
 rw [e, List.take_succ_eq_append_getElem hlt, ← hy, List.getD_eq_getElem?_getD, List.getElem?_eq_getElem hlt]
 rfl
theorem fm_len {l : List DevArg} : (l.flatMap encA).length ≤ 6 * l.length := by
 induction l with
 | nil => simp
 | cons a l ih => have := encA_len a; rw [List.flatMap_cons, List.length_append, List.length_cons]; omega
theorem fm_by8 (l : List DevArg) : by8 (l.flatMap encA) := fun y hy => by
 obtain ⟨a, _, ha⟩ := List.mem_flatMap.1 hy
 exact encA_by8 a y ha
theorem encI_by8 (i : Inst) : by8 (encI i) := by
 unfold encI
 intro y hy
 rcases List.mem_cons.1 hy with rfl | hy
 ·omega
 ·split at hy
  ·rcases List.mem_cons.1 hy with rfl | hy
   ·omega
   ·exact fm_by8 _ y hy
  ·cases hy
theorem argOk_bd {a : DevArg} (h : dx a = true) : -2147483648 ≤ a.N ∧ a.N ≤ 2147483647 := by
 unfold dx at h
 split at h
 ·simp at h; omega
 ·split at h <;> · simp at h; omega
theorem wro_zero {i : Inst} (h : wro i = 0) : 1 ≤ i.Code ∧ i.Code ≤ 11 ∧ (isHas i.Code = false → i.One_Op = 0 ∧ i.One_Args = []) ∧ (isHas i.Code = true → known i.Code i.One_Op = true ∧ (i.One_Args.length : Int) = ar i.One_Op ∧ i.One_Args.all dx = true) := by
 unfold wro at h
 split at h
 ·cases h
 ·rename_i h1
  split at h
  ·rename_i h2
   split at h
   ·cases h
   ·rename_i h3
    refine ⟨by omega, by omega, fun _ => ⟨by omega, List.eq_nil_of_length_eq_zero (by omega)⟩, fun e => (by rw [h2] at e; cases e)⟩
  ·rename_i h2
   split at h
   ·cases h
   ·rename_i h3
    split at h
    ·rename_i h4
     refine ⟨by omega, by omega, fun e => absurd e h2, fun _ => ⟨by simpa using fun e => h3 (.inl e), by
      rcases Decidable.em ((i.One_Args.length : Int) = ar i.One_Op) with q | q
      ·exact q
      ·exact absurd (.inr q) h3, h4⟩⟩
    ·cases h
theorem encI_len {i : Inst} (h : wro i = 0) : 1 ≤ (encI i).length ∧ (encI i).length ≤ 20 := by
 obtain ⟨_, _, h3, h4⟩ := wro_zero h
 unfold encI
 split
 ·rename_i hh
  have := (h4 hh).2.1
  have := ar_bd i.One_Op
  have := @fm_len i.One_Args
  simp only [List.length_cons]; omega
 ·simp
theorem sInst_ok {i : Inst} (h : wro i = 0) : OK (s_l17Inst i) (fun l => l = encI i) := by
 obtain ⟨c1, c2, h3, h4⟩ := wro_zero h
 unfold s_l17Inst
 rw [sHas_eq, Option.bind_some]
 refine OK.cond (fun hc => ?_) (fun hc => ?_)
 ·simp only [Bool.not_eq_true'] at hc
  exact OK.mk (by rw [encI, hc, u8w_eq]; rfl)
 ·simp only [Bool.not_eq_false'] at hc
  obtain ⟨k1, k2, k3⟩ := h4 hc
  have hab := ar_bd i.One_Op
  have hE : encI i = [i.Code % 256, i.One_Op % 256] ++ i.One_Args.flatMap encA := by rw [encI, hc]; rfl
  rw [hE]
  refine OK.gd rfl ?_
  refine OK.loop (Q := fun l => l = [i.Code % 256, i.One_Op % 256] ++ i.One_Args.flatMap encA) (fun z : List Int × Int => 0 ≤ z.2 ∧ z.2 ≤ i.One_Args.length ∧ z.1 = [i.Code % 256, i.One_Op % 256] ++ (i.One_Args.take z.2.toNat).flatMap encA) (fun z => (i.One_Args.length - z.2).toNat) ⟨Int.le_refl _, by dsimp only; omega, by rw [u8w_eq, u8w_eq]; rfl⟩ ?_ ?_
  ·rintro ⟨l, k⟩ ⟨g1, g2, g3⟩
   dsimp only at g1 g2 g3
   have hlen := @fm_len (i.One_Args.take k.toNat)
   rw [List.length_take] at hlen
   have hll : l.length = 2 + ((i.One_Args.take k.toNat).flatMap encA).length := by rw [g3]; simp; omega
   simp only [iH]
   refine OK.cond (fun hd => ?_) (fun hd => ?_)
   ·simp only [decide_eq_true_eq] at hd
    refine OK.idx g1 hd fun a ha had => ?_
    have hok := List.all_eq_true.1 k3 a ha
    have hbd := argOk_bd hok
    have e : IntKind.i64.wrap (k + 1) = k + 1 := w64 (by omega) (by omega)
    have ht := take1G g1 hd had
    have hfin : ∀ m : List Int, m = encA a → OK (some (Sum.inl (l ++ m, k + 1)) : Option ((List Int × Int) ⊕ List Int)) (Sum.elim (fun a' => (0 ≤ a'.2 ∧ a'.2 ≤ i.One_Args.length ∧ a'.1 = [i.Code % 256, i.One_Op % 256] ++ (i.One_Args.take a'.2.toNat).flatMap encA) ∧ (i.One_Args.length - a'.2).toNat < (i.One_Args.length - k).toNat) (fun l => l = [i.Code % 256, i.One_Op % 256] ++ i.One_Args.flatMap encA)) := by
     rintro m rfl
     refine OK.mk ⟨⟨by dsimp only; omega, by dsimp only; omega, ?_⟩, by dsimp only; omega⟩
     dsimp only
     rw [ht, g3, List.flatMap_append]; simp
    refine OK.gd (apOk_of (by simp; omega) (by simp; omega)) ?_
    have hA : encA a = a.Kind % 256 :: (if a.Kind = 11 then be2 a.N else if a.Kind = 12 then be4 a.N ++ [a.P % 256] else [a.N % 256]) := rfl
    by_cases q1 : a.Kind = 11
    ·have w1 : db a.Kind = some 2 := by unfold db; rw [q1]; rfl
     rw [w1, Option.bind_some, num2 (by omega) (by omega), Option.bind_some]
     refine OK.gd (apOk_of (by simp [be2]; omega) (by simp [be2]; omega)) ?_
     refine OK.cond (fun hz => by simp [q1] at hz) (fun _ => ?_)
     simp only [dP, e, List.append_assoc]
     exact hfin _ (by rw [hA, if_pos q1, u8w_eq]; rfl)
    ·by_cases q2 : a.Kind = 12
     ·have w1 : db a.Kind = some 4 := by unfold db; rw [q2]; rfl
      rw [w1, Option.bind_some, num4 (by omega) (by omega), Option.bind_some]
      refine OK.gd (apOk_of (by simp [be4]; omega) (by simp [be4]; omega)) ?_
      refine OK.cond (fun _ => ?_) (fun hz => by simp [q2] at hz)
      refine OK.gd (apOk_of (by simp [be4]; omega) (by simp [be4]; omega)) ?_
      simp only [dP, e, List.append_assoc]
      exact hfin _ (by rw [hA, if_neg q1, if_pos q2, u8w_eq, u8w_eq]; rfl)
     ·have w1 : db a.Kind = some 1 := by
       unfold db
       rw [show (a.Kind == 11) = false by simpa using q1, show (a.Kind == 12) = false by simpa using q2]; rfl
      rw [w1, Option.bind_some, num1 (by omega) (by omega), Option.bind_some]
      refine OK.gd (apOk_of (by simp; omega) (by simp; omega)) ?_
      refine OK.cond (fun hz => by simp [q2] at hz) (fun _ => ?_)
      simp only [dP, e, List.append_assoc]
      exact hfin _ (by rw [hA, if_neg q1, if_neg q2, u8w_eq]; rfl)
   ·simp only [decide_eq_false_iff_not] at hd
    refine OK.mk (show l = _ from ?_)
    rw [g3, List.take_of_length_le (by omega)]
  ·rintro l rfl
   exact OK.mk rfl
theorem iArg_ok' (a : DevArg) : OK (m_picArg a) (fun x => x.2 = dx a ∧ (x.2 = true → x.1 = encA a)) := iArg_ok a
theorem all_snoc {l : List DevArg} {a : DevArg} (h : l.all dx = true) (ha : dx a = true) : (l ++ [a]).all dx = true := by simp [List.all_append, h, ha]
theorem all_not {l : List DevArg} {a : DevArg} (h : a ∈ l) (ha : dx a = false) : ¬ l.all dx = true := fun e => by
 have := List.all_eq_true.1 e a h; rw [ha] at this; cases this
theorem sWrong_ok {i : Inst} (hl : i.One_Args.length ≤ 1000) : OK (s_l17Wrong i) (fun x => x = wro i) := by
 unfold s_l17Wrong
 refine OK.cond (fun h => OK.mk ?_) (fun h => ?_)
 ·simp only [Bool.or_eq_true, decide_eq_true_eq] at h
  rw [wro, if_pos (by omega)]
 simp only [Bool.or_eq_false_iff, decide_eq_false_iff_not] at h
 rw [sHas_eq, Option.bind_some]
 refine OK.cond (fun h2 => ?_) (fun h2 => ?_)
 ·simp only [Bool.not_eq_true'] at h2
  refine OK.cond (fun h3 => OK.mk ?_) (fun h3 => OK.mk ?_)
  ·simp only [Bool.or_eq_true, bne_iff_ne, decide_eq_true_eq] at h3
   rw [wro, if_neg (by omega), if_pos h2, if_pos (by omega)]
  ·simp only [Bool.or_eq_false_iff, bne_eq_false_iff_eq, decide_eq_false_iff_not] at h3
   rw [wro, if_neg (by omega), if_pos h2, if_neg (by omega)]
 simp only [Bool.not_eq_false'] at h2
 have hw : wro i = if known i.Code i.One_Op = false ∨ (i.One_Args.length : Int) ≠ ar i.One_Op then 2 else if i.One_Args.all dx = true then 0 else 3 := by
  rw [wro, if_neg (by omega), if_neg (by rw [h2]; simp)]
 rw [hw, sKnown_eq, Option.bind_some]
 refine OK.cond (fun h3 => ?_) (fun h3 => OK.mk (by rw [if_pos (.inl h3)]))
 refine OK.bind (sArity_ok _) ?_
 rintro _ rfl
 refine OK.cond (fun h4 => OK.mk ?_) (fun h4 => ?_)
 ·simp only [bne_iff_ne, ne_eq] at h4
  rw [if_pos (.inr h4)]
 simp only [bne_eq_false_iff_eq] at h4
 rw [if_neg (fun q => q.elim (fun e => by rw [h3] at e; cases e) (fun e => e h4))]
 refine OK.loop (Q := Sum.elim (fun _ : Unit => ¬ i.One_Args.all dx = true) (fun _ : Unit => i.One_Args.all dx = true)) (fun z : Int => 0 ≤ z ∧ z ≤ i.One_Args.length ∧ (i.One_Args.take z.toNat).all dx = true) (fun z => (i.One_Args.length - z).toNat) ⟨Int.le_refl _, by omega, rfl⟩ ?_ ?_
 ·rintro k ⟨g1, g2, g3⟩
  simp only [hO]
  refine OK.cond (fun hc => ?_) (fun hc => ?_)
  ·simp only [decide_eq_true_eq] at hc
   refine OK.idx g1 hc fun a ha had => ?_
   rw [sField_eq, Option.bind_some]
   refine OK.cond (fun hf => OK.mk ?_) (fun hf => ?_)
   ·exact all_not ha (by simpa using hf)
   ·have e : IntKind.i64.wrap (k + 1) = k + 1 := w64 (by omega) (by omega)
    rw [e]
    exact OK.mk ⟨⟨by omega, by omega, by rw [take1G g1 hc had]; exact all_snoc g3 (by simpa using hf)⟩, by omega⟩
  ·simp only [decide_eq_false_iff_not] at hc
   rw [List.take_of_length_le (by omega)] at g3
   exact OK.mk g3
 ·rintro (_ | _) hx
  ·exact OK.mk (by rw [if_neg (show ¬ i.One_Args.all dx = true from hx)])
  ·exact OK.mk (by rw [if_pos (show i.One_Args.all dx = true from hx)])
theorem iBare_eq (e : Elem) : fZ e = some (decide (e.Op = 0 ∧ e.Args.length = 0)) := by
 unfold fZ
 congr 1
 rw [Bool.eq_iff_iff]; simp
theorem iInst_ok {i : Inst} (hl : i.One_Args.length ≤ 1000) : OK (m_picInst i) (fun x => x.2 = wro i ∧ (wro i = 0 → x.1 = encI i) ∧ (wro i ≠ 0 → x.1 = [])) := by
 -- the last part
 have fin : ∀ b : Bool, (b = true → wro i = 2) → (b = false → ¬ (i.Code < 1 ∨ i.Code > 11) ∧ (isHas i.Code = false → wro i = 0) ∧ (isHas i.Code = true → wro i = if i.One_Args.all dx = true then 0 else 3)) →
   OK (dB i b) (fun x => x.2 = wro i ∧ (wro i = 0 → x.1 = encI i) ∧ (wro i ≠ 0 → x.1 = [])) := by
  intro b hb hb2
  simp only [dB]
  refine OK.cond (fun h => OK.mk ?_) (fun h => ?_)
  ·rw [hb h]; exact ⟨rfl, fun e => (by cases e), fun _ => rfl⟩
  obtain ⟨h1, h2, h3⟩ := hb2 h
  rw [iHas_eq, Option.bind_some]
  refine OK.cond (fun hc => OK.mk ?_) (fun hc => ?_)
  ·have hc : isHas i.Code = false := by simpa using hc
   rw [h2 hc]
   exact ⟨rfl, fun _ => by rw [encI, hc, u8w_eq]; rfl, fun e => absurd rfl e⟩
  ·have hc : isHas i.Code = true := by simpa using hc
   have hE : encI i = [i.Code % 256, i.One_Op % 256] ++ i.One_Args.flatMap encA := by rw [encI, hc]; rfl
   refine OK.gd rfl ?_
   refine OK.loop (Q := Sum.elim (fun _ : Unit => ¬ i.One_Args.all dx = true) (fun o : List Int => i.One_Args.all dx = true ∧ o = encI i)) (fun z : List Int × Int => 0 ≤ z.2 ∧ z.2 ≤ i.One_Args.length ∧ (i.One_Args.take z.2.toNat).all dx = true ∧ z.1 = [i.Code % 256, i.One_Op % 256] ++ (i.One_Args.take z.2.toNat).flatMap encA) (fun z => (i.One_Args.length - z.2).toNat) ⟨Int.le_refl _, by dsimp only; omega, rfl, by rw [u8w_eq, u8w_eq]; rfl⟩ ?_ ?_
   ·rintro ⟨o, k⟩ ⟨g1, g2, g3, g4⟩
    dsimp only at g1 g2 g3 g4
    simp only [m_picInst_s36]
    refine OK.cond (fun hd => ?_) (fun hd => ?_)
    ·simp only [decide_eq_true_eq] at hd
     refine OK.idx g1 hd fun a ha had => ?_
     refine OK.bind (iArg_ok' a) ?_
     rintro ⟨x, f⟩ ⟨f1, f2⟩
     dsimp only at f1 f2
     refine OK.cond (fun hf => OK.mk ?_) (fun hf => ?_)
     ·exact all_not ha (by rw [← f1]; simpa using hf)
     ·have hf1 : f = true := by simpa using hf
      obtain rfl := f2 hf1
      clear hf
      dsimp only
      have hlen := @fm_len (i.One_Args.take k.toNat)
      rw [List.length_take] at hlen
      have hl2 : o.length = 2 + ((i.One_Args.take k.toNat).flatMap encA).length := by rw [g4, List.length_append]; simp only [List.length_cons, List.length_nil]
      have hea := encA_len a
      refine OK.gd (apOk_of (by rw [List.length_append]; omega) (by rw [List.length_append]; omega)) ?_
      have e : IntKind.i64.wrap (k + 1) = k + 1 := w64 (by omega) (by omega)
      rw [e]
      refine OK.mk ⟨⟨by dsimp only; omega, by dsimp only; omega, ?_, ?_⟩, by dsimp only; omega⟩
      ·dsimp only
       rw [take1G g1 hd had]; exact all_snoc g3 (by rw [← f1]; exact hf1)
      ·dsimp only
       rw [take1G g1 hd had, g4, List.flatMap_append]; simp
    ·simp only [decide_eq_false_iff_not] at hd
     rw [List.take_of_length_le (by omega)] at g3 g4
     exact OK.mk ⟨g3, by rw [g4, hE]⟩
   ·rintro (_ | o) hx
    ·have hx : ¬ i.One_Args.all dx = true := hx
     have hw := h3 hc
     rw [if_neg hx] at hw
     rw [hw]
     exact OK.mk ⟨rfl, fun e => (by cases e), fun _ => rfl⟩
    ·obtain ⟨x1, x2⟩ := hx
     have hw := h3 hc
     rw [if_pos x1] at hw
     rw [hw]
     exact OK.mk ⟨rfl, fun _ => x2, fun e => absurd rfl e⟩
 unfold m_picInst
 simp only [in_eq, Option.bind_some, iHas_eq, iFits_eq, iBare_eq]
 refine OK.cond (fun h1 => ?_) (fun h1 => ?_)
 ·simp only [Bool.not_eq_true', decide_eq_false_iff_not] at h1
  refine fin _ (fun _ => by rw [wro, if_pos (by omega)]) (fun hf => ?_)
  simp only [Bool.not_eq_false', decide_eq_true_eq] at hf
  exact absurd hf h1
 simp only [Bool.not_eq_false', decide_eq_true_eq] at h1
 have hno : ¬ (i.Code < 1 ∨ i.Code > 11) := by omega
 refine OK.cond (fun h2 => ?_) (fun h2 => ?_)
 ·have hw : wro i = if known i.Code i.One_Op = false ∨ (i.One_Args.length : Int) ≠ ar i.One_Op then 2 else if i.One_Args.all dx = true then 0 else 3 := by
   rw [wro, if_neg hno, if_neg (by rw [h2]; simp)]
  refine OK.cond (fun h3 => ?_) (fun h3 => ?_)
  ·refine OK.bind (iArity_ok _) ?_
   rintro _ rfl
   refine OK.cond (fun h4 => ?_) (fun h4 => ?_)
   ·rw [h4]
    simp only [bne_iff_ne, ne_eq] at h4
    exact fin _ (fun _ => by rw [hw, if_pos (.inr h4)]) (fun e => by cases e)
   ·simp only [bne_eq_false_iff_eq] at h4
    refine OK.cond (fun _ => ?_) (fun e => (by rw [h2] at e; cases e))
    exact fin _ (fun e => by cases e) (fun _ => ⟨hno, fun e => (by rw [h2] at e; cases e), fun _ => by rw [hw, if_neg (fun q => q.elim (fun e => by rw [h3] at e; cases e) (fun e => e h4))]⟩)
  ·exact fin _ (fun _ => by rw [hw, if_pos (.inl h3)]) (fun e => by cases e)
 ·refine OK.cond (fun e => (by rw [h2] at e; cases e)) (fun _ => ?_)
  have hw : wro i = if i.One_Op ≠ 0 ∨ i.One_Args.length > 0 then 2 else 0 := by
   rw [wro, if_neg hno, if_pos h2]
  refine fin _ (fun h5 => ?_) (fun h5 => ?_)
  ·simp only [Bool.not_eq_true', decide_eq_false_iff_not] at h5
   rw [hw, if_pos (by omega)]
  ·simp only [Bool.not_eq_false', decide_eq_true_eq] at h5
   exact ⟨hno, fun _ => by rw [hw, if_neg (by omega)], fun e => (by rw [h2] at e; cases e)⟩
end Go.AM
end
section
/- Images: how both packages read operands. Conditions: none. -/
namespace Go.AM
open Go
def s2 (a b : Int) : Int := if a ≥ 128 then a * 256 + b - 65536 else a * 256 + b
def s4 (a b c d : Int) : Int := if a ≥ 128 then a * 16777216 + b * 65536 + c * 256 + d - 4294967296 else a * 16777216 + b * 65536 + c * 256 + d
def rN (k : Int) : List Int → Int ⊕ (DevArg × List Int)
 | n :: r => .inr (⟨k, n, 0⟩, r)
 | [] => .inl 6
def rW : List Int → Int ⊕ (DevArg × List Int)
 | a :: b :: r => .inr (⟨11, s2 a b, 0⟩, r)
 | _ => .inl 6
def rD : List Int → Int ⊕ (DevArg × List Int)
 | a :: b :: c :: d :: p :: r => .inr (⟨12, s4 a b c d, p⟩, r)
 | _ => .inl 6
def rK (k : Int) (r : List Int) : Int ⊕ (DevArg × List Int) := if k < 1 ∨ k > 13 then .inl 3 else if k = 11 then rW r else if k = 12 then rD r else rN k r
def rA : List Int → Int ⊕ (DevArg × List Int)
 | [] => .inl 6
 | k :: r => rK k r
theorem by8.hd {x : Int} {l : List Int} (h : by8 (x :: l)) : 0 ≤ x ∧ x < 256 := h x (.head _)
theorem by8.tl {x : Int} {l : List Int} (h : by8 (x :: l)) : by8 l := fun y hy => h y (.tail _ hy)
theorem rA_enc {l : List Int} {a : DevArg} {r : List Int} (hl : by8 l) (h : rA l = .inr (a, r)) : l = encA a ++ r ∧ dx a = true := by
 cases l with
 | nil => cases h
 | cons k l =>
  have hk := hl.hd
  simp only [rA, rK] at h
  split at h
  ·cases h
  rename_i h1
  split at h
  ·rename_i h2
   match l, h with
   | a :: b :: r', h =>
    cases h
    have ha := hl.tl.hd
    have hb := hl.tl.tl.hd
    refine ⟨?_, ?_⟩
    ·simp only [encA, be2, if_pos, List.cons_append, List.nil_append, List.cons.injEq, and_true]
     refine ⟨by omega, ?_, ?_⟩ <;> (unfold s2; split <;> omega)
    ·have h1 : -32768 ≤ s2 a b := by unfold s2; split <;> omega
     have h2 : s2 a b ≤ 32767 := by unfold s2; split <;> omega
     unfold dx
     rw [if_pos rfl, decide_eq_true_eq]
     exact ⟨h1, h2, rfl⟩
  rename_i h2
  split at h
  ·rename_i h3
   match l, h with
   | a :: b :: c :: d :: p :: r', h =>
    cases h
    have ha := hl.tl.hd
    have hb := hl.tl.tl.hd
    have hc := hl.tl.tl.tl.hd
    have hd := hl.tl.tl.tl.tl.hd
    have hp := hl.tl.tl.tl.tl.tl.hd
    refine ⟨?_, ?_⟩
    ·rw [encA, if_neg (show ¬ (12 : Int) = 11 by decide), if_pos rfl]
     simp only [be4, List.cons_append, List.nil_append, List.cons.injEq, and_true]
     refine ⟨by omega, ?_, ?_, ?_, ?_, by omega⟩ <;> (unfold s4; split <;> omega)
    ·unfold dx s4
     rw [if_neg (show ¬ (12 : Int) = 11 by decide), if_pos rfl, decide_eq_true_eq]
     dsimp only
     split <;> omega
  rename_i h3
  match l, h with
  | n :: r', h =>
   cases h
   have hn := hl.tl.hd
   refine ⟨?_, ?_⟩
   ·rw [encA, if_neg h2, if_neg h3]
    simp only [List.cons_append, List.nil_append, List.cons.injEq, and_true]
    omega
   ·unfold dx
    rw [if_neg h2, if_neg h3, decide_eq_true_eq]
    dsimp only
    omega
theorem rA_dec {a : DevArg} (h : dx a = true) (r : List Int) : rA (encA a ++ r) = .inr (a, r) := by
 obtain ⟨k, n, p⟩ := a
 unfold dx at h
 unfold encA
 dsimp only at h ⊢
 split at h
 ·rename_i h1
  subst h1
  simp only [decide_eq_true_eq] at h
  rw [if_pos rfl]
  simp only [be2, List.cons_append, List.nil_append, rA, rK]
  rw [if_neg (by omega), if_pos (by omega), rW]
  have e : s2 (n / 256 % 256) (n % 256) = n := by
   unfold s2
   split <;> omega
  rw [e, h.2.2]
 rename_i h1
 split at h
 ·rename_i h2
  subst h2
  simp only [decide_eq_true_eq] at h
  rw [if_neg h1, if_pos rfl]
  simp only [be4, List.cons_append, List.nil_append, rA, rK]
  rw [if_neg (by omega), if_neg (by omega), if_pos (by omega), rD]
  have e : s4 (n / 16777216 % 256) (n / 65536 % 256) (n / 256 % 256) (n % 256) = n := by
   unfold s4
   split <;> omega
  have e2 : p % 256 = p := by omega
  rw [e, e2]
 rename_i h2
 simp only [decide_eq_true_eq] at h
 rw [if_neg h1, if_neg h2]
 simp only [List.cons_append, List.nil_append, rA, rK]
 have e1 : k % 256 = k := by omega
 have e2 : n % 256 = n := by omega
 rw [e1, e2, if_neg (by omega), if_neg (by omega), if_neg (by omega), rN, h.2.2.2]
theorem bor_byte {x y : Int} (hx : 0 ≤ x) (hx2 : x < 1099511627776) (hy : 0 ≤ y) (hy2 : y < 256) : bor .i64 (IntKind.i64.wrap (x * 256)) (IntKind.i64.wrap y) = x * 256 + y := by
 rw [w64 (by omega) (by omega), w64 (by omega) (by omega)]
 show IntKind.i64.wrap (BitVec.ofInt 64 (x * 256) ||| BitVec.ofInt 64 y).toNat = _
 have h1 : (BitVec.ofInt 64 (x * 256)).toNat = 2 ^ 8 * x.toNat := by rw [BitVec.toNat_ofInt]; omega
 have h2 : (BitVec.ofInt 64 y).toNat = y.toNat := by rw [BitVec.toNat_ofInt]; omega
 rw [BitVec.toNat_or, h1, h2, ← Nat.two_pow_add_eq_or_of_lt (by omega), w64 (by omega) (by omega)]
 omega
theorem fb_on {l : List Int} {x i y : Int} (h0 : 0 ≤ i) (h1 : i < l.length) (hl : l.length ≤ 1000) (hx : 0 ≤ x) (hx2 : x < 1099511627776) (hy : l.getD i.toNat default = y) (hy0 : 0 ≤ y) (hy2 : y < 256) : gw l (x, i) = some (.inl (x * 256 + y, i + 1)) := by
 refine OK.eq ?_
 simp only [gw]
 refine OK.cond (fun _ => ?_) (fun hc => ?_)
 ·refine OK.idx h0 h1 fun z _ hz => ?_
  rw [hy] at hz
  subst hz
  rw [bor_byte hx hx2 hy0 hy2, w64 (by omega) (by omega)]
  exact OK.mk rfl
 ·simp only [decide_eq_false_iff_not] at hc; omega
theorem fb_out {l : List Int} {x i : Int} (h : ¬ i < l.length) : gw l (x, i) = some (.inr x) := by
 simp only [gw]
 rw [decide_eq_false h]; rfl
theorem fb2 {a b : Int} (h : by8 [a, b]) : fR [a, b] = some (a * 256 + b) := by
 have ha := h.hd
 have hb := h.tl.hd
 unfold fR
 rw [loop_on (fb_on (y := a) (by omega) (by simp) (by simp) (by omega) (by omega) rfl ha.1 ha.2), loop_on (fb_on (y := b) (by omega) (by simp) (by simp) (by omega) (by omega) rfl hb.1 hb.2), fg (fb_out (by simp))]
 simp [m_fromBig_j5]
theorem fb4 {a b c d : Int} (h : by8 [a, b, c, d]) : fR [a, b, c, d] = some (a * 16777216 + b * 65536 + c * 256 + d) := by
 have ha := h.hd
 have hb := h.tl.hd
 have hc := h.tl.tl.hd
 have hd := h.tl.tl.tl.hd
 unfold fR
 rw [loop_on (fb_on (y := a) (by omega) (by simp) (by simp) (by omega) (by omega) rfl ha.1 ha.2), loop_on (fb_on (y := b) (by omega) (by simp) (by simp) (by omega) (by omega) rfl hb.1 hb.2),
  loop_on (fb_on (y := c) (by omega) (by simp) (by simp) (by omega) (by omega) rfl hc.1 hc.2), loop_on (fb_on (y := d) (by omega) (by simp) (by simp) (by omega) (by omega) rfl hd.1 hd.2), fg (fb_out (by simp))]
 simp only [m_fromBig_j5, Option.bind_some, Option.some.injEq]
 omega
theorem sg2 {a b : Int} (h : by8 [a, b]) : m_signed [a, b] = some (s2 a b) := by
 have ha := h.hd
 have hb := h.tl.hd
 refine OK.eq ?_
 unfold m_signed
 rw [fb2 h, Option.bind_some]
 refine OK.idx (by omega) (by simp) fun y _ hy => ?_
 obtain rfl : a = y := hy
 have e0 : IntKind.i64.wrap (8 * (([a, b].length : Nat) : Int)) = 16 := by rfl
 have e : IntKind.i64.wrap (1 * pw .i64 16) = 65536 := by decide
 rw [e0, e, show decide ((0 : Int) ≤ 16) = true by decide, gd_t]
 simp only [m_signed_j5]
 refine OK.cond (fun hc => OK.mk ?_) (fun hc => OK.mk ?_)
 ·simp only [decide_eq_true_eq] at hc
  rw [w64 (by omega) (by omega), s2, if_pos hc]
 ·simp only [decide_eq_false_iff_not] at hc
  rw [s2, if_neg hc]
theorem sg4 {a b c d : Int} (h : by8 [a, b, c, d]) : m_signed [a, b, c, d] = some (s4 a b c d) := by
 have ha := h.hd
 have hb := h.tl.hd
 have hc := h.tl.tl.hd
 have hd := h.tl.tl.tl.hd
 refine OK.eq ?_
 unfold m_signed
 rw [fb4 h, Option.bind_some]
 refine OK.idx (by omega) (by simp) fun y _ hy => ?_
 obtain rfl : a = y := hy
 have e0 : IntKind.i64.wrap (8 * (([a, b, c, d].length : Nat) : Int)) = 32 := by rfl
 have e : IntKind.i64.wrap (1 * pw .i64 32) = 4294967296 := by decide
 rw [e0, e, show decide ((0 : Int) ≤ 32) = true by decide, gd_t]
 simp only [m_signed_j5]
 refine OK.cond (fun hc => OK.mk ?_) (fun hc => OK.mk ?_)
 ·simp only [decide_eq_true_eq] at hc
  rw [w64 (by omega) (by omega), s4, if_pos hc]
 ·simp only [decide_eq_false_iff_not] at hc
  rw [s4, if_neg hc]
theorem sv_on {l : List Int} {x p i y : Int} (h0 : 0 ≤ i) (h1 : i < l.length) (hl : l.length ≤ 1000) (hx : 0 ≤ x) (hx2 : x < 1099511627776) (hp : 0 ≤ p) (hp2 : p < 1099511627776) (hy : l.getD i.toNat default = y) (hy0 : 0 ≤ y) (hy2 : y < 256) : gr l (x, p, i) = some (.inl (x * 256 + y, p * 256, i + 1)) := by
 refine OK.eq ?_
 simp only [gr]
 refine OK.cond (fun _ => ?_) (fun hc => ?_)
 ·refine OK.idx h0 h1 fun z _ hz => ?_
  rw [hy] at hz
  subst hz
  rw [w64 (n := i + 1) (by omega) (by omega), w64 (n := y) (by omega) (by omega), w64 (n := x * 256) (by omega) (by omega), w64 (by omega) (by omega), w64 (by omega) (by omega)]
  exact OK.mk rfl
 ·simp only [decide_eq_false_iff_not] at hc; omega
theorem sv_out {l : List Int} {x p i : Int} (h : ¬ i < l.length) : gr l (x, p, i) = some (.inr (x, p)) := by
 simp only [gr]
 rw [decide_eq_false h]; rfl
theorem sv1 {a : Int} (h : by8 [a]) : s_l17Val [a] = some a := by
 have ha := h.hd
 unfold s_l17Val
 rw [loop_on (sv_on (y := a) (by omega) (by simp) (by simp) (by omega) (by omega) (by omega) (by omega) rfl ha.1 ha.2), fg (sv_out (by simp))]
 simp [s_l17Val_j7, fx]
theorem sv2 {a b : Int} (h : by8 [a, b]) : s_l17Val [a, b] = some (s2 a b) := by
 have ha := h.hd
 have hb := h.tl.hd
 refine OK.eq ?_
 unfold s_l17Val
 rw [loop_on (sv_on (y := a) (by omega) (by simp) (by simp) (by omega) (by omega) (by omega) (by omega) rfl ha.1 ha.2), loop_on (sv_on (y := b) (by omega) (by simp) (by simp) (by omega) (by omega) (by omega) (by omega) rfl hb.1 hb.2), fg (sv_out (by simp)), Option.bind_some]
 simp only [s_l17Val_j7, fx]
 refine OK.cond (fun _ => OK.idx (by omega) (by simp) fun y _ hy => ?_) (fun hc => by simp at hc)
 obtain rfl : a = y := hy
 refine OK.cond (fun hc => OK.mk ?_) (fun hc => OK.mk ?_)
 ·simp only [decide_eq_true_eq] at hc
  rw [w64 (by omega) (by omega), s2, if_pos hc]; omega
 ·simp only [decide_eq_false_iff_not] at hc
  rw [s2, if_neg hc]; omega
theorem sv4 {a b c d : Int} (h : by8 [a, b, c, d]) : s_l17Val [a, b, c, d] = some (s4 a b c d) := by
 have ha := h.hd
 have hb := h.tl.hd
 have hc := h.tl.tl.hd
 have hd := h.tl.tl.tl.hd
 refine OK.eq ?_
 unfold s_l17Val
 rw [loop_on (sv_on (y := a) (by omega) (by simp) (by simp) (by omega) (by omega) (by omega) (by omega) rfl ha.1 ha.2), loop_on (sv_on (y := b) (by omega) (by simp) (by simp) (by omega) (by omega) (by omega) (by omega) rfl hb.1 hb.2),
  loop_on (sv_on (y := c) (by omega) (by simp) (by simp) (by omega) (by omega) (by omega) (by omega) rfl hc.1 hc.2), loop_on (sv_on (y := d) (by omega) (by simp) (by simp) (by omega) (by omega) (by omega) (by omega) rfl hd.1 hd.2), fg (sv_out (by simp)), Option.bind_some]
 simp only [s_l17Val_j7, fx]
 refine OK.cond (fun _ => OK.idx (by omega) (by simp) fun y _ hy => ?_) (fun hc => by simp at hc)
 obtain rfl : a = y := hy
 refine OK.cond (fun hc => OK.mk ?_) (fun hc => OK.mk ?_)
 ·simp only [decide_eq_true_eq] at hc
  rw [w64 (by omega) (by omega), s4, if_pos hc]; omega
 ·simp only [decide_eq_false_iff_not] at hc
  rw [s4, if_neg hc]; omega
end Go.AM
end
section
/- Images: how both packages read instructions. Conditions: none. -/
namespace Go.AM
open Go
theorem iTake {l : List Int} {n : Int} (h0 : 0 ≤ n) (hn : n ≤ 100) (hl : n ≤ l.length) : bd ⟨l, 0⟩ n = some (l.take n.toNat, ⟨l.drop n.toNat, 0⟩) := by
 refine OK.eq ?_
 unfold bd
 refine OK.cond (fun hc => ?_) (fun _ => OK.prtH h0 hl (OK.prtL h0 hl (OK.mk rfl)))
 simp at hc; omega
theorem iTakeS {l : List Int} {n : Int} (h0 : 0 ≤ n) (hn : n ≤ 100) (hl : (l.length : Int) < n) : bd ⟨l, 0⟩ n = some (List.replicate n.toNat 0, ⟨l, 6⟩) := by
 refine OK.eq ?_
 unfold bd
 refine OK.cond (fun _ => ?_) (fun hc => ?_)
 ·refine OK.cond (fun _ => ?_) (fun hc => by simp at hc)
  simp only [dD]
  exact OK.gd (mkOk_of h0 (Int.le_refl _) (by omega) (by omega)) (OK.mk rfl)
 ·simp at hc; omega
theorem iTakeC {l : List Int} {n c : Int} (h0 : 0 ≤ n) (hn : n ≤ 100) (hc : c ≠ 0) : bd ⟨l, c⟩ n = some (List.replicate n.toNat 0, ⟨l, c⟩) := by
 refine OK.eq ?_
 unfold bd
 refine OK.cond (fun _ => ?_) (fun hd => ?_)
 ·refine OK.cond (fun hd => ?_) (fun _ => ?_)
  ·simp only [beq_iff_eq] at hd; exact absurd hd hc
  ·simp only [dD]
   exact OK.gd (mkOk_of h0 (Int.le_refl _) (by omega) (by omega)) (OK.mk rfl)
 ·simp only [Bool.or_eq_false_iff, bne_eq_false_iff_eq] at hd; exact absurd hd.1 hc
def RelI {α : Type} (m : Int ⊕ (α × List Int)) (x : α × picReader) : Prop := match m with
 | .inl c => x.2.code = c
 | .inr (a, r) => x = (a, ⟨r, 0⟩)
theorem rN_err {k c : Int} {l : List Int} (h : rN k l = .inl c) : c = 6 := by
 cases l with
 | nil => cases h; rfl
 | cons _ _ => cases h
theorem rA_err {l : List Int} {c : Int} (h : rA l = .inl c) : 0 < c ∧ c < 100 := by
 cases l with
 | nil => cases h; omega
 | cons k l =>
  simp only [rA, rK] at h
  repeat' split at h
  ·cases h; omega
  ·unfold rW at h; split at h <;> cases h; omega
  ·unfold rD at h; split at h <;> cases h; omega
  ·rw [rN_err h]; omega
theorem lt1 {l : List Int} (h : ¬ (1 : Int) ≤ l.length) : l = [] := List.eq_nil_of_length_eq_zero (by omega)
theorem lt2 {l : List Int} (h : ¬ (2 : Int) ≤ l.length) : rW l = .inl 6 := by
 match l with
 | [] => rfl
 | [_] => rfl
 | a :: b :: r => simp at h; omega
theorem lt5 {l : List Int} (h : ¬ (5 : Int) ≤ l.length) : rD l = .inl 6 := by
 match l with
 | [] => rfl
 | [_] => rfl
 | [_, _] => rfl
 | [_, _, _] => rfl
 | [_, _, _, _] => rfl
 | a :: b :: c :: d :: e :: r => simp at h; omega
theorem ge1 {l : List Int} (h : (1 : Int) ≤ l.length) : ∃ a r, l = a :: r := by
 match l with
 | [] => simp at h
 | a :: r => exact ⟨a, r, rfl⟩
theorem ge2 {l : List Int} (h : (2 : Int) ≤ l.length) : ∃ a b r, l = a :: b :: r := by
 match l with
 | [] => simp at h
 | [_] => simp at h
 | a :: b :: r => exact ⟨a, b, r, rfl⟩
theorem ge4 {l : List Int} (h : (4 : Int) ≤ l.length) : ∃ a b c d r, l = a :: b :: c :: d :: r := by
 match l with
 | [] => simp at h
 | [_] => simp at h
 | [_, _] => simp at h
 | [_, _, _] => simp at h
 | a :: b :: c :: d :: r => exact ⟨a, b, c, d, r, rfl⟩
theorem sg_zero2 : m_signed (List.replicate (2 : Int).toNat 0) = some 0 := by
 rw [show List.replicate (2 : Int).toNat (0 : Int) = [0, 0] from rfl, sg2 (by intro y hy; simp at hy; omega)]; rfl
theorem sg_zero4 : m_signed (List.replicate (4 : Int).toNat 0) = some 0 := by
 rw [show List.replicate (4 : Int).toNat (0 : Int) = [0, 0, 0, 0] from rfl, sg4 (by intro y hy; simp at hy; omega)]; rfl
theorem iArg_rd {l : List Int} (hl : by8 l) : OK (gA ⟨l, 0⟩) (RelI (rA l)) := by
 unfold gA
 cases l with
 | nil =>
  rw [iTakeS (by omega) (by omega) (by simp), Option.bind_some]
  refine OK.idx (by omega) (by simp) fun y hy _ => ?_
  refine OK.cond (fun _ => ?_) (fun hc => by simp at hc)
  simp only [aS]
  exact OK.mk rfl
 | cons k l =>
  have hk := hl.hd
  have hl := hl.tl
  rw [iTake (by omega) (by omega) (by simp; omega), Option.bind_some]
  refine OK.idx (by omega) (by simp) fun y _ hy => ?_
  obtain rfl : k = y := hy
  refine OK.cond (fun hc => by simp at hc) (fun _ => ?_)
  rw [w64 (n := k) (by omega) (by omega), in_eq, Option.bind_some]
  simp only [show List.drop (1 : Int).toNat (k :: l) = l from rfl, rA, rK]
  refine OK.cond (fun hc => ?_) (fun hc => ?_)
  ·simp only [Bool.or_eq_true, decide_eq_true_eq, beq_iff_eq] at hc
   rw [if_neg (by omega), if_neg (by omega), if_neg (by omega)]
   by_cases h1 : (1 : Int) ≤ l.length
   ·obtain ⟨a, r, rfl⟩ := ge1 h1
    have ha := hl.hd
    rw [iTake (by omega) (by omega) h1, Option.bind_some]
    refine OK.idx (by omega) (by simp) fun y _ hy => ?_
    obtain rfl : a = y := hy
    simp only [aS]
    rw [w64 (n := a) (by omega) (by omega), w64 (n := k) (by omega) (by omega)]
    exact OK.mk rfl
   ·rw [iTakeS (by omega) (by omega) (by omega), Option.bind_some, lt1 h1]
    refine OK.idx (by omega) (by simp) fun y hy _ => ?_
    simp only [aS]
    exact OK.mk rfl
  ·simp only [Bool.or_eq_false_iff, decide_eq_false_iff_not, beq_eq_false_iff_ne] at hc
   refine OK.cond (fun hd => ?_) (fun hd => ?_)
   ·simp only [beq_iff_eq] at hd
    subst hd
    rw [if_neg (by omega), if_pos rfl]
    by_cases h1 : (2 : Int) ≤ l.length
    ·obtain ⟨a, b, r, rfl⟩ := ge2 h1
     rw [iTake (by omega) (by omega) h1, Option.bind_some]
     simp only [show List.take (2 : Int).toNat (a :: b :: r) = [a, b] from rfl]
     rw [sg2 (by intro y hy; exact hl y (by simp at hy ⊢; omega)), Option.bind_some]
     simp only [aS]
     exact OK.mk rfl
    ·rw [iTakeS (by omega) (by omega) (by omega), Option.bind_some, lt2 h1, sg_zero2, Option.bind_some]
     simp only [aS]
     exact OK.mk rfl
   ·simp only [beq_eq_false_iff_ne] at hd
    refine OK.cond (fun he => ?_) (fun he => ?_)
    ·simp only [beq_iff_eq] at he
     subst he
     rw [if_neg (by omega), if_neg (by omega), if_pos rfl]
     by_cases h1 : (4 : Int) ≤ l.length
     ·obtain ⟨a, b, c, d, r, rfl⟩ := ge4 h1
      rw [iTake (by omega) (by omega) h1, Option.bind_some]
      simp only [show List.take (4 : Int).toNat (a :: b :: c :: d :: r) = [a, b, c, d] from rfl, show List.drop (4 : Int).toNat (a :: b :: c :: d :: r) = r from rfl]
      rw [sg4 (by intro y hy; exact hl y (by simp at hy ⊢; omega)), Option.bind_some]
      by_cases h2 : (1 : Int) ≤ r.length
      ·obtain ⟨p, r, rfl⟩ := ge1 h2
       have hp : 0 ≤ p ∧ p < 256 := hl p (by simp)
       rw [iTake (by omega) (by omega) h2, Option.bind_some]
       refine OK.idx (by omega) (by simp) fun y _ hy => ?_
       obtain rfl : p = y := hy
       simp only [aS]
       rw [w64 (n := p) (by omega) (by omega)]
       exact OK.mk rfl
      ·rw [iTakeS (by omega) (by omega) (by omega), Option.bind_some, lt1 h2]
       refine OK.idx (by omega) (by simp) fun y hy _ => ?_
       simp only [aS]
       exact OK.mk rfl
     ·rw [iTakeS (by omega) (by omega) (by omega), Option.bind_some, lt5 (by omega), sg_zero4, Option.bind_some, iTakeC (by omega) (by omega) (by omega), Option.bind_some]
      refine OK.idx (by omega) (by simp) fun y hy _ => ?_
      simp only [aS]
      exact OK.mk rfl
    ·simp only [beq_eq_false_iff_ne] at he
     rw [if_pos (by omega)]
     simp only [aS]
     exact OK.mk rfl
def SP (b r : List Int) (p : l17In) : Prop := p.b = b ∧ 0 ≤ p.at_ ∧ p.at_ ≤ b.length ∧ b.drop p.at_.toNat = r ∧ b.length ≤ 1000000
theorem SP.len {b r : List Int} {p : l17In} (h : SP b r p) : (r.length : Int) = b.length - p.at_ := by
 obtain ⟨h1, h2, h3, h4, _⟩ := h
 rw [← h4, List.length_drop]; omega
theorem sTake {b r : List Int} {p : l17In} {n : Int} (h : SP b r p) (h0 : 0 ≤ n) (hl : n ≤ r.length) : OK (dz p n) (fun x => x.1 = r.take n.toNat ∧ x.2.1 = true ∧ SP b (r.drop n.toNat) x.2.2) := by
 have hlen := h.len
 obtain ⟨pb, pa⟩ := p
 obtain ⟨h1, h2, h3, h4, h5⟩ := h
 dsimp only at h1 h2 h3 h4 hlen
 subst h1
 unfold dz
 dsimp only
 rw [w64 (n := (pb.length : Int) - pa) (by omega) (by omega), w64 (n := pa + n) (by omega) (by omega), w64 (n := pa + n - n) (by omega) (by omega)]
 refine OK.cond (fun hc => ?_) (fun _ => ?_)
 ·simp only [decide_eq_true_eq] at hc; omega
 ·refine OK.prt (by omega) (by omega) (by omega) (OK.mk ⟨?_, rfl, rfl, by dsimp only; omega, by dsimp only; omega, ?_, h5⟩)
  ·rw [← h4, List.drop_take, show pa + n - n = pa by omega, show (pa + n).toNat - pa.toNat = n.toNat by omega]
  ·dsimp only
   rw [← h4, List.drop_drop, show pa.toNat + n.toNat = (pa + n).toNat by omega]
theorem sTakeS {b r : List Int} {p : l17In} {n : Int} (h : SP b r p) (h0 : 0 ≤ n) (hl : (r.length : Int) < n) : dz p n = some ([], false, p) := by
 have hlen := h.len
 obtain ⟨pb, pa⟩ := p
 obtain ⟨h1, h2, h3, h4, h5⟩ := h
 dsimp only at h1 h2 h3 h4 hlen
 subst h1
 refine OK.eq ?_
 unfold dz
 dsimp only
 rw [w64 (n := (pb.length : Int) - pa) (by omega) (by omega)]
 refine OK.cond (fun _ => OK.mk rfl) (fun hc => ?_)
 simp only [decide_eq_false_iff_not] at hc; omega
def RelS {α : Type} (b : List Int) (m : Int ⊕ (α × List Int)) (x : α × Int × l17In) : Prop := match m with
 | .inl c => x.2.1 = c
 | .inr (a, r) => x.1 = a ∧ x.2.1 = 0 ∧ SP b r x.2.2
theorem sArg_rd {b l : List Int} {p : l17In} (hl : by8 l) (h : SP b l p) : OK (s_l17In_arg p) (RelS b (rA l)) := by
 unfold s_l17In_arg
 cases l with
 | nil =>
  rw [sTakeS h (by omega) (by simp), Option.bind_some]
  refine OK.cond (fun _ => OK.mk rfl) (fun hc => by simp at hc)
 | cons k l =>
  have hk := hl.hd
  have hl := hl.tl
  refine OK.bind (sTake h (by omega) (by simp; omega)) ?_
  rintro ⟨x, f, p1⟩ ⟨rfl, rfl, hp1⟩
  dsimp only at hp1 ⊢
  have hp1 : SP b l p1 := hp1
  refine OK.cond (fun hc => by cases hc) (fun _ => ?_)
  refine OK.idx (by omega) (by simp) fun y _ hy => ?_
  obtain rfl : k = y := hy
  rw [w64 (n := k) (by omega) (by omega)]
  simp only [rA, rK]
  refine OK.cond (fun hc => ?_) (fun hc => ?_)
  ·simp only [Bool.or_eq_true, decide_eq_true_eq] at hc
   rw [if_pos (by omega)]
   exact OK.mk rfl
  simp only [Bool.or_eq_false_iff, decide_eq_false_iff_not] at hc
  rw [if_neg (by omega)]
  by_cases q1 : k = 11
  ·have w1 : db k = some 2 := by unfold db; rw [q1]; rfl
   rw [w1, Option.bind_some, if_pos q1]
   by_cases h1 : (2 : Int) ≤ l.length
   ·refine OK.bind (sTake hp1 (by omega) h1) ?_
    rintro ⟨x, f, p2⟩ ⟨rfl, rfl, hp2⟩
    obtain ⟨a, c, r, rfl⟩ := ge2 h1
    dsimp only at hp2 ⊢
    refine OK.cond (fun hc => by cases hc) (fun _ => ?_)
    rw [show List.take (2 : Int).toNat (a :: c :: r) = [a, c] from rfl, sv2 (by intro y hy; exact hl y (by simp at hy ⊢; omega)), Option.bind_some]
    refine OK.cond (fun hz => by simp [q1] at hz) (fun _ => ?_)
    simp only [eh]
    rw [w64 (n := k) (by omega) (by omega), q1]
    exact OK.mk ⟨rfl, rfl, hp2⟩
   ·rw [sTakeS hp1 (by omega) (by omega), Option.bind_some, lt2 h1]
    exact OK.cond (fun _ => OK.mk rfl) (fun hc => by simp at hc)
  rw [if_neg q1]
  by_cases q2 : k = 12
  ·have w1 : db k = some 4 := by unfold db; rw [q2]; rfl
   rw [w1, Option.bind_some, if_pos q2]
   by_cases h1 : (4 : Int) ≤ l.length
   ·refine OK.bind (sTake hp1 (by omega) h1) ?_
    rintro ⟨x, f, p2⟩ ⟨rfl, rfl, hp2⟩
    obtain ⟨a, c, d, e, r, rfl⟩ := ge4 h1
    dsimp only at hp2 ⊢
    refine OK.cond (fun hc => by cases hc) (fun _ => ?_)
    rw [show List.take (4 : Int).toNat (a :: c :: d :: e :: r) = [a, c, d, e] from rfl, sv4 (by intro y hy; exact hl y (by simp at hy ⊢; omega)), Option.bind_some]
    refine OK.cond (fun _ => ?_) (fun hz => by simp [q2] at hz)
    have hp2 : SP b r p2 := hp2
    by_cases h2 : (1 : Int) ≤ r.length
    ·refine OK.bind (sTake hp2 (by omega) h2) ?_
     rintro ⟨x, f, p3⟩ ⟨rfl, rfl, hp3⟩
     obtain ⟨pp, r, rfl⟩ := ge1 h2
     have hpp : 0 ≤ pp ∧ pp < 256 := hl pp (by simp)
     dsimp only at hp3 ⊢
     refine OK.cond (fun hc => by cases hc) (fun _ => ?_)
     refine OK.idx (by omega) (by simp) fun y _ hy => ?_
     obtain rfl : pp = y := hy
     simp only [eh]
     rw [w64 (n := k) (by omega) (by omega), w64 (n := pp) (by omega) (by omega), q2]
     exact OK.mk ⟨rfl, rfl, hp3⟩
    ·rw [sTakeS hp2 (by omega) (by omega), Option.bind_some, lt1 h2]
     exact OK.cond (fun _ => OK.mk rfl) (fun hc => by simp at hc)
   ·rw [sTakeS hp1 (by omega) (by omega), Option.bind_some, lt5 (by omega)]
    exact OK.cond (fun _ => OK.mk rfl) (fun hc => by simp at hc)
  rw [if_neg q2]
  have w1 : db k = some 1 := by
   unfold db
   rw [show (k == 11) = false by simpa using q1, show (k == 12) = false by simpa using q2]; rfl
  rw [w1, Option.bind_some]
  by_cases h1 : (1 : Int) ≤ l.length
  ·refine OK.bind (sTake hp1 (by omega) h1) ?_
   rintro ⟨x, f, p2⟩ ⟨rfl, rfl, hp2⟩
   obtain ⟨a, r, rfl⟩ := ge1 h1
   dsimp only at hp2 ⊢
   refine OK.cond (fun hc => by cases hc) (fun _ => ?_)
   rw [show List.take (1 : Int).toNat (a :: r) = [a] from rfl, sv1 (by intro y hy; exact hl y (by simp at hy ⊢; omega)), Option.bind_some]
   refine OK.cond (fun hz => by simp [q2] at hz) (fun _ => ?_)
   simp only [eh]
   rw [w64 (n := k) (by omega) (by omega)]
   exact OK.mk ⟨rfl, rfl, hp2⟩
  ·rw [sTakeS hp1 (by omega) (by omega), Option.bind_some, lt1 h1]
   exact OK.cond (fun _ => OK.mk rfl) (fun hc => by simp at hc)
end Go.AM
end
