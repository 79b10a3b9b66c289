/- The draws end well: images. Conditions: none. -/
import Derived.Test.YtkafcijfljjlaabAmPuG
set_option linter.unusedSimpArgs false
set_option linter.unusedVariables false
namespace Go.AM
open Go
def by8 (l : List Int) : Prop := ∀ y ∈ l, 0 ≤ y ∧ y < 256
theorem u8w_eq (n : Int) : IntKind.u8.wrap n = n % 256 := by simp [IntKind.wrap, IntKind.bits, IntKind.signed]
theorem u8w (n : Int) : 0 ≤ IntKind.u8.wrap n ∧ IntKind.u8.wrap n < 256 := by rw [u8w_eq]; omega
theorem by8.app {l m : List Int} (h : by8 l) (k : by8 m) : by8 (l ++ m) := fun y hy => by
  rcases List.mem_append.1 hy with q | q
  · exact h y q
  · exact k y q
theorem by8.one (n : Int) : by8 [IntKind.u8.wrap n] := fun y hy => by simp at hy; subst hy; exact u8w n
theorem by8.set {l : List Int} (h : by8 l) (k : Nat) (n : Int) : by8 (l.set k (IntKind.u8.wrap n)) := fun y hy => by
  rcases List.mem_or_eq_of_mem_set hy with q | rfl
  · exact h y q
  · exact u8w n
theorem l11Any_ok {N : Int} {r : l26Rd} (h : G N r) (hN : N ≤ 1000000000) : OK (spec_l11Any r) (fun x => okW 12000 x.1 ∧ G (N + 21000000) x.2) := by
  unfold spec_l11Any
  refine OK.bind (l11Sure_ok h (by omega)) ?_
  rintro ⟨l, r⟩ ⟨g1, hl⟩
  dsimp only at g1 hl
  refine OK.bind (pick_ok g1 (by omega)) ?_
  rintro ⟨m, r⟩ ⟨m1, m2, m3⟩
  dsimp only at m1
  refine OK.cond (fun _ => ?_) (fun _ => ?_)
  · refine OK.bind (l11Spoil_ok m1 (by omega) (hl.up (by omega))) ?_
    rintro ⟨l, r⟩ ⟨q1, q2⟩
    exact OK.mk ⟨q1, q2.up (by omega)⟩
  · exact OK.mk ⟨hl.toW (by omega), m1.up (by omega)⟩
theorem l17Arg_ok {N : Int} {r : l26Rd} (h : G N r) (hN : N ≤ 70000000000) : OK (spec_l17Arg r) (fun x => G (N + 4) x.2) := by
  unfold spec_l17Arg
  repeat' (first
    | (refine OK.mk ?_; (refine G.up (by assumption) ?_; omega))
    | (refine OK.bind (pick_ok (by assumption) (by omega)) ?_; rintro x ⟨_, _, _⟩)
    | (refine OK.bind (num_ok (by assumption) (by omega) (by simp)) ?_; rintro x ⟨_, _⟩)
    | refine OK.cond (fun _ => ?_) (fun _ => ?_))
theorem l17List_ok {N : Int} {r : l26Rd} (h : G N r) (hN : N ≤ 900000000) : OK (spec_l17List r) (fun x => okW 12000 x.1 ∧ G (N + 22000000) x.2) := by
  unfold spec_l17List
  refine OK.bind (pick_ok h (by omega)) ?_
  rintro ⟨m, r⟩ ⟨m1, m2, m3⟩
  dsimp only at m1
  refine OK.cond (fun _ => ?_) (fun _ => ?_)
  · refine OK.bind (l11Any_ok m1 (by omega)) ?_
    rintro ⟨l, r⟩ ⟨q1, q2⟩
    exact OK.mk ⟨q1, q2.up (by omega)⟩
  · refine OK.bind (pick_ok m1 (by omega)) ?_
    rintro ⟨n, r⟩ ⟨n1, n2, n3⟩
    dsimp only at n1 n2 n3
    refine OK.loop (Q := fun z : List Int × Int × List Inst => okM 20 z.2.2 ∧ G (N + 22000000) ⟨z.1, z.2.1⟩) (fun z : List Int × Int × List Inst × Int => 0 ≤ z.2.2.2 ∧ z.2.2.2 ≤ 11 ∧ G (N + 1000 - 50 * z.2.2.2) ⟨z.1, z.2.1⟩ ∧ okM (11 - z.2.2.2).toNat z.2.2.1) (fun z => z.2.2.2.toNat) ?_ ?_ ?_
    · exact ⟨n2, by dsimp only; omega, n1.up (by dsimp only; omega), okM.nil _⟩
    · rintro ⟨b, p, l, i⟩ ⟨i0, i1, hg, hl⟩
      dsimp only at i0 i1 hg hl
      simp only [spec_l17List_s17]
      refine OK.cond (fun hc => ?_) (fun hc => ?_)
      · simp only [decide_eq_true_eq] at hc
        refine OK.bind (l11Inst_ok2 hg (by omega)) ?_
        rintro ⟨x, r⟩ ⟨t1, t2, t3⟩
        dsimp only at t1 t2 t3
        have fin : ∀ (b : List Int) (p : Int) (a : List DevArg), G (N + 1000 - 50 * i + 50) ⟨b, p⟩ → a.length ≤ 5 → OK (spec_l17List_j28 l i (x, r) (b, p, a)) (Sum.elim (fun a' => (0 ≤ a'.2.2.2 ∧ a'.2.2.2 ≤ 11 ∧ G (N + 1000 - 50 * a'.2.2.2) ⟨a'.1, a'.2.1⟩ ∧ okM (11 - a'.2.2.2).toNat a'.2.2.1) ∧ a'.2.2.2.toNat < i.toNat) (fun z : List Int × Int × List Inst => okM 20 z.2.2 ∧ G (N + 22000000) ⟨z.1, z.2.1⟩)) := by
          intro b p a hg ha
          simp only [spec_l17List_j28]
          have hl2 := hl.app (okM.one (i := ⟨x.Code, x.One_Op, a⟩) (by simpa [okI] using ha))
          refine OK.gd (hl2.ap (by omega)) ?_
          have e : IntKind.i64.wrap (i - 1) = i - 1 := w64 (by omega) (by omega)
          rw [e]
          exact OK.mk ⟨⟨by dsimp only; omega, by dsimp only; omega, hg.up (by dsimp only; omega), hl2.up (by dsimp only; omega)⟩, by dsimp only; omega⟩
        have hx5 : x.One_Args.length ≤ 5 := t2
        refine OK.bind (Q := fun b => b = true → 1 ≤ x.One_Args.length) ?_ ?_
        · unfold spec_l17Has
          refine OK.mk fun hh => ?_
          simp only [Bool.or_eq_true, beq_iff_eq] at hh
          rcases Nat.eq_zero_or_pos x.One_Args.length with q | q
          · have := t3 q; omega
          · exact q
        · intro hb hbt
          refine OK.cond (fun hb1 => ?_) (fun _ => fin _ _ _ (t1.up (by omega)) hx5)
          have h1 := hbt hb1
          refine OK.bind (pick_ok t1 (by omega)) ?_
          rintro ⟨u, r⟩ ⟨u1, _, _⟩
          dsimp only at u1
          refine OK.cond (fun _ => ?_) (fun _ => fin _ _ _ (u1.up (by omega)) hx5)
          refine OK.gd (apOk_of (by show x.One_Args.length * 24 ≤ _; omega) (by show x.One_Args.length ≤ _; omega)) ?_
          refine OK.bind (pick_ok u1 (by omega)) ?_
          rintro ⟨j, r⟩ ⟨j1, j2, j3⟩
          dsimp only at j1 j2 j3
          refine OK.bind (l17Arg_ok j1 (by omega)) ?_
          rintro ⟨a, r⟩ a1
          dsimp only at a1
          refine OK.idx j2 (j3 (by omega)) fun y _ _ => ?_
          exact fin _ _ _ (a1.up (by omega)) (by simpa using hx5)
      · exact OK.mk ⟨hl.up (by omega), hg.up (by omega)⟩
    · rintro ⟨b, p, l⟩ ⟨hl, hg⟩
      exact OK.mk ⟨hl.toW (by omega), hg⟩
theorem l17Num_ok {v n : Int} (hn0 : 0 ≤ n) (hn : n ≤ 100) : OK (spec_l17Num v n) (fun l => by8 l ∧ l.length = n.toNat) := by
  unfold spec_l17Num
  refine OK.gd (mkOk_of hn0 (Int.le_refl _) (by omega) (by omega)) ?_
  refine OK.loop (Q := fun l => by8 l ∧ l.length = n.toNat) (fun z : Int × List Int × Int => by8 z.2.1 ∧ z.2.1.length = n.toNat ∧ -1 ≤ z.2.2 ∧ z.2.2 < n) (fun z => (z.2.2 + 1).toNat) ?_ ?_ ?_
  · have e : IntKind.i64.wrap (n - 1) = n - 1 := w64 (by omega) (by omega)
    rw [e]
    exact ⟨fun y hy => by rw [List.mem_replicate] at hy; omega, by simp, by dsimp only; omega, by dsimp only; omega⟩
  · rintro ⟨a, l, i⟩ ⟨h1, h2, h3, h4⟩
    dsimp only at h1 h2 h3 h4
    have key : ∀ d, spec_l17Num_s9 (a, l, i) = spec_l17Num_s9 (a, l, i) → i ≥ 0 → OK (spec_l17Num_j20 a l i d) (Sum.elim (fun a' => (by8 a'.2.1 ∧ a'.2.1.length = n.toNat ∧ -1 ≤ a'.2.2 ∧ a'.2.2 < n) ∧ (a'.2.2 + 1).toNat < (i + 1).toNat) (fun l => by8 l ∧ l.length = n.toNat)) := by
      intro d _ hi
      simp only [spec_l17Num_j20]
      refine OK.idx hi (by omega) fun y _ _ => ?_
      have e : IntKind.i64.wrap (i - 1) = i - 1 := w64 (by omega) (by omega)
      rw [e]
      exact OK.mk ⟨⟨h1.set _ _, by simpa using h2, by dsimp only; omega, by dsimp only; omega⟩, by dsimp only; omega⟩
    simp only [spec_l17Num_s9]
    refine OK.cond (fun hc => ?_) (fun _ => OK.mk ⟨h1, h2⟩)
    simp only [decide_eq_true_eq] at hc
    exact OK.cond (fun _ => key _ rfl hc) (fun _ => key _ rfl hc)
  · intro l hl
    exact OK.mk hl
theorem l17Inst_ok {i : Inst} (hi : i.One_Args.length ≤ 10) : OK (spec_l17Inst i) (fun l => by8 l ∧ l.length ≤ 62) := by
  unfold spec_l17Inst
  refine OK.bind (Q := fun _ => True) (OK.mk trivial) fun b _ => ?_
  refine OK.cond (fun _ => OK.mk ⟨by8.one _, by simp⟩) (fun _ => ?_)
  refine OK.gd (apOk_of (by simp) (by simp)) ?_
  refine OK.loop (Q := fun l => by8 l ∧ l.length ≤ 62) (fun z : List Int × Int => by8 z.1 ∧ 0 ≤ z.2 ∧ z.2 ≤ i.One_Args.length ∧ (z.1.length : Int) ≤ 2 + 6 * z.2) (fun z => (i.One_Args.length - z.2).toNat) ?_ ?_ ?_
  · exact ⟨(by8.one _).app (by8.one _), Int.le_refl _, by dsimp only; omega, by simp⟩
  · rintro ⟨l, k⟩ ⟨h1, h2, h3, h4⟩
    dsimp only at h1 h2 h3 h4
    simp only [spec_l17Inst_s19]
    refine OK.cond (fun hc => ?_) (fun _ => OK.mk ⟨h1, by omega⟩)
    simp only [decide_eq_true_eq] at hc
    refine OK.idx h2 hc fun a _ _ => ?_
    refine OK.gd (apOk_of (by simp; omega) (by simp; omega)) ?_
    refine OK.bind (Q := fun w => 1 ≤ w ∧ w ≤ 4) (by
      unfold spec_l17Wide
      exact OK.cond (fun _ => OK.mk (by omega)) (fun _ => OK.cond (fun _ => OK.mk (by omega)) (fun _ => OK.mk (by omega)))) ?_
    rintro w ⟨w1, w2⟩
    refine OK.bind (l17Num_ok (by omega) (by omega)) ?_
    rintro m ⟨m1, m2⟩
    have e : IntKind.i64.wrap (k + 1) = k + 1 := w64 (by omega) (by omega)
    have hb := (h1.app (by8.one a.Kind)).app m1
    refine OK.gd (apOk_of (by simp; omega) (by simp; omega)) ?_
    refine OK.cond (fun _ => ?_) (fun _ => ?_)
    · refine OK.gd (apOk_of (by simp; omega) (by simp; omega)) ?_
      simp only [spec_l17Inst_j26, e]
      exact OK.mk ⟨⟨hb.app (by8.one _), by dsimp only; omega, by dsimp only; omega, by simp; omega⟩, by dsimp only; omega⟩
    · simp only [spec_l17Inst_j26, e]
      exact OK.mk ⟨⟨hb, by dsimp only; omega, by dsimp only; omega, by simp; omega⟩, by dsimp only; omega⟩
  · intro l hl
    exact OK.mk hl
theorem l17Xor_ok (a b : Int) : OK (spec_l17Xor a b) (fun _ => True) := by
  unfold spec_l17Xor
  refine OK.loop (Q := fun _ => True) (fun z : Int × Int × Int × Int => ∃ k : Nat, k ≤ 16 ∧ z.2.2.2 = 2 ^ k) (fun z => (65536 - z.2.2.2).toNat) ⟨0, by omega, rfl⟩ ?_ (fun _ _ => OK.mk trivial)
  rintro ⟨x, y, o, p⟩ ⟨k, hk, hp⟩
  dsimp only at hp
  subst hp
  have key : ∀ o', (2 : Int) ^ k < 65536 → OK (spec_l17Xor_j17 x y (2 ^ k) o') (Sum.elim (fun a' => (∃ k : Nat, k ≤ 16 ∧ a'.2.2.2 = 2 ^ k) ∧ (65536 - a'.2.2.2).toNat < (65536 - (2 : Int) ^ k).toNat) (fun _ => True)) := by
    intro o' hlt
    simp only [spec_l17Xor_j17]
    have hpos : (0 : Int) < 2 ^ k := Int.pow_pos (by omega)
    have e : IntKind.i64.wrap (2 ^ k * 2) = 2 ^ k * 2 := w64 (by omega) (by omega)
    rw [e]
    refine OK.mk ⟨⟨k + 1, ?_, by dsimp only; rw [Int.pow_succ]⟩, by dsimp only; omega⟩
    rcases Nat.lt_or_ge k 16 with q | q
    · exact q
    · have : k = 16 := by omega
      subst this
      simp at hlt
  simp only [spec_l17Xor_s9]
  refine OK.cond (fun hc => ?_) (fun _ => OK.mk trivial)
  simp only [decide_eq_true_eq] at hc
  exact OK.cond (fun _ => key _ hc) (fun _ => key _ hc)
theorem l17Round_ok (a : Int) : OK (spec_l17Round a) (fun _ => True) := by
  unfold spec_l17Round
  exact OK.cond (fun _ => OK.bind (l17Xor_ok _ _) fun _ _ => OK.mk trivial) (fun _ => OK.mk trivial)
theorem sPicSum_ok {l : List Int} (hl : l.length ≤ 1000000000) : OK (spec_PicSum l) (fun _ => True) := by
  unfold spec_PicSum
  refine OK.loop (Q := fun _ => True) (fun z : Int × Int => 0 ≤ z.2) (fun z => (l.length - z.2).toNat) (by dsimp only; omega) ?_ (fun _ _ => OK.mk trivial)
  rintro ⟨s, i⟩ hi
  dsimp only at hi
  simp only [spec_PicSum_s9]
  refine OK.cond (fun hc => ?_) (fun _ => OK.mk trivial)
  simp only [decide_eq_true_eq] at hc
  refine OK.idx hi hc fun y _ _ => ?_
  refine OK.bind (l17Xor_ok _ _) fun s2 _ => ?_
  refine OK.loop (Q := fun _ => True) (fun z : Int × Int => 0 ≤ z.2) (fun z => (8 - z.2).toNat) (by dsimp only; omega) ?_ ?_
  · rintro ⟨t, j⟩ hj
    dsimp only at hj
    simp only [spec_PicSum_s23]
    refine OK.cond (fun hd => ?_) (fun _ => OK.mk trivial)
    simp only [decide_eq_true_eq] at hd
    refine OK.bind (l17Round_ok _) fun t2 _ => ?_
    have e : IntKind.i64.wrap (j + 1) = j + 1 := w64 (by omega) (by omega)
    rw [e]
    exact OK.mk ⟨by dsimp only; omega, by dsimp only; omega⟩
  · intro t _
    simp only [spec_PicSum_j16]
    have e : IntKind.i64.wrap (i + 1) = i + 1 := w64 (by omega) (by omega)
    rw [e]
    exact OK.mk ⟨by dsimp only; omega, by dsimp only; omega⟩
theorem l17Wrong_ok {i : Inst} (hi : i.One_Args.length ≤ 1000) : OK (spec_l17Wrong i) (fun _ => True) := by
  unfold spec_l17Wrong
  refine OK.cond (fun _ => OK.mk trivial) (fun _ => ?_)
  refine OK.bind (Q := fun _ => True) (OK.mk trivial) fun b _ => ?_
  refine OK.cond (fun _ => OK.cond (fun _ => OK.mk trivial) (fun _ => OK.mk trivial)) (fun _ => ?_)
  refine OK.bind (Q := fun _ => True) (by unfold spec_l17Known; exact OK.cond (fun _ => OK.mk trivial) (fun _ => OK.mk trivial)) fun b _ => ?_
  refine OK.cond (fun _ => ?_) (fun _ => OK.mk trivial)
  refine OK.bind (ElemArity_ok _) fun a _ => ?_
  refine OK.cond (fun _ => OK.mk trivial) (fun _ => ?_)
  refine OK.loop (Q := fun _ => True) (fun z : Int => 0 ≤ z) (fun z => (i.One_Args.length - z).toNat) (by omega) ?_ ?_
  · intro k hk
    simp only [spec_l17Wrong_s39]
    refine OK.cond (fun hc => ?_) (fun _ => OK.mk trivial)
    simp only [decide_eq_true_eq] at hc
    refine OK.idx hk hc fun y _ _ => ?_
    refine OK.bind (Q := fun _ => True) (by unfold spec_l17Field; repeat' (first | exact OK.mk trivial | refine OK.cond (fun _ => ?_) (fun _ => ?_))) fun b _ => ?_
    refine OK.cond (fun _ => OK.mk trivial) (fun _ => ?_)
    have e : IntKind.i64.wrap (k + 1) = k + 1 := w64 (by omega) (by omega)
    rw [e]
    exact OK.mk ⟨by omega, by omega⟩
  · rintro (_ | _) _ <;> exact OK.mk trivial
theorem sPicMake_ok {l : List Inst} (hl : ∀ i ∈ l, i.One_Args.length ≤ 10) : OK (spec_PicMake l) (fun x => by8 x.1 ∧ x.1.length ≤ 70000) := by
  unfold spec_PicMake
  refine OK.cond (fun _ => OK.mk ⟨fun y hy => (by cases hy), by simp⟩) (fun hc => ?_)
  simp only [decide_eq_false_iff_not] at hc
  have hsm : by8 [83, 116] := fun y hy => by simp at hy; omega
  refine OK.loop (Q := Sum.elim (fun _ => True) (fun b : List Int => by8 b ∧ b.length ≤ 62000)) (fun z : List Int × Int => by8 z.1 ∧ 0 ≤ z.2 ∧ z.2 ≤ l.length ∧ (z.1.length : Int) ≤ 62 * z.2) (fun z => (l.length - z.2).toNat) ?_ ?_ ?_
  · exact ⟨fun y hy => (by cases hy), Int.le_refl _, by dsimp only; omega, by simp⟩
  · rintro ⟨b, k⟩ ⟨h1, h2, h3, h4⟩
    dsimp only at h1 h2 h3 h4
    simp only [spec_PicMake_s17]
    refine OK.cond (fun hd => ?_) (fun _ => OK.mk ⟨h1, by omega⟩)
    simp only [decide_eq_true_eq] at hd
    refine OK.idx h2 hd fun i him _ => ?_
    refine OK.bind (l17Wrong_ok (by have := hl i him; omega)) fun c _ => ?_
    refine OK.cond (fun _ => OK.mk trivial) (fun _ => ?_)
    refine OK.idx h2 hd fun i him _ => ?_
    refine OK.bind (l17Inst_ok (hl i him)) ?_
    rintro m ⟨m1, m2⟩
    refine OK.gd (apOk_of (by simp; omega) (by simp; omega)) ?_
    have e : IntKind.i64.wrap (k + 1) = k + 1 := w64 (by omega) (by omega)
    rw [e]
    exact OK.mk ⟨⟨h1.app m1, by dsimp only; omega, by dsimp only; omega, by simp; omega⟩, by dsimp only; omega⟩
  · rintro (x | b) hx
    · exact OK.mk ⟨fun y hy => (by cases hy), by simp⟩
    · obtain ⟨b1, b2⟩ := hx
      simp only [Sum.elim_inr, spec_PicMake_j13]
      refine OK.bind (l17Num_ok (by omega) (by omega)) ?_
      rintro m ⟨m1, m2⟩
      refine OK.gd (apOk_of (by simp; omega) (by simp; omega)) ?_
      refine OK.bind (l17Num_ok (by omega) (by omega)) ?_
      rintro n ⟨n1, n2⟩
      refine OK.gd (apOk_of (by simp; omega) (by simp; omega)) (OK.gd (apOk_of (by simp; omega) (by simp; omega)) ?_)
      refine OK.bind (sPicSum_ok (by simp; omega)) fun s _ => ?_
      refine OK.bind (l17Num_ok (by omega) (by omega)) ?_
      rintro t ⟨t1, t2⟩
      refine OK.gd (apOk_of (by simp; omega) (by simp; omega)) ?_
      exact OK.mk ⟨(((hsm.app m1).app n1).app b1).app t1, by simp; omega⟩
theorem l17Image_ok {N : Int} {r : l26Rd} (h : G N r) (hN : N ≤ 700000000) : OK (spec_l17Image r) (fun x => (by8 x.1 ∧ x.1.length ≤ 70000) ∧ G (N + 100000000) x.2) := by
  unfold spec_l17Image
  refine OK.loop (Q := Sum.elim (fun z : List Int × Int × List Int => (by8 z.2.2 ∧ z.2.2.length ≤ 70000) ∧ G (N + 100000000) ⟨z.1, z.2.1⟩) (fun z : List Int × Int => G (N + 100000000) ⟨z.1, z.2⟩)) (fun z : List Int × Int × Int => 0 ≤ z.2.2 ∧ z.2.2 ≤ 4 ∧ G (N + 22000000 * z.2.2) ⟨z.1, z.2.1⟩) (fun z => (4 - z.2.2).toNat) ?_ ?_ ?_
  · exact ⟨Int.le_refl _, by dsimp only; omega, h.up (by dsimp only; omega)⟩
  · rintro ⟨b, p, k⟩ ⟨h1, h2, h3⟩
    dsimp only at h1 h2 h3
    simp only [spec_l17Image_s7]
    refine OK.cond (fun hc => ?_) (fun _ => OK.mk (h3.up (by omega)))
    simp only [decide_eq_true_eq] at hc
    refine OK.bind (l17List_ok h3 (by omega)) ?_
    rintro ⟨l, r⟩ ⟨hl, hr⟩
    dsimp only at hl hr
    refine OK.bind (sPicMake_ok hl.2) ?_
    rintro ⟨m, f⟩ hm
    refine OK.cond (fun _ => OK.mk ⟨hm, hr.up (by omega)⟩) (fun _ => ?_)
    have e : IntKind.i64.wrap (k + 1) = k + 1 := w64 (by omega) (by omega)
    rw [e]
    exact OK.mk ⟨⟨by dsimp only; omega, by dsimp only; omega, hr.up (by dsimp only; omega)⟩, by dsimp only; omega⟩
  · rintro (z | z) hz
    · exact OK.mk hz
    · simp only [Sum.elim_inr, spec_l17Image_j3]
      refine OK.bind (sPicMake_ok (fun i hi => by cases hi)) ?_
      rintro ⟨m, f⟩ hm
      exact OK.mk ⟨hm, hz⟩
end Go.AM
