/- Images that are drawn, spoilt ones too. Conditions: none. -/
import Derived.Test.YtkafcijfljjlaabAmPuW
set_option linter.unusedSimpArgs false
set_option linter.unusedVariables false
namespace Go.AM
open Go
theorem img_len (l : List Inst) : (img l).length = (encL l).length + 8 := by
  unfold img imgH; simp [be2]
theorem img_by8 (l : List Inst) : by8 (img l) := (imgH_by8 l).app (be2_by8 _)
theorem sMake_img {L : Nat} {l : List Inst} (h : okW L l) (hL : L ≤ 1000000) : OK (spec_PicMake l) (fun x => x.2.Code = 0 → by8 x.1 ∧ 8 ≤ x.1.length ∧ x.1.length ≤ 20008) := by
  refine OK.of_eq (sMake_ok (fun i hi => by have := h.2 i hi; omega) (by have := h.1; omega)) ?_
  unfold mkP
  split
  · intro e; cases e
  · split
    · rename_i c t hb
      intro e
      have := badI_some hb
      exact absurd e this.1
    · rename_i hb
      intro _
      have := encL_len (badI_none hb)
      rw [img_len]
      exact ⟨img_by8 l, by omega, by omega⟩
theorem l17Image_ok2 {N : Int} {r : l26Rd} (h : G N r) (hN : N ≤ 700000000) : OK (spec_l17Image r) (fun x => (by8 x.1 ∧ 8 ≤ x.1.length ∧ x.1.length ≤ 20008) ∧ G (N + 100000000) x.2) := by
  unfold spec_l17Image
  refine OK.loop (Q := Sum.elim (fun z : List Int × Int × List Int => (by8 z.2.2 ∧ 8 ≤ z.2.2.length ∧ z.2.2.length ≤ 20008) ∧ G (N + 100000000) ⟨z.1, z.2.1⟩) (fun z : List Int × Int => G (N + 100000000) ⟨z.1, z.2⟩)) (fun z : List Int × Int × Int => 0 ≤ z.2.2 ∧ z.2.2 ≤ 4 ∧ G (N + 22000000 * z.2.2) ⟨z.1, z.2.1⟩) (fun z => (4 - z.2.2).toNat) ?_ ?_ ?_
  · exact ⟨Int.le_refl _, by dsimp only; omega, h.up (by dsimp only; omega)⟩
  · rintro ⟨b, p, k⟩ ⟨h1, h2, h3⟩
    dsimp only at h1 h2 h3
    simp only [spec_l17Image_s7]
    refine OK.cond (fun hc => ?_) (fun _ => OK.mk (h3.up (by omega)))
    simp only [decide_eq_true_eq] at hc
    refine OK.bind (l17List_ok h3 (by omega)) ?_
    rintro ⟨l, r⟩ ⟨hl, hr⟩
    dsimp only at hl hr
    refine OK.bind (sMake_img hl (by omega)) ?_
    rintro ⟨m, f⟩ hm
    refine OK.cond (fun hf => OK.mk ⟨hm (by simpa using hf), hr.up (by omega)⟩) (fun _ => ?_)
    have e : IntKind.i64.wrap (k + 1) = k + 1 := w64 (by omega) (by omega)
    rw [e]
    exact OK.mk ⟨⟨by dsimp only; omega, by dsimp only; omega, hr.up (by dsimp only; omega)⟩, by dsimp only; omega⟩
  · rintro (z | z) hz
    · exact OK.mk hz
    · simp only [Sum.elim_inr, spec_l17Image_j3]
      rw [sMake_ok (fun i hi => by cases hi) (by simp), Option.bind_some]
      exact OK.mk ⟨⟨img_by8 [], by rw [show (mkP []).1 = img [] from rfl, img_len]; simp [encL], by rw [show (mkP []).1 = img [] from rfl, img_len]; simp [encL]⟩, hz⟩
theorem l17Mend_ok {b : List Int} (h : by8 b) (hl : b.length ≤ 100000) : OK (spec_l17Mend b) (fun x => by8 x ∧ x.length ≤ b.length) := by
  unfold spec_l17Mend
  refine OK.cond (fun _ => OK.mk ⟨h, Nat.le_refl _⟩) (fun hc => ?_)
  simp only [decide_eq_false_iff_not] at hc
  rw [num2' (by omega) (by omega), Option.bind_some]
  refine OK.gd (apOk_of (by simp [be2]) (by simp [be2])) ?_
  have w := w64 (n := (b.length : Int) - 2) (by omega) (by omega)
  rw [w]
  refine OK.prt (by omega) (by omega) (by omega) ?_
  have hm : ((b.take ((b.length : Int) - 2).toNat).drop (4 : Int).toNat).length = b.length - 6 := by
    rw [List.length_drop, List.length_take]; omega
  have hmb : by8 ((b.take ((b.length : Int) - 2).toNat).drop (4 : Int).toNat) := fun y hy => h y (List.mem_of_mem_take (List.mem_of_mem_drop hy))
  generalize (b.take ((b.length : Int) - 2).toNat).drop (4 : Int).toNat = m at hm hmb
  have hh : by8 ([83, 116] ++ be2 b.length ++ m) := by
    refine by8.app (by8.app ?_ (be2_by8 _)) hmb
    intro y hy; simp at hy; omega
  have hhl : ([83, 116] ++ be2 b.length ++ m).length = b.length - 2 := by simp [be2]; omega
  refine OK.gd (apOk_of (by omega) (by omega)) ?_
  refine OK.bind (sSum_ok hh (by omega)) ?_
  rintro _ rfl
  have hs := sumL_bd hh (s := 65535) (by omega) (by omega)
  rw [w64 (by omega) (by omega), num2' (by omega) (by omega), Option.bind_some]
  have hz : ([83, 116] ++ be2 b.length ++ m ++ be2 (sumL 65535 ([83, 116] ++ be2 b.length ++ m))).length = b.length := by
    rw [List.length_append, hhl]; simp [be2]; omega
  refine OK.gd (apOk_of (by omega) (by omega)) (OK.mk ⟨hh.app (be2_by8 _), by omega⟩)
theorem by8.take {l : List Int} (h : by8 l) (n : Nat) : by8 (l.take n) := fun y hy => h y (List.mem_of_mem_take hy)
theorem by8.drop {l : List Int} (h : by8 l) (n : Nat) : by8 (l.drop n) := fun y hy => h y (List.mem_of_mem_drop hy)
theorem l17Spoil_ok {N : Int} {r : l26Rd} {b : List Int} (h : G N r) (hN : N ≤ 1000000000) (h8 : by8 b) (hb : 8 ≤ b.length) (hl : b.length ≤ 50000) : OK (spec_l17Spoil r b) (fun x => (by8 x.1 ∧ x.1.length ≤ 50001) ∧ G (N + 10) x.2) := by
  have fin : ∀ (m : List Int) (r : l26Rd), by8 m → m.length ≤ 50001 → G (N + 10) r → OK (spec_l17Spoil_j7 (r.b, r.p, m)) (fun x => (by8 x.1 ∧ x.1.length ≤ 50001) ∧ G (N + 10) x.2) := by
    intro m r h1 h2 h3
    simp only [spec_l17Spoil_j7]
    refine OK.bind (l17Mend_ok h1 (by omega)) ?_
    rintro x ⟨x1, x2⟩
    exact OK.mk ⟨⟨x1, by dsimp only; omega⟩, h3⟩
  unfold spec_l17Spoil
  refine OK.gd (apOk_of (by omega) (by omega)) ?_
  refine OK.bind (pick_ok h (by omega)) ?_
  rintro ⟨k, r⟩ ⟨g1, k0, k1⟩
  dsimp only at g1 k0 k1
  have k1 : k < b.length := k1 (by omega)
  refine OK.bind (pick_ok g1 (by omega)) ?_
  rintro ⟨c, r⟩ ⟨g2, _, _⟩
  dsimp only at g2 ⊢
  refine OK.cond (fun _ => ?_) (fun _ => ?_)
  · refine OK.bind (pick_ok g2 (by omega)) ?_
    rintro ⟨d, r⟩ ⟨g3, _, _⟩
    refine OK.idx k0 k1 fun _ _ _ => OK.mk ⟨⟨h8.set _ _, by simp; omega⟩, g3.up (by omega)⟩
  refine OK.cond (fun _ => ?_) (fun _ => ?_)
  · refine OK.gd (by simp; omega) (OK.mk ⟨⟨h8.take _, by simp; omega⟩, g2.up (by omega)⟩)
  refine OK.cond (fun _ => ?_) (fun _ => ?_)
  · refine OK.bind (pick_ok g2 (by omega)) ?_
    rintro ⟨d, r⟩ ⟨g3, _, _⟩
    refine OK.idx k0 k1 fun _ _ _ => fin _ _ (h8.set _ _) (by simp; omega) (g3.up (by omega))
  have w1 := w64 (n := k + 1) (by omega) (by omega)
  refine OK.cond (fun _ => ?_) (fun _ => ?_)
  · rw [w1]
    have hm : (b.take k.toNat ++ (b.drop (k + 1).toNat).take (b.length - (k + 1).toNat)).length ≤ 50000 := by
      simp only [List.length_append, List.length_take, List.length_drop]; omega
    refine OK.gd (by simp; omega) (OK.gd (by simp; omega) (OK.gd (apOk_of (by omega) (by omega)) ?_))
    exact fin _ _ ((h8.take _).app ((h8.drop _).take _)) (by omega) (g2.up (by omega))
  refine OK.cond (fun _ => ?_) (fun _ => ?_)
  · have hm : (b.take k.toNat ++ (b.drop k.toNat).take (b.length - k.toNat)).length ≤ 50000 := by
      simp only [List.length_append, List.length_take, List.length_drop]; omega
    simp only [List.length_append] at hm
    refine OK.gd (by simp; omega) (OK.gd (by simp; omega) (OK.gd (apOk_of (by omega) (by omega)) ?_))
    refine OK.bind (pick_ok g2 (by omega)) ?_
    rintro ⟨d, r⟩ ⟨g3, _, _⟩
    refine OK.gd (apOk_of (by simp only [List.length_append, List.length_singleton]; omega) (by simp only [List.length_append, List.length_singleton]; omega)) (OK.gd (apOk_of (by simp only [List.length_append, List.length_singleton]; omega) (by simp only [List.length_append, List.length_singleton]; omega)) ?_)
    exact fin _ _ (((h8.take _).app (by8.one _)).app ((h8.drop _).take _)) (by simp only [List.length_append, List.length_singleton]; omega) (g3.up (by omega))
  refine OK.idx (by omega) (by omega) fun y _ _ => ?_
  refine OK.bind (pick_ok g2 (by omega)) ?_
  rintro ⟨d, r⟩ ⟨g3, _, _⟩
  dsimp only at g3
  refine OK.bind (pick_ok g3 (by omega)) ?_
  rintro ⟨e, r⟩ ⟨g4, _, _⟩
  dsimp only at g4
  refine OK.cond (fun _ => ?_) (fun _ => ?_)
  · refine OK.bind (pick_ok g4 (by omega)) ?_
    rintro ⟨f, r⟩ ⟨g5, _, _⟩
    dsimp only at g5
    refine OK.idx (by omega) (by simp; omega) fun _ _ _ => fin _ _ ((h8.set _ _).set _ _) (by simp; omega) (g5.up (by omega))
  · exact fin _ _ (h8.set _ _) (by simp; omega) (g4.up (by omega))
theorem DrawPicRead_ok {bs : List Int} (h : ∀ y ∈ bs, 0 ≤ y ∧ y < 256) : OK (spec_DrawPicRead bs) (fun x => by8 x ∧ x.length ≤ 50001) := by
  unfold spec_DrawPicRead
  refine OK.bind (l26Open_ok h) fun r hr => ?_
  refine OK.bind (l17Image_ok2 hr (by omega)) ?_
  rintro ⟨b, r⟩ ⟨⟨b1, b2, b3⟩, hg⟩
  dsimp only at b1 b2 b3 hg
  refine OK.bind (pick_ok hg (by omega)) ?_
  rintro ⟨c, r⟩ ⟨g2, _, _⟩
  dsimp only at g2
  refine OK.cond (fun _ => ?_) (fun _ => OK.mk ⟨b1, (by omega : b.length ≤ 50001)⟩)
  refine OK.bind (l17Spoil_ok (b := b) g2 (by omega) b1 b2 (by omega)) ?_
  rintro ⟨x, r⟩ ⟨hx, _⟩
  exact OK.mk hx
def okN (A L : Nat) (l : List Inst) : Prop := l.length ≤ L ∧ ∀ i ∈ l, i.One_Args.length ≤ A
theorem okN.to {A B L M : Nat} {l : List Inst} (h : okN A L l) (ha : A ≤ B) (hm : L ≤ M) : okN B M l := ⟨Nat.le_trans h.1 hm, fun i hi => by have := h.2 i hi; omega⟩
theorem okN.set {A L : Nat} {l : List Inst} (h : okN A L l) (n : Nat) {i : Inst} (hi : i.One_Args.length ≤ A) : okN A L (l.set n i) := ⟨by have := h.1; simp; omega, fun j hj => by
  rcases List.mem_or_eq_of_mem_set hj with q | rfl
  · exact h.2 j q
  · exact hi⟩
theorem okN.one {A : Nat} {i : Inst} (hi : i.One_Args.length ≤ A) : okN A 1 [i] := ⟨by simp, fun j hj => by simp at hj; subst hj; exact hi⟩
theorem okN.app {A L M : Nat} {l m : List Inst} (h : okN A L l) (k : okN A M m) : okN A (L + M) (l ++ m) := ⟨by have := h.1; have := k.1; simp; omega, fun j hj => by
  rcases List.mem_append.1 hj with q | q
  · exact h.2 j q
  · exact k.2 j q⟩
theorem okN.take {A L : Nat} {l : List Inst} (h : okN A L l) (n : Nat) : okN A L (l.take n) := ⟨by have := h.1; simp; omega, fun j hj => h.2 j (List.mem_of_mem_take hj)⟩
theorem okN.drop {A L : Nat} {l : List Inst} (h : okN A L l) (n : Nat) : okN A L (l.drop n) := ⟨by have := h.1; simp; omega, fun j hj => h.2 j (List.mem_of_mem_drop hj)⟩
theorem okN.ap {A L : Nat} {l : List Inst} (h : okN A L l) (hL : L ≤ 1000000) : apOk l.length 40 = true := by
  have := h.1
  exact apOk_of (by omega) (by omega)
set_option maxHeartbeats 4000000 in
theorem l11Spoil_ok2 {N : Int} {r : l26Rd} {l : List Inst} (h : G N r) (hN : N ≤ 10000000000) (hl : okN 10 12000 l) : OK (spec_l11Spoil r l) (fun x => okN 20 14000 x.1 ∧ G (N + 30000) x.2) := by
  unfold spec_l11Spoil
  have hlen := hl.1
  refine OK.gd (hl.ap (by omega)) ?_
  refine OK.cond (fun _ => ?_) (fun hne => ?_)
  · refine OK.bind (l11Inst_ok h (by omega)) ?_
    rintro ⟨i, r⟩ ⟨hgr, hi⟩
    dsimp only at hgr
    have h2 := hl.app (okN.one (A := 10) (i := i) (by simp only [okI] at hi; omega))
    exact OK.gd (h2.ap (by omega)) (OK.mk ⟨h2.to (by omega) (by omega), (by refine G.up (by assumption) ?_; omega)⟩)
  · have hpos : 0 < l.length := by
      rcases Nat.eq_zero_or_pos l.length with q | q
      · simp [q] at hne
      · exact q
    refine OK.bind (pick_ok h (by omega)) ?_
    rintro ⟨k, r⟩ ⟨k1, k2, k3⟩
    dsimp only at k1 k2 k3
    have k4 : k < l.length := k3 (by omega)
    refine OK.bind (pick_ok k1 (by omega)) ?_
    rintro ⟨m, r⟩ ⟨m1, m2, m3⟩
    dsimp only at m1 m2 m3
    have ew : IntKind.i64.wrap (k + 1) = k + 1 := w64 (by omega) (by omega)
    have fin : ∀ z : List Int × Int × List Inst, okN 20 14000 z.2.2 → G (N + 30000) ⟨z.1, z.2.1⟩ → OK (spec_l11Spoil_j15 z) (fun x => okN 20 14000 x.1 ∧ G (N + 30000) x.2) := by
      rintro ⟨b, p, o⟩ ho hg; exact OK.mk ⟨ho, hg⟩
    have idx1 : ∀ (J : Inst → Option (List Inst × l26Rd)), (∀ x : Inst, x.One_Args.length ≤ 10 → OK (J x) (fun x => okN 20 14000 x.1 ∧ G (N + 30000) x.2)) → OK ((idx l k).bind J) (fun x => okN 20 14000 x.1 ∧ G (N + 30000) x.2) := fun J hJ => OK.idx k2 k4 fun x hx _ => hJ x (hl.2 x hx)
    dsimp only
    rw [ew]
    refine OK.cond (fun _ => ?_) (fun _ => ?_)
    · refine OK.gd (by simp; omega) (OK.gd (by simp; omega) ?_)
      have h2 := (hl.take k.toNat).app ((hl.drop (k + 1).toNat).take (l.length - (k + 1).toNat))
      have h3 : okN 10 12000 (l.take k.toNat ++ (l.drop (k + 1).toNat).take (l.length - (k + 1).toNat)) := ⟨by simp; omega, h2.2⟩
      exact OK.gd (h3.ap (by omega)) (OK.mk ⟨h3.to (by omega) (by omega), (by refine G.up (by assumption) ?_; omega)⟩)
    refine OK.cond (fun _ => ?_) (fun _ => ?_)
    · refine OK.gd (by simp; omega) (OK.gd (by simp; omega) (OK.gd ((hl.take _).ap (by omega)) ?_))
      refine OK.bind (l11Inst_ok m1 (by omega)) ?_
      rintro ⟨i, r⟩ ⟨hgr, hi⟩
      dsimp only at hgr
      have h2 := (hl.take k.toNat).app (okN.one (A := 10) (i := i) (by simp only [okI] at hi; omega))
      have h3 := h2.app ((hl.drop k.toNat).take (l.length - k.toNat))
      have h4 : okN 10 12001 ((l.take k.toNat ++ [i]) ++ (l.drop k.toNat).take (l.length - k.toNat)) := ⟨by simp; omega, h3.2⟩
      exact OK.gd (h2.ap (by omega)) (OK.gd (h4.ap (by omega)) (OK.mk ⟨h4.to (by omega) (by omega), (by refine G.up (by assumption) ?_; omega)⟩))
    refine OK.cond (fun _ => ?_) (fun _ => ?_)
    · refine OK.bind (l11Inst_ok m1 (by omega)) ?_
      rintro ⟨i, r⟩ ⟨hgr, hi⟩
      dsimp only at hgr
      exact idx1 _ fun x _ => fin _ ((hl.set _ (i := i) (by simp only [okI] at hi; omega)).to (by omega) (by omega)) (by refine G.up (by assumption) ?_; omega)
    refine OK.cond (fun _ => ?_) (fun _ => ?_)
    · refine OK.bind (pick_ok m1 (by omega)) ?_
      rintro ⟨q, r⟩ ⟨hgr, _⟩
      dsimp only at hgr
      exact idx1 _ fun x hx => fin _ ((hl.set _ (by dsimp only; omega)).to (by omega) (by omega)) (by refine G.up (by assumption) ?_; omega)
    refine OK.cond (fun _ => ?_) (fun _ => ?_)
    · refine idx1 _ fun x hx => ?_
      refine OK.bind (l4Spoil_ok m1 (by omega) (by dsimp only; omega)) ?_
      rintro ⟨e, r⟩ ⟨hgr, he⟩
      dsimp only at hgr
      dsimp only at he
      exact fin _ ((hl.to (by omega) (by omega)).set _ (by dsimp only; omega)) (by refine G.up (by assumption) ?_; omega)
    refine OK.cond (fun _ => ?_) (fun _ => ?_)
    · exact OK.gd (by simp; omega) (OK.mk ⟨(hl.take _).to (by omega) (by omega), (by refine G.up (by assumption) ?_; omega)⟩)
    refine OK.cond (fun _ => ?_) (fun _ => ?_)
    · refine idx1 _ fun x hx => ?_
      refine OK.loop (Q := fun z : List Int × Int × List Inst => okN 20 14000 z.2.2 ∧ G (N + 30000) ⟨z.1, z.2.1⟩) (fun z : List Int × Int × List Inst => G (N + 2 + 2 * z.2.2.length) ⟨z.1, z.2.1⟩ ∧ okN 10 12001 z.2.2) (fun z => 1001 - z.2.2.length) ?_ ?_ (fun z hz => fin z hz.1 hz.2)
      · exact ⟨m1.up (by dsimp only; omega), hl.to (by omega) (by omega)⟩
      · rintro ⟨b, p, o⟩ ⟨g1, g2⟩
        dsimp only at g1 g2
        have g3 := g2.1
        simp only [spec_l11Spoil_s55]
        refine OK.bind (pick_ok g1 (by omega)) ?_
        rintro ⟨q, r⟩ ⟨q1, q2, q3⟩
        dsimp only at q1 q2 q3
        have e : IntKind.i64.wrap (1000 + q) = 1000 + q := w64 (by omega) (by omega)
        dsimp only
        rw [e]
        refine OK.cond (fun hc => ?_) (fun hc => ?_)
        · simp only [decide_eq_true_eq] at hc
          have h2 := g2.app (okN.one hx)
          refine OK.gd (h2.ap (by omega)) ?_
          exact OK.mk ⟨⟨q1.up (by simp; omega), ⟨by simp; omega, h2.2⟩⟩, by simp; omega⟩
        · exact OK.mk ⟨g2.to (by omega) (by omega), q1.up (by omega)⟩
    refine OK.cond (fun _ => ?_) (fun _ => ?_)
    · refine OK.bind (pick_ok m1 (by omega)) ?_
      rintro ⟨j, r⟩ ⟨j1, j2, j3⟩
      dsimp only at j1 j2 j3
      have j4 : j < l.length := j3 (by omega)
      refine idx1 _ fun x hx => ?_
      refine OK.idx j2 j4 fun y hy _ => ?_
      refine idx1 _ fun z _ => ?_
      refine OK.idx j2 (by simpa using j4) fun w _ _ => ?_
      exact fin _ (((hl.set _ (hl.2 y hy)).set _ hx).to (by omega) (by omega)) (by refine G.up (by assumption) ?_; omega)
    · refine OK.bind (l4Any_ok m1 (by omega)) ?_
      rintro ⟨e, r⟩ ⟨hgr, he⟩
      dsimp only at hgr
      exact idx1 _ fun x hx => fin _ ((hl.set _ (by dsimp only at he; dsimp only; omega)).to (by omega) (by omega)) (by refine G.up (by assumption) ?_; omega)
theorem DrawPicMake_ok {bs : List Int} (h : ∀ y ∈ bs, 0 ≤ y ∧ y < 256) : OK (spec_DrawPicMake bs) (fun x => okArgs x ∧ x.length ≤ 1000000) := by
  unfold spec_DrawPicMake
  refine OK.bind (l26Open_ok h) fun r hr => ?_
  refine OK.bind (l17List_ok hr (by omega)) ?_
  rintro ⟨l, r⟩ ⟨hl, hg⟩
  dsimp only at hl hg
  refine OK.bind (pick_ok hg (by omega)) ?_
  rintro ⟨c, r⟩ ⟨g2, _, _⟩
  dsimp only at g2
  have fin : ∀ {A : Nat} {m : List Inst}, okN A 14000 m → A ≤ 20 → okArgs m ∧ m.length ≤ 1000000 := fun hm hA => ⟨fun i hi => by have := hm.2 i hi; omega, by have := hm.1; omega⟩
  refine OK.cond (fun _ => ?_) (fun _ => OK.mk (fin (okN.to (A := 10) (L := 12000) hl (Nat.le_refl _) (by omega)) (by omega)))
  refine OK.bind (l11Spoil_ok2 g2 (by omega) hl) ?_
  rintro ⟨m, r⟩ ⟨hm, _⟩
  exact OK.mk (fin hm (by omega))
end Go.AM
