/- The draws end well: spoilt lists. Conditions: none. -/
import Derived.Test.YtbmoclfnkefomaaDoorAmPuF
set_option linter.unusedSimpArgs false
set_option linter.unusedVariables false
namespace Go.AM
open Go
def okW (L : Nat) (l : List Inst) : Prop := l.length ≤ L ∧ ∀ i ∈ l, i.One_Args.length ≤ 10
theorem okM.toW {L M : Nat} {l : List Inst} (h : okM L l) (hm : L ≤ M) : okW M l := ⟨Nat.le_trans h.1 hm, fun i hi => by have := h.2 i hi; simp only [okI] at this; omega⟩
theorem okW.set {L : Nat} {l : List Inst} (h : okW L l) (n : Nat) {i : Inst} (hi : i.One_Args.length ≤ 10) : okW L (l.set n i) := ⟨by have := h.1; simp; omega, fun j hj => by
  rcases List.mem_or_eq_of_mem_set hj with q | rfl
  · exact h.2 j q
  · exact hi⟩
set_option maxHeartbeats 4000000 in
theorem l11Spoil_ok {N : Int} {r : l26Rd} {l : List Inst} (h : G N r) (hN : N ≤ 10000000000) (hl : okM 10000 l) : OK (spec_l11Spoil r l) (fun x => okW 12000 x.1 ∧ G (N + 30000) x.2) := by
  unfold spec_l11Spoil
  have hlen := hl.1
  refine OK.gd (hl.ap (by omega)) ?_
  refine OK.cond (fun _ => ?_) (fun hne => ?_)
  · refine OK.bind (l11Inst_ok h (by omega)) ?_
    rintro ⟨i, r⟩ ⟨hgr, hi⟩
    dsimp only at hgr
    have h2 := hl.app (okM.one hi)
    exact OK.gd (h2.ap (by omega)) (OK.mk ⟨h2.toW (by omega), (by refine G.up (by assumption) ?_; omega)⟩)
  · have hpos : 0 < l.length := by
      rcases Nat.eq_zero_or_pos l.length with q | q
      · simp [q] at hne
      · exact q
    refine OK.bind (pick_ok h (by omega)) ?_
    rintro ⟨k, r⟩ ⟨k1, k2, k3⟩
    dsimp only at k1 k2 k3
    have k4 : k < l.length := k3 (by omega)
    refine OK.bind (pick_ok k1 (by omega)) ?_
    rintro ⟨m, r⟩ ⟨m1, m2, m3⟩
    dsimp only at m1 m2 m3
    have ew : IntKind.i64.wrap (k + 1) = k + 1 := w64 (by omega) (by omega)
    have fin : ∀ z : List Int × Int × List Inst, okW 12000 z.2.2 → G (N + 30000) ⟨z.1, z.2.1⟩ → OK (spec_l11Spoil_j15 z) (fun x => okW 12000 x.1 ∧ G (N + 30000) x.2) := by
      rintro ⟨b, p, o⟩ ho hg; exact OK.mk ⟨ho, hg⟩
    have idx1 : ∀ (J : Inst → Option (List Inst × l26Rd)), (∀ x, okI x → OK (J x) (fun x => okW 12000 x.1 ∧ G (N + 30000) x.2)) → OK ((idx l k).bind J) (fun x => okW 12000 x.1 ∧ G (N + 30000) x.2) := fun J hJ => OK.idx k2 k4 fun x hx _ => hJ x (hl.2 x hx)
    dsimp only
    rw [ew]
    refine OK.cond (fun _ => ?_) (fun _ => ?_)
    · refine OK.gd (by simp; omega) (OK.gd (by simp; omega) ?_)
      have h2 := (hl.take k.toNat).app ((hl.drop (k + 1).toNat).take (l.length - (k + 1).toNat))
      have h3 : okM 10000 (l.take k.toNat ++ (l.drop (k + 1).toNat).take (l.length - (k + 1).toNat)) := ⟨by simp; omega, h2.2⟩
      exact OK.gd (h3.ap (by omega)) (OK.mk ⟨h3.toW (by omega), (by refine G.up (by assumption) ?_; omega)⟩)
    refine OK.cond (fun _ => ?_) (fun _ => ?_)
    · refine OK.gd (by simp; omega) (OK.gd (by simp; omega) (OK.gd ((hl.take _).ap (by omega)) ?_))
      refine OK.bind (l11Inst_ok m1 (by omega)) ?_
      rintro ⟨i, r⟩ ⟨hgr, hi⟩
      dsimp only at hgr
      have h2 := (hl.take k.toNat).app (okM.one hi)
      have h3 := h2.app ((hl.drop k.toNat).take (l.length - k.toNat))
      have h4 : okM 10001 ((l.take k.toNat ++ [i]) ++ (l.drop k.toNat).take (l.length - k.toNat)) := ⟨by simp; omega, h3.2⟩
      exact OK.gd (h2.ap (by omega)) (OK.gd (h4.ap (by omega)) (OK.mk ⟨h4.toW (by omega), (by refine G.up (by assumption) ?_; omega)⟩))
    refine OK.cond (fun _ => ?_) (fun _ => ?_)
    · refine OK.bind (l11Inst_ok m1 (by omega)) ?_
      rintro ⟨i, r⟩ ⟨hgr, hi⟩
      dsimp only at hgr
      exact idx1 _ fun x _ => fin _ ((hl.set _ hi).toW (by omega)) (by refine G.up (by assumption) ?_; omega)
    refine OK.cond (fun _ => ?_) (fun _ => ?_)
    · refine OK.bind (pick_ok m1 (by omega)) ?_
      rintro ⟨q, r⟩ ⟨hgr, _⟩
      dsimp only at hgr
      exact idx1 _ fun x hx => fin _ ((hl.set _ (by simpa [okI] using hx)).toW (by omega)) (by refine G.up (by assumption) ?_; omega)
    refine OK.cond (fun _ => ?_) (fun _ => ?_)
    · refine idx1 _ fun x hx => ?_
      refine OK.bind (l4Spoil_ok m1 (by omega) (by simp only [okI] at hx; dsimp only; omega)) ?_
      rintro ⟨e, r⟩ ⟨hgr, he⟩
      dsimp only at hgr
      dsimp only at he
      simp only [okI] at hx
      exact fin _ ((hl.toW (by omega)).set _ (by dsimp only; omega)) (by refine G.up (by assumption) ?_; omega)
    refine OK.cond (fun _ => ?_) (fun _ => ?_)
    · exact OK.gd (by simp; omega) (OK.mk ⟨(hl.take _).toW (by omega), (by refine G.up (by assumption) ?_; omega)⟩)
    refine OK.cond (fun _ => ?_) (fun _ => ?_)
    · refine idx1 _ fun x hx => ?_
      refine OK.loop (Q := fun z : List Int × Int × List Inst => okW 12000 z.2.2 ∧ G (N + 30000) ⟨z.1, z.2.1⟩) (fun z : List Int × Int × List Inst => G (N + 2 + 2 * z.2.2.length) ⟨z.1, z.2.1⟩ ∧ okM 10001 z.2.2) (fun z => 1001 - z.2.2.length) ?_ ?_ (fun z hz => fin z hz.1 hz.2)
      · exact ⟨m1.up (by dsimp only; omega), hl.up (by omega)⟩
      · rintro ⟨b, p, o⟩ ⟨g1, g2⟩
        dsimp only at g1 g2
        have g3 := g2.1
        simp only [spec_l11Spoil_s55]
        refine OK.bind (pick_ok g1 (by omega)) ?_
        rintro ⟨q, r⟩ ⟨q1, q2, q3⟩
        dsimp only at q1 q2 q3
        have e : IntKind.i64.wrap (1000 + q) = 1000 + q := w64 (by omega) (by omega)
        dsimp only
        rw [e]
        refine OK.cond (fun hc => ?_) (fun hc => ?_)
        · simp only [decide_eq_true_eq] at hc
          have h2 := g2.app (okM.one hx)
          refine OK.gd (h2.ap (by omega)) ?_
          exact OK.mk ⟨⟨q1.up (by simp; omega), ⟨by simp; omega, h2.2⟩⟩, by simp; omega⟩
        · exact OK.mk ⟨g2.toW (by omega), q1.up (by omega)⟩
    refine OK.cond (fun _ => ?_) (fun _ => ?_)
    · refine OK.bind (pick_ok m1 (by omega)) ?_
      rintro ⟨j, r⟩ ⟨j1, j2, j3⟩
      dsimp only at j1 j2 j3
      have j4 : j < l.length := j3 (by omega)
      refine idx1 _ fun x hx => ?_
      refine OK.idx j2 j4 fun y hy _ => ?_
      refine idx1 _ fun z _ => ?_
      refine OK.idx j2 (by simpa using j4) fun w _ _ => ?_
      exact fin _ (((hl.set _ (hl.2 y hy)).set _ hx).toW (by omega)) (by refine G.up (by assumption) ?_; omega)
    · refine OK.bind (l4Any_ok m1 (by omega)) ?_
      rintro ⟨e, r⟩ ⟨hgr, he⟩
      dsimp only at hgr
      exact idx1 _ fun x hx => fin _ ((hl.set _ (by simp only [okI]; dsimp only at he; omega)).toW (by omega)) (by refine G.up (by assumption) ?_; omega)
theorem l26Open_ok {bs : List Int} (h : ∀ y ∈ bs, 0 ≤ y ∧ y < 256) : OK (spec_l26Open bs) (fun r => G 0 r) := by
  unfold spec_l26Open
  refine OK.cond (fun hc => ?_) (fun hc => ?_)
  · simp only [decide_eq_true_eq] at hc
    refine OK.prtH (by omega) (by omega) ?_
    simp only [spec_l26Open_j3]
    exact OK.mk ⟨fun y hy => h y (List.mem_of_mem_take hy), by simp; omega, Int.le_refl _, Int.le_refl _⟩
  · simp only [decide_eq_false_iff_not] at hc
    simp only [spec_l26Open_j3]
    exact OK.mk ⟨h, by dsimp only; omega, Int.le_refl _, Int.le_refl _⟩
end Go.AM
