/- The draws end well: deep lists, halves. Conditions: none. -/
import Derived.Test.YtbmoclfnkefomaaDoorAmPuG
set_option linter.unusedSimpArgs false
set_option linter.unusedVariables false
namespace Go.AM
open Go
theorem l12Deep_ok {N : Int} {r : l26Rd} (h : G N r) (hN : N ≤ 1000000000) : OK (spec_l12Deep r) (fun x => okM 100 x.1) := by
  unfold spec_l12Deep
  refine OK.bind (l4Contact_ok h (by omega)) ?_
  rintro ⟨ld, r1⟩ ⟨a1, a2⟩
  refine OK.bind (l4Coil_ok a1 (by omega)) ?_
  rintro ⟨co, r2⟩ ⟨b1, b2⟩
  refine OK.bind (num_ok b1 (by omega) (by simp)) ?_
  rintro ⟨n, r3⟩ ⟨c1, c2⟩
  have hn : 0 ≤ n ∧ n ≤ 17 := by simp at c2; omega
  refine OK.bind (pick_ok c1 (by omega)) ?_
  rintro ⟨m, r4⟩ ⟨d1, d2, d3⟩
  dsimp only at a1 a2 b1 b2 c1 c2 d1 d2 d3
  have hld : okI ⟨1, ld.Op, ld.Args⟩ := by simp only [okI]; omega
  have hco : okI ⟨10, co.Op, co.Args⟩ := by simp only [okI]; omega
  refine OK.cond (fun _ => ?_) (fun _ => ?_)
  · refine OK.loop (Q := fun l : List Inst => okM 17 l) (fun z : List Inst × Int => 0 ≤ z.2 ∧ z.2 ≤ n ∧ okM z.2.toNat z.1) (fun z => (n - z.2).toNat) ?_ ?_ ?_
    · exact ⟨Int.le_refl _, hn.1, okM.nil _⟩
    · rintro ⟨l, i⟩ ⟨i0, i1, hl⟩
      dsimp only at i0 i1 hl
      simp only [spec_l12Deep_s19]
      refine OK.cond (fun hc => ?_) (fun hc => ?_)
      · simp only [decide_eq_true_eq] at hc
        have hl2 := hl.app (okM.one hld)
        refine OK.gd (hl2.ap (by omega)) ?_
        have e : IntKind.i64.wrap (i + 1) = i + 1 := w64 (by omega) (by omega)
        rw [e]
        exact OK.mk ⟨⟨by dsimp only; omega, by dsimp only; omega, hl2.up (by dsimp only; omega)⟩, by dsimp only; omega⟩
      · exact OK.mk (hl.up (by omega))
    · intro l hl
      simp only [spec_l12Deep_j15]
      refine OK.loop (Q := fun z : List Int × Int × List Inst => okM 50 z.2.2) (fun z : List Int × Int × List Inst × Int => 1 ≤ z.2.2.2 ∧ z.2.2.2 ≤ 18 ∧ G (N + 100 + 2 * z.2.2.2) ⟨z.1, z.2.1⟩ ∧ okM (17 + z.2.2.2.toNat) z.2.2.1) (fun z => (18 - z.2.2.2).toNat) ?_ ?_ ?_
      · exact ⟨by simp, by simp, d1.up (by dsimp only; omega), hl.up (by omega)⟩
      · rintro ⟨b, p, l, i⟩ ⟨i0, i1, hg, hl⟩
        dsimp only at i0 i1 hg hl
        simp only [spec_l12Deep_s34]
        refine OK.cond (fun hc => ?_) (fun hc => ?_)
        · simp only [decide_eq_true_eq] at hc
          refine OK.bind (pick_ok hg (by omega)) ?_
          rintro ⟨q, r⟩ ⟨t1, t2, t3⟩
          dsimp only at t1
          have hl2 := hl.app (okM.one (okI_bare (IntKind.i64.wrap (4 + q))))
          refine OK.gd (hl2.ap (by omega)) ?_
          have e : IntKind.i64.wrap (i + 1) = i + 1 := w64 (by omega) (by omega)
          rw [e]
          exact OK.mk ⟨⟨by dsimp only; omega, by dsimp only; omega, t1.up (by dsimp only; omega), hl2.up (by dsimp only; omega)⟩, by dsimp only; omega⟩
        · exact OK.mk (hl.up (by omega))
      · rintro ⟨b, p, l⟩ hl
        simp only [spec_l12Deep_j30]
        have hl2 := hl.app (okM.two hco (okI_bare 11))
        exact OK.gd (hl2.ap (by omega)) (OK.mk (hl2.up (by omega)))
  · simp only [spec_l12Deep_j11]
    refine OK.bind (num_ok d1 (by omega) (by simp)) ?_
    rintro ⟨n, r3⟩ ⟨c1, c2⟩
    have hn : 0 ≤ n ∧ n ≤ 9 := by simp at c2; omega
    have h1 := okM.one hld
    refine OK.gd (h1.ap (by omega)) ?_
    refine OK.loop (Q := fun l : List Inst => okM 10 l) (fun z : List Inst × Int => 0 ≤ z.2 ∧ z.2 ≤ n ∧ okM (1 + z.2.toNat) z.1) (fun z => (n - z.2).toNat) ?_ ?_ ?_
    · exact ⟨Int.le_refl _, hn.1, h1⟩
    · rintro ⟨l, i⟩ ⟨i0, i1, hl⟩
      dsimp only at i0 i1 hl
      simp only [spec_l12Deep_s57]
      refine OK.cond (fun hc => ?_) (fun hc => ?_)
      · simp only [decide_eq_true_eq] at hc
        have hl2 := hl.app (okM.one (okI_bare 7))
        refine OK.gd (hl2.ap (by omega)) ?_
        have e : IntKind.i64.wrap (i + 1) = i + 1 := w64 (by omega) (by omega)
        rw [e]
        exact OK.mk ⟨⟨by dsimp only; omega, by dsimp only; omega, hl2.up (by dsimp only; omega)⟩, by dsimp only; omega⟩
      · exact OK.mk (hl.up (by omega))
    · intro l hl
      simp only [spec_l12Deep_j53]
      refine OK.loop (Q := fun l : List Inst => okM 30 l) (fun z : List Inst × Int => 0 ≤ z.2 ∧ z.2 ≤ n ∧ okM (10 + 2 * z.2.toNat) z.1) (fun z => (n - z.2).toNat) ?_ ?_ ?_
      · exact ⟨Int.le_refl _, hn.1, hl⟩
      · rintro ⟨l, i⟩ ⟨i0, i1, hl⟩
        dsimp only at i0 i1 hl
        simp only [spec_l12Deep_s72]
        refine OK.cond (fun hc => ?_) (fun hc => ?_)
        · simp only [decide_eq_true_eq] at hc
          have hl2 := hl.app (okM.two hco (okI_bare 9))
          refine OK.gd (hl2.ap (by omega)) ?_
          have e : IntKind.i64.wrap (i + 1) = i + 1 := w64 (by omega) (by omega)
          rw [e]
          exact OK.mk ⟨⟨by dsimp only; omega, by dsimp only; omega, hl2.up (by dsimp only; omega)⟩, by dsimp only; omega⟩
        · exact OK.mk (hl.up (by omega))
      · intro l hl
        simp only [spec_l12Deep_j68]
        have hl2 := hl.app (okM.two hco (okI_bare 11))
        exact OK.gd (hl2.ap (by omega)) (OK.mk (hl2.up (by omega)))
end Go.AM
