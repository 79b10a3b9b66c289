/- The draws end well: images. Conditions: none. -/
import Derived.Test.YtkafcijfljjlaabAmPuG
set_option linter.unusedSimpArgs false
set_option linter.unusedVariables false
namespace Go.AM
open Go
def by8 (l : List Int) : Prop := ∀ y ∈ l, 0 ≤ y ∧ y < 256
theorem u8w_eq (n : Int) : IntKind.u8.wrap n = n % 256 := by simp [IntKind.wrap, IntKind.bits, IntKind.signed]
theorem u8w (n : Int) : 0 ≤ IntKind.u8.wrap n ∧ IntKind.u8.wrap n < 256 := by rw [u8w_eq]; omega
theorem by8.app {l m : List Int} (h : by8 l) (k : by8 m) : by8 (l ++ m) := fun y hy => by
  rcases List.mem_append.1 hy with q | q
  · exact h y q
  · exact k y q
theorem by8.one (n : Int) : by8 [IntKind.u8.wrap n] := fun y hy => by simp at hy; subst hy; exact u8w n
theorem by8.set {l : List Int} (h : by8 l) (k : Nat) (n : Int) : by8 (l.set k (IntKind.u8.wrap n)) := fun y hy => by
  rcases List.mem_or_eq_of_mem_set hy with q | rfl
  · exact h y q
  · exact u8w n
theorem l11Any_ok {N : Int} {r : l26Rd} (h : G N r) (hN : N ≤ 1000000000) : OK (spec_l11Any r) (fun x => okW 12000 x.1 ∧ G (N + 21000000) x.2) := by
  unfold spec_l11Any
  refine OK.bind (l11Sure_ok h (by omega)) ?_
  rintro ⟨l, r⟩ ⟨g1, hl⟩
  dsimp only at g1 hl
  refine OK.bind (pick_ok g1 (by omega)) ?_
  rintro ⟨m, r⟩ ⟨m1, m2, m3⟩
  dsimp only at m1
  refine OK.cond (fun _ => ?_) (fun _ => ?_)
  · refine OK.bind (l11Spoil_ok m1 (by omega) (hl.up (by omega))) ?_
    rintro ⟨l, r⟩ ⟨q1, q2⟩
    exact OK.mk ⟨q1, q2.up (by omega)⟩
  · exact OK.mk ⟨hl.toW (by omega), m1.up (by omega)⟩
theorem l17Arg_ok {N : Int} {r : l26Rd} (h : G N r) (hN : N ≤ 70000000000) : OK (spec_l17Arg r) (fun x => G (N + 4) x.2) := by
  unfold spec_l17Arg
  repeat' (first
    | (refine OK.mk ?_; (refine G.up (by assumption) ?_; omega))
    | (refine OK.bind (pick_ok (by assumption) (by omega)) ?_; rintro x ⟨_, _, _⟩)
    | (refine OK.bind (num_ok (by assumption) (by omega) (by simp)) ?_; rintro x ⟨_, _⟩)
    | refine OK.cond (fun _ => ?_) (fun _ => ?_))
theorem l17List_ok {N : Int} {r : l26Rd} (h : G N r) (hN : N ≤ 900000000) : OK (spec_l17List r) (fun x => okW 12000 x.1 ∧ G (N + 22000000) x.2) := by
  unfold spec_l17List
  refine OK.bind (pick_ok h (by omega)) ?_
  rintro ⟨m, r⟩ ⟨m1, m2, m3⟩
  dsimp only at m1
  refine OK.cond (fun _ => ?_) (fun _ => ?_)
  · refine OK.bind (l11Any_ok m1 (by omega)) ?_
    rintro ⟨l, r⟩ ⟨q1, q2⟩
    exact OK.mk ⟨q1, q2.up (by omega)⟩
  · refine OK.bind (pick_ok m1 (by omega)) ?_
    rintro ⟨n, r⟩ ⟨n1, n2, n3⟩
    dsimp only at n1 n2 n3
    refine OK.loop (Q := fun z : List Int × Int × List Inst => okM 20 z.2.2 ∧ G (N + 22000000) ⟨z.1, z.2.1⟩) (fun z : List Int × Int × List Inst × Int => 0 ≤ z.2.2.2 ∧ z.2.2.2 ≤ 11 ∧ G (N + 1000 - 50 * z.2.2.2) ⟨z.1, z.2.1⟩ ∧ okM (11 - z.2.2.2).toNat z.2.2.1) (fun z => z.2.2.2.toNat) ?_ ?_ ?_
    · exact ⟨n2, by dsimp only; omega, n1.up (by dsimp only; omega), okM.nil _⟩
    · rintro ⟨b, p, l, i⟩ ⟨i0, i1, hg, hl⟩
      dsimp only at i0 i1 hg hl
      simp only [spec_l17List_s17]
      refine OK.cond (fun hc => ?_) (fun hc => ?_)
      · simp only [decide_eq_true_eq] at hc
        refine OK.bind (l11Inst_ok2 hg (by omega)) ?_
        rintro ⟨x, r⟩ ⟨t1, t2, t3⟩
        dsimp only at t1 t2 t3
        have fin : ∀ (b : List Int) (p : Int) (a : List DevArg), G (N + 1000 - 50 * i + 50) ⟨b, p⟩ → a.length ≤ 5 → OK (spec_l17List_j28 l i (x, r) (b, p, a)) (Sum.elim (fun a' => (0 ≤ a'.2.2.2 ∧ a'.2.2.2 ≤ 11 ∧ G (N + 1000 - 50 * a'.2.2.2) ⟨a'.1, a'.2.1⟩ ∧ okM (11 - a'.2.2.2).toNat a'.2.2.1) ∧ a'.2.2.2.toNat < i.toNat) (fun z : List Int × Int × List Inst => okM 20 z.2.2 ∧ G (N + 22000000) ⟨z.1, z.2.1⟩)) := by
          intro b p a hg ha
          simp only [spec_l17List_j28]
          have hl2 := hl.app (okM.one (i := ⟨x.Code, x.One_Op, a⟩) (by simpa [okI] using ha))
          refine OK.gd (hl2.ap (by omega)) ?_
          have e : IntKind.i64.wrap (i - 1) = i - 1 := w64 (by omega) (by omega)
          rw [e]
          exact OK.mk ⟨⟨by dsimp only; omega, by dsimp only; omega, hg.up (by dsimp only; omega), hl2.up (by dsimp only; omega)⟩, by dsimp only; omega⟩
        have hx5 : x.One_Args.length ≤ 5 := t2
        refine OK.bind (Q := fun b => b = true → 1 ≤ x.One_Args.length) ?_ ?_
        · unfold spec_l17Has
          refine OK.mk fun hh => ?_
          simp only [Bool.or_eq_true, beq_iff_eq] at hh
          rcases Nat.eq_zero_or_pos x.One_Args.length with q | q
          · have := t3 q; omega
          · exact q
        · intro hb hbt
          refine OK.cond (fun hb1 => ?_) (fun _ => fin _ _ _ (t1.up (by omega)) hx5)
          have h1 := hbt hb1
          refine OK.bind (pick_ok t1 (by omega)) ?_
          rintro ⟨u, r⟩ ⟨u1, _, _⟩
          dsimp only at u1
          refine OK.cond (fun _ => ?_) (fun _ => fin _ _ _ (u1.up (by omega)) hx5)
          refine OK.gd (apOk_of (by show x.One_Args.length * 24 ≤ _; omega) (by show x.One_Args.length ≤ _; omega)) ?_
          refine OK.bind (pick_ok u1 (by omega)) ?_
          rintro ⟨j, r⟩ ⟨j1, j2, j3⟩
          dsimp only at j1 j2 j3
          refine OK.bind (l17Arg_ok j1 (by omega)) ?_
          rintro ⟨a, r⟩ a1
          dsimp only at a1
          refine OK.idx j2 (j3 (by omega)) fun y _ _ => ?_
          exact fin _ _ _ (a1.up (by omega)) (by simpa using hx5)
      · exact OK.mk ⟨hl.up (by omega), hg.up (by omega)⟩
    · rintro ⟨b, p, l⟩ ⟨hl, hg⟩
      exact OK.mk ⟨hl.toW (by omega), hg⟩
end Go.AM
