/- What is ok: coils and instructions; the program says the same as the reference. Conditions: none. -/
import Derived.Test.YtbmoclfnkefomaaDoorAmPuH
set_option linter.unusedSimpArgs false
set_option linter.unusedVariables false
namespace Go.AM
open Go
theorem sCoil (e : Elem) (hl : e.Args.length ≤ 1000000) : spec_ElemIsCoil e = some (isCoil e.Op e.Args) := by
  obtain ⟨o, l⟩ := e
  dsimp only at hl
  unfold spec_ElemIsCoil isCoil
  simp only [sArity, Option.bind_some, sKind]
  obtain ⟨_, f2, _, f4, f5, f6, f7⟩ := arity_facts o
  by_cases h1 : o < 21
  · have : ¬ 21 ≤ o := by omega
    simp [h1, this]
  by_cases h2 : o > 37
  · have : ¬ o ≤ 37 := by omega
    simp [h1, h2, this]
  by_cases h3 : (l.length : Int) = arity o
  · have g1 : 21 ≤ o := by omega
    have g2 : o ≤ 37 := by omega
    have hl0 : 0 < l.length := by have := f2 g1 g2; omega
    have i0 := idx0 hl0
    have i1 : 24 ≤ o → o ≠ 25 → idx l 1 = some (a1 l) := fun q1 q2 => idx1 (by
      rcases (by omega : o = 24 ∨ (26 ≤ o ∧ o ≤ 30) ∨ (31 ≤ o ∧ o ≤ 35) ∨ (36 ≤ o ∧ o ≤ 37)) with q | q | q | q
      · have := f4 q; omega
      · have := f5 q.1 q.2; omega
      · have := f6 q.1 q.2; omega
      · have := f7 q.1 q.2; omega)
    have hc := sCalc o l hl0 hl
    simp only [h1, h2, h3, g1, g2, i0, decide_true, decide_false, cond_false, bne_self_eq_false, Option.bind_some, Bool.true_and, beq_self_eq_true]
    have cases_o : o = 21 ∨ o = 22 ∨ o = 23 ∨ o = 24 ∨ o = 25 ∨ o = 26 ∨ o = 27 ∨ o = 28 ∨ o = 29 ∨ o = 36 ∨ o = 37 ∨ (30 ≤ o ∧ o ≤ 35) := by omega
    rcases cases_o with rfl | rfl | rfl | rfl | rfl | rfl | rfl | rfl | rfl | rfl | rfl | ⟨q1, q2⟩
    · rfl
    · cases kind2 (a0 l) 2 3 <;> rfl
    · cases kind2 (a0 l) 2 3 <;> cases kind2 (a0 l) 4 7 <;> rfl
    · have := i1 (by omega) (by omega); simp [this]; cases kind2 (a0 l) 2 3 <;> rfl
    · rfl
    · have := i1 (by omega) (by omega); simp [spec_ElemIsCoil_j47, this, sKind]; cases kind2 (a0 l) 7 7 <;> cases kind2 (a1 l) 11 11 <;> simp
    · have := i1 (by omega) (by omega); simp [spec_ElemIsCoil_j47, this, sKind]; cases kind2 (a0 l) 7 7 <;> cases kind2 (a1 l) 11 11 <;> simp
    · have := i1 (by omega) (by omega); simp [spec_ElemIsCoil_j47, this, sKind]; cases kind2 (a0 l) 7 7 <;> cases kind2 (a1 l) 11 11 <;> simp
    · have := i1 (by omega) (by omega); simp [spec_ElemIsCoil_j47, this, sKind]; cases kind2 (a0 l) 8 8 <;> cases kind2 (a1 l) 11 11 <;> simp
    · have := i1 (by omega) (by omega); simp [spec_ElemIsCoil_j47, this, sKind, sWhole]; cases kind2 (a0 l) 10 10 <;> rfl
    · have := i1 (by omega) (by omega); simp [spec_ElemIsCoil_j47, this, sKind, sReal]; cases kind2 (a0 l) 9 9 <;> rfl
    · have e : ∀ k : Int, k < 30 ∨ 35 < k → (o == k) = false := fun k hk => by simp; omega
      have e2 : ∀ k : Int, k < 30 ∨ 35 < k → ¬ o = k := fun k hk => by omega
      simp [spec_ElemIsCoil_j47, e, e2, hc]
  · have h4 : ((l.length : Int) == arity o) = false := by simpa using h3
    simp only [h1, h2, bne, h4, decide_false, Bool.not_false, cond_true, cond_false, Bool.and_false, Bool.false_and]
theorem sListOk (i : Inst) (hl : i.One_Args.length ≤ 1000000) : spec_ListOk i = some (listOk i) := by
  unfold spec_ListOk listOk
  simp only [sContact, sCoil ⟨i.One_Op, i.One_Args⟩ hl, Option.bind_some]
  by_cases h1 : i.Code < 1
  · have : ¬ 1 ≤ i.Code := by omega
    simp [h1, this]
  by_cases h2 : i.Code > 11
  · have : ¬ i.Code ≤ 11 := by omega
    simp [h1, h2, this]
  have g1 : 1 ≤ i.Code := by omega
  have g2 : i.Code ≤ 11 := by omega
  simp only [h1, h2, g1, g2, decide_true, decide_false, Bool.or_self, cond_false, Bool.true_and]
  by_cases h3 : i.Code ≤ 3
  · simp [h3]
  · by_cases h4 : i.Code = 10
    · simp [h4]
    · have : (i.Code == 10) = false := by simpa using h4
      simp [h3, h4, this]
-- the program's
theorem iIn (a b c : Int) : impl_in a b c = some (decide (b ≤ a) && decide (a ≤ c)) := rfl
theorem iArity (k : Int) : impl_ElemArity k = some (arity k) := by
  unfold impl_ElemArity impl_ElemArity_j5 impl_ElemArity_j29 arity
  simp only [Bool.cond_eq_ite, iIn, Option.bind_some]
  grind (splits := 60)
theorem devSz_at (k : Int) (h0 : 1 ≤ k) (h1 : k ≤ 10) : idx pt_devSizes k = some (devSz k) := by
  have : k = 1 ∨ k = 2 ∨ k = 3 ∨ k = 4 ∨ k = 5 ∨ k = 6 ∨ k = 7 ∨ k = 8 ∨ k = 9 ∨ k = 10 := by omega
  rcases this with rfl | rfl | rfl | rfl | rfl | rfl | rfl | rfl | rfl | rfl <;> rfl
theorem devSz_out {k : Int} (h : k < 1 ∨ 10 < k) : devSz k = 0 := by unfold devSz; (repeat' split) <;> omega
theorem iDevSize (k : Int) : impl_DevSize k = some (devSz k) := by
  unfold impl_DevSize
  simp only [iIn, Option.bind_some]
  by_cases h : 1 ≤ k ∧ k ≤ 10
  · simp [h.1, h.2, devSz_at k h.1 h.2]
  · have : (decide (1 ≤ k) && decide (k ≤ 10)) = false := by simpa using h
    rw [this, devSz_out (by omega)]; rfl
theorem iDevOk (d : DevArg) : impl_DevOk d = some (devOk d) := by
  unfold impl_DevOk devOk
  have e : IntKind.i64.wrap (((pt_devWords).length : Int) - 1) = 3 := by decide
  simp only [Bool.cond_eq_ite, iDevSize, iIn, Option.bind_some, e]
  grind
theorem iIndex (l : List Int) (v : Int) (hl : l.length ≤ 1000000) : OK (slices_Index_int_int l v) (fun i => (decide (0 ≤ i)) = l.contains v) := by
  unfold slices_Index_int_int
  refine OK.loop (Q := fun b : Int ⊕ Unit => Sum.elim (fun i => 0 ≤ i ∧ l.contains v = true) (fun _ => l.contains v = false) b) (fun i : Int => 0 ≤ i ∧ i ≤ l.length ∧ (l.drop i.toNat).contains v = l.contains v) (fun i : Int => (l.length - i).toNat) ?_ ?_ ?_
  · exact ⟨Int.le_refl _, by omega, rfl⟩
  · rintro i ⟨i0, i1, he⟩
    simp only [slices_Index_int_int_s7]
    refine OK.cond (fun hc => ?_) (fun hc => ?_)
    · simp only [decide_eq_true_eq] at hc
      rw [drop_at i0 hc, List.contains_cons] at he
      refine OK.idx i0 hc fun x _ hx => ?_
      rw [hx] at he
      refine OK.cond (fun hv => ?_) (fun hv => ?_)
      · rw [hv, Bool.true_or] at he
        exact OK.mk ⟨i0, he.symm⟩
      · rw [hv, Bool.false_or] at he
        have e : IntKind.i64.wrap (i + 1) = i + 1 := w64 (by omega) (by omega)
        rw [e]
        exact OK.mk ⟨⟨by omega, by omega, he⟩, by omega⟩
    · simp only [decide_eq_false_iff_not] at hc
      have : i = l.length := by omega
      subst this
      rw [drop_end] at he
      exact OK.mk he.symm
  · intro b hb
    cases b with
    | inl i => exact OK.mk (by simp only [Sum.elim_inl] at hb; simp [hb.1]; simpa using hb.2)
    | inr u => exact OK.mk (by simp only [Sum.elim_inr] at hb; rw [hb]; rfl)
theorem iContains (l : List Int) (v : Int) (hl : l.length ≤ 1000000) : slices_Contains_int_int l v = some (l.contains v) := by
  refine OK.eq ?_
  unfold slices_Contains_int_int
  refine OK.bind (iIndex l v hl) ?_
  intro i hi
  exact OK.mk hi
theorem iKindIs (d : DevArg) (l : List Int) (hl : l.length ≤ 1000000) : impl_DevArg_kindIs d l = some (devOk d && l.contains d.Kind) := by
  unfold impl_DevArg_kindIs
  simp only [iDevOk, Option.bind_some, iContains _ _ hl]
  cases devOk d <;> rfl
theorem devOk_k {d : DevArg} (h : devOk d = true) : 1 ≤ d.Kind ∧ d.Kind ≤ 13 := by
  unfold devOk devSz at h
  grind
theorem iBit (d : DevArg) : impl_DevIsBit d = some (isBit d) := by
  unfold impl_DevIsBit
  simp only [iKindIs d [1, 2, 3, 4, 6, 7, 8] (by simp), Option.bind_some]
  congr 1
  unfold isBit
  cases h : devOk d with
  | false => rfl
  | true => have := devOk_k h; simp; grind
theorem iWhole (d : DevArg) : impl_DevIsWhole d = some (isWhole d) := by
  unfold impl_DevIsWhole
  simp only [iKindIs d [7, 8, 9, 11] (by simp), Option.bind_some]
  congr 1
  unfold isWhole
  cases h : devOk d with
  | false => rfl
  | true => simp; grind
theorem iReal (d : DevArg) : impl_DevIsReal d = some (isReal d) := by
  unfold impl_DevIsReal
  simp only [iKindIs d [10, 12, 13] (by simp), Option.bind_some]
  congr 1
  unfold isReal
  cases h : devOk d with
  | false => rfl
  | true => simp; grind
theorem any_search {f : Int → Option (Int ⊕ (Int ⊕ Unit))} {l : List DevArg} {p : DevArg → Bool} (hl : l.length ≤ 1000000)
    (hf : ∀ i : Int, 0 ≤ i → i < l.length → f i = some (if p (l.getD i.toNat default) then .inr (.inl i) else .inl (i + 1))) (he : f l.length = some (.inr (.inr ()))) :
    OK ((loop f 0).bind (Sum.elim (fun v => some v) (fun _ => some (-1)))) (fun i => decide (0 ≤ i) = l.any p) := by
  refine OK.loop (Q := fun b : Int ⊕ Unit => Sum.elim (fun i => 0 ≤ i ∧ l.any p = true) (fun _ => l.any p = false) b) (fun i : Int => 0 ≤ i ∧ i ≤ l.length ∧ (l.drop i.toNat).any p = l.any p) (fun i : Int => (l.length - i).toNat) ?_ ?_ ?_
  · exact ⟨Int.le_refl _, by omega, rfl⟩
  · rintro i ⟨i0, i1, hh⟩
    by_cases hi : i < l.length
    · rw [hf i i0 hi]
      rw [drop_at i0 hi, List.any_cons] at hh
      cases hp : p (l.getD i.toNat default) with
      | true => rw [hp, Bool.true_or] at hh; exact OK.mk ⟨i0, hh.symm⟩
      | false => rw [hp, Bool.false_or] at hh; exact OK.mk ⟨⟨by omega, by omega, hh⟩, by omega⟩
    · have : i = l.length := by omega
      subst this
      rw [he]
      rw [drop_end] at hh
      exact OK.mk hh.symm
  · intro b hb
    cases b with
    | inl i => exact OK.mk (by simp only [Sum.elim_inl] at hb; simp [hb.1]; simpa using hb.2)
    | inr u => exact OK.mk (by simp only [Sum.elim_inr] at hb; rw [hb]; rfl)
theorem any_all (l : List DevArg) (p : DevArg → Bool) : (!(l.any fun d => !p d)) = l.all p := by
  induction l with
  | nil => rfl
  | cons d l ih => simp only [List.any_cons, List.all_cons, ← ih]; cases p d <;> simp
theorem iAllW (l : List DevArg) (hl : l.length ≤ 1000000) : impl_all_fimpl_DevIsWhole l = some (l.all isWhole) := by
  refine OK.eq ?_
  unfold impl_all_fimpl_DevIsWhole slices_ContainsFunc_impl_DevArg_impl_DevArg_fimpl_all_1_impl_DevIsWhole slices_IndexFunc_impl_DevArg_impl_DevArg_fimpl_all_1_impl_DevIsWhole
  refine OK.bind (Q := fun b : Bool => b = l.any fun d => !isWhole d) ?_ ?_
  · refine OK.bind (Q := fun i : Int => decide (0 ≤ i) = l.any fun d => !isWhole d) (any_search (p := fun d => !isWhole d) hl ?_ ?_) ?_
    · intro i i0 i1
      have e : IntKind.i64.wrap (i + 1) = i + 1 := w64 (by omega) (by omega)
      simp only [slices_IndexFunc_impl_DevArg_impl_DevArg_fimpl_all_1_impl_DevIsWhole_s7, i1, decide_true, cond_true, idx_eq i0 i1, Option.bind_some, impl_all_1_fimpl_DevIsWhole, iWhole, e]
      cases isWhole (l.getD i.toNat default) <;> rfl
    · simp [slices_IndexFunc_impl_DevArg_impl_DevArg_fimpl_all_1_impl_DevIsWhole_s7]
    · intro i hi; exact OK.mk hi
  · rintro b rfl; exact OK.mk (any_all l isWhole)
theorem iAllR (l : List DevArg) (hl : l.length ≤ 1000000) : impl_all_fimpl_DevIsReal l = some (l.all isReal) := by
  refine OK.eq ?_
  unfold impl_all_fimpl_DevIsReal slices_ContainsFunc_impl_DevArg_impl_DevArg_fimpl_all_1_impl_DevIsReal slices_IndexFunc_impl_DevArg_impl_DevArg_fimpl_all_1_impl_DevIsReal
  refine OK.bind (Q := fun b : Bool => b = l.any fun d => !isReal d) ?_ ?_
  · refine OK.bind (Q := fun i : Int => decide (0 ≤ i) = l.any fun d => !isReal d) (any_search (p := fun d => !isReal d) hl ?_ ?_) ?_
    · intro i i0 i1
      have e : IntKind.i64.wrap (i + 1) = i + 1 := w64 (by omega) (by omega)
      simp only [slices_IndexFunc_impl_DevArg_impl_DevArg_fimpl_all_1_impl_DevIsReal_s7, i1, decide_true, cond_true, idx_eq i0 i1, Option.bind_some, impl_all_1_fimpl_DevIsReal, iReal, e]
      cases isReal (l.getD i.toNat default) <;> rfl
    · simp [slices_IndexFunc_impl_DevArg_impl_DevArg_fimpl_all_1_impl_DevIsReal_s7]
    · intro i hi; exact OK.mk hi
  · rintro b rfl; exact OK.mk (any_all l isReal)
theorem iNumbers (l : List DevArg) (hl : l.length ≤ 1000000) : impl_numbers l = some (l.all isWhole || l.all isReal) := by
  unfold impl_numbers
  simp only [iAllW l hl, iAllR l hl, Option.bind_some]
  cases l.all isWhole <;> rfl
theorem all2 (l : List DevArg) (p : DevArg → Bool) (h : l.length = 2) : l.all p = (p (a0 l) && p (a1 l)) := by
  match l, h with
  | [a, b], _ => simp [a0, a1]
theorem iContact (e : Elem) (hl : e.Args.length ≤ 1000000) : impl_ElemIsContact e = some (isContact e.Op e.Args) := by
  obtain ⟨o, l⟩ := e
  dsimp only at hl
  unfold impl_ElemIsContact isContact
  simp only [iIn, iArity, Option.bind_some]
  obtain ⟨f1, _, f3, _⟩ := arity_facts o
  by_cases h1 : 1 ≤ o ∧ o ≤ 10
  · obtain ⟨g1, g2⟩ := h1
    simp only [g1, g2, decide_true, Bool.and_self, cond_true, Bool.true_and]
    by_cases h3 : (l.length : Int) = arity o
    · have i0 := idx0 (l := l) (by have := f1 g1 g2; omega)
      simp only [h3, bne_self_eq_false, cond_false, beq_self_eq_true, Bool.true_and]
      have : o = 1 ∨ o = 2 ∨ o = 3 ∨ o = 4 ∨ 5 ≤ o := by omega
      rcases this with rfl | rfl | rfl | rfl | h5
      · simp [impl_ElemIsContact_j15, i0, iBit]
      · simp [impl_ElemIsContact_j15, i0, iBit]
      · have i1 := idx1 (l := l) (by have := f3 (by omega) g2; omega)
        simp [impl_ElemIsContact_j15, impl_ElemIsContact_j25, i0, i1, iBit, iKindIs]
        cases isBit (a0 l) <;> simp <;> rfl
      · have i1 := idx1 (l := l) (by have := f3 (by omega) g2; omega)
        simp [impl_ElemIsContact_j15, impl_ElemIsContact_j25, i0, i1, iBit, iKindIs]
        cases isBit (a0 l) <;> simp <;> rfl
      · have e : ∀ k : Int, k < 5 → (o == k) = false := fun k hk => by simp; omega
        have e1 : ¬ o ≤ 2 := by omega
        have e2 : ¬ o ≤ 4 := by omega
        have hl2 : l.length = 2 := by have := f3 (by omega) g2; omega
        simp [impl_ElemIsContact_j15, impl_ElemIsContact_j25, e, e1, e2, iNumbers l hl, all2 l _ hl2]
    · have h4 : ((l.length : Int) == arity o) = false := by simpa using h3
      simp [bne, h4]
  · have : (decide (1 ≤ o) && decide (o ≤ 10)) = false := by simpa using h1
    simp only [this, cond_false, Bool.false_and]
theorem iCoil1 (l : List DevArg) (h : 0 < l.length) : impl_ElemIsCoil_1 l = some (kind2 (a0 l) 11 11 && decide (0 ≤ (a0 l).N), l) := by
  unfold impl_ElemIsCoil_1 kind2
  simp only [idx0 h, Option.bind_some, iKindIs (a0 l) [11] (by simp)]
  cases devOk (a0 l) <;> simp
  cases h : ((a0 l).Kind == 11) <;> simp_all
theorem iKind1 (d : DevArg) (k : Int) : impl_DevArg_kindIs d [k] = some (kind2 d k k) := by
  rw [iKindIs d [k] (by simp)]; unfold kind2; simp; rfl
theorem iKindD (d : DevArg) (k j : Int) : impl_DevArg_kindIs d [k, j] = some (kind2 d k j) := by
  rw [iKindIs d [k, j] (by simp)]; unfold kind2; simp; rfl
theorem iCoil (e : Elem) (hl : e.Args.length ≤ 1000000) : impl_ElemIsCoil e = some (isCoil e.Op e.Args) := by
  obtain ⟨o, l⟩ := e
  dsimp only at hl
  unfold impl_ElemIsCoil isCoil
  simp only [iIn, iArity, Option.bind_some]
  obtain ⟨_, f2, _, f4, f5, f6, f7⟩ := arity_facts o
  by_cases h1 : 21 ≤ o ∧ o ≤ 37
  · obtain ⟨g1, g2⟩ := h1
    simp only [g1, g2, decide_true, Bool.and_self, cond_true, Bool.true_and]
    by_cases h3 : (l.length : Int) = arity o
    · have hl0 : 0 < l.length := by have := f2 g1 g2; omega
      have i0 := idx0 hl0
      have ht : prtL l 1 = some l.tail := by
        have : (1 : Int) ≤ l.length := by omega
        unfold prtL; simp [this, List.drop_one]
      have hl1 : 24 ≤ o → o ≠ 25 → 1 < l.length := fun q1 q2 => by
        rcases (by omega : o = 24 ∨ (26 ≤ o ∧ o ≤ 30) ∨ (31 ≤ o ∧ o ≤ 35) ∨ (36 ≤ o ∧ o ≤ 37)) with q | q | q | q
        · have := f4 q; omega
        · have := f5 q.1 q.2; omega
        · have := f6 q.1 q.2; omega
        · have := f7 q.1 q.2; omega
      have i1 : 24 ≤ o → o ≠ 25 → idx l.tail 0 = some (a1 l) := fun q1 q2 => by
        have := hl1 q1 q2
        match l, this with
        | a :: b :: r, _ => rw [idx_eq (by omega) (by simp)]; rfl
      have c1 : 24 ≤ o → o ≠ 25 → impl_ElemIsCoil_1 l.tail = some (kind2 (a1 l) 11 11 && decide (0 ≤ (a1 l).N), l.tail) := fun q1 q2 => by
        have := hl1 q1 q2
        rw [iCoil1 l.tail (by simp; omega)]
        match l, this with
        | a :: b :: r, _ => rfl
      have hw := iAllW l.tail (by simp; omega)
      have hr := iAllR l.tail (by simp; omega)
      simp only [h3, bne_self_eq_false, cond_false, beq_self_eq_true, Bool.true_and, i0, ht, Option.bind_some]
      have cases_o : o = 21 ∨ o = 22 ∨ o = 23 ∨ o = 24 ∨ o = 25 ∨ o = 26 ∨ o = 27 ∨ o = 28 ∨ o = 29 ∨ o = 36 ∨ o = 37 ∨ o = 35 ∨ (30 ≤ o ∧ o ≤ 34) := by omega
      rcases cases_o with rfl | rfl | rfl | rfl | rfl | rfl | rfl | rfl | rfl | rfl | rfl | rfl | ⟨q1, q2⟩
      · simp [iKindD]
      · simp [iKindIs, kind2]; grind
      · simp [iKindIs, kind2]; grind
      · simp [i1, iKindD, iKind1]; cases kind2 (a0 l) 2 3 <;> rfl
      · simp [iKind1]
      · simp [impl_ElemIsCoil_j49, iKind1, c1]; cases kind2 (a0 l) 7 7 <;> simp
      · simp [impl_ElemIsCoil_j49, iKind1, c1]; cases kind2 (a0 l) 7 7 <;> simp
      · simp [impl_ElemIsCoil_j49, iKind1, c1]; cases kind2 (a0 l) 7 7 <;> simp
      · simp [impl_ElemIsCoil_j49, iKind1, c1]; cases kind2 (a0 l) 8 8 <;> simp
      · simp [impl_ElemIsCoil_j49, iKind1, i1, iWhole]; cases kind2 (a0 l) 10 10 <;> rfl
      · simp [impl_ElemIsCoil_j49, iKind1, i1, iReal]; cases kind2 (a0 l) 9 9 <;> rfl
      · simp [impl_ElemIsCoil_j49, iKind1, hw, calcB, kind2]; grind
      · have e : ∀ k : Int, k < 30 ∨ 34 < k → (o == k) = false := fun k hk => by simp; omega
        have e2 : ∀ k : Int, k < 30 ∨ 34 < k → ¬ o = k := fun k hk => by omega
        simp [impl_ElemIsCoil_j49, e, e2, iKind1, hw, hr, calcB, kind2]; grind
    · have h4 : ((l.length : Int) == arity o) = false := by simpa using h3
      simp [bne, h4]
  · have : (decide (21 ≤ o) && decide (o ≤ 37)) = false := by simpa using h1
    simp only [this, cond_false, Bool.false_and]
theorem iListOk (i : Inst) (hl : i.One_Args.length ≤ 1000000) : impl_ListOk i = some (listOk i) := by
  unfold impl_ListOk listOk impl_Elem_bare
  simp only [iContact ⟨i.One_Op, i.One_Args⟩ hl, iCoil ⟨i.One_Op, i.One_Args⟩ hl, iIn, Option.bind_some]
  by_cases h1 : 1 ≤ i.Code
  · by_cases h3 : i.Code ≤ 3
    · have : i.Code ≤ 11 := by omega
      simp [h1, h3, this]
    · by_cases h4 : i.Code = 10
      · simp [h4]
      · have q : (i.Code == 10) = false := by simpa using h4
        have r : 4 ≤ i.Code := by omega
        by_cases h5 : i.Code ≤ 11 <;> simp [h1, h3, h4, q, r, h5]
  · have q : (i.Code == 10) = false := by simp; omega
    have r : ¬ 4 ≤ i.Code := by omega
    simp [h1, q, r]
end Go.AM
