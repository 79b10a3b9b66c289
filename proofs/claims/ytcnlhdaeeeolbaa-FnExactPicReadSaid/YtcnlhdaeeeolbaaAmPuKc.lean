/- Copies of lists and lists that are the same. Conditions: none. -/
import Derived.Test.YtcnlhdaeeeolbaaAmPuB
set_option linter.unusedSimpArgs false
set_option linter.unusedVariables false
namespace Go.AM
open Go
def okArgs (l : List Inst) : Prop := ∀ i ∈ l, i.One_Args.length ≤ 1000
theorem iClone (l : List DevArg) (h : l.length ≤ 100000) : impl_clone_impl_DevArg l = some l := by
  unfold impl_clone_impl_DevArg slices_Clone_impl_DevArg_impl_DevArg slices_Clip_impl_DevArg_impl_DevArg
  have e1 : nilq l (fun v2 => cond v2 (some []) (gd (apOk l.length 24) (some l))) = some l := by
    refine nilq_eq ?_ ?_
    · rw [apOk_of (by omega) (by omega)]; rfl
    · rintro rfl; rfl
  have e2 : prtH l l.length = some l := by unfold prtH; simp
  rw [e1, Option.bind_some]
  first | (rw [e2]; rfl) | simp [gd]
theorem iCopyE (e : Elem) (h : e.Args.length ≤ 100000) : impl_Elem_copyOf e = some e := by
  unfold impl_Elem_copyOf; rw [iClone _ h]; rfl
theorem take_set {α : Type} [Inhabited α] {o l : List α} {i : Nat} (h1 : i < o.length) (h2 : i < l.length) (h : o.take i = l.take i) : (o.set i (l.getD i default)).take (i + 1) = l.take (i + 1) := by
  rw [List.take_succ_eq_append_getElem (by simpa using h1), List.take_set, h, List.set_eq_of_length_le (by simp; omega), List.take_succ_eq_append_getElem h2]
  simp [List.getD, h2]
theorem iCopyList (l : List Inst) (hl : okArgs l) (hl2 : l.length ≤ 1000000) : impl_copyList l = some l := by
  refine OK.eq ?_
  unfold impl_copyList
  refine OK.gd (mkOk_of (by omega) (Int.le_refl _) (by omega) (by omega)) ?_
  refine OK.loop (Q := fun b : List Inst => b = l) (fun z : List Inst × Int => 0 ≤ z.2 ∧ z.2 ≤ l.length ∧ z.1.length = l.length ∧ z.1.take z.2.toNat = l.take z.2.toNat) (fun z => (l.length - z.2).toNat) ?_ ?_ ?_
  · exact ⟨Int.le_refl _, by dsimp only; omega, by simp, by simp⟩
  · rintro ⟨o, i⟩ ⟨i0, i1, ho, he⟩
    dsimp only at i0 i1 ho he
    simp only [impl_copyList_s9]
    refine OK.cond (fun hi => ?_) (fun hi => ?_)
    · simp only [decide_eq_true_eq] at hi
      have hm := getD_mem (l := l) (n := i.toNat) (by omega)
      have hh := hl _ hm
      first
        | rw [idx_eq (l := l) i0 hi, Option.bind_some, iCopyE _ (by dsimp only; omega), Option.bind_some, idx_eq (l := o) i0 (by omega), Option.bind_some]
        | rw [idx_eq (l := o) i0 (by omega), Option.bind_some, idx_eq (l := l) i0 hi, Option.bind_some, iCopyE _ (by dsimp only; omega), Option.bind_some, Option.bind_some]
      have e : IntKind.i64.wrap (i + 1) = i + 1 := w64 (by omega) (by omega)
      rw [e]
      refine OK.mk ⟨⟨by dsimp only; omega, by dsimp only; omega, by simpa using ho, ?_⟩, by dsimp only; omega⟩
      dsimp only
      rw [show (i + 1).toNat = i.toNat + 1 by omega]
      exact take_set (by omega) (by omega) he
    · simp only [decide_eq_false_iff_not] at hi
      have : i = l.length := by omega
      subst this
      refine OK.mk ?_
      show o = l
      simp at he
      rw [← he, List.take_of_length_le (by omega)]
  · rintro b rfl; exact OK.mk rfl
theorem same_loop' {n : Nat} {f : Int → Option (Int ⊕ (Unit ⊕ Unit))} (hn : n ≤ 1048576) (h : ∀ i : Int, 0 ≤ i → i < n → f i = some (.inl (IntKind.i64.wrap (i + 1)))) (he : f n = some (.inr (.inr ()))) :
    (loop f 0).bind (Sum.elim (fun _ => some false) (fun _ => some true)) = some true := by
  refine OK.eq ?_
  refine OK.loop (Q := fun b : Unit ⊕ Unit => b = .inr ()) (fun i : Int => 0 ≤ i ∧ i ≤ n) (fun i : Int => (n - i).toNat) ⟨Int.le_refl _, by omega⟩ ?_ ?_
  · rintro i ⟨i0, i1⟩
    by_cases hi : i < n
    · rw [h i i0 hi, w64 (by omega) (by omega)]
      exact OK.mk ⟨⟨by omega, by omega⟩, by omega⟩
    · have : i = n := by omega
      subst this
      rw [he]; exact OK.mk rfl
  · rintro b rfl; exact OK.mk rfl
end Go.AM
