/- The optimiser keeps edges: lists. Conditions: none. -/
import Derived.Test.YtbmoclfnkefomaaDoorAmPuPe
set_option linter.unusedSimpArgs false
set_option linter.unusedVariables false
namespace Go.AM
open Go
def good (l : List Inst) : Prop := (∀ i ∈ l, Jk i) ∧ l.length ≤ 1000
/-- A rule that fits: how many are taken, and what takes their place. -/
def PS (l : List Inst) (x : List Inst × Int) : Prop := x.2 ≤ 0 ∨ (0 < x.2 ∧ x.2 ≤ l.length ∧ (x.1.length : Int) < x.2 ∧ keepL x.1 = keepL (l.take x.2.toNat) ∧ (∀ i ∈ x.1, Jk i) ∧ ∀ i ∈ l.take x.2.toNat, i.Code ≠ 11)
theorem ps_15 {v : Inst} {l : List Inst} (hg : good (v :: l)) : OK (impl_shorter_j15 v (v :: l)) (PS (v :: l)) := by
  have hv := hg.1 v (.head _)
  simp only [impl_shorter_j15]
  refine OK.cond (fun q => ?_) (fun q => ?_)
  · cases l with
    | nil => simp at q
    | cons w l =>
      refine OK.idx (by omega) (by simp; omega) fun y _ hy => ?_
      obtain rfl : w = y := hy
      have hw := hg.1 w (by simp)
      refine OK.mono (q2_51 (c := w.Code) (o := w.One_Op) (a := w.One_Args) hv (fun _ => hw) hw.1) ?_
      rintro ⟨f, m⟩ hx
      rcases hx with hx | ⟨_, h2, h3, h4, h5, h6, h7⟩
      · exact .inl (by show m ≤ 0; have : m = -1 := hx; omega)
      · have h2 : m = 2 := h2
        subst h2
        refine .inr ⟨by show (0 : Int) < 2; omega, by simp; omega, by dsimp only at h3; show (f.length : Int) < 2; omega, h4, h5, fun i hi => ?_⟩
        have hi : i ∈ [v, w] := hi
        simp at hi
        rcases hi with rfl | rfl
        · exact h6
        · exact h7
  · refine OK.mono (q2_51 (c := 0) (o := 0) (a := []) hv (fun h => absurd rfl h) (by simp)) ?_
    rintro ⟨f, m⟩ hx
    rcases hx with hx | ⟨h, _⟩
    · exact .inl (by show m ≤ 0; have : m = -1 := hx; omega)
    · exact absurd rfl h
theorem code_ok {l : List Inst} {i : Int} (h0 : 0 ≤ i) : OK (impl_shorter_1 i l) (fun x => x.2 = l ∧ (x.1 ≠ 0 → i < l.length ∧ (l.getD i.toNat default).Code = x.1)) := by
  unfold impl_shorter_1
  refine OK.cond (fun _ => OK.mk ⟨rfl, fun h => absurd rfl h⟩) (fun q => ?_)
  simp only [decide_eq_false_iff_not] at q
  exact OK.idx h0 (by omega) fun y _ hy => OK.mk ⟨rfl, fun _ => ⟨by omega, by rw [hy]⟩⟩
theorem cloneI {l : List Inst} (h : l.length ≤ 1000000) : slices_Clone_impl_Inst_impl_Inst l = some l := by
  unfold slices_Clone_impl_Inst_impl_Inst
  refine nilq_eq ?_ ?_
  · rw [apOk_of (by omega) (by omega)]; rfl
  · rintro rfl; rfl
theorem ps_8 {v : Inst} {l : List Inst} (hg : good (v :: l)) (b : Bool) (hb : b = true → kp v.One_Op = false ∧ v.Code ≠ 11) : OK (impl_shorter_j8 (v :: l) v b) (PS (v :: l)) := by
  have hv := hg.1 v (.head _)
  have hlen := hg.2
  simp only [impl_shorter_j8]
  refine OK.cond (fun q => ?_) (fun _ => ?_)
  · obtain ⟨b1, b2⟩ := hb q
    refine OK.mk (.inr ⟨by show (0 : Int) < 1; omega, by simp; omega, by show (0 : Int) < 1; omega, ?_, fun i hi => (by cases hi), fun i hi => ?_⟩)
    · show [] = keepL [v]
      rw [keep1, keepI_no b1]
    · have hi : i ∈ [v] := hi
      simp at hi; subst hi; exact b2
  refine OK.cond (fun q => ?_) (fun _ => ps_15 hg)
  simp only [beq_iff_eq] at q
  -- the coils behind
  refine OK.loop (Q := fun z : List Inst × Int => z.1 = v :: l ∧ 1 ≤ z.2 ∧ z.2 ≤ (v :: l).length ∧ ∀ i ∈ ((v :: l).take z.2.toNat).drop 1, i.Code = 10) (fun z : List Inst × Int => z.1 = v :: l ∧ 1 ≤ z.2 ∧ z.2 ≤ (v :: l).length ∧ ∀ i ∈ ((v :: l).take z.2.toNat).drop 1, i.Code = 10) (fun z => ((v :: l).length - z.2).toNat) ⟨rfl, Int.le_refl _, by simp; omega, fun i hi => by simp at hi⟩ ?_ ?_
  · rintro ⟨m, k⟩ ⟨h1, h2, h3, h4⟩
    dsimp only at h1 h2 h3 h4
    subst h1
    simp only [impl_shorter_s23]
    refine OK.bind (code_ok (by omega)) ?_
    rintro ⟨c, m⟩ ⟨rfl, hc⟩
    dsimp only at hc ⊢
    refine OK.cond (fun q1 => ?_) (fun _ => OK.mk ⟨rfl, h2, h3, h4⟩)
    simp only [beq_iff_eq] at q1
    obtain ⟨c1, c2⟩ := hc (by omega)
    rw [w64 (n := k + 1) (by omega) (by omega)]
    refine OK.mk ⟨⟨rfl, by dsimp only; omega, by dsimp only; omega, fun i hi => ?_⟩, by dsimp only; omega⟩
    dsimp only at hi
    rw [take1H (by omega) c1 rfl, List.drop_append_of_le_length (by rw [List.length_take]; omega)] at hi
    rcases List.mem_append.1 hi with hi | hi
    · exact h4 i hi
    · simp only [List.mem_singleton] at hi
      rw [hi, c2, q1]
  · rintro ⟨m, k⟩ ⟨h1, h2, h3, h4⟩
    dsimp only at h1 h2 h3 h4
    subst h1
    simp only [impl_shorter_j21]
    have hco : (((v :: l).take k.toNat).drop (1 : Int).toNat).length = k.toNat - 1 := by rw [List.length_drop, List.length_take, show (1 : Int).toNat = 1 from rfl]; omega
    have hmem : ∀ i ∈ ((v :: l).take k.toNat).drop (1 : Int).toNat, i ∈ v :: l := fun i hi => List.mem_of_mem_take (List.mem_of_mem_drop hi)
    have htk : ∀ w : Inst, k < (v :: l).length → (v :: l).getD k.toNat default = w → (v :: l).take (k + 1).toNat = v :: (((v :: l).take k.toNat).drop (1 : Int).toNat ++ [w]) := by
      intro w hk hw
      rw [take1H (by omega) hk hw]
      have : (v :: l).take k.toNat = v :: ((v :: l).take k.toNat).drop (1 : Int).toNat := by
        rw [show k.toNat = (k.toNat - 1) + 1 by omega, List.take_succ_cons]; rfl
      rw [this]; rfl
    refine OK.prt (by omega) h2 (by omega) ?_
    generalize hC : ((v :: l).take k.toNat).drop (1 : Int).toNat = C at *
    have hv0 : kp v.One_Op = false := kp_of (.inl (hv.2.2.2.1 ⟨by omega, by omega⟩))
    have j41 : ∀ b, (b = true → 0 < C.length ∧ k < (v :: l).length ∧ ((v :: l).getD k.toNat default).Code = 9) → OK (impl_shorter_j41 v k C (v :: l, b)) (PS (v :: l)) := by
      intro b hb
      simp only [impl_shorter_j41]
      refine OK.cond (fun q1 => ?_) (fun _ => ps_15 hg)
      obtain ⟨b0, b1, b2⟩ := hb q1
      rw [cloneI (by omega), Option.bind_some, w64 (n := k + 1) (by omega) (by omega)]
      have hw := hg.1 _ (getD_mem (l := v :: l) (n := k.toNat) (by omega))
      refine OK.mk (.inr ⟨by show 0 < k + 1; omega, by show k + 1 ≤ _; omega, by show (C.length : Int) < k + 1; omega, ?_, fun i hi => hg.1 i (hmem i hi), fun i hi => ?_⟩)
      · show keepL C = keepL ((v :: l).take (k + 1).toNat)
        rw [htk _ b1 rfl, keepL_cons, keepL_app, keep1, keepI_no hv0, keepI_no (kp_of (.inl (hw.2.2.2.1 ⟨by omega, by omega⟩)))]; simp
      · have hi : i ∈ (v :: l).take (k + 1).toNat := hi
        rw [htk _ b1 rfl] at hi
        rcases List.mem_cons.1 hi with rfl | hi
        · omega
        · rcases List.mem_append.1 hi with hi | hi
          · have := h4 i (by rw [show (1 : Int).toNat = 1 from rfl] at hC; rw [hC]; exact hi); omega
          · simp only [List.mem_singleton] at hi; rw [hi]; omega
    have j35 : ∀ b, (b = true → 0 < C.length ∧ k < (v :: l).length ∧ ((v :: l).getD k.toNat default).Code = 8) → OK (impl_shorter_j35 v k C (v :: l, b)) (PS (v :: l)) := by
      intro b hb
      simp only [impl_shorter_j35]
      refine OK.cond (fun q1 => ?_) (fun _ => ?_)
      · obtain ⟨b0, b1, b2⟩ := hb q1
        rw [cloneI (by omega), Option.bind_some, w64 (n := k + 1) (by omega) (by omega)]
        have hw := hg.1 _ (getD_mem (l := v :: l) (n := k.toNat) (by omega))
        refine OK.gd (apOk_of (by simp; omega) (by simp; omega)) (OK.gd (apOk_of (by simp) (by simp)) ?_)
        refine OK.mk (.inr ⟨by show 0 < k + 1; omega, by show k + 1 ≤ _; omega, by show ((C ++ [v]).length : Int) < k + 1; simp; omega, ?_, fun i hi => ?_, fun i hi => ?_⟩)
        · show keepL (C ++ [v]) = keepL ((v :: l).take (k + 1).toNat)
          rw [htk _ b1 rfl, keepL_cons, keepL_app, keepL_app, keep1, keep1, keepI_no hv0, keepI_no (kp_of (.inl (hw.2.2.2.1 ⟨by omega, by omega⟩)))]; simp
        · rcases List.mem_append.1 hi with hi | hi
          · exact hg.1 i (hmem i hi)
          · simp at hi; subst hi; exact hv
        · have hi : i ∈ (v :: l).take (k + 1).toNat := hi
          rw [htk _ b1 rfl] at hi
          rcases List.mem_cons.1 hi with rfl | hi
          · omega
          · rcases List.mem_append.1 hi with hi | hi
            · have := h4 i (by rw [show (1 : Int).toNat = 1 from rfl] at hC; rw [hC]; exact hi); omega
            · simp only [List.mem_singleton] at hi; rw [hi]; omega
      · refine OK.cond (fun q2 => ?_) (fun _ => j41 false (fun h => by cases h))
        simp only [decide_eq_true_eq] at q2
        refine OK.bind (code_ok (by omega)) ?_
        rintro ⟨c, m⟩ ⟨rfl, hc⟩
        refine j41 _ fun h => ?_
        simp only [beq_iff_eq] at h
        dsimp only at hc
        obtain ⟨c1, c2⟩ := hc (by omega)
        exact ⟨by omega, c1, by rw [c2, h]⟩
    refine OK.cond (fun q2 => ?_) (fun _ => j35 false (fun h => by cases h))
    simp only [decide_eq_true_eq] at q2
    refine OK.bind (code_ok (by omega)) ?_
    rintro ⟨c, m⟩ ⟨rfl, hc⟩
    refine j35 _ fun h => ?_
    simp only [beq_iff_eq] at h
    dsimp only at hc
    obtain ⟨c1, c2⟩ := hc (by omega)
    exact ⟨by omega, c1, by rw [c2, h]⟩
theorem shorter_ok {l : List Inst} (hg : good l) (h0 : 0 < l.length) : OK (impl_shorter l) (PS l) := by
  cases l with
  | nil => simp at h0
  | cons v l =>
    have hv := hg.1 v (.head _)
    unfold impl_shorter
    refine OK.idx (by omega) (by simp) fun y _ hy => ?_
    obtain rfl : v = y := hy
    refine OK.cond (fun q => ?_) (fun _ => ?_)
    · simp only [beq_iff_eq] at q
      refine OK.bind (pSure_ok _ hv.1) ?_
      intro s hs
      refine OK.cond (fun q1 => ?_) (fun _ => ?_)
      · simp only [beq_iff_eq] at q1
        exact ps_8 hg true fun _ => ⟨hs (.inl q1), by omega⟩
      · refine OK.cond (fun q2 => ?_) (fun _ => ps_8 hg false (fun h => by cases h))
        simp only [beq_iff_eq] at q2
        omega
    · refine OK.cond (fun q => ?_) (fun _ => ps_8 hg false (fun h => by cases h))
      simp only [beq_iff_eq] at q
      refine OK.bind (pSure_ok _ hv.1) ?_
      intro s hs
      exact ps_8 hg _ fun h => ⟨hs (.inr (by simpa using h)), by omega⟩
end Go.AM
