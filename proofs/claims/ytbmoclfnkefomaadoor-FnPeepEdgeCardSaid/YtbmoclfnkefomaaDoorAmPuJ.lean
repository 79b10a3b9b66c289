/- The verifier: both packages say the same. Conditions: none. -/
import Derived.Test.YtbmoclfnkefomaaDoorAmPuI
import Derived.Test.YtbmoclfnkefomaaDoorAmPuKc
set_option linter.unusedSimpArgs false
set_option linter.unusedVariables false
namespace Go.AM
open Go
def needs (c : Int) : Int := if c = 1 then 0 else if c = 4 ∨ c = 5 then 2 else 1
def wrongAt (s : l12At) (i : Inst) : Int := if listOk i = false then 2 else if s.bits < needs i.Code then 3 else if i.Code = 1 ∧ s.bits = 16 then 4 else if 7 ≤ i.Code ∧ 1 < s.bits then 5
  else if s.base = true ∧ s.bits = (if i.Code = 5 then 2 else 1) ∧ (i.Code = 3 ∨ i.Code = 6 ∨ i.Code = 5) then 6 else if (i.Code = 7 ∧ s.forks = 8) ∨ ((i.Code = 8 ∨ i.Code = 9) ∧ s.forks = 0) ∨ (i.Code = 11 ∧ 0 < s.forks) then 7
  else if (i.Code = 8 ∨ i.Code = 9 ∨ i.Code = 11) ∧ s.coil = false then 8 else 0
def behB (c b : Int) : Int := if c = 1 then b + 1 else if c = 4 ∨ c = 5 ∨ c = 11 then b - 1 else b
def behF (c f : Int) : Int := if c = 7 then f + 1 else if c = 9 then f - 1 else f
def nextV (s : l12At) (c : Int) : l12At := if c = 11 then ⟨0, 0, false, false⟩ else ⟨behB c s.bits, behF c s.forks, s.base || c == 10 || c == 7, c == 10⟩
def checkFrom : l12At → Int → List Inst → SureFault
  | s, k, [] => if 0 < s.bits then ⟨9, k⟩ else ⟨0, 0⟩
  | s, k, i :: l => if 0 < wrongAt s i then ⟨wrongAt s i, k⟩ else checkFrom (nextV s i.Code) (k + 1) l
def s0 : l12At := ⟨0, 0, false, false⟩
def sureCheck (l : List Inst) : SureFault := if 1000 < l.length then ⟨1, 0⟩ else checkFrom s0 0 l
theorem wrongAt_nn (s : l12At) (i : Inst) : 0 ≤ wrongAt s i := by unfold wrongAt; (repeat' split) <;> omega
theorem right_facts {s : l12At} {i : Inst} (h : wrongAt s i ≤ 0) : needs i.Code ≤ s.bits ∧ ¬ (i.Code = 1 ∧ s.bits = 16) ∧ ¬ (7 ≤ i.Code ∧ 1 < s.bits) ∧ ¬ ((i.Code = 7 ∧ s.forks = 8) ∨ ((i.Code = 8 ∨ i.Code = 9) ∧ s.forks = 0) ∨ (i.Code = 11 ∧ 0 < s.forks)) := by
  unfold wrongAt at h
  (repeat' split at h) <;> first | omega | (refine ⟨by omega, by assumption, by assumption, by assumption⟩)
def okS (s : l12At) : Prop := 0 ≤ s.bits ∧ s.bits ≤ 16 ∧ 0 ≤ s.forks ∧ s.forks ≤ 8
theorem okS_next {s : l12At} {i : Inst} (hs : okS s) (h : wrongAt s i ≤ 0) : okS (nextV s i.Code) := by
  obtain ⟨h1, h2, h3, h4⟩ := right_facts h
  obtain ⟨a, b, c, d⟩ := hs
  unfold okS nextV behB behF
  unfold needs at h1
  grind
theorem s0_ok : okS s0 := by unfold okS s0; simp
theorem sNeeds (c : Int) : spec_l12Needs c = some (needs c) := by
  unfold spec_l12Needs spec_l12Needs_j13 needs; simp only [Bool.cond_eq_ite]; grind
theorem iNeeds (c : Int) : impl_needs c = some (needs c) := by
  unfold impl_needs impl_needs_j13 needs; simp only [Bool.cond_eq_ite]; grind
theorem sWrong (s : l12At) (i : Inst) (h : i.One_Args.length ≤ 1000) : spec_l12Wrong s i = some (wrongAt s i) := by
  unfold spec_l12Wrong spec_l12Wrong_j9 wrongAt
  simp only [sListOk i (by omega), sNeeds, Option.bind_some, Bool.cond_eq_ite]
  grind (splits := 40)
theorem iWrong (s : l12At) (i : Inst) (h : i.One_Args.length ≤ 1000) (hs : okS s) : impl_SureState_wrong ⟨s.bits, s.forks⟩ i s.base s.coil = some (wrongAt s i) := by
  obtain ⟨a, b, c, d⟩ := hs
  unfold impl_SureState_wrong impl_SureState_wrong_j37 wrongAt
  simp only [iListOk i (by omega), iNeeds, Option.bind_some, Bool.cond_eq_ite]
  grind (splits := 40)
theorem sNext (s : l12At) (c : Int) (hs : okS s) : spec_l12Next s c = some (nextV s c) := by
  obtain ⟨h1, h2, h3, h4⟩ := hs
  have e1 : IntKind.i64.wrap (s.bits + 1) = s.bits + 1 := w64 (by omega) (by omega)
  have e2 : IntKind.i64.wrap (s.bits - 1) = s.bits - 1 := w64 (by omega) (by omega)
  have e3 : IntKind.i64.wrap (s.forks + 1) = s.forks + 1 := w64 (by omega) (by omega)
  have e4 : IntKind.i64.wrap (s.forks - 1) = s.forks - 1 := w64 (by omega) (by omega)
  unfold spec_l12Next spec_l12Next_j11 spec_l12Next_j3 nextV behB behF
  simp only [e1, e2, e3, e4, Bool.cond_eq_ite]
  grind
theorem iBehind (b f c : Int) (h1 : 0 ≤ b) (h2 : b ≤ 1000) (h3 : 0 ≤ f) (h4 : f ≤ 1000) : impl_SureState_behind ⟨b, f⟩ c = some ⟨behB c b, behF c f⟩ := by
  have e1 : IntKind.i64.wrap (b + 1) = b + 1 := w64 (by omega) (by omega)
  have e2 : IntKind.i64.wrap (b - 1) = b - 1 := w64 (by omega) (by omega)
  have e3 : IntKind.i64.wrap (f + 1) = f + 1 := w64 (by omega) (by omega)
  have e4 : IntKind.i64.wrap (f - 1) = f - 1 := w64 (by omega) (by omega)
  unfold impl_SureState_behind impl_SureState_behind_j11 impl_SureState_behind_j3 behB behF
  simp only [e1, e2, e3, e4, Bool.cond_eq_ite]
  grind
theorem next_eq {s : l12At} {i : Inst} (hs : okS s) (h : wrongAt s i ≤ 0) : nextV s i.Code = ⟨behB i.Code s.bits, behF i.Code s.forks, (i.Code != 11) && ((s.base || i.Code == 10) || i.Code == 7), i.Code == 10⟩ := by
  obtain ⟨h1, h2, h3, h4⟩ := right_facts h
  obtain ⟨a, b, c, d⟩ := hs
  unfold nextV
  split
  · rename_i e
    rw [e] at h1 h3 h4 ⊢
    unfold needs at h1
    have hb : s.bits = 1 := by simp at h1 h3; omega
    have hf : s.forks = 0 := by simp at h4; omega
    rw [hb, hf]; rfl
  · rename_i e
    have : (i.Code != 11) = true := by simpa using e
    rw [this]; rfl
theorem sSure (l : List Inst) (hl : okArgs l) (hl2 : l.length ≤ 1000000) : spec_SureCheck l = some (sureCheck l) := by
  refine OK.eq ?_
  unfold spec_SureCheck sureCheck
  refine OK.cond (fun hc => ?_) (fun hc => ?_)
  · simp only [decide_eq_true_eq] at hc
    rw [if_pos (by omega)]; exact OK.mk rfl
  · simp only [decide_eq_false_iff_not] at hc
    rw [if_neg (by omega)]
    refine OK.loop (Q := fun b : (Int × Int) ⊕ (Int × Int × Bool × Bool) => checkFrom s0 0 l = Sum.elim (fun v => ⟨v.1, v.2⟩) (fun v => if 0 < v.1 then ⟨9, l.length⟩ else ⟨0, 0⟩) b)
      (fun z : Int × Int × Bool × Bool × Int => okS ⟨z.1, z.2.1, z.2.2.1, z.2.2.2.1⟩ ∧ 0 ≤ z.2.2.2.2 ∧ z.2.2.2.2 ≤ l.length ∧ checkFrom ⟨z.1, z.2.1, z.2.2.1, z.2.2.2.1⟩ z.2.2.2.2 (l.drop z.2.2.2.2.toNat) = checkFrom s0 0 l) (fun z => (l.length - z.2.2.2.2).toNat) ?_ ?_ ?_
    · exact ⟨s0_ok, Int.le_refl _, by dsimp only; omega, rfl⟩
    · rintro ⟨b, f, ba, co, i⟩ ⟨hs, i0, i1, he⟩
      dsimp only at hs i0 i1 he
      simp only [spec_SureCheck_s17]
      refine OK.cond (fun hi => ?_) (fun hi => ?_)
      · simp only [decide_eq_true_eq] at hi
        have hm := getD_mem (l := l) (n := i.toNat) (by omega)
        simp only [idx_eq i0 hi, Option.bind_some, sWrong _ _ (hl _ hm), sNext _ _ hs]
        rw [drop_at i0 hi, checkFrom] at he
        refine OK.cond (fun hw => ?_) (fun hw => ?_)
        · simp only [decide_eq_true_eq] at hw
          rw [if_pos hw] at he
          exact OK.mk he.symm
        · simp only [decide_eq_false_iff_not] at hw
          rw [if_neg hw] at he
          have e : IntKind.i64.wrap (i + 1) = i + 1 := w64 (by omega) (by omega)
          rw [e]
          exact OK.mk ⟨⟨okS_next hs (by omega), by dsimp only; omega, by dsimp only; omega, he⟩, by dsimp only; omega⟩
      · simp only [decide_eq_false_iff_not] at hi
        have : i = l.length := by omega
        subst this
        rw [drop_end, checkFrom] at he
        exact OK.mk he.symm
    · intro b hb
      rw [hb]
      cases b with
      | inl v => exact OK.mk rfl
      | inr v =>
        obtain ⟨b, f, ba, co⟩ := v
        simp only [Sum.elim_inr, spec_SureCheck_j13]
        refine OK.cond (fun hw => ?_) (fun hw => ?_)
        · simp only [decide_eq_true_eq] at hw
          rw [if_pos hw]; exact OK.mk rfl
        · simp only [decide_eq_false_iff_not] at hw
          rw [if_neg hw]; exact OK.mk rfl
theorem iSure (l : List Inst) (hl : okArgs l) (hl2 : l.length ≤ 1000000) : impl_SureCheck l = some (sureCheck l) := by
  refine OK.eq ?_
  unfold impl_SureCheck sureCheck
  refine OK.cond (fun hc => ?_) (fun hc => ?_)
  · simp only [decide_eq_true_eq] at hc
    rw [if_pos (by omega)]; exact OK.mk rfl
  · simp only [decide_eq_false_iff_not] at hc
    rw [if_neg (by omega)]
    refine OK.loop (Q := fun b : (Int × Int) ⊕ (Int × Int) => checkFrom s0 0 l = Sum.elim (fun v => ⟨v.1, v.2⟩) (fun v => if 0 < v.1 then ⟨9, l.length⟩ else ⟨0, 0⟩) b ∧ Sum.elim (fun _ => True) (fun v => 0 ≤ v.1) b)
      (fun z : Int × Int × Bool × Bool × Int => okS ⟨z.1, z.2.1, z.2.2.1, z.2.2.2.1⟩ ∧ 0 ≤ z.2.2.2.2 ∧ z.2.2.2.2 ≤ l.length ∧ checkFrom ⟨z.1, z.2.1, z.2.2.1, z.2.2.2.1⟩ z.2.2.2.2 (l.drop z.2.2.2.2.toNat) = checkFrom s0 0 l) (fun z => (l.length - z.2.2.2.2).toNat) ?_ ?_ ?_
    · exact ⟨s0_ok, Int.le_refl _, by dsimp only; omega, rfl⟩
    · rintro ⟨b, f, ba, co, i⟩ ⟨hs, i0, i1, he⟩
      dsimp only at hs i0 i1 he
      simp only [impl_SureCheck_s19]
      refine OK.cond (fun hi => ?_) (fun hi => ?_)
      · simp only [decide_eq_true_eq] at hi
        have hm := getD_mem (l := l) (n := i.toNat) (by omega)
        have hw' := iWrong ⟨b, f, ba, co⟩ (l.getD i.toNat default) (hl _ hm) hs
        have hb' := iBehind b f (l.getD i.toNat default).Code hs.1 (by have := hs.2.1; dsimp only at this; omega) hs.2.2.1 (by have := hs.2.2.2; dsimp only at this; omega)
        dsimp only at hw'
        simp only [idx_eq i0 hi, Option.bind_some, hw', hb']
        rw [drop_at i0 hi, checkFrom] at he
        refine OK.cond (fun hw => ?_) (fun hw => ?_)
        · simp only [bne_iff_ne, ne_eq] at hw
          have := wrongAt_nn ⟨b, f, ba, co⟩ (l.getD i.toNat default)
          rw [if_pos (by omega)] at he
          exact OK.mk ⟨he.symm, trivial⟩
        · simp only [bne_eq_false_iff_eq] at hw
          rw [if_neg (by omega), next_eq hs (by omega)] at he
          have e : IntKind.i64.wrap (i + 1) = i + 1 := w64 (by omega) (by omega)
          rw [e]
          have q := okS_next hs (show wrongAt ⟨b, f, ba, co⟩ (l.getD i.toNat default) ≤ 0 by omega)
          rw [next_eq hs (by omega)] at q
          exact OK.mk ⟨⟨q, by dsimp only; omega, by dsimp only; omega, he⟩, by dsimp only; omega⟩
      · simp only [decide_eq_false_iff_not] at hi
        have : i = l.length := by omega
        subst this
        rw [drop_end, checkFrom] at he
        exact OK.mk ⟨he.symm, hs.1⟩
    · rintro b ⟨hb, hb2⟩
      rw [hb]
      cases b with
      | inl v => exact OK.mk rfl
      | inr v =>
        obtain ⟨b, f⟩ := v
        simp only [Sum.elim_inr, impl_SureCheck_j15] at hb2 ⊢
        refine OK.cond (fun hw => ?_) (fun hw => ?_)
        · simp only [bne_iff_ne, ne_eq] at hw
          rw [if_pos (by omega)]; exact OK.mk rfl
        · simp only [bne_eq_false_iff_eq] at hw
          rw [if_neg (by omega)]; exact OK.mk rfl
end Go.AM
