/- The optimiser keeps edges: all of it. Conditions: none. -/
import Derived.Test.YtbmoclfnkefomaaDoorAmPuPf
set_option linter.unusedSimpArgs false
set_option linter.unusedVariables false
namespace Go.AM
open Go
theorem iConcatI {ls : List (List Inst)} {n : Nat} (hn : ls.length ≤ 1000) (hL : ls.flatten.length = n) (h0 : 0 < n) (h1 : n ≤ 1000000) : slices_Concat_impl_Inst_impl_Inst ls = some ls.flatten := by
  have hpre : ∀ k, (ls.take k).flatten.length ≤ n := fun k => by
    rw [← hL]
    conv => rhs; rw [← List.take_append_drop k ls, List.flatten_append, List.length_append]
    omega
  have hsn : ∀ {k : Int}, 0 ≤ k → k < ls.length → ∀ {y}, ls.getD k.toNat default = y → (ls.take (k + 1).toNat).flatten = (ls.take k.toNat).flatten ++ y := by
    intro k k0 k1 y hy
    rw [take1H k0 k1 hy, List.flatten_append]; simp
  refine OK.eq ?_
  unfold slices_Concat_impl_Inst_impl_Inst
  refine OK.loop (Q := fun x => x = (n : Int)) (fun z : Int × Int => 0 ≤ z.2 ∧ z.2 ≤ ls.length ∧ z.1 = ((ls.take z.2.toNat).flatten.length : Int)) (fun z => (ls.length - z.2).toNat) ⟨Int.le_refl _, by dsimp only; omega, rfl⟩ ?_ ?_
  · rintro ⟨s, k⟩ ⟨k0, k1, k2⟩
    dsimp only at k0 k1 k2
    subst k2
    simp only [slices_Concat_impl_Inst_impl_Inst_s9]
    refine OK.cond (fun hd => ?_) (fun hd => ?_)
    · simp only [decide_eq_true_eq] at hd
      refine OK.idx k0 hd fun y _ hy => ?_
      have h2 := hpre (k + 1).toNat
      have e := hsn k0 hd hy
      rw [e, List.length_append] at h2
      rw [w64 (n := ((ls.take k.toNat).flatten.length : Int) + y.length) (by omega) (by omega), w64 (n := k + 1) (by omega) (by omega)]
      refine OK.cond (fun hc => by simp only [decide_eq_true_eq] at hc; omega) (fun _ => ?_)
      refine OK.mk ⟨⟨by dsimp only; omega, by dsimp only; omega, ?_⟩, by dsimp only; omega⟩
      dsimp only
      rw [e, List.length_append]; omega
    · simp only [decide_eq_false_iff_not] at hd
      refine OK.mk (show _ = (n : Int) from ?_)
      rw [List.take_of_length_le (by omega), hL]
  · rintro _ rfl
    simp only [slices_Concat_impl_Inst_impl_Inst_j5]
    have hg : slices_Grow_impl_Inst_impl_Inst_nil_w n = some [] := by
      unfold slices_Grow_impl_Inst_impl_Inst_nil_w
      have : slices_Grow_impl_Inst_impl_Inst_nil n = some (List.replicate n ⟨0, 0, []⟩, 0) := by
        refine OK.eq ?_
        unfold slices_Grow_impl_Inst_impl_Inst_nil
        have e : IntKind.i64.wrap ((n : Int) - IntKind.i64.wrap (0 - 0)) = n := by
          rw [show IntKind.i64.wrap (0 - 0) = 0 from rfl, w64 (by omega) (by omega)]; omega
        rw [e]
        refine OK.cond (fun hc => by simp only [decide_eq_true_eq] at hc; omega) (fun _ => ?_)
        refine OK.cond (fun _ => ?_) (fun hc => by simp only [decide_eq_false_iff_not] at hc; omega)
        refine OK.cond (fun hc => by simp only [zq, beq_iff_eq] at hc; omega) (fun _ => ?_)
        refine OK.gd (by simp [zaOk]; omega) (OK.gd (by simp) ?_)
        simp only [slices_Grow_impl_Inst_impl_Inst_nil_j9, e]
        exact OK.mk (by simp)
      rw [this]; simp
    rw [hg, Option.bind_some]
    refine OK.loop (Q := fun x => x = ls.flatten) (fun z : List Inst × Int => 0 ≤ z.2 ∧ z.2 ≤ ls.length ∧ z.1 = (ls.take z.2.toNat).flatten) (fun z => (ls.length - z.2).toNat) ⟨Int.le_refl _, by dsimp only; omega, rfl⟩ ?_ ?_
    · rintro ⟨b, k⟩ ⟨k0, k1, k2⟩
      dsimp only at k0 k1 k2
      subst k2
      simp only [slices_Concat_impl_Inst_impl_Inst_s34]
      refine OK.cond (fun hd => ?_) (fun hd => ?_)
      · simp only [decide_eq_true_eq] at hd
        refine OK.idx k0 hd fun y _ hy => ?_
        have h2 := hpre (k + 1).toNat
        have e := hsn k0 hd hy
        rw [e] at h2
        refine OK.gd (apOk_of (by omega) (by omega)) ?_
        rw [w64 (n := k + 1) (by omega) (by omega)]
        exact OK.mk ⟨⟨by dsimp only; omega, by dsimp only; omega, e.symm⟩, by dsimp only; omega⟩
      · simp only [decide_eq_false_iff_not] at hd
        refine OK.mk (show _ = ls.flatten from ?_)
        rw [List.take_of_length_le (by omega)]
    · rintro _ rfl
      simp only [slices_Concat_impl_Inst_impl_Inst_j30]
      exact OK.mk rfl
/-- The list ends with the end of a rung. -/
def endsE (l : List Inst) : Prop := l = [] ∨ ∃ p i, l = p ++ [i] ∧ i.Code = 11
def Ok1 (l m : List Inst) : Prop := good m ∧ endsE m ∧ keepL m = keepL l ∧ m.length < l.length
theorem peep_ok {l : List Inst} (hg : good l) (he : endsE l) : OK (impl_peep l) (fun x => if x.2 = true then Ok1 l x.1 else x.1 = l) := by
  have hlen := hg.2
  unfold impl_peep
  refine OK.loop (Q := Sum.elim (fun m => Ok1 l m) (fun _ : Unit => True)) (fun k : Int => 0 ≤ k ∧ k ≤ l.length) (fun k => (l.length - k).toNat) ⟨Int.le_refl _, by omega⟩ ?_ ?_
  · rintro k ⟨k0, k1⟩
    simp only [impl_peep_s7]
    refine OK.cond (fun hc => ?_) (fun _ => OK.mk trivial)
    simp only [decide_eq_true_eq] at hc
    refine OK.prtL k0 k1 ?_
    have hd : good (l.drop k.toNat) := ⟨fun i hi => hg.1 i (List.mem_of_mem_drop hi), by rw [List.length_drop]; omega⟩
    have hdl : (l.drop k.toNat).length = l.length - k.toNat := List.length_drop
    refine OK.bind (shorter_ok hd (by omega)) ?_
    rintro ⟨f, m⟩ hs
    refine OK.cond (fun q => ?_) (fun q => ?_)
    · simp only [decide_eq_true_eq] at q
      rcases hs with hs | ⟨h1, h2, h3, h4, h5, h6⟩
      · exfalso; have : m ≤ 0 := hs; omega
      dsimp only at h1 h2 h3 h4 h5 h6
      have w1 := w64 (n := k + m) (by omega) (by omega)
      rw [w1]
      refine OK.prtH k0 k1 (OK.prtL (by omega) (by omega) ?_)
      have hT : l = l.take k.toNat ++ ((l.drop k.toNat).take m.toNat ++ l.drop (k + m).toNat) := by
        rw [show (k + m).toNat = k.toNat + m.toNat by omega, ← List.drop_drop, List.take_append_drop, List.take_append_drop]
      have hrest : ∃ p i, l.drop (k + m).toNat = p ++ [i] ∧ i.Code = 11 := by
        rcases he with rfl | ⟨p, i, e1, e2⟩
        · simp at hc; omega
        · rcases List.eq_nil_or_concat (l.drop (k + m).toNat) with q | ⟨p', i', q⟩
          · exfalso
            rw [q, List.append_nil] at hT
            have hne : (l.drop k.toNat).take m.toNat ≠ [] := by
              intro e
              have := congrArg List.length e
              rw [List.length_take] at this
              simp at this; omega
            obtain ⟨p2, i2, e3⟩ : ∃ p2 i2, (l.drop k.toNat).take m.toNat = p2 ++ [i2] := by
              rcases List.eq_nil_or_concat ((l.drop k.toNat).take m.toNat) with q | ⟨a, b, q⟩
              · exact absurd q hne
              · exact ⟨a, b, by simpa using q⟩
            have h11 := h6 i2 (by rw [e3]; simp)
            rw [e3, ← List.append_assoc] at hT
            rw [e1] at hT
            have := (List.append_inj' hT rfl).2
            simp only [List.cons.injEq, and_true] at this
            rw [← this] at h11; exact h11 e2
          · have q : l.drop (k + m).toNat = p' ++ [i'] := by simpa using q
            refine ⟨p', i', q, ?_⟩
            rw [q] at hT
            have hT2 : l = (l.take k.toNat ++ (l.drop k.toNat).take m.toNat ++ p') ++ [i'] := hT.trans (by simp only [List.append_assoc])
            rw [e1] at hT2
            have := (List.append_inj' hT2 rfl).2
            simp only [List.cons.injEq, and_true] at this
            rw [← this]; exact e2
      have hlT := congrArg List.length hT
      simp only [List.length_append] at hlT
      have hmt : ((l.drop k.toNat).take m.toNat).length = m.toNat := by rw [List.length_take]; omega
      have hF : [l.take k.toNat, f, l.drop (k + m).toNat].flatten = l.take k.toNat ++ (f ++ l.drop (k + m).toNat) := by simp
      have hFl : (l.take k.toNat ++ (f ++ l.drop (k + m).toNat)).length < l.length := by
        simp only [List.length_append]; omega
      obtain ⟨p, i, e1, e2⟩ := hrest
      have hpos : 0 < (l.take k.toNat ++ (f ++ l.drop (k + m).toNat)).length := by rw [e1]; simp; omega
      rw [iConcatI (n := (l.take k.toNat ++ (f ++ l.drop (k + m).toNat)).length) (by simp) (by rw [hF]) hpos (by omega), hF, Option.bind_some]
      refine OK.mk (show Ok1 l _ from ⟨⟨fun j hj => ?_, by omega⟩, .inr ⟨l.take k.toNat ++ (f ++ p), i, by rw [e1]; simp, e2⟩, ?_, hFl⟩)
      · rcases List.mem_append.1 hj with hj | hj
        · exact hg.1 j (List.mem_of_mem_take hj)
        · rcases List.mem_append.1 hj with hj | hj
          · exact h5 j hj
          · exact hg.1 j (List.mem_of_mem_drop hj)
      · conv => rhs; rw [hT]
        rw [keepL_app, keepL_app, keepL_app, keepL_app, h4]
    · rw [w64 (n := k + 1) (by omega) (by omega)]
      exact OK.mk ⟨⟨by omega, by omega⟩, by omega⟩
  · rintro (m | u) hx
    · exact OK.mk (by rw [if_pos rfl]; exact hx)
    · simp only [Sum.elim_inr, impl_peep_j3]
      exact OK.mk (by rw [if_neg (by simp)])
theorem good_args {l : List Inst} (h : good l) : okArgs l := fun i hi => (h.1 i hi).1
theorem listOk_J {i : Inst} (hl : i.One_Args.length ≤ 1000) (h : listOk i = true) : Jk i := by
  unfold listOk at h
  simp only [Bool.and_eq_true, decide_eq_true_eq] at h
  obtain ⟨⟨h1, h2⟩, h3⟩ := h
  refine ⟨hl, h1, h2, fun q => ?_, fun q => ?_⟩
  · rw [if_neg (by omega), if_neg (by omega)] at h3
    simp only [Bool.and_eq_true, beq_iff_eq] at h3
    exact h3.1
  · rw [if_pos q] at h3
    have := contact_facts h3
    omega
theorem run_J : ∀ {l : List Inst} {s t : l12At}, okArgs l → okZ s → okRun s l = some t → (∀ i ∈ l, Jk i) ∧ (l = [] ∨ (∃ p i, l = p ++ [i] ∧ (i.Code = 11 ∨ 1 ≤ t.bits)))
  | [], _, _, _, _, _ => ⟨fun i hi => (by cases hi), .inl rfl⟩
  | i :: l, s, t, ha, hs, h => by
    rw [okRun] at h
    split at h
    · cases h
    rename_i hw
    have hz := okZ_next hs hw
    have hlo : listOk i = true := by
      cases q : listOk i with
      | true => rfl
      | false => exfalso; apply hw; unfold wrongAt; rw [if_pos q]; omega
    obtain ⟨h1, h2⟩ := run_J (fun j hj => ha j (.tail _ hj)) hz.1 h
    refine ⟨fun j hj => ?_, .inr ?_⟩
    · rcases List.mem_cons.1 hj with rfl | hj
      · exact listOk_J (ha j (.head _)) hlo
      · exact h1 j hj
    · rcases h2 with rfl | ⟨p, j, rfl, hj⟩
      · refine ⟨[], i, rfl, ?_⟩
        by_cases hc : i.Code = 11
        · exact .inl hc
        · rw [okRun] at h
          injection h with h
          exact .inr (by rw [← h]; exact hz.2.2 hc)
      · exact ⟨i :: p, j, rfl, hj⟩
theorem ver_good {l : List Inst} (ha : okArgs l) (h : verified l = true) : good l ∧ endsE l := by
  obtain ⟨h1, h2⟩ := (sure_iff l).1 ((ver_iff l).1 h)
  obtain ⟨h3, h4⟩ := run_J ha s0_Z h2
  refine ⟨⟨h3, h1⟩, ?_⟩
  rcases h4 with rfl | ⟨p, i, rfl, h5⟩
  · exact .inl rfl
  · refine .inr ⟨p, i, rfl, ?_⟩
    rcases h5 with h5 | h5
    · exact h5
    · simp [s0] at h5
theorem all_ok {l : List Inst} (ha : okArgs l) (hl : l.length ≤ 1000000) : OK (impl_PeepAll l) (fun m => if verified l = true then keepL m = keepL l ∧ m.length ≤ 1000 else m = []) := by
  unfold impl_PeepAll
  rw [iVerified l ha hl, Option.bind_some]
  refine OK.cond (fun q => ?_) (fun q => ?_)
  · simp only [Bool.not_eq_true'] at q
    exact OK.mk (by rw [if_neg (by rw [q]; simp)])
  simp only [Bool.not_eq_false'] at q
  obtain ⟨g1, g2⟩ := ver_good ha q
  refine OK.loop (Q := fun m : List Inst => keepL m = keepL l ∧ m.length ≤ 1000) (fun m : List Inst => good m ∧ endsE m ∧ keepL m = keepL l) (fun m => m.length) ⟨g1, g2, rfl⟩ ?_ (fun m hm => OK.mk (by rw [if_pos q]; exact hm))
  rintro m ⟨h1, h2, h3⟩
  simp only [impl_PeepAll_s12]
  refine OK.bind (peep_ok h1 h2) ?_
  rintro ⟨n, b⟩ hn
  refine OK.cond (fun q1 => ?_) (fun q1 => ?_)
  · simp only [Bool.not_eq_true'] at q1
    rw [if_neg (by rw [q1]; simp)] at hn
    have hn : n = m := hn
    subst hn
    rw [iCopyList n (good_args h1) (by have := h1.2; omega)]
    exact OK.mk ⟨h3, h1.2⟩
  · simp only [Bool.not_eq_false'] at q1
    rw [if_pos q1] at hn
    obtain ⟨n1, n2, n3, n4⟩ := hn
    exact OK.mk ⟨⟨n1, n2, by rw [n3, h3]⟩, n4⟩
/-! the draws -/
theorem okM.cons3 {L : Nat} {l : List Inst} (h : ∀ i ∈ l, okI i) (hl : l.length ≤ L) : okM L l := ⟨hl, h⟩
theorem more54_ok {N : Int} {b : List Int} {p o : Int} {a : List DevArg} {i : Inst} {f : Bool} (hi : okI i) (ha : a.length ≤ 5) (h : G N ⟨b, p⟩) (hN : N ≤ 100000000000) : OK (spec_l16More_j54 i b p o a f) (fun x => okM 6 x.1 ∧ G (N + 2) x.2) := by
  have hx : okI ⟨i.Code, o, a⟩ := ha
  have h0 : ∀ k, okI ⟨k, 0, []⟩ := fun k => by show (0 : Nat) ≤ 5; omega
  have h1 : okI ⟨1, i.One_Op, i.One_Args⟩ := hi
  simp only [spec_l16More_j54]
  refine OK.cond (fun _ => ?_) (fun _ => OK.cond (fun _ => ?_) (fun _ => ?_))
  · refine OK.bind (pick_ok h (by omega)) ?_
    rintro ⟨k, r⟩ ⟨g, _, _⟩
    refine OK.cond (fun _ => OK.mk ⟨okM.cons3 (by simp [hi]) (by simp), g.up (by omega)⟩) (fun _ => OK.cond (fun _ => OK.mk ⟨okM.cons3 (by simp [h1, h0]) (by simp), g.up (by omega)⟩) (fun _ => OK.mk ⟨okM.cons3 (by simp [hi, hx]) (by simp), g.up (by omega)⟩))
  · refine OK.bind (pick_ok h (by omega)) ?_
    rintro ⟨k, r⟩ ⟨g, _, _⟩
    refine OK.cond (fun _ => OK.mk ⟨okM.cons3 (by simp [hi]) (by simp), g.up (by omega)⟩) (fun _ => OK.cond (fun _ => OK.mk ⟨okM.cons3 (by simp [hi, h0]) (by simp), g.up (by omega)⟩) (fun _ => OK.mk ⟨okM.cons3 (by simp [hi, h0]) (by simp), g.up (by omega)⟩))
  · exact OK.mk ⟨okM.cons3 (by simp [hi]) (by simp), h.up (by omega)⟩
theorem more7_ok {N : Int} {b : List Int} {p o : Int} {a : List DevArg} {i : Inst} (hi : okI i) (ha : a.length ≤ 5) (h : G N ⟨b, p⟩) (hN : N ≤ 100000000000) : OK (spec_l16More_j7 i (b, p, o, a)) (fun x => okM 6 x.1 ∧ G (N + 2) x.2) := by
  have h0 : ∀ k, okI ⟨k, 0, []⟩ := fun k => by show (0 : Nat) ≤ 5; omega
  have hx : ∀ k, okI ⟨k, o, a⟩ := fun k => ha
  have h1 : ∀ k, okI ⟨k, i.One_Op, i.One_Args⟩ := fun k => hi
  simp only [spec_l16More_j7]
  refine OK.cond (fun _ => ?_) (fun _ => OK.cond (fun _ => more54_ok hi ha h hN) (fun _ => more54_ok hi ha h hN))
  refine OK.bind (pick_ok h (by omega)) ?_
  rintro ⟨k, r⟩ ⟨g, _, _⟩
  dsimp only at g ⊢
  refine OK.cond (fun _ => OK.mk ⟨okM.cons3 (by simp [hi, h0]) (by simp), g.up (by omega)⟩) (fun _ => OK.cond (fun _ => OK.mk ⟨okM.cons3 (by simp [hi, h0]) (by simp), g.up (by omega)⟩) (fun _ => OK.cond (fun _ => ?_) (fun _ => OK.cond (fun _ => ?_) (fun _ => ?_))))
  all_goals
    refine OK.bind (pick_ok g (by omega)) ?_
    rintro ⟨k, r⟩ ⟨g2, _, _⟩
    exact OK.mk ⟨okM.cons3 (by simp [hi, hx, h1]) (by simp), g2.up (by omega)⟩
theorem more_ok {N : Int} {r : l26Rd} {i : Inst} (hi : okI i) (h : G N r) (hN : N ≤ 10000000000) : OK (spec_l16More r i) (fun x => okM 6 x.1 ∧ G (N + 8) x.2) := by
  unfold spec_l16More
  refine OK.bind (pick_ok h (by omega)) ?_
  rintro ⟨k, r⟩ ⟨g, _, _⟩
  refine OK.bind (pick_ok g (by omega)) ?_
  rintro ⟨k2, r⟩ ⟨g, _, _⟩
  refine OK.bind (pick_ok g (by omega)) ?_
  rintro ⟨k3, r⟩ ⟨g, _, _⟩
  refine OK.bind (pick_ok g (by omega)) ?_
  rintro ⟨k4, r⟩ ⟨g, _, _⟩
  refine OK.cond (fun _ => ?_) (fun _ => ?_)
  · refine OK.bind (pick_ok g (by omega)) ?_
    rintro ⟨k5, r⟩ ⟨g, _, _⟩
    exact OK.mono (more7_ok (N := N + 1 + 1 + 1 + 1 + 1) hi (by simp) g (by omega)) fun x hx => ⟨hx.1, hx.2.up (by omega)⟩
  · exact OK.mono (more7_ok (N := N + 1 + 1 + 1 + 1) hi (by simp) g (by omega)) fun x hx => ⟨hx.1, hx.2.up (by omega)⟩
theorem bait_ok {N : Int} {r : l26Rd} (h : G N r) (hN : N ≤ 900000000) : OK (spec_l16Bait r) (fun x => okM 6200 x.1 ∧ G (N + 20002000) x.2) := by
  unfold spec_l16Bait
  refine OK.bind (l11Sure_ok h (by omega)) ?_
  rintro ⟨l, r⟩ ⟨g, hl⟩
  dsimp only at g hl
  refine OK.cond (fun _ => OK.mk ⟨hl, g.up (by omega)⟩) (fun hc => ?_)
  simp only [decide_eq_false_iff_not] at hc
  refine OK.loop (Q := fun z : List Int × Int × List Inst => okM 1000 z.2.2 ∧ G (N + 20002000) ⟨z.1, z.2.1⟩) (fun z : List Int × Int × List Inst × Int => 0 ≤ z.2.2.2 ∧ z.2.2.2 ≤ l.length ∧ G (N + 20000000 + 10 * z.2.2.2) ⟨z.1, z.2.1⟩ ∧ okM (6 * z.2.2.2.toNat) z.2.2.1) (fun z => (l.length - z.2.2.2).toNat) ⟨Int.le_refl _, by dsimp only; omega, g.up (by dsimp only; omega), okM.nil _⟩ ?_ ?_
  · rintro ⟨b, p, m, k⟩ ⟨h1, h2, h3, h4⟩
    dsimp only at h1 h2 h3 h4
    simp only [spec_l16Bait_s19]
    refine OK.cond (fun q => ?_) (fun q => ?_)
    · simp only [decide_eq_true_eq] at q
      refine OK.bind (pick_ok h3 (by omega)) ?_
      rintro ⟨c, r⟩ ⟨g1, _, _⟩
      dsimp only at g1
      have e : IntKind.i64.wrap (k + 1) = k + 1 := w64 (by omega) (by omega)
      refine OK.cond (fun _ => ?_) (fun _ => ?_)
      · refine OK.idx h1 q fun i hi _ => ?_
        refine OK.bind (more_ok (hl.2 i hi) g1 (by omega)) ?_
        rintro ⟨x, r⟩ ⟨x1, x2⟩
        dsimp only at x1 x2
        have hm := h4.app x1
        refine OK.gd (hm.ap (by omega)) ?_
        simp only [spec_l16Bait_j26]
        rw [e]
        exact OK.mk ⟨⟨by dsimp only; omega, by dsimp only; omega, x2.up (by dsimp only; omega), hm.up (by dsimp only; omega)⟩, by dsimp only; omega⟩
      · refine OK.idx h1 q fun i hi _ => ?_
        have hm := h4.app (okM.one (hl.2 i hi))
        refine OK.gd (hm.ap (by omega)) ?_
        simp only [spec_l16Bait_j26]
        rw [e]
        exact OK.mk ⟨⟨by dsimp only; omega, by dsimp only; omega, g1.up (by dsimp only; omega), hm.up (by dsimp only; omega)⟩, by dsimp only; omega⟩
    · simp only [decide_eq_false_iff_not] at q
      exact OK.mk ⟨h4.up (by omega), h3.up (by omega)⟩
  · rintro ⟨b, p, m⟩ ⟨h1, h2⟩
    dsimp only at h1 h2
    simp only [spec_l16Bait_j15]
    rw [sSure m (fun i hi => by have := h1.2 i hi; simp only [okI] at this; omega) (by have := h1.1; omega), Option.bind_some]
    exact OK.cond (fun _ => OK.mk ⟨hl, h2⟩) (fun _ => OK.mk ⟨h1.up (by omega), h2⟩)
theorem DrawPeepAll_ok {bs : List Int} (h : ∀ y ∈ bs, 0 ≤ y ∧ y < 256) : OK (spec_DrawPeepAll bs) (fun x => okArgs x ∧ x.length ≤ 1000000) := by
  have hM : ∀ {L : Nat} {m : List Inst}, okM L m → L ≤ 20000 → okArgs m ∧ m.length ≤ 1000000 := fun hm hL => ⟨fun i hi => by have := hm.2 i hi; simp only [okI] at this; omega, by have := hm.1; omega⟩
  unfold spec_DrawPeepAll
  refine OK.bind (l26Open_ok h) fun r hr => ?_
  refine OK.bind (Q := fun x : List Inst × l26Rd => okArgs x.1 ∧ x.1.length ≤ 1000000) ?_ (fun x hx => OK.mk hx)
  unfold spec_l16Any
  refine OK.bind (pick_ok hr (by omega)) ?_
  rintro ⟨k, r⟩ ⟨g, _, _⟩
  dsimp only at g
  refine OK.cond (fun _ => ?_) (fun _ => OK.cond (fun _ => ?_) (fun _ => ?_))
  · refine OK.bind (bait_ok g (by omega)) ?_
    rintro ⟨l, r⟩ ⟨l1, l2⟩
    dsimp only at l1 l2
    refine OK.bind (l11Spoil_ok l2 (by omega) (l1.up (by omega))) ?_
    rintro ⟨m, r⟩ ⟨m1, _⟩
    exact OK.mk ⟨fun i hi => by have := m1.2 i hi; omega, by have := m1.1; dsimp only at this ⊢; omega⟩
  · refine OK.bind (l12Deep_ok g (by omega)) ?_
    rintro ⟨m, r⟩ hm
    exact OK.mk (hM hm (by omega))
  · refine OK.bind (bait_ok g (by omega)) ?_
    rintro ⟨l, r⟩ ⟨l1, l2⟩
    exact OK.mk (hM l1 (by omega))
theorem law_PeepEdge {xs : List Int} (hx : ∀ n ∈ xs, 0 ≤ n ∧ n < 256) : laws_FnPeepEdge xs = some true := by
  refine OK.eq ?_
  unfold laws_FnPeepEdge
  refine OK.cond (fun _ => OK.mk rfl) (fun _ => ?_)
  refine OK.bind (DrawPeepAll_ok hx) ?_
  rintro l ⟨l1, l2⟩
  refine OK.bind (all_ok l1 l2) ?_
  intro m hm
  rw [sSure l l1 l2, Option.bind_some]
  have hnn := sure_nn l
  refine OK.cond (fun q => OK.mk ?_) (fun q => ?_)
  · simp only [decide_eq_true_eq] at q
    rw [if_neg (by rw [ver_iff]; omega)] at hm
    subst hm; rfl
  · simp only [decide_eq_false_iff_not] at q
    rw [if_pos ((ver_iff l).2 (by omega))] at hm
    rw [wpKeep_ok (by omega), wpKeep_ok l2, Option.bind_some, Option.bind_some, hm.1]
    have hk : okArgs (keepL l) := fun i hi => by
      obtain ⟨j, hj, hij⟩ := List.mem_flatMap.1 hi
      unfold keepI at hij
      split at hij
      · simp at hij; subst hij; exact l1 j hj
      · cases hij
    rw [iListSame _ hk (by have := keepL_len l; omega)]
    exact OK.mk rfl
end Go.AM
