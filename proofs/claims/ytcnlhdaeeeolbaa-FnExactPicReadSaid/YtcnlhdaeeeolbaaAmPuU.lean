/- Images: how both packages read instructions and lists. Conditions: none. -/
import Derived.Test.YtcnlhdaeeeolbaaAmPuT
set_option linter.unusedSimpArgs false
set_option linter.unusedVariables false
namespace Go.AM
open Go
def rAs : Nat → List Int → Int ⊕ (List DevArg × List Int)
  | 0, l => .inr ([], l)
  | n + 1, l => match rA l with
    | .inl c => .inl c
    | .inr (a, r) => match rAs n r with
      | .inl c => .inl c
      | .inr (ws, r') => .inr (a :: ws, r')
def rO (c : Int) : List Int → Int ⊕ (Inst × List Int)
  | [] => .inl 6
  | o :: l => if known c o = false then .inl 2 else match rAs (ar o).toNat l with
    | .inl e => .inl e
    | .inr (ws, r) => .inr (⟨c, o, ws⟩, r)
def rI : List Int → Int ⊕ (Inst × List Int)
  | [] => .inl 6
  | c :: l => if c < 1 ∨ c > 11 then .inl 2 else if isHas c = false then .inr (⟨c, 0, []⟩, l) else rO c l
def rL : Nat → Int → List Int → (Int × Int) ⊕ (List Inst × List Int)
  | 0, _, l => .inr ([], l)
  | n + 1, t, l => match rI l with
    | .inl c => .inl (c, t)
    | .inr (i, r) => match rL n (t + 1) r with
      | .inl e => .inl e
      | .inr (js, r') => .inr (i :: js, r')
theorem rA_by8 {l r : List Int} {a : DevArg} (hl : by8 l) (h : rA l = .inr (a, r)) : by8 r := by
  obtain ⟨rfl, _⟩ := rA_enc hl h
  exact fun y hy => hl y (List.mem_append_right _ hy)
theorem rAs_enc : ∀ {n : Nat} {l r : List Int} {ws : List DevArg}, by8 l → rAs n l = .inr (ws, r) → l = ws.flatMap encA ++ r ∧ ws.length = n ∧ ws.all argOk = true
  | 0, l, r, ws, hl, h => by cases h; exact ⟨rfl, rfl, rfl⟩
  | n + 1, l, r, ws, hl, h => by
    simp only [rAs] at h
    split at h
    · cases h
    · rename_i a r1 h1
      split at h
      · cases h
      · rename_i ws' r2 h2
        cases h
        obtain ⟨e1, e2⟩ := rA_enc hl h1
        obtain ⟨f1, f2, f3⟩ := rAs_enc (rA_by8 hl h1) h2
        refine ⟨?_, by simp [f2], by simp [e2]; simpa using f3⟩
        rw [e1, f1]; simp
theorem rI_enc {l r : List Int} {i : Inst} (hl : by8 l) (h : rI l = .inr (i, r)) : l = encI i ++ r ∧ wro i = 0 := by
  cases l with
  | nil => cases h
  | cons c l =>
    have hc := hl.hd
    simp only [rI] at h
    split at h
    · cases h
    rename_i h1
    split at h
    · rename_i h2
      cases h
      refine ⟨?_, ?_⟩
      · simp only [encI, h2, Bool.false_eq_true, if_false, List.cons_append, List.nil_append, List.cons.injEq, and_true]; omega
      · rw [wro, if_neg h1, if_pos h2, if_neg (by simp)]
    rename_i h2
    cases l with
    | nil => cases h
    | cons o l =>
      have ho := hl.tl.hd
      simp only [rO] at h
      split at h
      · cases h
      rename_i h3
      split at h
      · cases h
      rename_i ws r1 h4
      cases h
      obtain ⟨f1, f2, f3⟩ := rAs_enc hl.tl.tl h4
      have hab := ar_bd o
      have h2 : isHas c = true := by simpa using h2
      refine ⟨?_, ?_⟩
      · simp only [encI, h2, if_true, List.cons_append, List.cons.injEq]
        exact ⟨by omega, by omega, f1⟩
      · rw [wro, if_neg h1, if_neg (by dsimp only; rw [h2]; simp), if_neg ?_, if_pos f3]
        dsimp only
        rintro (q | q)
        · exact h3 q
        · exact q (by omega)
theorem rL_enc : ∀ {n : Nat} {t : Int} {l r : List Int} {js : List Inst}, by8 l → rL n t l = .inr (js, r) → l = js.flatMap encI ++ r ∧ js.length = n ∧ ∀ i ∈ js, wro i = 0
  | 0, t, l, r, js, hl, h => by cases h; exact ⟨rfl, rfl, fun i hi => by cases hi⟩
  | n + 1, t, l, r, js, hl, h => by
    simp only [rL] at h
    split at h
    · cases h
    · rename_i i r1 h1
      split at h
      · cases h
      · rename_i js' r2 h2
        cases h
        obtain ⟨e1, e2⟩ := rI_enc hl h1
        have hb : by8 r1 := by rw [e1] at hl; exact fun y hy => hl y (List.mem_append_right _ hy)
        obtain ⟨f1, f2, f3⟩ := rL_enc hb h2
        refine ⟨?_, by simp [f2], fun j hj => ?_⟩
        · rw [e1, f1]; simp
        · rcases List.mem_cons.1 hj with rfl | hj
          · exact e2
          · exact f3 j hj
theorem rAs_err : ∀ {n : Nat} {l : List Int} {c : Int}, rAs n l = .inl c → 0 < c ∧ c < 100
  | 0, l, c, h => by cases h
  | n + 1, l, c, h => by
    simp only [rAs] at h
    split at h
    · rename_i h1; cases h; exact rA_err h1
    · split at h
      · rename_i h2; cases h; exact rAs_err h2
      · cases h
theorem rI_err {l : List Int} {c : Int} (h : rI l = .inl c) : 0 < c ∧ c < 100 := by
  cases l with
  | nil => cases h; omega
  | cons k l =>
    simp only [rI] at h
    split at h
    · cases h; omega
    split at h
    · cases h
    cases l with
    | nil => cases h; omega
    | cons o l =>
      simp only [rO] at h
      split at h
      · cases h; omega
      split at h
      · rename_i h4; cases h; exact rAs_err h4
      · cases h
def joinA (ws : List DevArg) (m : Int ⊕ (List DevArg × List Int)) : Int ⊕ (List DevArg × List Int) := match m with
  | .inl c => .inl c
  | .inr (bs, r) => .inr (ws ++ bs, r)
theorem rAs_step {n : Nat} {l : List Int} (ws : List DevArg) : joinA ws (rAs (n + 1) l) = match rA l with
    | .inl c => .inl c
    | .inr (a, r) => joinA (ws ++ [a]) (rAs n r) := by
  simp only [rAs]
  cases rA l with
  | inl c => rfl
  | inr x =>
    obtain ⟨a, r⟩ := x
    dsimp only
    cases rAs n r with
    | inl c => rfl
    | inr y => obtain ⟨bs, r'⟩ := y; simp [joinA]
theorem joinA_nil (m : Int ⊕ (List DevArg × List Int)) : joinA [] m = m := by
  cases m with
  | inl c => rfl
  | inr y => rfl
def RelIs (m : Int ⊕ (List DevArg × List Int)) (x : List Int × Int × List DevArg) : Prop := match m with
  | .inl c => x.2.1 = c
  | .inr (ws, r) => x = (r, 0, ws)
theorem iArgs_rd {o : Int} {l : List Int} (hl : by8 l) (ho : 0 ≤ o ∧ o < 256) : OK (loop (impl_picReader_inst_s31 o) (l, 0, [], 0)) (RelIs (rAs (ar o).toNat l)) := by
  have hab := ar_bd o
  refine (OK.loop (k := fun x => some x) (P := RelIs (rAs (ar o).toNat l)) (Q := RelIs (rAs (ar o).toNat l)) (fun z : List Int × Int × List DevArg × Int => 0 ≤ z.2.2.2 ∧ z.2.2.2 ≤ ar o ∧ (z.2.2.1.length : Int) = z.2.2.2 ∧ ((z.2.1 = 0 ∧ by8 z.1 ∧ rAs (ar o).toNat l = joinA z.2.2.1 (rAs (ar o - z.2.2.2).toNat z.1)) ∨ (z.2.1 ≠ 0 ∧ rAs (ar o).toNat l = .inl z.2.1))) (fun z => (ar o - z.2.2.2).toNat) ?_ ?_ (fun x hx => OK.mk hx)) |> fun h => by simpa using h
  · exact ⟨Int.le_refl _, hab.1, rfl, .inl ⟨rfl, hl, by simp only [Int.sub_zero]; rw [joinA_nil]⟩⟩
  · rintro ⟨b, c, ws, k⟩ ⟨h1, h2, h3, h4⟩
    dsimp only at h1 h2 h3 h4
    simp only [impl_picReader_inst_s31]
    rw [w64 (n := o) (by omega) (by omega)]
    refine OK.bind (iArity_ok o) ?_
    rintro _ rfl
    refine OK.cond (fun hc => ?_) (fun hc => ?_)
    · simp only [Bool.and_eq_true, decide_eq_true_eq, beq_iff_eq] at hc
      obtain ⟨hk, rfl⟩ := hc
      rcases h4 with ⟨_, hb, he⟩ | ⟨hz, _⟩
      · refine OK.bind (iArg_rd hb) ?_
        rintro ⟨a, p⟩ hx
        refine OK.gd (apOk_of (by simp; omega) (by simp; omega)) ?_
        rw [w64 (n := k + 1) (by omega) (by omega)]
        rw [show (ar o - k).toNat = (ar o - (k + 1)).toNat + 1 by omega, rAs_step] at he
        refine OK.mk ⟨⟨by dsimp only; omega, by dsimp only; omega, by simp; omega, ?_⟩, by dsimp only; omega⟩
        dsimp only
        cases hr : rA b with
        | inl e =>
          rw [hr] at hx he
          have hx : p.code = e := hx
          have := rA_err hr
          exact .inr ⟨by omega, by rw [he, hx]⟩
        | inr y =>
          obtain ⟨a', r⟩ := y
          rw [hr] at hx he
          have hx : (a, p) = (a', ⟨r, 0⟩) := hx
          cases hx
          exact .inl ⟨rfl, rA_by8 hb hr, he⟩
      · exact absurd rfl hz
    · simp only [Bool.and_eq_false_iff, decide_eq_false_iff_not, beq_eq_false_iff_ne] at hc
      refine OK.mk ?_
      show RelIs _ (b, c, ws)
      rcases h4 with ⟨rfl, hb, he⟩ | ⟨hz, he⟩
      · have : k = ar o := by rcases hc with q | q <;> omega
        subst this
        rw [he, Int.sub_self]
        show RelIs (joinA ws (.inr ([], b))) _
        simp [joinA, RelIs]
      · rw [he]; rfl
theorem iInst_rd {l : List Int} (hl : by8 l) : OK (impl_picReader_inst ⟨l, 0⟩) (RelI (rI l)) := by
  unfold impl_picReader_inst
  cases l with
  | nil =>
    rw [iTakeS (by omega) (by omega) (by simp), Option.bind_some]
    refine OK.idx (by omega) (by simp) fun y hy _ => ?_
    refine OK.cond (fun hc => by simp at hc) (fun _ => ?_)
    simp only [impl_picReader_inst_j5]
    exact OK.mk rfl
  | cons c l =>
    have hk := hl.hd
    have hl := hl.tl
    rw [iTake (by omega) (by omega) (by simp; omega), Option.bind_some]
    refine OK.idx (by omega) (by simp) fun y _ hy => ?_
    obtain rfl : c = y := hy
    simp only [show List.drop (1 : Int).toNat (c :: l) = l from rfl, rI]
    refine OK.cond (fun _ => ?_) (fun hc => by simp at hc)
    rw [w64 (n := c) (by omega) (by omega), in_eq, Option.bind_some]
    refine OK.cond (fun hc => ?_) (fun hc => ?_)
    · simp only [Bool.not_eq_true', decide_eq_false_iff_not] at hc
      rw [if_pos (by omega)]
      simp only [impl_picReader_inst_j5]
      exact OK.mk rfl
    simp only [Bool.not_eq_false', decide_eq_true_eq] at hc
    rw [if_neg (by omega)]
    simp only [impl_picReader_inst_j5]
    rw [w64 (n := c) (by omega) (by omega), iHas_eq, Option.bind_some]
    refine OK.cond (fun hz => by simp at hz) (fun _ => ?_)
    refine OK.cond (fun hh => ?_) (fun hh => ?_)
    · simp only [Bool.not_eq_true'] at hh
      rw [if_pos hh]
      exact OK.mk rfl
    simp only [Bool.not_eq_false'] at hh
    rw [if_neg (by rw [hh]; simp)]
    by_cases h1 : (1 : Int) ≤ l.length
    · obtain ⟨o, r, rfl⟩ := ge1 h1
      have ho := hl.hd
      rw [iTake (by omega) (by omega) h1, Option.bind_some]
      refine OK.idx (by omega) (by simp) fun y _ hy => ?_
      obtain rfl : o = y := hy
      simp only [show List.drop (1 : Int).toNat (o :: r) = r from rfl, rO]
      refine OK.cond (fun _ => ?_) (fun hc => by simp at hc)
      rw [w64 (n := o) (by omega) (by omega), iFits_eq, Option.bind_some]
      refine OK.cond (fun hf => ?_) (fun hf => ?_)
      · simp only [Bool.not_eq_true'] at hf
        rw [if_pos hf]
        simp only [impl_picReader_inst_j21]
        have e : loop (impl_picReader_inst_s31 o) (r, 2, [], 0) = some (r, 2, []) := by
          refine loop_out (OK.eq ?_)
          simp only [impl_picReader_inst_s31]
          rw [w64 (n := o) (by omega) (by omega)]
          refine OK.bind (iArity_ok o) ?_
          rintro _ rfl
          exact OK.cond (fun hc => by simp at hc) (fun _ => OK.mk rfl)
        rw [e]
        exact OK.mk rfl
      · simp only [Bool.not_eq_false'] at hf
        rw [if_neg (by rw [hf]; simp)]
        simp only [impl_picReader_inst_j21]
        refine OK.bind (iArgs_rd hl.tl ho) ?_
        rintro ⟨b, e, ws⟩ hx
        simp only [impl_picReader_inst_j27]
        rw [w64 (n := c) (by omega) (by omega), w64 (n := o) (by omega) (by omega)]
        cases hr : rAs (ar o).toNat r with
        | inl q => rw [hr] at hx; exact OK.mk hx
        | inr y =>
          obtain ⟨bs, r'⟩ := y
          rw [hr] at hx
          have hx : (b, e, ws) = (r', 0, bs) := hx
          cases hx
          exact OK.mk rfl
    · rw [iTakeS (by omega) (by omega) (by omega), Option.bind_some, lt1 h1]
      refine OK.idx (by omega) (by simp) fun y hy hyd => ?_
      refine OK.cond (fun hc => by simp at hc) (fun _ => ?_)
      simp only [impl_picReader_inst_j21]
      have hy0 : y = 0 := by simpa using hy
      subst hy0
      have e : loop (impl_picReader_inst_s31 0) ([], 6, [], 0) = some ([], 6, []) := by
        refine loop_out (OK.eq ?_)
        simp only [impl_picReader_inst_s31]
        rw [w64 (n := 0) (by omega) (by omega)]
        refine OK.bind (iArity_ok 0) ?_
        rintro _ rfl
        exact OK.cond (fun hc => by simp at hc) (fun _ => OK.mk rfl)
      rw [e]
      exact OK.mk rfl
def RelSA (b : List Int) (m : Int ⊕ (List DevArg × List Int)) (x : (List Int × Int × Int) ⊕ (List Int × Int × List DevArg)) : Prop := match m with
  | .inl c => ∃ q a, x = .inl (q, a, c)
  | .inr (ws, r) => ∃ q, SP b r q ∧ x = .inr (q.b, q.at_, ws)
theorem sArgs_rd {b l : List Int} {p : l17In} {o : Int} (hl : by8 l) (h : SP b l p) (ho : 0 ≤ o ∧ o < 256) : OK (loop (spec_l17In_inst_s55 o) (p.b, p.at_, [], 0)) (RelSA b (rAs (ar o).toNat l)) := by
  have hab := ar_bd o
  refine (OK.loop (k := fun x => some x) (P := RelSA b (rAs (ar o).toNat l)) (Q := RelSA b (rAs (ar o).toNat l)) (fun z : List Int × Int × List DevArg × Int => 0 ≤ z.2.2.2 ∧ z.2.2.2 ≤ ar o ∧ (z.2.2.1.length : Int) = z.2.2.2 ∧ ∃ r, by8 r ∧ SP b r ⟨z.1, z.2.1⟩ ∧ rAs (ar o).toNat l = joinA z.2.2.1 (rAs (ar o - z.2.2.2).toNat r)) (fun z => (ar o - z.2.2.2).toNat) ?_ ?_ (fun x hx => OK.mk hx)) |> fun h => by simpa using h
  · exact ⟨Int.le_refl _, hab.1, rfl, l, hl, h, by simp only [Int.sub_zero]; rw [joinA_nil]⟩
  · rintro ⟨pb, pa, ws, k⟩ ⟨h1, h2, h3, r, hr8, hsp, he⟩
    dsimp only at h1 h2 h3 hsp he
    simp only [spec_l17In_inst_s55]
    rw [w64 (n := o) (by omega) (by omega)]
    refine OK.bind (sArity_ok o) ?_
    rintro _ rfl
    refine OK.cond (fun hc => ?_) (fun hc => ?_)
    · simp only [decide_eq_true_eq] at hc
      refine OK.bind (sArg_rd hr8 hsp) ?_
      rintro ⟨a, e, p⟩ hx
      rw [show (ar o - k).toNat = (ar o - (k + 1)).toNat + 1 by omega, rAs_step] at he
      cases hr : rA r with
      | inl c =>
        rw [hr] at hx he
        have hx : e = c := hx
        have := rA_err hr
        refine OK.cond (fun _ => OK.mk ?_) (fun hc => by simp at hc; omega)
        show RelSA _ _ _
        rw [he]
        exact ⟨_, _, by rw [hx]⟩
      | inr y =>
        obtain ⟨a', r'⟩ := y
        rw [hr] at hx he
        obtain ⟨rfl, rfl, hp⟩ : a = a' ∧ e = 0 ∧ SP b r' p := hx
        refine OK.cond (fun hc => by simp at hc) (fun _ => ?_)
        refine OK.gd (apOk_of (by simp; omega) (by simp; omega)) ?_
        rw [w64 (n := k + 1) (by omega) (by omega)]
        exact OK.mk ⟨⟨by dsimp only; omega, by dsimp only; omega, by simp; omega, r', rA_by8 hr8 hr, hp, he⟩, by dsimp only; omega⟩
    · simp only [decide_eq_false_iff_not] at hc
      have : k = ar o := by omega
      subst this
      rw [Int.sub_self] at he
      have he : rAs (ar o).toNat l = .inr (ws, r) := by rw [he]; show joinA ws (.inr ([], r)) = _; simp [joinA]
      refine OK.mk ?_
      show RelSA _ _ _
      rw [he]
      exact ⟨⟨pb, pa⟩, hsp, rfl⟩
theorem sInst_rd {b l : List Int} {p : l17In} (hl : by8 l) (h : SP b l p) : OK (spec_l17In_inst p) (RelS b (rI l)) := by
  unfold spec_l17In_inst
  cases l with
  | nil =>
    rw [sTakeS h (by omega) (by simp), Option.bind_some]
    exact OK.cond (fun _ => OK.mk rfl) (fun hc => by simp at hc)
  | cons c l =>
    have hk := hl.hd
    have hl := hl.tl
    refine OK.bind (sTake h (by omega) (by simp; omega)) ?_
    rintro ⟨x, f, p1⟩ ⟨rfl, rfl, hp1⟩
    dsimp only at hp1 ⊢
    have hp1 : SP b l p1 := hp1
    refine OK.cond (fun hc => by cases hc) (fun _ => ?_)
    refine OK.idx (by omega) (by simp) fun y _ hy => ?_
    obtain rfl : c = y := hy
    rw [w64 (n := c) (by omega) (by omega)]
    simp only [rI]
    refine OK.cond (fun hc => ?_) (fun hc => ?_)
    · simp only [Bool.or_eq_true, decide_eq_true_eq] at hc
      rw [if_pos (by omega)]
      exact OK.mk rfl
    simp only [Bool.or_eq_false_iff, decide_eq_false_iff_not] at hc
    rw [if_neg (by omega), sHas_eq, Option.bind_some]
    refine OK.cond (fun hh => ?_) (fun hh => ?_)
    · simp only [Bool.not_eq_true'] at hh
      rw [if_pos hh]
      exact OK.mk ⟨rfl, rfl, hp1⟩
    simp only [Bool.not_eq_false'] at hh
    rw [if_neg (by rw [hh]; simp)]
    by_cases h1 : (1 : Int) ≤ l.length
    · refine OK.bind (sTake hp1 (by omega) h1) ?_
      rintro ⟨x, f, p2⟩ ⟨rfl, rfl, hp2⟩
      obtain ⟨o, r, rfl⟩ := ge1 h1
      have ho := hl.hd
      dsimp only at hp2 ⊢
      have hp2 : SP b r p2 := hp2
      refine OK.cond (fun hc => by cases hc) (fun _ => ?_)
      refine OK.idx (by omega) (by simp) fun y _ hy => ?_
      obtain rfl : o = y := hy
      simp only [rO]
      rw [w64 (n := o) (by omega) (by omega), sKnown_eq, Option.bind_some]
      refine OK.cond (fun hf => ?_) (fun hf => ?_)
      · simp only [Bool.not_eq_true'] at hf
        rw [if_pos hf]
        exact OK.mk rfl
      · simp only [Bool.not_eq_false'] at hf
        rw [if_neg (by rw [hf]; simp)]
        refine OK.bind (sArgs_rd hl.tl hp2 ho) ?_
        intro x hx
        cases hr : rAs (ar o).toNat r with
        | inl q =>
          rw [hr] at hx
          obtain ⟨q1, q2, rfl⟩ := hx
          exact OK.mk rfl
        | inr y =>
          obtain ⟨bs, r'⟩ := y
          rw [hr] at hx
          obtain ⟨q, hq, rfl⟩ := hx
          simp only [Sum.elim_inr, spec_l17In_inst_j51]
          rw [w64 (n := c) (by omega) (by omega), w64 (n := o) (by omega) (by omega)]
          exact OK.mk ⟨rfl, rfl, hq⟩
    · rw [sTakeS hp1 (by omega) (by omega), Option.bind_some, lt1 h1]
      exact OK.cond (fun _ => OK.mk rfl) (fun hc => by simp at hc)
end Go.AM
