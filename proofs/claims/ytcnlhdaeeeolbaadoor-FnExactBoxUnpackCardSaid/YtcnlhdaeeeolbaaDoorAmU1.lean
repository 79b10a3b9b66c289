/- Several texts in one. Conditions: none. -/
import Derived.Test.YtcnlhdaeeeolbaaDoorAmU0
import Derived.Test.YtcnlhdaeeeolbaaDoorAmB6
set_option linter.unusedSimpArgs false
set_option linter.unusedVariables false
section
/- Images: how both packages read instructions. Conditions: none. -/
namespace Go.AM
open Go
theorem iTake {l : List Int} {n : Int} (h0 : 0 ≤ n) (hn : n ≤ 100) (hl : n ≤ l.length) : impl_picReader_take ⟨l, 0⟩ n = some (l.take n.toNat, ⟨l.drop n.toNat, 0⟩) := by
  refine OK.eq ?_
  unfold impl_picReader_take
  refine OK.cond (fun hc => ?_) (fun _ => OK.prtH h0 hl (OK.prtL h0 hl (OK.mk rfl)))
  simp at hc; omega
theorem iTakeS {l : List Int} {n : Int} (h0 : 0 ≤ n) (hn : n ≤ 100) (hl : (l.length : Int) < n) : impl_picReader_take ⟨l, 0⟩ n = some (List.replicate n.toNat 0, ⟨l, 6⟩) := by
  refine OK.eq ?_
  unfold impl_picReader_take
  refine OK.cond (fun _ => ?_) (fun hc => ?_)
  · refine OK.cond (fun _ => ?_) (fun hc => by simp at hc)
    simp only [impl_picReader_take_j7]
    exact OK.gd (mkOk_of h0 (Int.le_refl _) (by omega) (by omega)) (OK.mk rfl)
  · simp at hc; omega
theorem iTakeC {l : List Int} {n c : Int} (h0 : 0 ≤ n) (hn : n ≤ 100) (hc : c ≠ 0) : impl_picReader_take ⟨l, c⟩ n = some (List.replicate n.toNat 0, ⟨l, c⟩) := by
  refine OK.eq ?_
  unfold impl_picReader_take
  refine OK.cond (fun _ => ?_) (fun hd => ?_)
  · refine OK.cond (fun hd => ?_) (fun _ => ?_)
    · simp only [beq_iff_eq] at hd; exact absurd hd hc
    · simp only [impl_picReader_take_j7]
      exact OK.gd (mkOk_of h0 (Int.le_refl _) (by omega) (by omega)) (OK.mk rfl)
  · simp only [Bool.or_eq_false_iff, bne_eq_false_iff_eq] at hd; exact absurd hd.1 hc
def RelI {α : Type} (m : Int ⊕ (α × List Int)) (x : α × picReader) : Prop := match m with
  | .inl c => x.2.code = c
  | .inr (a, r) => x = (a, ⟨r, 0⟩)
theorem rN_err {k c : Int} {l : List Int} (h : rN k l = .inl c) : c = 6 := by
  cases l with
  | nil => cases h; rfl
  | cons _ _ => cases h
theorem rA_err {l : List Int} {c : Int} (h : rA l = .inl c) : 0 < c ∧ c < 100 := by
  cases l with
  | nil => cases h; omega
  | cons k l =>
    simp only [rA, rK] at h
    repeat' split at h
    · cases h; omega
    · unfold rW at h; split at h <;> cases h; omega
    · unfold rD at h; split at h <;> cases h; omega
    · rw [rN_err h]; omega
theorem lt1 {l : List Int} (h : ¬ (1 : Int) ≤ l.length) : l = [] := List.eq_nil_of_length_eq_zero (by omega)
theorem lt2 {l : List Int} (h : ¬ (2 : Int) ≤ l.length) : rW l = .inl 6 := by
  match l with
  | [] => rfl
  | [_] => rfl
  | a :: b :: r => simp at h; omega
theorem lt5 {l : List Int} (h : ¬ (5 : Int) ≤ l.length) : rD l = .inl 6 := by
  match l with
  | [] => rfl
  | [_] => rfl
  | [_, _] => rfl
  | [_, _, _] => rfl
  | [_, _, _, _] => rfl
  | a :: b :: c :: d :: e :: r => simp at h; omega
theorem ge1 {l : List Int} (h : (1 : Int) ≤ l.length) : ∃ a r, l = a :: r := by
  match l with
  | [] => simp at h
  | a :: r => exact ⟨a, r, rfl⟩
theorem ge2 {l : List Int} (h : (2 : Int) ≤ l.length) : ∃ a b r, l = a :: b :: r := by
  match l with
  | [] => simp at h
  | [_] => simp at h
  | a :: b :: r => exact ⟨a, b, r, rfl⟩
theorem ge4 {l : List Int} (h : (4 : Int) ≤ l.length) : ∃ a b c d r, l = a :: b :: c :: d :: r := by
  match l with
  | [] => simp at h
  | [_] => simp at h
  | [_, _] => simp at h
  | [_, _, _] => simp at h
  | a :: b :: c :: d :: r => exact ⟨a, b, c, d, r, rfl⟩
theorem sg_zero2 : impl_signed (List.replicate (2 : Int).toNat 0) = some 0 := by
  rw [show List.replicate (2 : Int).toNat (0 : Int) = [0, 0] from rfl, sg2 (by intro y hy; simp at hy; omega)]; rfl
theorem sg_zero4 : impl_signed (List.replicate (4 : Int).toNat 0) = some 0 := by
  rw [show List.replicate (4 : Int).toNat (0 : Int) = [0, 0, 0, 0] from rfl, sg4 (by intro y hy; simp at hy; omega)]; rfl
theorem iArg_rd {l : List Int} (hl : by8 l) : OK (impl_picReader_arg ⟨l, 0⟩) (RelI (rA l)) := by
  unfold impl_picReader_arg
  cases l with
  | nil =>
    rw [iTakeS (by omega) (by omega) (by simp), Option.bind_some]
    refine OK.idx (by omega) (by simp) fun y hy _ => ?_
    refine OK.cond (fun _ => ?_) (fun hc => by simp at hc)
    simp only [impl_picReader_arg_j5]
    exact OK.mk rfl
  | cons k l =>
    have hk := hl.hd
    have hl := hl.tl
    rw [iTake (by omega) (by omega) (by simp; omega), Option.bind_some]
    refine OK.idx (by omega) (by simp) fun y _ hy => ?_
    obtain rfl : k = y := hy
    refine OK.cond (fun hc => by simp at hc) (fun _ => ?_)
    rw [w64 (n := k) (by omega) (by omega), in_eq, Option.bind_some]
    simp only [show List.drop (1 : Int).toNat (k :: l) = l from rfl, rA, rK]
    refine OK.cond (fun hc => ?_) (fun hc => ?_)
    · simp only [Bool.or_eq_true, decide_eq_true_eq, beq_iff_eq] at hc
      rw [if_neg (by omega), if_neg (by omega), if_neg (by omega)]
      by_cases h1 : (1 : Int) ≤ l.length
      · obtain ⟨a, r, rfl⟩ := ge1 h1
        have ha := hl.hd
        rw [iTake (by omega) (by omega) h1, Option.bind_some]
        refine OK.idx (by omega) (by simp) fun y _ hy => ?_
        obtain rfl : a = y := hy
        simp only [impl_picReader_arg_j5]
        rw [w64 (n := a) (by omega) (by omega), w64 (n := k) (by omega) (by omega)]
        exact OK.mk rfl
      · rw [iTakeS (by omega) (by omega) (by omega), Option.bind_some, lt1 h1]
        refine OK.idx (by omega) (by simp) fun y hy _ => ?_
        simp only [impl_picReader_arg_j5]
        exact OK.mk rfl
    · simp only [Bool.or_eq_false_iff, decide_eq_false_iff_not, beq_eq_false_iff_ne] at hc
      refine OK.cond (fun hd => ?_) (fun hd => ?_)
      · simp only [beq_iff_eq] at hd
        subst hd
        rw [if_neg (by omega), if_pos rfl]
        by_cases h1 : (2 : Int) ≤ l.length
        · obtain ⟨a, b, r, rfl⟩ := ge2 h1
          rw [iTake (by omega) (by omega) h1, Option.bind_some]
          simp only [show List.take (2 : Int).toNat (a :: b :: r) = [a, b] from rfl]
          rw [sg2 (by intro y hy; exact hl y (by simp at hy ⊢; omega)), Option.bind_some]
          simp only [impl_picReader_arg_j5]
          exact OK.mk rfl
        · rw [iTakeS (by omega) (by omega) (by omega), Option.bind_some, lt2 h1, sg_zero2, Option.bind_some]
          simp only [impl_picReader_arg_j5]
          exact OK.mk rfl
      · simp only [beq_eq_false_iff_ne] at hd
        refine OK.cond (fun he => ?_) (fun he => ?_)
        · simp only [beq_iff_eq] at he
          subst he
          rw [if_neg (by omega), if_neg (by omega), if_pos rfl]
          by_cases h1 : (4 : Int) ≤ l.length
          · obtain ⟨a, b, c, d, r, rfl⟩ := ge4 h1
            rw [iTake (by omega) (by omega) h1, Option.bind_some]
            simp only [show List.take (4 : Int).toNat (a :: b :: c :: d :: r) = [a, b, c, d] from rfl, show List.drop (4 : Int).toNat (a :: b :: c :: d :: r) = r from rfl]
            rw [sg4 (by intro y hy; exact hl y (by simp at hy ⊢; omega)), Option.bind_some]
            by_cases h2 : (1 : Int) ≤ r.length
            · obtain ⟨p, r, rfl⟩ := ge1 h2
              have hp : 0 ≤ p ∧ p < 256 := hl p (by simp)
              rw [iTake (by omega) (by omega) h2, Option.bind_some]
              refine OK.idx (by omega) (by simp) fun y _ hy => ?_
              obtain rfl : p = y := hy
              simp only [impl_picReader_arg_j5]
              rw [w64 (n := p) (by omega) (by omega)]
              exact OK.mk rfl
            · rw [iTakeS (by omega) (by omega) (by omega), Option.bind_some, lt1 h2]
              refine OK.idx (by omega) (by simp) fun y hy _ => ?_
              simp only [impl_picReader_arg_j5]
              exact OK.mk rfl
          · rw [iTakeS (by omega) (by omega) (by omega), Option.bind_some, lt5 (by omega), sg_zero4, Option.bind_some, iTakeC (by omega) (by omega) (by omega), Option.bind_some]
            refine OK.idx (by omega) (by simp) fun y hy _ => ?_
            simp only [impl_picReader_arg_j5]
            exact OK.mk rfl
        · simp only [beq_eq_false_iff_ne] at he
          rw [if_pos (by omega)]
          simp only [impl_picReader_arg_j5]
          exact OK.mk rfl
/-! the document's -/
def SP (b r : List Int) (p : l17In) : Prop := p.b = b ∧ 0 ≤ p.at_ ∧ p.at_ ≤ b.length ∧ b.drop p.at_.toNat = r ∧ b.length ≤ 1000000
theorem SP.len {b r : List Int} {p : l17In} (h : SP b r p) : (r.length : Int) = b.length - p.at_ := by
  obtain ⟨h1, h2, h3, h4, _⟩ := h
  rw [← h4, List.length_drop]; omega
theorem sTake {b r : List Int} {p : l17In} {n : Int} (h : SP b r p) (h0 : 0 ≤ n) (hl : n ≤ r.length) : OK (spec_l17In_take p n) (fun x => x.1 = r.take n.toNat ∧ x.2.1 = true ∧ SP b (r.drop n.toNat) x.2.2) := by
  have hlen := h.len
  obtain ⟨pb, pa⟩ := p
  obtain ⟨h1, h2, h3, h4, h5⟩ := h
  dsimp only at h1 h2 h3 h4 hlen
  subst h1
  unfold spec_l17In_take
  dsimp only
  rw [w64 (n := (pb.length : Int) - pa) (by omega) (by omega), w64 (n := pa + n) (by omega) (by omega), w64 (n := pa + n - n) (by omega) (by omega)]
  refine OK.cond (fun hc => ?_) (fun _ => ?_)
  · simp only [decide_eq_true_eq] at hc; omega
  · refine OK.prt (by omega) (by omega) (by omega) (OK.mk ⟨?_, rfl, rfl, by dsimp only; omega, by dsimp only; omega, ?_, h5⟩)
    · rw [← h4, List.drop_take, show pa + n - n = pa by omega, show (pa + n).toNat - pa.toNat = n.toNat by omega]
    · dsimp only
      rw [← h4, List.drop_drop, show pa.toNat + n.toNat = (pa + n).toNat by omega]
theorem sTakeS {b r : List Int} {p : l17In} {n : Int} (h : SP b r p) (h0 : 0 ≤ n) (hl : (r.length : Int) < n) : spec_l17In_take p n = some ([], false, p) := by
  have hlen := h.len
  obtain ⟨pb, pa⟩ := p
  obtain ⟨h1, h2, h3, h4, h5⟩ := h
  dsimp only at h1 h2 h3 h4 hlen
  subst h1
  refine OK.eq ?_
  unfold spec_l17In_take
  dsimp only
  rw [w64 (n := (pb.length : Int) - pa) (by omega) (by omega)]
  refine OK.cond (fun _ => OK.mk rfl) (fun hc => ?_)
  simp only [decide_eq_false_iff_not] at hc; omega
def RelS {α : Type} (b : List Int) (m : Int ⊕ (α × List Int)) (x : α × Int × l17In) : Prop := match m with
  | .inl c => x.2.1 = c
  | .inr (a, r) => x.1 = a ∧ x.2.1 = 0 ∧ SP b r x.2.2
theorem sArg_rd {b l : List Int} {p : l17In} (hl : by8 l) (h : SP b l p) : OK (spec_l17In_arg p) (RelS b (rA l)) := by
  unfold spec_l17In_arg
  cases l with
  | nil =>
    rw [sTakeS h (by omega) (by simp), Option.bind_some]
    refine OK.cond (fun _ => OK.mk rfl) (fun hc => by simp at hc)
  | cons k l =>
    have hk := hl.hd
    have hl := hl.tl
    refine OK.bind (sTake h (by omega) (by simp; omega)) ?_
    rintro ⟨x, f, p1⟩ ⟨rfl, rfl, hp1⟩
    dsimp only at hp1 ⊢
    have hp1 : SP b l p1 := hp1
    refine OK.cond (fun hc => by cases hc) (fun _ => ?_)
    refine OK.idx (by omega) (by simp) fun y _ hy => ?_
    obtain rfl : k = y := hy
    rw [w64 (n := k) (by omega) (by omega)]
    simp only [rA, rK]
    refine OK.cond (fun hc => ?_) (fun hc => ?_)
    · simp only [Bool.or_eq_true, decide_eq_true_eq] at hc
      rw [if_pos (by omega)]
      exact OK.mk rfl
    simp only [Bool.or_eq_false_iff, decide_eq_false_iff_not] at hc
    rw [if_neg (by omega)]
    by_cases q1 : k = 11
    · have w1 : spec_l17Wide k = some 2 := by unfold spec_l17Wide; rw [q1]; rfl
      rw [w1, Option.bind_some, if_pos q1]
      by_cases h1 : (2 : Int) ≤ l.length
      · refine OK.bind (sTake hp1 (by omega) h1) ?_
        rintro ⟨x, f, p2⟩ ⟨rfl, rfl, hp2⟩
        obtain ⟨a, c, r, rfl⟩ := ge2 h1
        dsimp only at hp2 ⊢
        refine OK.cond (fun hc => by cases hc) (fun _ => ?_)
        rw [show List.take (2 : Int).toNat (a :: c :: r) = [a, c] from rfl, sv2 (by intro y hy; exact hl y (by simp at hy ⊢; omega)), Option.bind_some]
        refine OK.cond (fun hz => by simp [q1] at hz) (fun _ => ?_)
        simp only [spec_l17In_arg_j37]
        rw [w64 (n := k) (by omega) (by omega), q1]
        exact OK.mk ⟨rfl, rfl, hp2⟩
      · rw [sTakeS hp1 (by omega) (by omega), Option.bind_some, lt2 h1]
        exact OK.cond (fun _ => OK.mk rfl) (fun hc => by simp at hc)
    rw [if_neg q1]
    by_cases q2 : k = 12
    · have w1 : spec_l17Wide k = some 4 := by unfold spec_l17Wide; rw [q2]; rfl
      rw [w1, Option.bind_some, if_pos q2]
      by_cases h1 : (4 : Int) ≤ l.length
      · refine OK.bind (sTake hp1 (by omega) h1) ?_
        rintro ⟨x, f, p2⟩ ⟨rfl, rfl, hp2⟩
        obtain ⟨a, c, d, e, r, rfl⟩ := ge4 h1
        dsimp only at hp2 ⊢
        refine OK.cond (fun hc => by cases hc) (fun _ => ?_)
        rw [show List.take (4 : Int).toNat (a :: c :: d :: e :: r) = [a, c, d, e] from rfl, sv4 (by intro y hy; exact hl y (by simp at hy ⊢; omega)), Option.bind_some]
        refine OK.cond (fun _ => ?_) (fun hz => by simp [q2] at hz)
        have hp2 : SP b r p2 := hp2
        by_cases h2 : (1 : Int) ≤ r.length
        · refine OK.bind (sTake hp2 (by omega) h2) ?_
          rintro ⟨x, f, p3⟩ ⟨rfl, rfl, hp3⟩
          obtain ⟨pp, r, rfl⟩ := ge1 h2
          have hpp : 0 ≤ pp ∧ pp < 256 := hl pp (by simp)
          dsimp only at hp3 ⊢
          refine OK.cond (fun hc => by cases hc) (fun _ => ?_)
          refine OK.idx (by omega) (by simp) fun y _ hy => ?_
          obtain rfl : pp = y := hy
          simp only [spec_l17In_arg_j37]
          rw [w64 (n := k) (by omega) (by omega), w64 (n := pp) (by omega) (by omega), q2]
          exact OK.mk ⟨rfl, rfl, hp3⟩
        · rw [sTakeS hp2 (by omega) (by omega), Option.bind_some, lt1 h2]
          exact OK.cond (fun _ => OK.mk rfl) (fun hc => by simp at hc)
      · rw [sTakeS hp1 (by omega) (by omega), Option.bind_some, lt5 (by omega)]
        exact OK.cond (fun _ => OK.mk rfl) (fun hc => by simp at hc)
    rw [if_neg q2]
    have w1 : spec_l17Wide k = some 1 := by
      unfold spec_l17Wide
      rw [show (k == 11) = false by simpa using q1, show (k == 12) = false by simpa using q2]; rfl
    rw [w1, Option.bind_some]
    by_cases h1 : (1 : Int) ≤ l.length
    · refine OK.bind (sTake hp1 (by omega) h1) ?_
      rintro ⟨x, f, p2⟩ ⟨rfl, rfl, hp2⟩
      obtain ⟨a, r, rfl⟩ := ge1 h1
      dsimp only at hp2 ⊢
      refine OK.cond (fun hc => by cases hc) (fun _ => ?_)
      rw [show List.take (1 : Int).toNat (a :: r) = [a] from rfl, sv1 (by intro y hy; exact hl y (by simp at hy ⊢; omega)), Option.bind_some]
      refine OK.cond (fun hz => by simp [q2] at hz) (fun _ => ?_)
      simp only [spec_l17In_arg_j37]
      rw [w64 (n := k) (by omega) (by omega)]
      exact OK.mk ⟨rfl, rfl, hp2⟩
    · rw [sTakeS hp1 (by omega) (by omega), Option.bind_some, lt1 h1]
      exact OK.cond (fun _ => OK.mk rfl) (fun hc => by simp at hc)
end Go.AM
end
section
/- Images: how both packages read instructions and lists. Conditions: none. -/
namespace Go.AM
open Go
def rAs : Nat → List Int → Int ⊕ (List DevArg × List Int)
  | 0, l => .inr ([], l)
  | n + 1, l => match rA l with
    | .inl c => .inl c
    | .inr (a, r) => match rAs n r with
      | .inl c => .inl c
      | .inr (ws, r') => .inr (a :: ws, r')
def rO (c : Int) : List Int → Int ⊕ (Inst × List Int)
  | [] => .inl 6
  | o :: l => if known c o = false then .inl 2 else match rAs (ar o).toNat l with
    | .inl e => .inl e
    | .inr (ws, r) => .inr (⟨c, o, ws⟩, r)
def rI : List Int → Int ⊕ (Inst × List Int)
  | [] => .inl 6
  | c :: l => if c < 1 ∨ c > 11 then .inl 2 else if isHas c = false then .inr (⟨c, 0, []⟩, l) else rO c l
def rL : Nat → Int → List Int → (Int × Int) ⊕ (List Inst × List Int)
  | 0, _, l => .inr ([], l)
  | n + 1, t, l => match rI l with
    | .inl c => .inl (c, t)
    | .inr (i, r) => match rL n (t + 1) r with
      | .inl e => .inl e
      | .inr (js, r') => .inr (i :: js, r')
theorem rA_by8 {l r : List Int} {a : DevArg} (hl : by8 l) (h : rA l = .inr (a, r)) : by8 r := by
  obtain ⟨rfl, _⟩ := rA_enc hl h
  exact fun y hy => hl y (List.mem_append_right _ hy)
theorem rAs_enc : ∀ {n : Nat} {l r : List Int} {ws : List DevArg}, by8 l → rAs n l = .inr (ws, r) → l = ws.flatMap encA ++ r ∧ ws.length = n ∧ ws.all argOk = true
  | 0, l, r, ws, hl, h => by cases h; exact ⟨rfl, rfl, rfl⟩
  | n + 1, l, r, ws, hl, h => by
    simp only [rAs] at h
    split at h
    · cases h
    · rename_i a r1 h1
      split at h
      · cases h
      · rename_i ws' r2 h2
        cases h
        obtain ⟨e1, e2⟩ := rA_enc hl h1
        obtain ⟨f1, f2, f3⟩ := rAs_enc (rA_by8 hl h1) h2
        refine ⟨?_, by simp [f2], by simp [e2]; simpa using f3⟩
        rw [e1, f1]; simp
theorem rAs_dec : ∀ {ws : List DevArg} (r : List Int), ws.all argOk = true → rAs ws.length (ws.flatMap encA ++ r) = .inr (ws, r)
  | [], r, _ => rfl
  | a :: ws, r, h => by
    simp only [List.all_cons, Bool.and_eq_true] at h
    simp only [List.length_cons, rAs, List.flatMap_cons, List.append_assoc]
    rw [rA_dec h.1]
    dsimp only
    rw [rAs_dec r h.2]
theorem rI_enc {l r : List Int} {i : Inst} (hl : by8 l) (h : rI l = .inr (i, r)) : l = encI i ++ r ∧ wro i = 0 := by
  cases l with
  | nil => cases h
  | cons c l =>
    have hc := hl.hd
    simp only [rI] at h
    split at h
    · cases h
    rename_i h1
    split at h
    · rename_i h2
      cases h
      refine ⟨?_, ?_⟩
      · simp only [encI, h2, Bool.false_eq_true, if_false, List.cons_append, List.nil_append, List.cons.injEq, and_true]; omega
      · rw [wro, if_neg h1, if_pos h2, if_neg (by simp)]
    rename_i h2
    cases l with
    | nil => cases h
    | cons o l =>
      have ho := hl.tl.hd
      simp only [rO] at h
      split at h
      · cases h
      rename_i h3
      split at h
      · cases h
      rename_i ws r1 h4
      cases h
      obtain ⟨f1, f2, f3⟩ := rAs_enc hl.tl.tl h4
      have hab := ar_bd o
      have h2 : isHas c = true := by simpa using h2
      refine ⟨?_, ?_⟩
      · simp only [encI, h2, if_true, List.cons_append, List.cons.injEq]
        exact ⟨by omega, by omega, f1⟩
      · rw [wro, if_neg h1, if_neg (by dsimp only; rw [h2]; simp), if_neg ?_, if_pos f3]
        dsimp only
        rintro (q | q)
        · exact h3 q
        · exact q (by omega)
theorem known_bd {c o : Int} (h : known c o = true) : 1 ≤ o ∧ o ≤ 37 := by
  unfold known at h
  split at h <;> · simp only [decide_eq_true_eq] at h; omega
theorem rI_dec {i : Inst} (h : wro i = 0) (r : List Int) : rI (encI i ++ r) = .inr (i, r) := by
  obtain ⟨c1, c2, h3, h4⟩ := wro_zero h
  obtain ⟨c, o, ws⟩ := i
  dsimp only at c1 c2 h3 h4
  have hc : c % 256 = c := by omega
  simp only [encI, List.cons_append, rI, hc]
  rw [if_neg (by omega)]
  cases hh : isHas c with
  | false =>
    obtain ⟨rfl, rfl⟩ := h3 hh
    simp
  | true =>
    obtain ⟨k1, k2, k3⟩ := h4 hh
    have hk := known_bd k1
    rw [if_neg (by simp), if_pos rfl]
    have ho : o % 256 = o := by omega
    simp only [List.cons_append, rO, ho]
    rw [if_neg (by rw [k1]; simp), ← k2, Int.toNat_natCast, rAs_dec r k3]
theorem rL_enc : ∀ {n : Nat} {t : Int} {l r : List Int} {js : List Inst}, by8 l → rL n t l = .inr (js, r) → l = js.flatMap encI ++ r ∧ js.length = n ∧ ∀ i ∈ js, wro i = 0
  | 0, t, l, r, js, hl, h => by cases h; exact ⟨rfl, rfl, fun i hi => by cases hi⟩
  | n + 1, t, l, r, js, hl, h => by
    simp only [rL] at h
    split at h
    · cases h
    · rename_i i r1 h1
      split at h
      · cases h
      · rename_i js' r2 h2
        cases h
        obtain ⟨e1, e2⟩ := rI_enc hl h1
        have hb : by8 r1 := by rw [e1] at hl; exact fun y hy => hl y (List.mem_append_right _ hy)
        obtain ⟨f1, f2, f3⟩ := rL_enc hb h2
        refine ⟨?_, by simp [f2], fun j hj => ?_⟩
        · rw [e1, f1]; simp
        · rcases List.mem_cons.1 hj with rfl | hj
          · exact e2
          · exact f3 j hj
theorem rL_dec : ∀ {js : List Inst} (t : Int) (r : List Int), (∀ i ∈ js, wro i = 0) → rL js.length t (js.flatMap encI ++ r) = .inr (js, r)
  | [], t, r, _ => rfl
  | i :: js, t, r, h => by
    simp only [List.length_cons, rL, List.flatMap_cons, List.append_assoc]
    rw [rI_dec (h i (.head _))]
    dsimp only
    rw [rL_dec (t + 1) r fun j hj => h j (.tail _ hj)]
theorem rAs_err : ∀ {n : Nat} {l : List Int} {c : Int}, rAs n l = .inl c → 0 < c ∧ c < 100
  | 0, l, c, h => by cases h
  | n + 1, l, c, h => by
    simp only [rAs] at h
    split at h
    · rename_i h1; cases h; exact rA_err h1
    · split at h
      · rename_i h2; cases h; exact rAs_err h2
      · cases h
theorem rI_err {l : List Int} {c : Int} (h : rI l = .inl c) : 0 < c ∧ c < 100 := by
  cases l with
  | nil => cases h; omega
  | cons k l =>
    simp only [rI] at h
    split at h
    · cases h; omega
    split at h
    · cases h
    cases l with
    | nil => cases h; omega
    | cons o l =>
      simp only [rO] at h
      split at h
      · cases h; omega
      split at h
      · rename_i h4; cases h; exact rAs_err h4
      · cases h
def joinA (ws : List DevArg) (m : Int ⊕ (List DevArg × List Int)) : Int ⊕ (List DevArg × List Int) := match m with
  | .inl c => .inl c
  | .inr (bs, r) => .inr (ws ++ bs, r)
theorem rAs_step {n : Nat} {l : List Int} (ws : List DevArg) : joinA ws (rAs (n + 1) l) = match rA l with
    | .inl c => .inl c
    | .inr (a, r) => joinA (ws ++ [a]) (rAs n r) := by
  simp only [rAs]
  cases rA l with
  | inl c => rfl
  | inr x =>
    obtain ⟨a, r⟩ := x
    dsimp only
    cases rAs n r with
    | inl c => rfl
    | inr y => obtain ⟨bs, r'⟩ := y; simp [joinA]
theorem joinA_nil (m : Int ⊕ (List DevArg × List Int)) : joinA [] m = m := by
  cases m with
  | inl c => rfl
  | inr y => rfl
def RelIs (m : Int ⊕ (List DevArg × List Int)) (x : List Int × Int × List DevArg) : Prop := match m with
  | .inl c => x.2.1 = c
  | .inr (ws, r) => x = (r, 0, ws)
theorem iArgs_rd {o : Int} {l : List Int} (hl : by8 l) (ho : 0 ≤ o ∧ o < 256) : OK (loop (impl_picReader_inst_s31 o) (l, 0, [], 0)) (RelIs (rAs (ar o).toNat l)) := by
  have hab := ar_bd o
  refine (OK.loop (k := fun x => some x) (P := RelIs (rAs (ar o).toNat l)) (Q := RelIs (rAs (ar o).toNat l)) (fun z : List Int × Int × List DevArg × Int => 0 ≤ z.2.2.2 ∧ z.2.2.2 ≤ ar o ∧ (z.2.2.1.length : Int) = z.2.2.2 ∧ ((z.2.1 = 0 ∧ by8 z.1 ∧ rAs (ar o).toNat l = joinA z.2.2.1 (rAs (ar o - z.2.2.2).toNat z.1)) ∨ (z.2.1 ≠ 0 ∧ rAs (ar o).toNat l = .inl z.2.1))) (fun z => (ar o - z.2.2.2).toNat) ?_ ?_ (fun x hx => OK.mk hx)) |> fun h => by simpa using h
  · exact ⟨Int.le_refl _, hab.1, rfl, .inl ⟨rfl, hl, by simp only [Int.sub_zero]; rw [joinA_nil]⟩⟩
  · rintro ⟨b, c, ws, k⟩ ⟨h1, h2, h3, h4⟩
    dsimp only at h1 h2 h3 h4
    simp only [impl_picReader_inst_s31]
    rw [w64 (n := o) (by omega) (by omega)]
    refine OK.bind (iArity_ok o) ?_
    rintro _ rfl
    refine OK.cond (fun hc => ?_) (fun hc => ?_)
    · simp only [Bool.and_eq_true, decide_eq_true_eq, beq_iff_eq] at hc
      obtain ⟨hk, rfl⟩ := hc
      rcases h4 with ⟨_, hb, he⟩ | ⟨hz, _⟩
      · refine OK.bind (iArg_rd hb) ?_
        rintro ⟨a, p⟩ hx
        refine OK.gd (apOk_of (by simp; omega) (by simp; omega)) ?_
        rw [w64 (n := k + 1) (by omega) (by omega)]
        rw [show (ar o - k).toNat = (ar o - (k + 1)).toNat + 1 by omega, rAs_step] at he
        refine OK.mk ⟨⟨by dsimp only; omega, by dsimp only; omega, by simp; omega, ?_⟩, by dsimp only; omega⟩
        dsimp only
        cases hr : rA b with
        | inl e =>
          rw [hr] at hx he
          have hx : p.code = e := hx
          have := rA_err hr
          exact .inr ⟨by omega, by rw [he, hx]⟩
        | inr y =>
          obtain ⟨a', r⟩ := y
          rw [hr] at hx he
          have hx : (a, p) = (a', ⟨r, 0⟩) := hx
          cases hx
          exact .inl ⟨rfl, rA_by8 hb hr, he⟩
      · exact absurd rfl hz
    · simp only [Bool.and_eq_false_iff, decide_eq_false_iff_not, beq_eq_false_iff_ne] at hc
      refine OK.mk ?_
      show RelIs _ (b, c, ws)
      rcases h4 with ⟨rfl, hb, he⟩ | ⟨hz, he⟩
      · have : k = ar o := by rcases hc with q | q <;> omega
        subst this
        rw [he, Int.sub_self]
        show RelIs (joinA ws (.inr ([], b))) _
        simp [joinA, RelIs]
      · rw [he]; rfl
theorem iInst_rd {l : List Int} (hl : by8 l) : OK (impl_picReader_inst ⟨l, 0⟩) (RelI (rI l)) := by
  unfold impl_picReader_inst
  cases l with
  | nil =>
    rw [iTakeS (by omega) (by omega) (by simp), Option.bind_some]
    refine OK.idx (by omega) (by simp) fun y hy _ => ?_
    refine OK.cond (fun hc => by simp at hc) (fun _ => ?_)
    simp only [impl_picReader_inst_j5]
    exact OK.mk rfl
  | cons c l =>
    have hk := hl.hd
    have hl := hl.tl
    rw [iTake (by omega) (by omega) (by simp; omega), Option.bind_some]
    refine OK.idx (by omega) (by simp) fun y _ hy => ?_
    obtain rfl : c = y := hy
    simp only [show List.drop (1 : Int).toNat (c :: l) = l from rfl, rI]
    refine OK.cond (fun _ => ?_) (fun hc => by simp at hc)
    rw [w64 (n := c) (by omega) (by omega), in_eq, Option.bind_some]
    refine OK.cond (fun hc => ?_) (fun hc => ?_)
    · simp only [Bool.not_eq_true', decide_eq_false_iff_not] at hc
      rw [if_pos (by omega)]
      simp only [impl_picReader_inst_j5]
      exact OK.mk rfl
    simp only [Bool.not_eq_false', decide_eq_true_eq] at hc
    rw [if_neg (by omega)]
    simp only [impl_picReader_inst_j5]
    rw [w64 (n := c) (by omega) (by omega), iHas_eq, Option.bind_some]
    refine OK.cond (fun hz => by simp at hz) (fun _ => ?_)
    refine OK.cond (fun hh => ?_) (fun hh => ?_)
    · simp only [Bool.not_eq_true'] at hh
      rw [if_pos hh]
      exact OK.mk rfl
    simp only [Bool.not_eq_false'] at hh
    rw [if_neg (by rw [hh]; simp)]
    by_cases h1 : (1 : Int) ≤ l.length
    · obtain ⟨o, r, rfl⟩ := ge1 h1
      have ho := hl.hd
      rw [iTake (by omega) (by omega) h1, Option.bind_some]
      refine OK.idx (by omega) (by simp) fun y _ hy => ?_
      obtain rfl : o = y := hy
      simp only [show List.drop (1 : Int).toNat (o :: r) = r from rfl, rO]
      refine OK.cond (fun _ => ?_) (fun hc => by simp at hc)
      rw [w64 (n := o) (by omega) (by omega), iFits_eq, Option.bind_some]
      refine OK.cond (fun hf => ?_) (fun hf => ?_)
      · simp only [Bool.not_eq_true'] at hf
        rw [if_pos hf]
        simp only [impl_picReader_inst_j21]
        have e : loop (impl_picReader_inst_s31 o) (r, 2, [], 0) = some (r, 2, []) := by
          refine loop_out (OK.eq ?_)
          simp only [impl_picReader_inst_s31]
          rw [w64 (n := o) (by omega) (by omega)]
          refine OK.bind (iArity_ok o) ?_
          rintro _ rfl
          exact OK.cond (fun hc => by simp at hc) (fun _ => OK.mk rfl)
        rw [e]
        exact OK.mk rfl
      · simp only [Bool.not_eq_false'] at hf
        rw [if_neg (by rw [hf]; simp)]
        simp only [impl_picReader_inst_j21]
        refine OK.bind (iArgs_rd hl.tl ho) ?_
        rintro ⟨b, e, ws⟩ hx
        simp only [impl_picReader_inst_j27]
        rw [w64 (n := c) (by omega) (by omega), w64 (n := o) (by omega) (by omega)]
        cases hr : rAs (ar o).toNat r with
        | inl q => rw [hr] at hx; exact OK.mk hx
        | inr y =>
          obtain ⟨bs, r'⟩ := y
          rw [hr] at hx
          have hx : (b, e, ws) = (r', 0, bs) := hx
          cases hx
          exact OK.mk rfl
    · rw [iTakeS (by omega) (by omega) (by omega), Option.bind_some, lt1 h1]
      refine OK.idx (by omega) (by simp) fun y hy hyd => ?_
      refine OK.cond (fun hc => by simp at hc) (fun _ => ?_)
      simp only [impl_picReader_inst_j21]
      have hy0 : y = 0 := by simpa using hy
      subst hy0
      have e : loop (impl_picReader_inst_s31 0) ([], 6, [], 0) = some ([], 6, []) := by
        refine loop_out (OK.eq ?_)
        simp only [impl_picReader_inst_s31]
        rw [w64 (n := 0) (by omega) (by omega)]
        refine OK.bind (iArity_ok 0) ?_
        rintro _ rfl
        exact OK.cond (fun hc => by simp at hc) (fun _ => OK.mk rfl)
      rw [e]
      exact OK.mk rfl
def RelSA (b : List Int) (m : Int ⊕ (List DevArg × List Int)) (x : (List Int × Int × Int) ⊕ (List Int × Int × List DevArg)) : Prop := match m with
  | .inl c => ∃ q a, x = .inl (q, a, c)
  | .inr (ws, r) => ∃ q, SP b r q ∧ x = .inr (q.b, q.at_, ws)
theorem sArgs_rd {b l : List Int} {p : l17In} {o : Int} (hl : by8 l) (h : SP b l p) (ho : 0 ≤ o ∧ o < 256) : OK (loop (spec_l17In_inst_s55 o) (p.b, p.at_, [], 0)) (RelSA b (rAs (ar o).toNat l)) := by
  have hab := ar_bd o
  refine (OK.loop (k := fun x => some x) (P := RelSA b (rAs (ar o).toNat l)) (Q := RelSA b (rAs (ar o).toNat l)) (fun z : List Int × Int × List DevArg × Int => 0 ≤ z.2.2.2 ∧ z.2.2.2 ≤ ar o ∧ (z.2.2.1.length : Int) = z.2.2.2 ∧ ∃ r, by8 r ∧ SP b r ⟨z.1, z.2.1⟩ ∧ rAs (ar o).toNat l = joinA z.2.2.1 (rAs (ar o - z.2.2.2).toNat r)) (fun z => (ar o - z.2.2.2).toNat) ?_ ?_ (fun x hx => OK.mk hx)) |> fun h => by simpa using h
  · exact ⟨Int.le_refl _, hab.1, rfl, l, hl, h, by simp only [Int.sub_zero]; rw [joinA_nil]⟩
  · rintro ⟨pb, pa, ws, k⟩ ⟨h1, h2, h3, r, hr8, hsp, he⟩
    dsimp only at h1 h2 h3 hsp he
    simp only [spec_l17In_inst_s55]
    rw [w64 (n := o) (by omega) (by omega)]
    refine OK.bind (sArity_ok o) ?_
    rintro _ rfl
    refine OK.cond (fun hc => ?_) (fun hc => ?_)
    · simp only [decide_eq_true_eq] at hc
      refine OK.bind (sArg_rd hr8 hsp) ?_
      rintro ⟨a, e, p⟩ hx
      rw [show (ar o - k).toNat = (ar o - (k + 1)).toNat + 1 by omega, rAs_step] at he
      cases hr : rA r with
      | inl c =>
        rw [hr] at hx he
        have hx : e = c := hx
        have := rA_err hr
        refine OK.cond (fun _ => OK.mk ?_) (fun hc => by simp at hc; omega)
        show RelSA _ _ _
        rw [he]
        exact ⟨_, _, by rw [hx]⟩
      | inr y =>
        obtain ⟨a', r'⟩ := y
        rw [hr] at hx he
        obtain ⟨rfl, rfl, hp⟩ : a = a' ∧ e = 0 ∧ SP b r' p := hx
        refine OK.cond (fun hc => by simp at hc) (fun _ => ?_)
        refine OK.gd (apOk_of (by simp; omega) (by simp; omega)) ?_
        rw [w64 (n := k + 1) (by omega) (by omega)]
        exact OK.mk ⟨⟨by dsimp only; omega, by dsimp only; omega, by simp; omega, r', rA_by8 hr8 hr, hp, he⟩, by dsimp only; omega⟩
    · simp only [decide_eq_false_iff_not] at hc
      have : k = ar o := by omega
      subst this
      rw [Int.sub_self] at he
      have he : rAs (ar o).toNat l = .inr (ws, r) := by rw [he]; show joinA ws (.inr ([], r)) = _; simp [joinA]
      refine OK.mk ?_
      show RelSA _ _ _
      rw [he]
      exact ⟨⟨pb, pa⟩, hsp, rfl⟩
theorem sInst_rd {b l : List Int} {p : l17In} (hl : by8 l) (h : SP b l p) : OK (spec_l17In_inst p) (RelS b (rI l)) := by
  unfold spec_l17In_inst
  cases l with
  | nil =>
    rw [sTakeS h (by omega) (by simp), Option.bind_some]
    exact OK.cond (fun _ => OK.mk rfl) (fun hc => by simp at hc)
  | cons c l =>
    have hk := hl.hd
    have hl := hl.tl
    refine OK.bind (sTake h (by omega) (by simp; omega)) ?_
    rintro ⟨x, f, p1⟩ ⟨rfl, rfl, hp1⟩
    dsimp only at hp1 ⊢
    have hp1 : SP b l p1 := hp1
    refine OK.cond (fun hc => by cases hc) (fun _ => ?_)
    refine OK.idx (by omega) (by simp) fun y _ hy => ?_
    obtain rfl : c = y := hy
    rw [w64 (n := c) (by omega) (by omega)]
    simp only [rI]
    refine OK.cond (fun hc => ?_) (fun hc => ?_)
    · simp only [Bool.or_eq_true, decide_eq_true_eq] at hc
      rw [if_pos (by omega)]
      exact OK.mk rfl
    simp only [Bool.or_eq_false_iff, decide_eq_false_iff_not] at hc
    rw [if_neg (by omega), sHas_eq, Option.bind_some]
    refine OK.cond (fun hh => ?_) (fun hh => ?_)
    · simp only [Bool.not_eq_true'] at hh
      rw [if_pos hh]
      exact OK.mk ⟨rfl, rfl, hp1⟩
    simp only [Bool.not_eq_false'] at hh
    rw [if_neg (by rw [hh]; simp)]
    by_cases h1 : (1 : Int) ≤ l.length
    · refine OK.bind (sTake hp1 (by omega) h1) ?_
      rintro ⟨x, f, p2⟩ ⟨rfl, rfl, hp2⟩
      obtain ⟨o, r, rfl⟩ := ge1 h1
      have ho := hl.hd
      dsimp only at hp2 ⊢
      have hp2 : SP b r p2 := hp2
      refine OK.cond (fun hc => by cases hc) (fun _ => ?_)
      refine OK.idx (by omega) (by simp) fun y _ hy => ?_
      obtain rfl : o = y := hy
      simp only [rO]
      rw [w64 (n := o) (by omega) (by omega), sKnown_eq, Option.bind_some]
      refine OK.cond (fun hf => ?_) (fun hf => ?_)
      · simp only [Bool.not_eq_true'] at hf
        rw [if_pos hf]
        exact OK.mk rfl
      · simp only [Bool.not_eq_false'] at hf
        rw [if_neg (by rw [hf]; simp)]
        refine OK.bind (sArgs_rd hl.tl hp2 ho) ?_
        intro x hx
        cases hr : rAs (ar o).toNat r with
        | inl q =>
          rw [hr] at hx
          obtain ⟨q1, q2, rfl⟩ := hx
          exact OK.mk rfl
        | inr y =>
          obtain ⟨bs, r'⟩ := y
          rw [hr] at hx
          obtain ⟨q, hq, rfl⟩ := hx
          simp only [Sum.elim_inr, spec_l17In_inst_j51]
          rw [w64 (n := c) (by omega) (by omega), w64 (n := o) (by omega) (by omega)]
          exact OK.mk ⟨rfl, rfl, hq⟩
    · rw [sTakeS hp1 (by omega) (by omega), Option.bind_some, lt1 h1]
      exact OK.cond (fun _ => OK.mk rfl) (fun hc => by simp at hc)
end Go.AM
end
section
/- Images: how both packages make them. Conditions: none. -/
namespace Go.AM
open Go
def encL (l : List Inst) : List Int := l.flatMap encI
def imgH (l : List Inst) : List Int := [83, 116] ++ be2 ((encL l).length + 8) ++ be2 l.length ++ encL l
def img (l : List Inst) : List Int := imgH l ++ be2 (sumL 65535 (imgH l))
theorem be2_by8 (v : Int) : by8 (be2 v) := by
  intro y hy
  simp [be2] at hy; omega
theorem encL_by8 (l : List Inst) : by8 (encL l) := fun y hy => by
  obtain ⟨i, _, hi⟩ := List.mem_flatMap.1 hy
  exact encI_by8 i y hi
theorem imgH_by8 (l : List Inst) : by8 (imgH l) := by
  unfold imgH
  refine by8.app (by8.app (by8.app ?_ (be2_by8 _)) (be2_by8 _)) (encL_by8 l)
  intro y hy; simp at hy; omega
theorem encL_len : ∀ {l : List Inst}, (∀ i ∈ l, wro i = 0) → (encL l).length ≤ 20 * l.length
  | [], _ => Nat.le_refl _
  | i :: l, h => by
    have h1 := encI_len (h i (.head _))
    have h2 := encL_len fun j hj => h j (.tail _ hj)
    unfold encL at h2 ⊢
    rw [List.flatMap_cons, List.length_append, List.length_cons]
    omega
/-! the document's -/
/-! the program's -/
end Go.AM
end
section
/- Images: how both packages read them. Conditions: none. -/
namespace Go.AM
open Go
def joinL (ws : List Inst) (m : (Int × Int) ⊕ (List Inst × List Int)) : (Int × Int) ⊕ (List Inst × List Int) := match m with
  | .inl c => .inl c
  | .inr (bs, r) => .inr (ws ++ bs, r)
theorem rL_step {n : Nat} {t : Int} {l : List Int} (ws : List Inst) : joinL ws (rL (n + 1) t l) = match rI l with
    | .inl c => .inl (c, t)
    | .inr (i, r) => joinL (ws ++ [i]) (rL n (t + 1) r) := by
  simp only [rL]
  cases rI l with
  | inl c => rfl
  | inr x =>
    obtain ⟨a, r⟩ := x
    dsimp only
    cases rL n (t + 1) r with
    | inl c => rfl
    | inr y => obtain ⟨bs, r'⟩ := y; simp [joinL]
theorem joinL_nil (m : (Int × Int) ⊕ (List Inst × List Int)) : joinL [] m = m := by
  cases m with
  | inl c => rfl
  | inr y => rfl
def finP (m : Int) : (Int × Int) ⊕ (List Inst × List Int) → List Inst × PicFault
  | .inl (c, t) => ([], ⟨c, t⟩)
  | .inr (l, []) => (l, ⟨0, 0⟩)
  | .inr (_, _ :: _) => ([], ⟨7, m⟩)
def rF (a0 a1 a2 a3 a4 a5 : Int) (body : List Int) (x y : Int) : List Inst × PicFault :=
  if a0 ≠ 83 then ([], ⟨4, 0⟩) else if a1 ≠ 116 then ([], ⟨4, 0⟩) else if a2 * 256 + a3 ≠ (body.length : Int) + 8 then ([], ⟨4, 0⟩)
  else if x * 256 + y ≠ sumL 65535 ([a0, a1, a2, a3, a4, a5] ++ body) then ([], ⟨5, 0⟩)
  else if a4 * 256 + a5 > 1000 then ([], ⟨1, 0⟩) else finP (a4 * 256 + a5) (rL (a4 * 256 + a5).toNat 0 body)
theorem img_split {d : List Int} (h : 8 ≤ d.length) : ∃ a0 a1 a2 a3 a4 a5 body x y, d = [a0, a1, a2, a3, a4, a5] ++ body ++ [x, y] := by
  match d, h with
  | a0 :: a1 :: a2 :: a3 :: a4 :: a5 :: r, h =>
    have h2 : 2 ≤ r.length := by simpa using h
    refine ⟨a0, a1, a2, a3, a4, a5, r.take (r.length - 2), ?_⟩
    have h3 : ∃ x y, r.drop (r.length - 2) = [x, y] := by
      have : (r.drop (r.length - 2)).length = 2 := by rw [List.length_drop]; omega
      match r.drop (r.length - 2), this with
      | [x, y], _ => exact ⟨x, y, rfl⟩
    obtain ⟨x, y, h3⟩ := h3
    refine ⟨x, y, ?_⟩
    rw [← h3, List.append_assoc, List.take_append_drop]; rfl
theorem okArgs_of {l : List Inst} (h : ∀ i ∈ l, wro i = 0) : okArgs l := fun i hi => by
  obtain ⟨_, _, h3, h4⟩ := wro_zero (h i hi)
  have hab := ar_bd i.One_Op
  cases hh : isHas i.Code with
  | false => rw [(h3 hh).2]; simp
  | true => have := (h4 hh).2.1; omega
section
variable {a0 a1 a2 a3 a4 a5 x y : Int} {body : List Int}
theorem sTwo {a b : Int} (h : by8 [a, b]) : spec_l17Two [a, b] = some (a * 256 + b) := by
  have ha := h.hd
  have hb := h.tl.hd
  refine OK.eq ?_
  unfold spec_l17Two
  refine OK.idx (by omega) (by simp) fun p _ hp => ?_
  obtain rfl : a = p := hp
  refine OK.idx (by omega) (by simp) fun q _ hq => ?_
  obtain rfl : b = q := hq
  rw [w64 (n := a) (by omega) (by omega), w64 (n := b) (by omega) (by omega), w64 (n := a * 256) (by omega) (by omega), w64 (by omega) (by omega)]
  exact OK.mk rfl
def RelIL (m : (Int × Int) ⊕ (List Inst × List Int)) (z : (Int × Int) ⊕ (List Int × Int × List Inst)) : Prop := match m with
  | .inl (c, t) => z = .inl (c, t)
  | .inr (l, r) => z = .inr (r, 0, l)
theorem iList_rd {b : List Int} {m : Int} (hb : by8 b) (hm : 0 ≤ m) (hm2 : m ≤ 1000) : OK (loop (impl_PicRead_s38 m) (b, 0, [], 0)) (RelIL (rL m.toNat 0 b)) := by
  refine (OK.loop (k := fun x => some x) (P := RelIL (rL m.toNat 0 b)) (Q := RelIL (rL m.toNat 0 b)) (fun z : List Int × Int × List Inst × Int => 0 ≤ z.2.2.2 ∧ z.2.2.2 ≤ m ∧ (z.2.2.1.length : Int) = z.2.2.2 ∧ z.2.1 = 0 ∧ by8 z.1 ∧ rL m.toNat 0 b = joinL z.2.2.1 (rL (m - z.2.2.2).toNat z.2.2.2 z.1)) (fun z => (m - z.2.2.2).toNat) ?_ ?_ (fun x hx => OK.mk hx)) |> fun h => by simpa using h
  · exact ⟨Int.le_refl _, hm, rfl, rfl, hb, by simp only [Int.sub_zero]; rw [joinL_nil]⟩
  · rintro ⟨b, c, ws, k⟩ ⟨h1, h2, h3, h4, hb, he⟩
    dsimp only at h1 h2 h3 h4 hb he
    subst h4
    simp only [impl_PicRead_s38]
    refine OK.cond (fun hc => ?_) (fun hc => ?_)
    · simp only [decide_eq_true_eq] at hc
      refine OK.bind (iInst_rd hb) ?_
      rintro ⟨i, p⟩ hx
      rw [show (m - k).toNat = (m - (k + 1)).toNat + 1 by omega, rL_step] at he
      cases hr : rI b with
      | inl e =>
        rw [hr] at hx he
        have hx : p.code = e := hx
        have := rI_err hr
        refine OK.cond (fun _ => OK.mk ?_) (fun hc => by simp at hc; omega)
        show RelIL _ _
        rw [he]
        show _ = _
        rw [hx]
      | inr z =>
        obtain ⟨i', r⟩ := z
        rw [hr] at hx he
        have hx : (i, p) = (i', ⟨r, 0⟩) := hx
        cases hx
        have hr8 : by8 r := by
          obtain ⟨e1, _⟩ := rI_enc hb hr
          rw [e1] at hb; exact fun y hy => hb y (List.mem_append_right _ hy)
        refine OK.cond (fun hc => by simp at hc) (fun _ => ?_)
        refine OK.gd (apOk_of (by simp; omega) (by simp; omega)) ?_
        rw [w64 (n := k + 1) (by omega) (by omega)]
        exact OK.mk ⟨⟨by dsimp only; omega, by dsimp only; omega, by simp; omega, rfl, hr8, he⟩, by dsimp only; omega⟩
    · simp only [decide_eq_false_iff_not] at hc
      have : k = m := by omega
      subst this
      rw [Int.sub_self] at he
      refine OK.mk ?_
      show RelIL _ _
      rw [he]
      show RelIL (joinL ws (.inr ([], b))) _
      simp [joinL, RelIL]
def RelSL (b : List Int) (m : (Int × Int) ⊕ (List Inst × List Int)) (z : (Int × Int) ⊕ (List Int × Int × List Inst)) : Prop := match m with
  | .inl (c, t) => z = .inl (c, t)
  | .inr (l, r) => ∃ q : l17In, SP b r q ∧ z = .inr (q.b, q.at_, l)
theorem sList_rd {b : List Int} {m : Int} (hb : by8 b) (hbl : b.length ≤ 1000000) (hm : 0 ≤ m) (hm2 : m ≤ 1000) : OK (loop (spec_PicRead_s39 m) (b, 0, [], 0)) (RelSL b (rL m.toNat 0 b)) := by
  refine (OK.loop (k := fun x => some x) (P := RelSL b (rL m.toNat 0 b)) (Q := RelSL b (rL m.toNat 0 b)) (fun z : List Int × Int × List Inst × Int => 0 ≤ z.2.2.2 ∧ z.2.2.2 ≤ m ∧ (z.2.2.1.length : Int) = z.2.2.2 ∧ ∃ r, by8 r ∧ SP b r ⟨z.1, z.2.1⟩ ∧ rL m.toNat 0 b = joinL z.2.2.1 (rL (m - z.2.2.2).toNat z.2.2.2 r)) (fun z => (m - z.2.2.2).toNat) ?_ ?_ (fun x hx => OK.mk hx)) |> fun h => by simpa using h
  · exact ⟨Int.le_refl _, hm, rfl, b, hb, ⟨rfl, Int.le_refl _, by dsimp only; omega, rfl, hbl⟩, by simp only [Int.sub_zero]; rw [joinL_nil]⟩
  · rintro ⟨pb, pa, ws, k⟩ ⟨h1, h2, h3, r, hr8, hsp, he⟩
    dsimp only at h1 h2 h3 hsp he
    simp only [spec_PicRead_s39]
    refine OK.cond (fun hc => ?_) (fun hc => ?_)
    · simp only [decide_eq_true_eq] at hc
      refine OK.bind (sInst_rd hr8 hsp) ?_
      rintro ⟨i, e, p⟩ hx
      rw [show (m - k).toNat = (m - (k + 1)).toNat + 1 by omega, rL_step] at he
      cases hr : rI r with
      | inl c =>
        rw [hr] at hx he
        have hx : e = c := hx
        have := rI_err hr
        refine OK.cond (fun _ => OK.mk ?_) (fun hc => by simp at hc; omega)
        show RelSL _ _ _
        rw [he]
        show _ = _
        rw [hx]
      | inr z =>
        obtain ⟨i', r'⟩ := z
        rw [hr] at hx he
        obtain ⟨rfl, rfl, hp⟩ : i = i' ∧ e = 0 ∧ SP b r' p := hx
        have hr8' : by8 r' := by
          obtain ⟨e1, _⟩ := rI_enc hr8 hr
          rw [e1] at hr8; exact fun y hy => hr8 y (List.mem_append_right _ hy)
        refine OK.cond (fun hc => by simp at hc) (fun _ => ?_)
        refine OK.gd (apOk_of (by simp; omega) (by simp; omega)) ?_
        rw [w64 (n := k + 1) (by omega) (by omega)]
        exact OK.mk ⟨⟨by dsimp only; omega, by dsimp only; omega, by simp; omega, r', hr8', hp, he⟩, by dsimp only; omega⟩
    · simp only [decide_eq_false_iff_not] at hc
      have : k = m := by omega
      subst this
      rw [Int.sub_self] at he
      have he : rL k.toNat 0 b = .inr (ws, r) := by rw [he]; show joinL ws (.inr ([], r)) = _; simp [joinL]
      refine OK.mk ?_
      show RelSL _ _ _
      rw [he]
      exact ⟨⟨pb, pa⟩, hsp, rfl⟩
theorem rL_ok {n : Nat} {t : Int} {b r : List Int} {l : List Inst} (hb : by8 b) (h : rL n t b = .inr (l, r)) : okArgs l ∧ l.length = n := by
  obtain ⟨_, h2, h3⟩ := rL_enc hb h
  exact ⟨okArgs_of h3, h2⟩
theorem img_prt (n : Nat) (hn : ([a0, a1, a2, a3, a4, a5] ++ body ++ [x, y]).length = n) : (([a0, a1, a2, a3, a4, a5] ++ body ++ [x, y]).take (n - 2)).drop 6 = body ∧ ([a0, a1, a2, a3, a4, a5] ++ body ++ [x, y]).take (n - 2) = [a0, a1, a2, a3, a4, a5] ++ body ∧ ([a0, a1, a2, a3, a4, a5] ++ body ++ [x, y]).drop (n - 2) = [x, y] := by
  have e : n - 2 = ([a0, a1, a2, a3, a4, a5] ++ body).length := by
    rw [← hn]; simp
  rw [e, List.take_left' rfl, List.drop_left' rfl]
  exact ⟨rfl, rfl, rfl⟩
theorem by8_sub {l m : List Int} (h : by8 l) (hs : ∀ y ∈ m, y ∈ l) : by8 m := fun y hy => h y (hs y hy)
theorem iRead_ok (h8 : by8 ([a0, a1, a2, a3, a4, a5] ++ body ++ [x, y])) (hl : body.length ≤ 20000) : impl_PicRead ([a0, a1, a2, a3, a4, a5] ++ body ++ [x, y]) = some (rF a0 a1 a2 a3 a4 a5 body x y) := by
  obtain ⟨p1, p2, p3⟩ := img_prt (a0 := a0) (a1 := a1) (a2 := a2) (a3 := a3) (a4 := a4) (a5 := a5) (body := body) (x := x) (y := y) _ rfl
  have hd : ([a0, a1, a2, a3, a4, a5] ++ body ++ [x, y]).length = body.length + 8 := by simp
  have q0 : ([a0, a1, a2, a3, a4, a5] ++ body ++ [x, y]).getD (0 : Int).toNat default = a0 := rfl
  have q1 : ([a0, a1, a2, a3, a4, a5] ++ body ++ [x, y]).getD (1 : Int).toNat default = a1 := rfl
  have q2 : (([a0, a1, a2, a3, a4, a5] ++ body ++ [x, y]).take (4 : Int).toNat).drop (2 : Int).toNat = [a2, a3] := rfl
  have q3 : (([a0, a1, a2, a3, a4, a5] ++ body ++ [x, y]).take (6 : Int).toNat).drop (4 : Int).toNat = [a4, a5] := rfl
  have hm : ∀ z, z ∈ [a0, a1, a2, a3, a4, a5] ++ body ++ [x, y] → 0 ≤ z ∧ z < 256 := fun z hz => h8 z hz
  have b4 := hm a4 (by simp)
  have b5 := hm a5 (by simp)
  have f1 : by8 [a2, a3] := by8_sub h8 (by intro z hz; simp at hz ⊢; rcases hz with rfl | rfl <;> simp)
  have f2 : by8 [a4, a5] := by8_sub h8 (by intro z hz; simp at hz ⊢; rcases hz with rfl | rfl <;> simp)
  have f3 : by8 [x, y] := by8_sub h8 (by intro z hz; exact List.mem_append_right _ hz)
  have f4 : by8 ([a0, a1, a2, a3, a4, a5] ++ body) := by8_sub h8 (by intro z hz; exact List.mem_append_left _ hz)
  have f5 : by8 body := by8_sub f4 (by intro z hz; exact List.mem_append_right _ hz)
  have w := w64 (n := ((([a0, a1, a2, a3, a4, a5] ++ body ++ [x, y]).length : Nat) : Int) - 2) (by omega) (by omega)
  have wn : (((([a0, a1, a2, a3, a4, a5] ++ body ++ [x, y]).length : Nat) : Int) - 2).toNat = ([a0, a1, a2, a3, a4, a5] ++ body ++ [x, y]).length - 2 := by omega
  generalize hD : [a0, a1, a2, a3, a4, a5] ++ body ++ [x, y] = D at *
  refine OK.eq ?_
  unfold impl_PicRead
  rw [in_eq, Option.bind_some, w]
  refine OK.cond (fun _ => ?_) (fun hc => by simp only [decide_eq_false_iff_not] at hc; omega)
  refine OK.idx (by omega) (by omega) fun z _ hz => ?_
  rw [q0] at hz
  subst hz
  refine OK.cond (fun hc => ?_) (fun hc => ?_)
  · simp only [bne_iff_ne, ne_eq] at hc
    rw [rF, if_pos hc]; exact OK.mk rfl
  simp only [bne_eq_false_iff_eq] at hc
  refine OK.idx (by omega) (by omega) fun z _ hz => ?_
  rw [q1] at hz
  subst hz
  refine OK.cond (fun hc1 => ?_) (fun hc1 => ?_)
  · simp only [bne_iff_ne, ne_eq] at hc1
    rw [rF, if_neg (by simpa using hc), if_pos hc1]; exact OK.mk rfl
  simp only [bne_eq_false_iff_eq] at hc1
  refine OK.prt (by omega) (by omega) (by omega) ?_
  rw [q2, fb2 f1, Option.bind_some, hd]
  refine OK.cond (fun hc2 => ?_) (fun hc2 => ?_)
  · simp only [bne_iff_ne, ne_eq] at hc2
    rw [rF, if_neg (by simpa using hc), if_neg (by simpa using hc1), if_pos (by omega)]; exact OK.mk rfl
  simp only [bne_eq_false_iff_eq] at hc2
  refine OK.prt (by omega) (by omega) (by omega) ?_
  rw [q3, fb2 f2, Option.bind_some]
  rw [hd] at wn p1 p2 p3
  refine OK.prtL (by omega) (by omega) (OK.prtH (by omega) (by omega) ?_)
  rw [wn, p2, p3, fb2 f3, Option.bind_some]
  refine OK.bind (iSum_ok f4 (by simp; omega)) ?_
  rintro _ rfl
  have hs := sumL_bd f4 (s := 65535) (by omega) (by omega)
  rw [w64 (by omega) (by omega)]
  refine OK.cond (fun hc3 => ?_) (fun hc3 => ?_)
  · simp only [bne_iff_ne, ne_eq] at hc3
    rw [rF, if_neg (by simpa using hc), if_neg (by simpa using hc1), if_neg (by omega), if_pos hc3]; exact OK.mk rfl
  simp only [bne_eq_false_iff_eq] at hc3
  refine OK.cond (fun hc4 => ?_) (fun hc4 => ?_)
  · simp only [decide_eq_true_eq] at hc4
    rw [rF, if_neg (by simpa using hc), if_neg (by simpa using hc1), if_neg (by omega), if_neg (by simpa using hc3), if_pos hc4]; exact OK.mk rfl
  simp only [decide_eq_false_iff_not] at hc4
  rw [rF, if_neg (by simpa using hc), if_neg (by simpa using hc1), if_neg (by omega), if_neg (by simpa using hc3), if_neg hc4]
  refine OK.prt (by omega) (by omega) (by omega) ?_
  rw [wn, show (6 : Int).toNat = 6 from rfl, p1]
  refine OK.bind (iList_rd f5 (by omega) (by omega)) ?_
  intro z hz
  cases hr : rL (a4 * 256 + a5).toNat 0 body with
  | inl e =>
    obtain ⟨c, t⟩ := e
    rw [hr] at hz
    have hz : z = .inl (c, t) := hz
    subst hz
    exact OK.mk rfl
  | inr e =>
    obtain ⟨l, r⟩ := e
    rw [hr] at hz
    have hz : z = .inr (r, 0, l) := hz
    subst hz
    simp only [Sum.elim_inr, impl_PicRead_j34]
    cases r with
    | nil =>
      have hk := rL_ok f5 hr
      refine OK.cond (fun hc => by simp at hc) (fun _ => ?_)
      rw [iCopyList l hk.1 (by omega)]
      exact OK.mk rfl
    | cons u r => exact OK.cond (fun _ => OK.mk rfl) (fun hc => by simp at hc)
theorem sRead_ok (h8 : by8 ([a0, a1, a2, a3, a4, a5] ++ body ++ [x, y])) (hl : body.length ≤ 20000) : spec_PicRead ([a0, a1, a2, a3, a4, a5] ++ body ++ [x, y]) = some (rF a0 a1 a2 a3 a4 a5 body x y) := by
  obtain ⟨p1, p2, p3⟩ := img_prt (a0 := a0) (a1 := a1) (a2 := a2) (a3 := a3) (a4 := a4) (a5 := a5) (body := body) (x := x) (y := y) _ rfl
  have hd : ([a0, a1, a2, a3, a4, a5] ++ body ++ [x, y]).length = body.length + 8 := by simp
  have q0 : ([a0, a1, a2, a3, a4, a5] ++ body ++ [x, y]).getD (0 : Int).toNat default = a0 := rfl
  have q1 : ([a0, a1, a2, a3, a4, a5] ++ body ++ [x, y]).getD (1 : Int).toNat default = a1 := rfl
  have q2 : (([a0, a1, a2, a3, a4, a5] ++ body ++ [x, y]).take (4 : Int).toNat).drop (2 : Int).toNat = [a2, a3] := rfl
  have q3 : (([a0, a1, a2, a3, a4, a5] ++ body ++ [x, y]).take (6 : Int).toNat).drop (4 : Int).toNat = [a4, a5] := rfl
  have hm : ∀ z, z ∈ [a0, a1, a2, a3, a4, a5] ++ body ++ [x, y] → 0 ≤ z ∧ z < 256 := fun z hz => h8 z hz
  have b4 := hm a4 (by simp)
  have b5 := hm a5 (by simp)
  have f1 : by8 [a2, a3] := by8_sub h8 (by intro z hz; simp at hz ⊢; rcases hz with rfl | rfl <;> simp)
  have f2 : by8 [a4, a5] := by8_sub h8 (by intro z hz; simp at hz ⊢; rcases hz with rfl | rfl <;> simp)
  have f3 : by8 [x, y] := by8_sub h8 (by intro z hz; exact List.mem_append_right _ hz)
  have f4 : by8 ([a0, a1, a2, a3, a4, a5] ++ body) := by8_sub h8 (by intro z hz; exact List.mem_append_left _ hz)
  have f5 : by8 body := by8_sub f4 (by intro z hz; exact List.mem_append_right _ hz)
  have w := w64 (n := ((([a0, a1, a2, a3, a4, a5] ++ body ++ [x, y]).length : Nat) : Int) - 2) (by omega) (by omega)
  have wn : (((([a0, a1, a2, a3, a4, a5] ++ body ++ [x, y]).length : Nat) : Int) - 2).toNat = ([a0, a1, a2, a3, a4, a5] ++ body ++ [x, y]).length - 2 := by omega
  generalize hD : [a0, a1, a2, a3, a4, a5] ++ body ++ [x, y] = D at *
  refine OK.eq ?_
  unfold spec_PicRead
  rw [w]
  refine OK.cond (fun hc => by simp only [decide_eq_true_eq] at hc; omega) (fun _ => ?_)
  refine OK.cond (fun hc => by simp only [decide_eq_true_eq] at hc; omega) (fun _ => ?_)
  refine OK.idx (by omega) (by omega) fun z _ hz => ?_
  rw [q0] at hz
  subst hz
  refine OK.cond (fun hc => ?_) (fun hc => ?_)
  · simp only [bne_iff_ne, ne_eq] at hc
    rw [rF, if_pos hc]; exact OK.mk rfl
  simp only [bne_eq_false_iff_eq] at hc
  refine OK.idx (by omega) (by omega) fun z _ hz => ?_
  rw [q1] at hz
  subst hz
  refine OK.cond (fun hc1 => ?_) (fun hc1 => ?_)
  · simp only [bne_iff_ne, ne_eq] at hc1
    rw [rF, if_neg (by simpa using hc), if_pos hc1]; exact OK.mk rfl
  simp only [bne_eq_false_iff_eq] at hc1
  refine OK.prt (by omega) (by omega) (by omega) ?_
  rw [q2, sTwo f1, Option.bind_some, hd]
  refine OK.cond (fun hc2 => ?_) (fun hc2 => ?_)
  · simp only [bne_iff_ne, ne_eq] at hc2
    rw [rF, if_neg (by simpa using hc), if_neg (by simpa using hc1), if_pos (by omega)]; exact OK.mk rfl
  simp only [bne_eq_false_iff_eq] at hc2
  rw [hd] at wn p1 p2 p3
  refine OK.prtL (by omega) (by omega) (OK.prtH (by omega) (by omega) ?_)
  rw [wn, p2, p3, sTwo f3, Option.bind_some]
  refine OK.bind (sSum_ok f4 (by simp; omega)) ?_
  rintro _ rfl
  have hs := sumL_bd f4 (s := 65535) (by omega) (by omega)
  rw [w64 (by omega) (by omega)]
  refine OK.cond (fun hc3 => ?_) (fun hc3 => ?_)
  · simp only [bne_iff_ne, ne_eq] at hc3
    rw [rF, if_neg (by simpa using hc), if_neg (by simpa using hc1), if_neg (by omega), if_pos hc3]; exact OK.mk rfl
  simp only [bne_eq_false_iff_eq] at hc3
  refine OK.prt (by omega) (by omega) (by omega) ?_
  rw [q3, sTwo f2, Option.bind_some]
  refine OK.cond (fun hc4 => ?_) (fun hc4 => ?_)
  · simp only [decide_eq_true_eq] at hc4
    rw [rF, if_neg (by simpa using hc), if_neg (by simpa using hc1), if_neg (by omega), if_neg (by simpa using hc3), if_pos hc4]; exact OK.mk rfl
  simp only [decide_eq_false_iff_not] at hc4
  rw [rF, if_neg (by simpa using hc), if_neg (by simpa using hc1), if_neg (by omega), if_neg (by simpa using hc3), if_neg hc4]
  refine OK.prt (by omega) (by omega) (by omega) ?_
  rw [wn, show (6 : Int).toNat = 6 from rfl, p1]
  refine OK.bind (sList_rd f5 (by omega) (by omega) (by omega)) ?_
  intro z hz
  cases hr : rL (a4 * 256 + a5).toNat 0 body with
  | inl e =>
    obtain ⟨c, t⟩ := e
    rw [hr] at hz
    have hz : z = .inl (c, t) := hz
    subst hz
    exact OK.mk rfl
  | inr e =>
    obtain ⟨l, r⟩ := e
    rw [hr] at hz
    obtain ⟨q, hq, rfl⟩ := hz
    have hlen := hq.len
    obtain ⟨h1, h2, h3, h4, h5⟩ := hq
    simp only [Sum.elim_inr, spec_PicRead_j35]
    rw [h1]
    cases r with
    | nil => exact OK.cond (fun hc => by simp at hc hlen; omega) (fun _ => OK.mk rfl)
    | cons u r => exact OK.cond (fun _ => OK.mk rfl) (fun hc => by simp at hc hlen; omega)
end
theorem iRead_bad {d : List Int} (h : d.length < 8 ∨ d.length > 20008) : impl_PicRead d = some ([], ⟨4, 0⟩) := by
  refine OK.eq ?_
  unfold impl_PicRead
  rw [in_eq, Option.bind_some]
  refine OK.cond (fun hc => by simp only [decide_eq_true_eq] at hc; omega) (fun _ => OK.mk rfl)
theorem sRead_bad {d : List Int} (h : d.length < 8 ∨ d.length > 20008) : spec_PicRead d = some ([], ⟨4, 0⟩) := by
  refine OK.eq ?_
  unfold spec_PicRead
  refine OK.cond (fun _ => OK.mk rfl) (fun hc => ?_)
  refine OK.cond (fun _ => OK.mk rfl) (fun hc2 => ?_)
  simp only [decide_eq_false_iff_not] at hc hc2; omega
end Go.AM
end
section
/- Images that are drawn, spoilt ones too. Conditions: none. -/
namespace Go.AM
open Go
theorem img_by8 (l : List Inst) : by8 (img l) := (imgH_by8 l).app (be2_by8 _)
theorem by8.take {l : List Int} (h : by8 l) (n : Nat) : by8 (l.take n) := fun y hy => h y (List.mem_of_mem_take hy)
theorem by8.drop {l : List Int} (h : by8 l) (n : Nat) : by8 (l.drop n) := fun y hy => h y (List.mem_of_mem_drop hy)
def okN (A L : Nat) (l : List Inst) : Prop := l.length ≤ L ∧ ∀ i ∈ l, i.One_Args.length ≤ A
theorem okN.set {A L : Nat} {l : List Inst} (h : okN A L l) (n : Nat) {i : Inst} (hi : i.One_Args.length ≤ A) : okN A L (l.set n i) := ⟨by have := h.1; simp; omega, fun j hj => by
  rcases List.mem_or_eq_of_mem_set hj with q | rfl
  · exact h.2 j q
  · exact hi⟩
theorem okN.app {A L M : Nat} {l m : List Inst} (h : okN A L l) (k : okN A M m) : okN A (L + M) (l ++ m) := ⟨by have := h.1; have := k.1; simp; omega, fun j hj => by
  rcases List.mem_append.1 hj with q | q
  · exact h.2 j q
  · exact k.2 j q⟩
theorem okN.take {A L : Nat} {l : List Inst} (h : okN A L l) (n : Nat) : okN A L (l.take n) := ⟨by have := h.1; simp; omega, fun j hj => h.2 j (List.mem_of_mem_take hj)⟩
theorem okN.drop {A L : Nat} {l : List Inst} (h : okN A L l) (n : Nat) : okN A L (l.drop n) := ⟨by have := h.1; simp; omega, fun j hj => h.2 j (List.mem_of_mem_drop hj)⟩
end Go.AM
end
section
/- What is read of an image. Conditions: none. -/
namespace Go.AM
open Go
theorem be2_of {a b v : Int} (ha : 0 ≤ a ∧ a < 256) (hb : 0 ≤ b ∧ b < 256) (h : a * 256 + b = v) : be2 v = [a, b] := by
  unfold be2; subst h
  rw [show (a * 256 + b) / 256 % 256 = a by omega, show (a * 256 + b) % 256 = b by omega]
theorem rL_err : ∀ {n : Nat} {t : Int} {b : List Int} {e : Int × Int}, rL n t b = .inl e → 0 < e.1
  | 0, _, _, _, h => by cases h
  | n + 1, t, b, e, h => by
    simp only [rL] at h
    split at h
    · rename_i h1; cases h; exact (rI_err h1).1
    · split at h
      · rename_i h2; cases h; exact rL_err h2
      · cases h
theorem finP_nn {m : Int} {n : Nat} {t : Int} {b : List Int} : 0 ≤ (finP m (rL n t b)).2.Code := by
  cases h : rL n t b with
  | inl e => obtain ⟨c, u⟩ := e; exact Int.le_of_lt (rL_err h)
  | inr e =>
    obtain ⟨l, r⟩ := e
    cases r with
    | nil => exact Int.le_refl _
    | cons _ _ => show (0 : Int) ≤ 7; omega
theorem rF_nn {a0 a1 a2 a3 a4 a5 x y : Int} {body : List Int} : 0 ≤ (rF a0 a1 a2 a3 a4 a5 body x y).2.Code := by
  unfold rF
  repeat' split
  all_goals first | exact finP_nn | (show (0 : Int) ≤ _; simp)
theorem finP_bad {m : Int} {z : (Int × Int) ⊕ (List Inst × List Int)} (h : (finP m z).2.Code ≠ 0) : (finP m z).1 = [] := by
  unfold finP at h ⊢
  split
  · rfl
  · exact absurd rfl h
  · rfl
theorem rF_bad {a0 a1 a2 a3 a4 a5 x y : Int} {body : List Int} (h : (rF a0 a1 a2 a3 a4 a5 body x y).2.Code ≠ 0) : (rF a0 a1 a2 a3 a4 a5 body x y).1 = [] := by
  unfold rF at h ⊢
  repeat' split
  all_goals first | rfl | skip
  simp only [*, not_true_eq_false, if_false] at h
  exact finP_bad h
theorem rF_good {a0 a1 a2 a3 a4 a5 x y : Int} {body : List Int} (h8 : by8 ([a0, a1, a2, a3, a4, a5] ++ body ++ [x, y])) (hc : (rF a0 a1 a2 a3 a4 a5 body x y).2.Code = 0) :
    (∀ i ∈ (rF a0 a1 a2 a3 a4 a5 body x y).1, wro i = 0) ∧ (rF a0 a1 a2 a3 a4 a5 body x y).1.length ≤ 1000 ∧ img (rF a0 a1 a2 a3 a4 a5 body x y).1 = [a0, a1, a2, a3, a4, a5] ++ body ++ [x, y] := by
  have hm : ∀ z, z ∈ [a0, a1, a2, a3, a4, a5] ++ body ++ [x, y] → 0 ≤ z ∧ z < 256 := fun z hz => h8 z hz
  have b2 := hm a2 (by simp)
  have b3 := hm a3 (by simp)
  have b4 := hm a4 (by simp)
  have b5 := hm a5 (by simp)
  have bx := hm x (by simp)
  have hyb := hm y (by simp)
  have f5 : by8 body := fun z hz => hm z (by simp [hz])
  revert hc
  unfold rF
  split
  · intro hc; cases hc
  split
  · intro hc; cases hc
  split
  · intro hc; cases hc
  split
  · intro hc; cases hc
  split
  · intro hc; cases hc
  rename_i g0 g1 g2 g3 g4
  intro hc
  cases hr : rL (a4 * 256 + a5).toNat 0 body with
  | inl e =>
    obtain ⟨c, t⟩ := e
    exfalso
    rw [hr] at hc
    have hc : c = 0 := hc
    have := rL_err hr
    dsimp only at this; omega
  | inr e =>
    obtain ⟨l, r⟩ := e
    rw [hr] at hc
    cases r with
    | cons u r => cases hc
    | nil =>
      obtain ⟨e1, e2, e3⟩ := rL_enc f5 hr
      show (∀ i ∈ l, wro i = 0) ∧ l.length ≤ 1000 ∧ img l = _
      have hb : encL l = body := by rw [e1]; simp [encL]
      have g0 : a0 = 83 := by simpa using g0
      have g1 : a1 = 116 := by simpa using g1
      have g2 : a2 * 256 + a3 = body.length + 8 := by simpa using g2
      have g3 : x * 256 + y = sumL 65535 ([a0, a1, a2, a3, a4, a5] ++ body) := by simpa using g3
      refine ⟨e3, by omega, ?_⟩
      have hH : imgH l = [a0, a1, a2, a3, a4, a5] ++ body := by
        unfold imgH
        rw [hb, be2_of b2 b3 (by omega), be2_of b4 b5 (v := (l.length : Int)) (by omega), g0, g1]; rfl
      unfold img
      rw [hH, be2_of bx hyb g3]
theorem rF_img {l : List Inst} (hl : l.length ≤ 1000) (hw : ∀ i ∈ l, wro i = 0) (h : ∃ a0 a1 a2 a3 a4 a5 body x y, img l = [a0, a1, a2, a3, a4, a5] ++ body ++ [x, y] ∧ body.length ≤ 20000 ∧ rF a0 a1 a2 a3 a4 a5 body x y = (l, ⟨0, 0⟩)) : impl_PicRead (img l) = some (l, ⟨0, 0⟩) := by
  obtain ⟨a0, a1, a2, a3, a4, a5, body, x, y, h1, h2, h3⟩ := h
  have h8 := img_by8 l
  rw [h1] at h8 ⊢
  rw [iRead_ok h8 h2, h3]
theorem img_parts {l : List Inst} (hl : l.length ≤ 1000) (hw : ∀ i ∈ l, wro i = 0) : ∃ a0 a1 a2 a3 a4 a5 body x y, img l = [a0, a1, a2, a3, a4, a5] ++ body ++ [x, y] ∧ body.length ≤ 20000 ∧ rF a0 a1 a2 a3 a4 a5 body x y = (l, ⟨0, 0⟩) := by
  have hb := encL_len hw
  have hs := sumL_bd (imgH_by8 l) (s := 65535) (by omega) (by omega)
  refine ⟨83, 116, ((encL l).length + 8 : Int) / 256 % 256, ((encL l).length + 8 : Int) % 256, (l.length : Int) / 256 % 256, (l.length : Int) % 256, encL l, sumL 65535 (imgH l) / 256 % 256, sumL 65535 (imgH l) % 256, rfl, by omega, ?_⟩
  unfold rF
  rw [if_neg (by simp), if_neg (by simp), if_neg (by omega), if_neg ?_, if_neg (by omega)]
  · rw [show ((l.length : Int) / 256 % 256 * 256 + (l.length : Int) % 256) = l.length by omega, Int.toNat_natCast]
    have := rL_dec 0 [] hw
    rw [List.append_nil] at this
    show finP _ (rL l.length 0 (encL l)) = _
    rw [show encL l = l.flatMap encI from rfl, this]; rfl
  · simp only [ne_eq, Decidable.not_not]
    have : [83, 116, ((encL l).length + 8 : Int) / 256 % 256, ((encL l).length + 8 : Int) % 256, (l.length : Int) / 256 % 256, (l.length : Int) % 256] ++ encL l = imgH l := rfl
    rw [this]; omega
end Go.AM
end
section
/- Ladders and images that are drawn. Conditions: none. -/
namespace Go.AM
open Go
end Go.AM
end
section
/- Rungs of a list: the program's functions, and what holds of verified lists. Conditions: none. -/
namespace Go.AM
open Go
def verified (l : List Inst) : Bool := (sureCheck l).Code == 0 && (sureCheck l).At == 0
theorem iVerified (l : List Inst) (hl : okArgs l) (hl2 : l.length ≤ 1000000) : impl_verified l = some (verified l) := by
  unfold impl_verified; rw [iSure l hl hl2]; rfl
end Go.AM
end
section
/- Verified lists can be joined and cut: the law. Conditions: none. -/
namespace Go.AM
open Go
theorem check_zero : ∀ (l : List Inst) (s : l12At) (k : Int), (checkFrom s k l).Code = 0 → (checkFrom s k l).At = 0
  | [], s, k => by rw [checkFrom]; split <;> simp
  | i :: l, s, k => by
    rw [checkFrom]; split
    · intro e; dsimp only at e; omega
    · exact check_zero l _ _
theorem check_nn : ∀ (l : List Inst) (s : l12At) (k : Int), 0 ≤ (checkFrom s k l).Code
  | [], s, k => by rw [checkFrom]; split <;> simp
  | i :: l, s, k => by
    rw [checkFrom]; split
    · dsimp only; omega
    · exact check_nn l _ _
theorem sure_nn (l : List Inst) : 0 ≤ (sureCheck l).Code := by
  unfold sureCheck; split
  · simp
  · exact check_nn _ _ _
theorem ver_iff (l : List Inst) : verified l = true ↔ (sureCheck l).Code = 0 := by
  unfold verified
  constructor
  · intro h; simp at h; exact h.1
  · intro h
    have : (sureCheck l).At = 0 := by
      unfold sureCheck at h ⊢; split
      · rfl
      · rename_i q; rw [if_neg q] at h; exact check_zero _ _ _ h
    simp [h, this]
end Go.AM
end
section
/- What a box packs is read back. Conditions: none. -/
namespace Go.AM
open Go
structure RdP (d : List Int) (p : List Inst × PicFault) : Prop where
  i : impl_PicRead d = some p
  s : spec_PicRead d = some p
  nn : 0 ≤ p.2.Code
  bad : p.2.Code ≠ 0 → p.1 = []
  good : p.2.Code = 0 → p.2.At = 0 ∧ p.1.length ≤ 1000 ∧ (∀ i ∈ p.1, wro i = 0) ∧ img p.1 = d
theorem read_all {d : List Int} (h8 : by8 d) : ∃ p, RdP d p := by
  by_cases hl : d.length < 8 ∨ d.length > 20008
  · exact ⟨_, iRead_bad hl, sRead_bad hl, by simp, fun _ => rfl, fun h => by cases h⟩
  · obtain ⟨a0, a1, a2, a3, a4, a5, body, x, y, rfl⟩ := img_split (d := d) (by omega)
    have hb : body.length ≤ 20000 := by simp at hl; omega
    refine ⟨_, iRead_ok h8 hb, sRead_ok h8 hb, rF_nn, rF_bad, fun hc => ?_⟩
    obtain ⟨g1, g2, g3⟩ := rF_good h8 hc
    refine ⟨?_, g2, g1, g3⟩
    have e := rF_img g2 g1 (img_parts g2 g1)
    rw [g3, iRead_ok h8 hb] at e
    have e2 := Option.some.inj e
    have e3 : (rF a0 a1 a2 a3 a4 a5 body x y).2 = ⟨0, 0⟩ := congrArg (·.2) e2
    rw [e3]
def unpF (n : Int) (p : List Inst × PicFault) : Int × List Inst × Bool := if p.2.Code = 0 ∧ (sureCheck p.1).Code = 0 ∧ 1 ≤ n ∧ n ≤ 1000000 then (n, p.1, true) else (0, [], false)
theorem iRun {d : List Int} {p : List Inst × PicFault} (h : RdP d p) : OK (impl_runnable d) (fun r => r.2 = decide (p.2.Code = 0 ∧ (sureCheck p.1).Code = 0) ∧ (r.2 = true → r.1 = p.1)) := by
  unfold impl_runnable
  rw [h.i, Option.bind_some]
  by_cases h1 : p.2.Code = 0
  · obtain ⟨g1, g2, g3, g4⟩ := h.good h1
    rw [show (p.2.Code == 0) = true by simpa using h1, cond_true, show (p.2.At == 0) = true by simpa using g1, cond_true, iVerified _ (okArgs_of g3) (by omega), Option.bind_some]
    refine ⟨_, rfl, ?_, fun _ => rfl⟩
    by_cases h2 : (sureCheck p.1).Code = 0
    · rw [(ver_iff _).2 h2, decide_eq_true ⟨h1, h2⟩]
    · have : verified p.1 = false := by rw [← Bool.not_eq_true, ver_iff]; exact h2
      rw [this, decide_eq_false (fun q => h2 q.2)]
  · rw [show (p.2.Code == 0) = false by simpa using h1, cond_false]
    exact ⟨_, rfl, (decide_eq_false fun q => h1 q.1).symm, fun q => by cases q⟩
theorem sList {d : List Int} {p : List Inst × PicFault} (h : RdP d p) : spec_l21List d = some (if p.2.Code = 0 ∧ (sureCheck p.1).Code = 0 then (p.1, true) else ([], false)) := by
  unfold spec_l21List
  rw [h.s, Option.bind_some]
  have hn := h.nn
  by_cases h1 : p.2.Code = 0
  · obtain ⟨g1, g2, g3, g4⟩ := h.good h1
    rw [decide_eq_false (by omega), cond_false, sSure _ (okArgs_of g3) (by omega), Option.bind_some]
    have hn2 := sure_nn p.1
    by_cases h2 : (sureCheck p.1).Code = 0
    · rw [decide_eq_false (by omega), cond_false, if_pos ⟨h1, h2⟩]
    · rw [decide_eq_true (by omega), cond_true, if_neg (fun q => h2 q.2)]
  · rw [decide_eq_true (by omega), cond_true, if_neg (fun q => h1 q.1)]
theorem unp {a b c e : Int} {r : List Int} (h8 : by8 (a :: b :: c :: e :: r)) {p : List Inst × PicFault} (h : RdP r p) :
    impl_BoxUnpack (a :: b :: c :: e :: r) = some (unpF (a * 16777216 + b * 65536 + c * 256 + e) p) ∧ spec_BoxUnpack (a :: b :: c :: e :: r) = some (unpF (a * 16777216 + b * 65536 + c * 256 + e) p) := by
  have hm : ∀ z, z ∈ a :: b :: c :: e :: r → 0 ≤ z ∧ z < 256 := fun z hz => h8 z hz
  have ha := hm a (by simp)
  have hb := hm b (by simp)
  have hc := hm c (by simp)
  have he := hm e (by simp)
  have h4 : by8 [a, b, c, e] := fun z hz => by simp at hz; exact hm z (by simp; omega)
  have hlen : decide ((((a :: b :: c :: e :: r).length : Nat) : Int) < 4) = false := decide_eq_false (by simp; omega)
  have hH : prtH (a :: b :: c :: e :: r) (4) = some [a, b, c, e] := by
    unfold prtH
    rw [show (decide ((0 : Int) ≤ 4) && decide ((4 : Int) ≤ ((a :: b :: c :: e :: r).length : Int))) = true by simp; omega]; rfl
  have hL : prtL (a :: b :: c :: e :: r) (4) = some r := by
    unfold prtL
    rw [show (decide ((0 : Int) ≤ 4) && decide ((4 : Int) ≤ ((a :: b :: c :: e :: r).length : Int))) = true by simp; omega]; rfl
  constructor
  · unfold impl_BoxUnpack
    rw [hlen, cond_false, hH, Option.bind_some, fb4 h4, Option.bind_some, hL, Option.bind_some]
    refine OK.eq (?_ : OK _ (fun x => x = unpF (a * 16777216 + b * 65536 + c * 256 + e) p))
    refine OK.bind (iRun h) fun x hx => ?_
    obtain ⟨x1, x2⟩ := hx
    by_cases h1 : p.2.Code = 0 ∧ (sureCheck p.1).Code = 0
    · rw [decide_eq_true h1] at x1
      rw [x1, cond_true]
      unfold impl_isNumber
      rw [in_eq]
      simp only [Option.bind_some]
      rw [x2 x1]
      by_cases h2 : 1 ≤ a * 16777216 + b * 65536 + c * 256 + e ∧ a * 16777216 + b * 65536 + c * 256 + e ≤ 1000000
      · rw [decide_eq_true h2]; exact ⟨_, rfl, by unfold unpF; rw [if_pos ⟨h1.1, h1.2, h2⟩]⟩
      · rw [decide_eq_false h2]; exact ⟨_, rfl, by unfold unpF; rw [if_neg (fun q => h2 q.2.2)]⟩
    · rw [decide_eq_false h1] at x1
      rw [x1, cond_false]
      exact ⟨_, rfl, by unfold unpF; rw [if_neg (fun q => h1 ⟨q.1, q.2.1⟩)]⟩
  · unfold spec_BoxUnpack
    rw [hlen, cond_false, hH, Option.bind_some, sv4 h4, Option.bind_some, hL, Option.bind_some, sList h, Option.bind_some]
    have hs : s4 a b c e = a * 16777216 + b * 65536 + c * 256 + e ∨ (s4 a b c e < 0 ∧ 1000000 < a * 16777216 + b * 65536 + c * 256 + e) := by
      unfold s4
      split <;> omega
    by_cases h1 : p.2.Code = 0 ∧ (sureCheck p.1).Code = 0
    · rw [if_pos h1]
      by_cases h2 : 1 ≤ a * 16777216 + b * 65536 + c * 256 + e ∧ a * 16777216 + b * 65536 + c * 256 + e ≤ 1000000
      · have e1 : s4 a b c e = a * 16777216 + b * 65536 + c * 256 + e := by omega
        rw [e1, show (((!true) || (decide (a * 16777216 + b * 65536 + c * 256 + e < 1))) || (decide (a * 16777216 + b * 65536 + c * 256 + e > 1000000))) = false by simp; omega, cond_false]
        unfold unpF; rw [if_pos ⟨h1.1, h1.2, h2⟩]
      · rw [show (((!true) || (decide (s4 a b c e < 1))) || (decide (s4 a b c e > 1000000))) = true by simp; omega, cond_true]
        unfold unpF; rw [if_neg (fun q => h2 q.2.2)]
    · rw [if_neg h1]
      unfold unpF; rw [if_neg (fun q => h1 ⟨q.1, q.2.1⟩)]; rfl
theorem unp_short {d : List Int} (h : d.length < 4) : impl_BoxUnpack d = some (0, [], false) ∧ spec_BoxUnpack d = some (0, [], false) := by
  unfold impl_BoxUnpack spec_BoxUnpack
  rw [decide_eq_true (by omega : (d.length : Int) < 4)]
  exact ⟨rfl, rfl⟩
end Go.AM
end
section
/- What the exact laws do beside the functions: copies, comparisons, marks. Conditions: none. -/
namespace Go.AM
open Go
theorem toB_ok (l : List Int) (h : l.length ≤ 1048576) : laws_toByteS l = some l := by
  refine OK.eq ?_
  unfold laws_toByteS
  refine OK.gd (mkOk_of (by omega) (Int.le_refl _) (by omega) (by omega)) ?_
  refine OK.loop (Q := fun b : List Int => b = l) (fun z : List Int × Int => 0 ≤ z.2 ∧ z.2 ≤ l.length ∧ z.1.length = l.length ∧ z.1.take z.2.toNat = l.take z.2.toNat) (fun z => (l.length - z.2).toNat) ?_ ?_ ?_
  · exact ⟨Int.le_refl _, by dsimp only; omega, by simp, by simp⟩
  · rintro ⟨o, i⟩ ⟨i0, i1, ho, he⟩
    dsimp only at i0 i1 ho he
    simp only [laws_toByteS_s9]
    refine OK.cond (fun hi => ?_) (fun hi => ?_)
    · simp only [decide_eq_true_eq] at hi
      rw [idx_eq (l := l) i0 hi, Option.bind_some, idx_eq (l := o) i0 (by omega), Option.bind_some]
      have e : IntKind.i64.wrap (i + 1) = i + 1 := w64 (by omega) (by omega)
      rw [e]
      refine OK.mk ⟨⟨by dsimp only; omega, by dsimp only; omega, by simpa using ho, ?_⟩, by dsimp only; omega⟩
      dsimp only
      rw [show (i + 1).toNat = i.toNat + 1 by omega]
      exact take_set (by omega) (by omega) he
    · simp only [decide_eq_false_iff_not] at hi
      have : i = l.length := by omega
      subst this
      refine OK.mk ?_
      show o = l
      simp at he
      rw [← he, List.take_of_length_le (by omega)]
  · rintro b rfl; exact OK.mk rfl
theorem eqB_ok (l : List Int) (hl : l.length ≤ 1048576) : laws_eqByteS l l = some true := by
  unfold laws_eqByteS
  simp only [bne_self_eq_false, cond_false]
  refine same_loop' (n := l.length) hl ?_ ?_
  · intro i i0 i1
    simp [laws_eqByteS_s15, i1, idx_eq i0 i1]
  · simp [laws_eqByteS_s15]
theorem eqD_ok (x : DevArg) : laws_eqDevArg x x = some true := by simp [laws_eqDevArg]
theorem eqDs_ok (l : List DevArg) (hl : l.length ≤ 1000) : laws_eqDevArgS l l = some true := by
  unfold laws_eqDevArgS
  simp only [bne_self_eq_false, cond_false]
  refine same_loop' (n := l.length) (by omega) ?_ ?_
  · intro i i0 i1
    simp [laws_eqDevArgS_s15, i1, idx_eq i0 i1, eqD_ok]
  · simp [laws_eqDevArgS_s15]
theorem eqI_ok (x : Inst) (h : x.One_Args.length ≤ 1000) : laws_eqInst x x = some true := by
  simp [laws_eqInst, laws_eqElem, eqDs_ok _ h]
theorem eqIs_ok (l : List Inst) (hl : l.length ≤ 1048576) (ha : okArgs l) : laws_eqInstS l l = some true := by
  unfold laws_eqInstS
  simp only [bne_self_eq_false, cond_false]
  refine same_loop' (n := l.length) hl ?_ ?_
  · intro i i0 i1
    have hm := getD_mem (l := l) (n := i.toNat) (by omega)
    simp only [laws_eqInstS_s15, i1, decide_true, cond_true, idx_eq i0 i1, Option.bind_some, eqI_ok _ (ha _ hm), Bool.not_true, cond_false]
  · simp [laws_eqInstS_s15]
theorem markB_ok (l : List Int) (k : Int) (hl : l.length ≤ 1048576) (h0 : 0 ≤ k) (h1 : k ≤ 1048576) : OK (laws_markByteS l k) (fun r => 0 ≤ r.1 ∧ r.1 = k + l.length) := by
  unfold laws_markByteS
  refine OK.loop (Q := fun b : List Int × Int => 0 ≤ b.2 ∧ b.2 = k + l.length) (fun z : List Int × Int × Int => 0 ≤ z.2.2 ∧ z.2.2 ≤ l.length ∧ z.1.length = l.length ∧ z.2.1 = k + z.2.2) (fun z => (l.length - z.2.2).toNat) ?_ ?_ ?_
  · exact ⟨Int.le_refl _, by dsimp only; omega, rfl, by simp⟩
  · rintro ⟨o, m, i⟩ ⟨i0, i1, ho, he⟩
    dsimp only at i0 i1 ho he
    simp only [laws_markByteS_s7]
    refine OK.cond (fun hi => ?_) (fun hi => ?_)
    · simp only [decide_eq_true_eq] at hi
      rw [idx_eq (l := o) i0 (by omega), Option.bind_some, w64 (n := m + 1) (by omega) (by omega), w64 (n := i + 1) (by omega) (by omega)]
      exact OK.mk ⟨⟨by dsimp only; omega, by dsimp only; omega, by simpa using ho, by dsimp only; omega⟩, by dsimp only; omega⟩
    · simp only [decide_eq_false_iff_not] at hi
      exact OK.mk ⟨by dsimp only; omega, by dsimp only; omega⟩
  · rintro ⟨o, m⟩ ⟨h2, h3⟩; exact OK.mk ⟨h2, h3⟩
/-! ### The marks of operands -/
def mD : Nat → Int → List DevArg
  | 0, _ => []
  | n + 1, k => mD n k ++ [⟨k + 3 * (n : Int), k + 3 * (n : Int) + 1, k + 3 * (n : Int) + 2⟩]
theorem mD_len (n : Nat) (k : Int) : (mD n k).length = n := by
  induction n with
  | zero => rfl
  | succ n ih => simp [mD, ih]
theorem mD_get (n : Nat) (k : Int) : ∀ i : Nat, i < n → (mD n k).getD i default = ⟨k + 3 * (i : Int), k + 3 * (i : Int) + 1, k + 3 * (i : Int) + 2⟩ := by
  induction n with
  | zero => intro i hi; omega
  | succ n ih =>
    intro i hi
    simp only [mD]
    by_cases h : i < n
    · have := ih i h
      simp only [List.getD] at this ⊢
      rw [List.getElem?_append_left (by rw [mD_len]; exact h)]; exact this
    · have : i = n := by omega
      subst this
      simp [List.getD, List.getElem?_append_right, mD_len]
theorem set3 {α : Type} {l : List α} {i : Nat} {a b : List α} {x y : α} (h : l = a ++ x :: b) (hi : a.length = i) : l.set i y = a ++ y :: b := by
  subst h; subst hi; simp
theorem get3 {α : Type} [Inhabited α] {l : List α} {i : Nat} {a b : List α} {x : α} (h : l = a ++ x :: b) (hi : a.length = i) : l.getD i default = x := by
  subst h; subst hi; simp [List.getD]
theorem split3 {α : Type} [Inhabited α] {l : List α} {i : Nat} (h : i < l.length) : l.drop i = l.getD i default :: l.drop (i + 1) := by
  rw [List.drop_eq_getElem_cons h]; simp [List.getD, h]
theorem markD_ok (l : List DevArg) (k : Int) (hl : l.length ≤ 1000) (h0 : 0 ≤ k) (h1 : k ≤ 1000000000) : laws_markDevArgS l k = some (k + 3 * (l.length : Int), mD l.length k) := by
  refine OK.eq ?_
  unfold laws_markDevArgS
  refine OK.loop (Q := fun b : List DevArg × Int => b = (mD l.length k, k + 3 * (l.length : Int))) (fun z : List DevArg × Int × Int => 0 ≤ z.2.2 ∧ z.2.2 ≤ l.length ∧ z.2.1 = k + 3 * z.2.2 ∧ z.1 = mD z.2.2.toNat k ++ l.drop z.2.2.toNat) (fun z => (l.length - z.2.2).toNat) ?_ ?_ ?_
  · exact ⟨Int.le_refl _, by dsimp only; omega, by simp, by simp [mD]⟩
  · rintro ⟨o, m, i⟩ ⟨i0, i1, hm, ho⟩
    dsimp only at i0 i1 hm ho
    have hlen : o.length = l.length := by rw [ho, List.length_append, mD_len, List.length_drop]; omega
    simp only [laws_markDevArgS_s7]
    refine OK.cond (fun hi => ?_) (fun hi => ?_)
    · simp only [decide_eq_true_eq] at hi
      have hil : i.toNat < l.length := by omega
      rw [split3 hil] at ho
      have ha : (mD i.toNat k).length = i.toNat := mD_len _ _
      rw [idx_eq (l := o) i0 (by omega), Option.bind_some, get3 ho ha]
      have o1 := set3 (y := (⟨m, (l.getD i.toNat default).N, (l.getD i.toNat default).P⟩ : DevArg)) ho ha
      rw [o1]
      have w1 : IntKind.i64.wrap (m + 1) = m + 1 := w64 (by omega) (by omega)
      have w2 : IntKind.i64.wrap (m + 1 + 1) = m + 1 + 1 := w64 (by omega) (by omega)
      have w3 : IntKind.i64.wrap (m + 1 + 1 + 1) = m + 1 + 1 + 1 := w64 (by omega) (by omega)
      rw [idx_eq i0 (by simp [ha]; omega), Option.bind_some, get3 rfl ha, set3 rfl ha, w1]
      rw [idx_eq i0 (by simp [ha]; omega), Option.bind_some, get3 rfl ha, set3 rfl ha, w2, w3, w64 (n := i + 1) (by omega) (by omega)]
      refine OK.mk ⟨⟨by dsimp only; omega, by dsimp only; omega, by dsimp only; omega, ?_⟩, by dsimp only; omega⟩
      dsimp only
      rw [show (i + 1).toNat = i.toNat + 1 by omega, mD, List.append_assoc]
      simp only [List.cons_append, List.nil_append]
      congr 2
      rw [hm]
      have : ((i.toNat : Nat) : Int) = i := by omega
      rw [this]
      congr 1
      omega
    · simp only [decide_eq_false_iff_not] at hi
      have : i = l.length := by omega
      subst this
      refine OK.mk ?_
      show (o, m) = _
      rw [ho, hm]; simp
  · rintro b rfl
    refine OK.mk ?_
    rfl
theorem heldD_ok (n : Nat) (k : Int) (hl : n ≤ 1000) (h0 : 0 ≤ k) (h1 : k ≤ 1000000000) : laws_heldDevArgS (mD n k) k = some (k + 3 * (n : Int)) := by
  refine OK.eq ?_
  unfold laws_heldDevArgS
  refine OK.loop (Q := fun b : Unit ⊕ Int => b = .inr (k + 3 * (n : Int))) (fun z : Int × Int => 0 ≤ z.2 ∧ z.2 ≤ n ∧ z.1 = k + 3 * z.2) (fun z => (n - z.2).toNat) ?_ ?_ ?_
  · exact ⟨Int.le_refl _, by dsimp only; omega, by simp⟩
  · rintro ⟨m, i⟩ ⟨i0, i1, hm⟩
    dsimp only at i0 i1 hm
    simp only [laws_heldDevArgS_s7, mD_len]
    refine OK.cond (fun hi => ?_) (fun hi => ?_)
    · simp only [decide_eq_true_eq] at hi
      have hg := mD_get n k i.toNat (by omega)
      rw [show ((i.toNat : Nat) : Int) = i by omega, ← hm] at hg
      rw [idx_eq (l := mD n k) i0 (by rw [mD_len]; omega), Option.bind_some, hg]
      simp only [Option.bind_some]
      rw [w64 (n := m + 1) (by omega) (by omega), w64 (n := m + 1 + 1) (by omega) (by omega), w64 (n := m + 1 + 1 + 1) (by omega) (by omega), w64 (n := i + 1) (by omega) (by omega)]
      rw [show m + 1 + 1 = m + 2 by omega]
      simp only [bne_self_eq_false, cond_false]
      exact OK.mk ⟨⟨by dsimp only; omega, by dsimp only; omega, by dsimp only; omega⟩, by dsimp only; omega⟩
    · simp only [decide_eq_false_iff_not] at hi
      have : i = n := by omega
      subst this
      refine OK.mk ?_
      show Sum.inr m = _
      rw [hm]
  · rintro b rfl; exact OK.mk rfl
/-! ### The marks of instructions -/
def mI : List Inst → Int → List Inst
  | [], _ => []
  | x :: r, k => ⟨k, k + 1, mD x.One_Args.length (k + 2)⟩ :: mI r (k + 2 + 3 * (x.One_Args.length : Int))
def sI : List Inst → Int
  | [] => 0
  | x :: r => 2 + 3 * (x.One_Args.length : Int) + sI r
theorem mI_app (a b : List Inst) (k : Int) : mI (a ++ b) k = mI a k ++ mI b (k + sI a) := by
  induction a generalizing k with
  | nil => simp [mI, sI]
  | cons x r ih =>
    simp only [List.cons_append, mI, sI, ih]
    congr 3
    omega
theorem sI_app (a b : List Inst) : sI (a ++ b) = sI a + sI b := by
  induction a with
  | nil => simp [sI]
  | cons x r ih => simp only [List.cons_append, sI, ih]; omega
theorem mI_len (l : List Inst) (k : Int) : (mI l k).length = l.length := by
  induction l generalizing k with
  | nil => rfl
  | cons x r ih => simp [mI, ih]
theorem sI_bd (l : List Inst) (h : okArgs l) : 0 ≤ sI l ∧ sI l ≤ 3002 * (l.length : Int) := by
  induction l with
  | nil => simp [sI]
  | cons x r ih =>
    have h1 := h x (.head _)
    have h2 := ih fun i hi => h i (.tail _ hi)
    simp only [sI, List.length_cons]
    omega
theorem okArgs.take {l : List Inst} (h : okArgs l) (n : Nat) : okArgs (l.take n) := fun i hi => h i (List.mem_of_mem_take hi)
theorem take_one {l : List Inst} {i : Nat} (h : i < l.length) : l.take (i + 1) = l.take i ++ [l.getD i default] := by
  rw [List.take_succ_eq_append_getElem h]; simp [List.getD, h]
theorem mI_split {l : List Inst} {i : Nat} (h : i < l.length) (k : Int) : mI l k = mI (l.take i) k ++ ⟨k + sI (l.take i), k + sI (l.take i) + 1, mD (l.getD i default).One_Args.length (k + sI (l.take i) + 2)⟩ :: mI (l.drop (i + 1)) (k + sI (l.take (i + 1))) := by
  have e : l = l.take i ++ l.getD i default :: l.drop (i + 1) := by rw [← split3 h, List.take_append_drop]
  conv => lhs; rw [e]
  rw [mI_app]
  simp only [mI]
  rw [take_one h, sI_app]
  simp only [sI]
  congr 3
  omega
theorem markI_ok (l : List Inst) (k : Int) (hl : l.length ≤ 1000) (ha : okArgs l) (h0 : 0 ≤ k) (h1 : k ≤ 100000000) : laws_markInstS l k = some (k + sI l, mI l k) := by
  refine OK.eq ?_
  unfold laws_markInstS
  refine OK.loop (Q := fun b : List Inst × Int => b = (mI l k, k + sI l)) (fun z : List Inst × Int × Int => 0 ≤ z.2.2 ∧ z.2.2 ≤ l.length ∧ z.2.1 = k + sI (l.take z.2.2.toNat) ∧ z.1 = mI (l.take z.2.2.toNat) k ++ l.drop z.2.2.toNat) (fun z => (l.length - z.2.2).toNat) ?_ ?_ ?_
  · exact ⟨Int.le_refl _, by dsimp only; omega, by simp [sI], by simp [mI]⟩
  · rintro ⟨o, m, i⟩ ⟨i0, i1, hm, ho⟩
    dsimp only at i0 i1 hm ho
    have hlen : o.length = l.length := by rw [ho, List.length_append, mI_len, List.length_take, List.length_drop]; omega
    have hb := sI_bd _ (ha.take i.toNat)
    have hb2 : ((l.take i.toNat).length : Int) ≤ 1000 := by rw [List.length_take]; omega
    simp only [laws_markInstS_s7]
    refine OK.cond (fun hi => ?_) (fun hi => ?_)
    · simp only [decide_eq_true_eq] at hi
      have hil : i.toNat < l.length := by omega
      have hx := ha _ (getD_mem (l := l) hil)
      rw [split3 hil] at ho
      have hal : (mI (l.take i.toNat) k).length = i.toNat := by rw [mI_len, List.length_take]; omega
      rw [idx_eq (l := o) i0 (by omega), get3 ho hal]
      simp only [Option.bind_some]
      rw [w64 (n := m + 1) (by omega) (by omega), w64 (n := m + 1 + 1) (by omega) (by omega), markD_ok _ _ hx (by omega) (by omega)]
      simp only [Option.bind_some]
      refine OK.gd (by simp [mD_len]) ?_
      rw [set3 ho hal, w64 (n := i + 1) (by omega) (by omega)]
      have ht : (i + 1).toNat = i.toNat + 1 := by omega
      refine OK.mk ⟨⟨by dsimp only; omega, by dsimp only; omega, ?_, ?_⟩, by dsimp only; omega⟩
      · dsimp only
        rw [ht, take_one hil, sI_app, hm]
        simp only [sI]; omega
      · dsimp only
        rw [ht, take_one hil, mI_app]
        simp only [mI]
        rw [List.append_assoc, hm]
        simp only [List.cons_append, List.nil_append]
        congr 3
        rw [show k + sI (List.take i.toNat l) + 1 + 1 = k + sI (List.take i.toNat l) + 2 by omega]
    · simp only [decide_eq_false_iff_not] at hi
      have : i = l.length := by omega
      subst this
      refine OK.mk ?_
      show (o, m) = _
      rw [ho, hm]; simp
  · rintro b rfl
    exact OK.mk rfl
theorem heldI_ok (l : List Inst) (k : Int) (hl : l.length ≤ 1000) (ha : okArgs l) (h0 : 0 ≤ k) (h1 : k ≤ 100000000) : laws_heldInstS (mI l k) k = some (k + sI l) := by
  refine OK.eq ?_
  unfold laws_heldInstS
  refine OK.loop (Q := fun b : Unit ⊕ Int => b = .inr (k + sI l)) (fun z : Int × Int => 0 ≤ z.2 ∧ z.2 ≤ l.length ∧ z.1 = k + sI (l.take z.2.toNat)) (fun z => (l.length - z.2).toNat) ?_ ?_ ?_
  · exact ⟨Int.le_refl _, by dsimp only; omega, by simp [sI]⟩
  · rintro ⟨m, i⟩ ⟨i0, i1, hm⟩
    dsimp only at i0 i1 hm
    have hb := sI_bd _ (ha.take i.toNat)
    have hb2 : ((l.take i.toNat).length : Int) ≤ 1000 := by rw [List.length_take]; omega
    simp only [laws_heldInstS_s7, mI_len]
    refine OK.cond (fun hi => ?_) (fun hi => ?_)
    · simp only [decide_eq_true_eq] at hi
      have hil : i.toNat < l.length := by omega
      have hx := ha _ (getD_mem (l := l) hil)
      have hal : (mI (l.take i.toNat) k).length = i.toNat := by rw [mI_len, List.length_take]; omega
      have hg := get3 (mI_split hil k) hal
      rw [← hm] at hg
      rw [idx_eq (l := mI l k) i0 (by rw [mI_len]; omega), hg]
      simp only [Option.bind_some]
      rw [w64 (n := m + 1) (by omega) (by omega), w64 (n := m + 1 + 1) (by omega) (by omega), show m + 1 + 1 = m + 2 by omega, heldD_ok _ _ hx (by omega) (by omega)]
      simp only [bne_self_eq_false, cond_false, Option.bind_some]
      refine OK.cond (fun hc => by simp only [decide_eq_true_eq] at hc; omega) (fun _ => ?_)
      rw [w64 (n := i + 1) (by omega) (by omega)]
      have ht : (i + 1).toNat = i.toNat + 1 := by omega
      refine OK.mk ⟨⟨by dsimp only; omega, by dsimp only; omega, ?_⟩, by dsimp only; omega⟩
      dsimp only
      rw [ht, take_one hil, sI_app, hm]
      simp only [sI]; omega
    · simp only [decide_eq_false_iff_not] at hi
      have : i = l.length := by omega
      subst this
      refine OK.mk ?_
      show Sum.inr m = _
      rw [hm]; simp
  · rintro b rfl; exact OK.mk rfl
end Go.AM
end
section
/- The program's BoxUnpack returns what the reference's returns. Conditions: none. -/
namespace Go.AM
open Go
theorem unp_any {d : List Int} (h8 : by8 d) : ∃ n l b, impl_BoxUnpack d = some (n, l, b) ∧ spec_BoxUnpack d = some (n, l, b) ∧ okArgs l ∧ l.length ≤ 1000 := by
  by_cases hd : d.length < 4
  · exact ⟨0, [], false, (unp_short hd).1, (unp_short hd).2, fun i hi => (by cases hi), Nat.zero_le _⟩
  · match d, hd with
    | a :: b :: c :: e :: r, hd =>
      obtain ⟨p, hp⟩ := read_all (d := r) (by8_sub h8 fun z hz => List.mem_cons_of_mem _ (List.mem_cons_of_mem _ (List.mem_cons_of_mem _ (List.mem_cons_of_mem _ hz))))
      obtain ⟨u1, u2⟩ := unp h8 hp
      generalize a * 16777216 + b * 65536 + c * 256 + e = N at u1 u2
      have key : okArgs (unpF N p).2.1 ∧ (unpF N p).2.1.length ≤ 1000 := by
        unfold unpF
        split
        · rename_i h
          obtain ⟨_, g2, g3, _⟩ := hp.good h.1
          exact ⟨okArgs_of g3, g2⟩
        · exact ⟨fun i hi => (by cases hi), Nat.zero_le _⟩
      generalize unpF N p = q at u1 u2 key
      obtain ⟨n, l, b⟩ := q
      exact ⟨n, l, b, u1, u2, key⟩
    | [], hd => exact absurd (by simp) hd
    | [_], hd => exact absurd (by simp) hd
    | [_, _], hd => exact absurd (by simp) hd
    | [_, _, _], hd => exact absurd (by simp) hd
theorem law_ExactBoxUnpack {xs : List Int} (hx : ∀ n ∈ xs, 0 ≤ n ∧ n < 256) : laws_FnExactBoxUnpack xs = some true := by
  refine OK.eq ?_
  unfold laws_FnExactBoxUnpack
  refine OK.cond (fun _ => OK.mk rfl) (fun hc => ?_)
  simp only [decide_eq_false_iff_not] at hc
  obtain ⟨n, l, b, r1, r2, r3, r4⟩ := unp_any (d := xs) hx
  have hs := sI_bd l r3
  obtain ⟨⟨mk, mb⟩, hmk, hm0, _⟩ := markB_ok xs 1 (by omega) (by omega) (by omega)
  dsimp only at hm0
  have hb : (!(b == b)) = false := by simp
  rw [toB_ok xs (by omega), Option.bind_some, r2, Option.bind_some, Option.bind_some, r1]
  simp only [Option.bind_some, eqIs_ok l (by omega) r3, eqB_ok xs (by omega), hmk, hb, bne_self_eq_false, Bool.not_true, Bool.or_self, Bool.or_false, cond_true, cond_false, markI_ok l 1 (by omega) r3 (by omega) (by omega)]
  rw [List.take_of_length_le (by rw [mI_len]; omega), heldI_ok l 1 (by omega) r3 (by omega) (by omega)]
  simp only [Option.bind_some, bne_self_eq_false, cond_false]
  refine OK.cond (fun hc => by simp only [decide_eq_true_eq] at hc; omega) (fun _ => ?_)
  refine OK.cond (fun hc => by simp only [decide_eq_true_eq] at hc; omega) (fun _ => ?_)
  rw [r1]
  simp only [Option.bind_some, eqIs_ok l (by omega) r3, hb, bne_self_eq_false, Bool.not_true, Bool.or_self, Bool.or_false, cond_true, cond_false]
  refine OK.cond (fun hc => by simp only [decide_eq_true_eq] at hc; omega) (fun _ => ?_)
  exact OK.mk rfl
end Go.AM
end
section
/- FnExactBoxUnpack returns true on all bytes. Conditions: none. -/
namespace Go.AM
open Go Go.Proofs
theorem con_FnExactBoxUnpack (xs : List Int) (hx : ∀ n ∈ xs, 0 ≤ n ∧ n < 256) : Con Tryd.prog C0 3 [.fz 1 (u8s xs)] [] (fun x σ' => x = .sc (.bool true) ∧ σ' = []) :=
  con_laws_FnExactBoxUnpack xs true (law_ExactBoxUnpack hx)
end Go.AM
end
