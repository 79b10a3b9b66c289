/- Images: how both packages read instructions. Conditions: none. -/
import Derived.Test.YtcnlhdaeeeolbaaAmPuR
import Derived.Test.YtcnlhdaeeeolbaaAmPuKc
set_option linter.unusedSimpArgs false
set_option linter.unusedVariables false
namespace Go.AM
open Go
theorem iTake {l : List Int} {n : Int} (h0 : 0 ≤ n) (hn : n ≤ 100) (hl : n ≤ l.length) : impl_picReader_take ⟨l, 0⟩ n = some (l.take n.toNat, ⟨l.drop n.toNat, 0⟩) := by
  refine OK.eq ?_
  unfold impl_picReader_take
  refine OK.cond (fun hc => ?_) (fun _ => OK.prtH h0 hl (OK.prtL h0 hl (OK.mk rfl)))
  simp at hc; omega
theorem iTakeS {l : List Int} {n : Int} (h0 : 0 ≤ n) (hn : n ≤ 100) (hl : (l.length : Int) < n) : impl_picReader_take ⟨l, 0⟩ n = some (List.replicate n.toNat 0, ⟨l, 6⟩) := by
  refine OK.eq ?_
  unfold impl_picReader_take
  refine OK.cond (fun _ => ?_) (fun hc => ?_)
  · refine OK.cond (fun _ => ?_) (fun hc => by simp at hc)
    simp only [impl_picReader_take_j7]
    exact OK.gd (mkOk_of h0 (Int.le_refl _) (by omega) (by omega)) (OK.mk rfl)
  · simp at hc; omega
theorem iTakeC {l : List Int} {n c : Int} (h0 : 0 ≤ n) (hn : n ≤ 100) (hc : c ≠ 0) : impl_picReader_take ⟨l, c⟩ n = some (List.replicate n.toNat 0, ⟨l, c⟩) := by
  refine OK.eq ?_
  unfold impl_picReader_take
  refine OK.cond (fun _ => ?_) (fun hd => ?_)
  · refine OK.cond (fun hd => ?_) (fun _ => ?_)
    · simp only [beq_iff_eq] at hd; exact absurd hd hc
    · simp only [impl_picReader_take_j7]
      exact OK.gd (mkOk_of h0 (Int.le_refl _) (by omega) (by omega)) (OK.mk rfl)
  · simp only [Bool.or_eq_false_iff, bne_eq_false_iff_eq] at hd; exact absurd hd.1 hc
def RelI {α : Type} (m : Int ⊕ (α × List Int)) (x : α × picReader) : Prop := match m with
  | .inl c => x.2.code = c
  | .inr (a, r) => x = (a, ⟨r, 0⟩)
theorem rN_err {k c : Int} {l : List Int} (h : rN k l = .inl c) : c = 6 := by
  cases l with
  | nil => cases h; rfl
  | cons _ _ => cases h
theorem rA_err {l : List Int} {c : Int} (h : rA l = .inl c) : 0 < c ∧ c < 100 := by
  cases l with
  | nil => cases h; omega
  | cons k l =>
    simp only [rA, rK] at h
    repeat' split at h
    · cases h; omega
    · unfold rW at h; split at h <;> cases h; omega
    · unfold rD at h; split at h <;> cases h; omega
    · rw [rN_err h]; omega
theorem lt1 {l : List Int} (h : ¬ (1 : Int) ≤ l.length) : l = [] := List.eq_nil_of_length_eq_zero (by omega)
theorem lt2 {l : List Int} (h : ¬ (2 : Int) ≤ l.length) : rW l = .inl 6 := by
  match l with
  | [] => rfl
  | [_] => rfl
  | a :: b :: r => simp at h; omega
theorem lt5 {l : List Int} (h : ¬ (5 : Int) ≤ l.length) : rD l = .inl 6 := by
  match l with
  | [] => rfl
  | [_] => rfl
  | [_, _] => rfl
  | [_, _, _] => rfl
  | [_, _, _, _] => rfl
  | a :: b :: c :: d :: e :: r => simp at h; omega
theorem ge1 {l : List Int} (h : (1 : Int) ≤ l.length) : ∃ a r, l = a :: r := by
  match l with
  | [] => simp at h
  | a :: r => exact ⟨a, r, rfl⟩
theorem ge2 {l : List Int} (h : (2 : Int) ≤ l.length) : ∃ a b r, l = a :: b :: r := by
  match l with
  | [] => simp at h
  | [_] => simp at h
  | a :: b :: r => exact ⟨a, b, r, rfl⟩
theorem ge4 {l : List Int} (h : (4 : Int) ≤ l.length) : ∃ a b c d r, l = a :: b :: c :: d :: r := by
  match l with
  | [] => simp at h
  | [_] => simp at h
  | [_, _] => simp at h
  | [_, _, _] => simp at h
  | a :: b :: c :: d :: r => exact ⟨a, b, c, d, r, rfl⟩
theorem sg_zero2 : impl_signed (List.replicate (2 : Int).toNat 0) = some 0 := by
  rw [show List.replicate (2 : Int).toNat (0 : Int) = [0, 0] from rfl, sg2 (by intro y hy; simp at hy; omega)]; rfl
theorem sg_zero4 : impl_signed (List.replicate (4 : Int).toNat 0) = some 0 := by
  rw [show List.replicate (4 : Int).toNat (0 : Int) = [0, 0, 0, 0] from rfl, sg4 (by intro y hy; simp at hy; omega)]; rfl
theorem iArg_rd {l : List Int} (hl : by8 l) : OK (impl_picReader_arg ⟨l, 0⟩) (RelI (rA l)) := by
  unfold impl_picReader_arg
  cases l with
  | nil =>
    rw [iTakeS (by omega) (by omega) (by simp), Option.bind_some]
    refine OK.idx (by omega) (by simp) fun y hy _ => ?_
    refine OK.cond (fun _ => ?_) (fun hc => by simp at hc)
    simp only [impl_picReader_arg_j5]
    exact OK.mk rfl
  | cons k l =>
    have hk := hl.hd
    have hl := hl.tl
    rw [iTake (by omega) (by omega) (by simp; omega), Option.bind_some]
    refine OK.idx (by omega) (by simp) fun y _ hy => ?_
    obtain rfl : k = y := hy
    refine OK.cond (fun hc => by simp at hc) (fun _ => ?_)
    rw [w64 (n := k) (by omega) (by omega), in_eq, Option.bind_some]
    simp only [show List.drop (1 : Int).toNat (k :: l) = l from rfl, rA, rK]
    refine OK.cond (fun hc => ?_) (fun hc => ?_)
    · simp only [Bool.or_eq_true, decide_eq_true_eq, beq_iff_eq] at hc
      rw [if_neg (by omega), if_neg (by omega), if_neg (by omega)]
      by_cases h1 : (1 : Int) ≤ l.length
      · obtain ⟨a, r, rfl⟩ := ge1 h1
        have ha := hl.hd
        rw [iTake (by omega) (by omega) h1, Option.bind_some]
        refine OK.idx (by omega) (by simp) fun y _ hy => ?_
        obtain rfl : a = y := hy
        simp only [impl_picReader_arg_j5]
        rw [w64 (n := a) (by omega) (by omega), w64 (n := k) (by omega) (by omega)]
        exact OK.mk rfl
      · rw [iTakeS (by omega) (by omega) (by omega), Option.bind_some, lt1 h1]
        refine OK.idx (by omega) (by simp) fun y hy _ => ?_
        simp only [impl_picReader_arg_j5]
        exact OK.mk rfl
    · simp only [Bool.or_eq_false_iff, decide_eq_false_iff_not, beq_eq_false_iff_ne] at hc
      refine OK.cond (fun hd => ?_) (fun hd => ?_)
      · simp only [beq_iff_eq] at hd
        subst hd
        rw [if_neg (by omega), if_pos rfl]
        by_cases h1 : (2 : Int) ≤ l.length
        · obtain ⟨a, b, r, rfl⟩ := ge2 h1
          rw [iTake (by omega) (by omega) h1, Option.bind_some]
          simp only [show List.take (2 : Int).toNat (a :: b :: r) = [a, b] from rfl]
          rw [sg2 (by intro y hy; exact hl y (by simp at hy ⊢; omega)), Option.bind_some]
          simp only [impl_picReader_arg_j5]
          exact OK.mk rfl
        · rw [iTakeS (by omega) (by omega) (by omega), Option.bind_some, lt2 h1, sg_zero2, Option.bind_some]
          simp only [impl_picReader_arg_j5]
          exact OK.mk rfl
      · simp only [beq_eq_false_iff_ne] at hd
        refine OK.cond (fun he => ?_) (fun he => ?_)
        · simp only [beq_iff_eq] at he
          subst he
          rw [if_neg (by omega), if_neg (by omega), if_pos rfl]
          by_cases h1 : (4 : Int) ≤ l.length
          · obtain ⟨a, b, c, d, r, rfl⟩ := ge4 h1
            rw [iTake (by omega) (by omega) h1, Option.bind_some]
            simp only [show List.take (4 : Int).toNat (a :: b :: c :: d :: r) = [a, b, c, d] from rfl, show List.drop (4 : Int).toNat (a :: b :: c :: d :: r) = r from rfl]
            rw [sg4 (by intro y hy; exact hl y (by simp at hy ⊢; omega)), Option.bind_some]
            by_cases h2 : (1 : Int) ≤ r.length
            · obtain ⟨p, r, rfl⟩ := ge1 h2
              have hp : 0 ≤ p ∧ p < 256 := hl p (by simp)
              rw [iTake (by omega) (by omega) h2, Option.bind_some]
              refine OK.idx (by omega) (by simp) fun y _ hy => ?_
              obtain rfl : p = y := hy
              simp only [impl_picReader_arg_j5]
              rw [w64 (n := p) (by omega) (by omega)]
              exact OK.mk rfl
            · rw [iTakeS (by omega) (by omega) (by omega), Option.bind_some, lt1 h2]
              refine OK.idx (by omega) (by simp) fun y hy _ => ?_
              simp only [impl_picReader_arg_j5]
              exact OK.mk rfl
          · rw [iTakeS (by omega) (by omega) (by omega), Option.bind_some, lt5 (by omega), sg_zero4, Option.bind_some, iTakeC (by omega) (by omega) (by omega), Option.bind_some]
            refine OK.idx (by omega) (by simp) fun y hy _ => ?_
            simp only [impl_picReader_arg_j5]
            exact OK.mk rfl
        · simp only [beq_eq_false_iff_ne] at he
          rw [if_pos (by omega)]
          simp only [impl_picReader_arg_j5]
          exact OK.mk rfl
/-! the document's -/
def SP (b r : List Int) (p : l17In) : Prop := p.b = b ∧ 0 ≤ p.at_ ∧ p.at_ ≤ b.length ∧ b.drop p.at_.toNat = r ∧ b.length ≤ 1000000
theorem SP.len {b r : List Int} {p : l17In} (h : SP b r p) : (r.length : Int) = b.length - p.at_ := by
  obtain ⟨h1, h2, h3, h4, _⟩ := h
  rw [← h4, List.length_drop]; omega
theorem sTake {b r : List Int} {p : l17In} {n : Int} (h : SP b r p) (h0 : 0 ≤ n) (hl : n ≤ r.length) : OK (spec_l17In_take p n) (fun x => x.1 = r.take n.toNat ∧ x.2.1 = true ∧ SP b (r.drop n.toNat) x.2.2) := by
  have hlen := h.len
  obtain ⟨pb, pa⟩ := p
  obtain ⟨h1, h2, h3, h4, h5⟩ := h
  dsimp only at h1 h2 h3 h4 hlen
  subst h1
  unfold spec_l17In_take
  dsimp only
  rw [w64 (n := (pb.length : Int) - pa) (by omega) (by omega), w64 (n := pa + n) (by omega) (by omega), w64 (n := pa + n - n) (by omega) (by omega)]
  refine OK.cond (fun hc => ?_) (fun _ => ?_)
  · simp only [decide_eq_true_eq] at hc; omega
  · refine OK.prt (by omega) (by omega) (by omega) (OK.mk ⟨?_, rfl, rfl, by dsimp only; omega, by dsimp only; omega, ?_, h5⟩)
    · rw [← h4, List.drop_take, show pa + n - n = pa by omega, show (pa + n).toNat - pa.toNat = n.toNat by omega]
    · dsimp only
      rw [← h4, List.drop_drop, show pa.toNat + n.toNat = (pa + n).toNat by omega]
theorem sTakeS {b r : List Int} {p : l17In} {n : Int} (h : SP b r p) (h0 : 0 ≤ n) (hl : (r.length : Int) < n) : spec_l17In_take p n = some ([], false, p) := by
  have hlen := h.len
  obtain ⟨pb, pa⟩ := p
  obtain ⟨h1, h2, h3, h4, h5⟩ := h
  dsimp only at h1 h2 h3 h4 hlen
  subst h1
  refine OK.eq ?_
  unfold spec_l17In_take
  dsimp only
  rw [w64 (n := (pb.length : Int) - pa) (by omega) (by omega)]
  refine OK.cond (fun _ => OK.mk rfl) (fun hc => ?_)
  simp only [decide_eq_false_iff_not] at hc; omega
def RelS {α : Type} (b : List Int) (m : Int ⊕ (α × List Int)) (x : α × Int × l17In) : Prop := match m with
  | .inl c => x.2.1 = c
  | .inr (a, r) => x.1 = a ∧ x.2.1 = 0 ∧ SP b r x.2.2
theorem sArg_rd {b l : List Int} {p : l17In} (hl : by8 l) (h : SP b l p) : OK (spec_l17In_arg p) (RelS b (rA l)) := by
  unfold spec_l17In_arg
  cases l with
  | nil =>
    rw [sTakeS h (by omega) (by simp), Option.bind_some]
    refine OK.cond (fun _ => OK.mk rfl) (fun hc => by simp at hc)
  | cons k l =>
    have hk := hl.hd
    have hl := hl.tl
    refine OK.bind (sTake h (by omega) (by simp; omega)) ?_
    rintro ⟨x, f, p1⟩ ⟨rfl, rfl, hp1⟩
    dsimp only at hp1 ⊢
    have hp1 : SP b l p1 := hp1
    refine OK.cond (fun hc => by cases hc) (fun _ => ?_)
    refine OK.idx (by omega) (by simp) fun y _ hy => ?_
    obtain rfl : k = y := hy
    rw [w64 (n := k) (by omega) (by omega)]
    simp only [rA, rK]
    refine OK.cond (fun hc => ?_) (fun hc => ?_)
    · simp only [Bool.or_eq_true, decide_eq_true_eq] at hc
      rw [if_pos (by omega)]
      exact OK.mk rfl
    simp only [Bool.or_eq_false_iff, decide_eq_false_iff_not] at hc
    rw [if_neg (by omega)]
    by_cases q1 : k = 11
    · have w1 : spec_l17Wide k = some 2 := by unfold spec_l17Wide; rw [q1]; rfl
      rw [w1, Option.bind_some, if_pos q1]
      by_cases h1 : (2 : Int) ≤ l.length
      · refine OK.bind (sTake hp1 (by omega) h1) ?_
        rintro ⟨x, f, p2⟩ ⟨rfl, rfl, hp2⟩
        obtain ⟨a, c, r, rfl⟩ := ge2 h1
        dsimp only at hp2 ⊢
        refine OK.cond (fun hc => by cases hc) (fun _ => ?_)
        rw [show List.take (2 : Int).toNat (a :: c :: r) = [a, c] from rfl, sv2 (by intro y hy; exact hl y (by simp at hy ⊢; omega)), Option.bind_some]
        refine OK.cond (fun hz => by simp [q1] at hz) (fun _ => ?_)
        simp only [spec_l17In_arg_j37]
        rw [w64 (n := k) (by omega) (by omega), q1]
        exact OK.mk ⟨rfl, rfl, hp2⟩
      · rw [sTakeS hp1 (by omega) (by omega), Option.bind_some, lt2 h1]
        exact OK.cond (fun _ => OK.mk rfl) (fun hc => by simp at hc)
    rw [if_neg q1]
    by_cases q2 : k = 12
    · have w1 : spec_l17Wide k = some 4 := by unfold spec_l17Wide; rw [q2]; rfl
      rw [w1, Option.bind_some, if_pos q2]
      by_cases h1 : (4 : Int) ≤ l.length
      · refine OK.bind (sTake hp1 (by omega) h1) ?_
        rintro ⟨x, f, p2⟩ ⟨rfl, rfl, hp2⟩
        obtain ⟨a, c, d, e, r, rfl⟩ := ge4 h1
        dsimp only at hp2 ⊢
        refine OK.cond (fun hc => by cases hc) (fun _ => ?_)
        rw [show List.take (4 : Int).toNat (a :: c :: d :: e :: r) = [a, c, d, e] from rfl, sv4 (by intro y hy; exact hl y (by simp at hy ⊢; omega)), Option.bind_some]
        refine OK.cond (fun _ => ?_) (fun hz => by simp [q2] at hz)
        have hp2 : SP b r p2 := hp2
        by_cases h2 : (1 : Int) ≤ r.length
        · refine OK.bind (sTake hp2 (by omega) h2) ?_
          rintro ⟨x, f, p3⟩ ⟨rfl, rfl, hp3⟩
          obtain ⟨pp, r, rfl⟩ := ge1 h2
          have hpp : 0 ≤ pp ∧ pp < 256 := hl pp (by simp)
          dsimp only at hp3 ⊢
          refine OK.cond (fun hc => by cases hc) (fun _ => ?_)
          refine OK.idx (by omega) (by simp) fun y _ hy => ?_
          obtain rfl : pp = y := hy
          simp only [spec_l17In_arg_j37]
          rw [w64 (n := k) (by omega) (by omega), w64 (n := pp) (by omega) (by omega), q2]
          exact OK.mk ⟨rfl, rfl, hp3⟩
        · rw [sTakeS hp2 (by omega) (by omega), Option.bind_some, lt1 h2]
          exact OK.cond (fun _ => OK.mk rfl) (fun hc => by simp at hc)
      · rw [sTakeS hp1 (by omega) (by omega), Option.bind_some, lt5 (by omega)]
        exact OK.cond (fun _ => OK.mk rfl) (fun hc => by simp at hc)
    rw [if_neg q2]
    have w1 : spec_l17Wide k = some 1 := by
      unfold spec_l17Wide
      rw [show (k == 11) = false by simpa using q1, show (k == 12) = false by simpa using q2]; rfl
    rw [w1, Option.bind_some]
    by_cases h1 : (1 : Int) ≤ l.length
    · refine OK.bind (sTake hp1 (by omega) h1) ?_
      rintro ⟨x, f, p2⟩ ⟨rfl, rfl, hp2⟩
      obtain ⟨a, r, rfl⟩ := ge1 h1
      dsimp only at hp2 ⊢
      refine OK.cond (fun hc => by cases hc) (fun _ => ?_)
      rw [show List.take (1 : Int).toNat (a :: r) = [a] from rfl, sv1 (by intro y hy; exact hl y (by simp at hy ⊢; omega)), Option.bind_some]
      refine OK.cond (fun hz => by simp [q2] at hz) (fun _ => ?_)
      simp only [spec_l17In_arg_j37]
      rw [w64 (n := k) (by omega) (by omega)]
      exact OK.mk ⟨rfl, rfl, hp2⟩
    · rw [sTakeS hp1 (by omega) (by omega), Option.bind_some, lt1 h1]
      exact OK.cond (fun _ => OK.mk rfl) (fun hc => by simp at hc)
end Go.AM
