/- Several texts in one. Conditions: none. -/
import Derived.Test.YthcdhlglaeaieaaGreatDoorAmU1
import Derived.Test.YthcdhlglaeaieaaGreatDoorAmU0
set_option linter.unusedSimpArgs false
set_option linter.unusedVariables false
section
/- Images: how both packages read instructions and lists. Conditions: none. -/
namespace Go.AM
open Go
def rAs : Nat → List Int → Int ⊕ (List DevArg × List Int)
 | 0, l => .inr ([], l)
 | n + 1, l => match rA l with
  | .inl c => .inl c
  | .inr (a, r) => match rAs n r with
   | .inl c => .inl c
   | .inr (ws, r') => .inr (a :: ws, r')
def rO (c : Int) : List Int → Int ⊕ (Inst × List Int)
 | [] => .inl 6
 | o :: l => if known c o = false then .inl 2 else match rAs (ar o).toNat l with
  | .inl e => .inl e
  | .inr (ws, r) => .inr (⟨c, o, ws⟩, r)
def rI : List Int → Int ⊕ (Inst × List Int)
 | [] => .inl 6
 | c :: l => if c < 1 ∨ c > 11 then .inl 2 else if isHas c = false then .inr (⟨c, 0, []⟩, l) else rO c l
def rL : Nat → Int → List Int → (Int × Int) ⊕ (List Inst × List Int)
 | 0, _, l => .inr ([], l)
 | n + 1, t, l => match rI l with
  | .inl c => .inl (c, t)
  | .inr (i, r) => match rL n (t + 1) r with
   | .inl e => .inl e
   | .inr (js, r') => .inr (i :: js, r')
theorem rA_by8 {l r : List Int} {a : DevArg} (hl : by8 l) (h : rA l = .inr (a, r)) : by8 r := by
 obtain ⟨rfl, _⟩ := rA_enc hl h
 exact fun y hy => hl y (List.mem_append_right _ hy)
theorem rAs_enc : ∀ {n : Nat} {l r : List Int} {ws : List DevArg}, by8 l → rAs n l = .inr (ws, r) → l = ws.flatMap encA ++ r ∧ ws.length = n ∧ ws.all dx = true
 | 0, l, r, ws, hl, h => by cases h; exact ⟨rfl, rfl, rfl⟩
 | n + 1, l, r, ws, hl, h => by
  simp only [rAs] at h
  split at h
  ·cases h
  ·rename_i a r1 h1
   split at h
   ·cases h
   ·rename_i ws' r2 h2
    cases h
    obtain ⟨e1, e2⟩ := rA_enc hl h1
    obtain ⟨f1, f2, f3⟩ := rAs_enc (rA_by8 hl h1) h2
    refine ⟨?_, by simp [f2], by simp [e2]; simpa using f3⟩
    rw [e1, f1]; simp
theorem rAs_dec : ∀ {ws : List DevArg} (r : List Int), ws.all dx = true → rAs ws.length (ws.flatMap encA ++ r) = .inr (ws, r)
 | [], r, _ => rfl
 | a :: ws, r, h => by
  simp only [List.all_cons, Bool.and_eq_true] at h
  simp only [List.length_cons, rAs, List.flatMap_cons, List.append_assoc]
  rw [rA_dec h.1]
  dsimp only
  rw [rAs_dec r h.2]
theorem rI_enc {l r : List Int} {i : Inst} (hl : by8 l) (h : rI l = .inr (i, r)) : l = encI i ++ r ∧ wro i = 0 := by
 cases l with
 | nil => cases h
 | cons c l =>
  have hc := hl.hd
  simp only [rI] at h
  split at h
  ·cases h
  rename_i h1
  split at h
  ·rename_i h2
   cases h
   refine ⟨?_, ?_⟩
   ·simp only [encI, h2, Bool.false_eq_true, if_false, List.cons_append, List.nil_append, List.cons.injEq, and_true]; omega
   ·rw [wro, if_neg h1, if_pos h2, if_neg (by simp)]
  rename_i h2
  cases l with
  | nil => cases h
  | cons o l =>
   have ho := hl.tl.hd
   simp only [rO] at h
   split at h
   ·cases h
   rename_i h3
   split at h
   ·cases h
   rename_i ws r1 h4
   cases h
   obtain ⟨f1, f2, f3⟩ := rAs_enc hl.tl.tl h4
   have hab := ar_bd o
   have h2 : isHas c = true := by simpa using h2
   refine ⟨?_, ?_⟩
   ·simp only [encI, h2, if_true, List.cons_append, List.cons.injEq]
    exact ⟨by omega, by omega, f1⟩
   ·rw [wro, if_neg h1, if_neg (by dsimp only; rw [h2]; simp), if_neg ?_, if_pos f3]
    dsimp only
    rintro (q | q)
    ·exact h3 q
    ·exact q (by omega)
theorem known_bd {c o : Int} (h : known c o = true) : 1 ≤ o ∧ o ≤ 37 := by
 unfold known at h
 split at h <;> · simp only [decide_eq_true_eq] at h; omega
theorem rI_dec {i : Inst} (h : wro i = 0) (r : List Int) : rI (encI i ++ r) = .inr (i, r) := by
 obtain ⟨c1, c2, h3, h4⟩ := wro_zero h
 obtain ⟨c, o, ws⟩ := i
 dsimp only at c1 c2 h3 h4
 have hc : c % 256 = c := by omega
 simp only [encI, List.cons_append, rI, hc]
 rw [if_neg (by omega)]
 cases hh : isHas c with
 | false =>
  obtain ⟨rfl, rfl⟩ := h3 hh
  simp
 | true =>
  obtain ⟨k1, k2, k3⟩ := h4 hh
  have hk := known_bd k1
  rw [if_neg (by simp), if_pos rfl]
  have ho : o % 256 = o := by omega
  simp only [List.cons_append, rO, ho]
  rw [if_neg (by rw [k1]; simp), ← k2, Int.toNat_natCast, rAs_dec r k3]
theorem rL_enc : ∀ {n : Nat} {t : Int} {l r : List Int} {js : List Inst}, by8 l → rL n t l = .inr (js, r) → l = js.flatMap encI ++ r ∧ js.length = n ∧ ∀ i ∈ js, wro i = 0
 | 0, t, l, r, js, hl, h => by cases h; exact ⟨rfl, rfl, fun i hi => by cases hi⟩
 | n + 1, t, l, r, js, hl, h => by
  simp only [rL] at h
  split at h
  ·cases h
  ·rename_i i r1 h1
   split at h
   ·cases h
   ·rename_i js' r2 h2
    cases h
    obtain ⟨e1, e2⟩ := rI_enc hl h1
    have hb : by8 r1 := by rw [e1] at hl; exact fun y hy => hl y (List.mem_append_right _ hy)
    obtain ⟨f1, f2, f3⟩ := rL_enc hb h2
    refine ⟨?_, by simp [f2], fun j hj => ?_⟩
    ·rw [e1, f1]; simp
    ·rcases List.mem_cons.1 hj with rfl | hj
     ·exact e2
     ·exact f3 j hj
theorem rL_dec : ∀ {js : List Inst} (t : Int) (r : List Int), (∀ i ∈ js, wro i = 0) → rL js.length t (js.flatMap encI ++ r) = .inr (js, r)
 | [], t, r, _ => rfl
 | i :: js, t, r, h => by
  simp only [List.length_cons, rL, List.flatMap_cons, List.append_assoc]
  rw [rI_dec (h i (.head _))]
  dsimp only
  rw [rL_dec (t + 1) r fun j hj => h j (.tail _ hj)]
theorem rAs_err : ∀ {n : Nat} {l : List Int} {c : Int}, rAs n l = .inl c → 0 < c ∧ c < 100
 | 0, l, c, h => by cases h
 | n + 1, l, c, h => by
  simp only [rAs] at h
  split at h
  ·rename_i h1; cases h; exact rA_err h1
  ·split at h
   ·rename_i h2; cases h; exact rAs_err h2
   ·cases h
theorem rI_err {l : List Int} {c : Int} (h : rI l = .inl c) : 0 < c ∧ c < 100 := by
 cases l with
 | nil => cases h; omega
 | cons k l =>
  simp only [rI] at h
  split at h
  ·cases h; omega
  split at h
  ·cases h
  cases l with
  | nil => cases h; omega
  | cons o l =>
   simp only [rO] at h
   split at h
   ·cases h; omega
   split at h
   ·rename_i h4; cases h; exact rAs_err h4
   ·cases h
def joinA (ws : List DevArg) (m : Int ⊕ (List DevArg × List Int)) : Int ⊕ (List DevArg × List Int) := match m with
 | .inl c => .inl c
 | .inr (bs, r) => .inr (ws ++ bs, r)
theorem rAs_step {n : Nat} {l : List Int} (ws : List DevArg) : joinA ws (rAs (n + 1) l) = match rA l with
  | .inl c => .inl c
  | .inr (a, r) => joinA (ws ++ [a]) (rAs n r) := by
 simp only [rAs]
 cases rA l with
 | inl c => rfl
 | inr x =>
  obtain ⟨a, r⟩ := x
  dsimp only
  cases rAs n r with
  | inl c => rfl
  | inr y => obtain ⟨bs, r'⟩ := y; simp [joinA]
theorem joinA_nil (m : Int ⊕ (List DevArg × List Int)) : joinA [] m = m := by
 cases m with
 | inl c => rfl
 | inr y => rfl
def RelIs (m : Int ⊕ (List DevArg × List Int)) (x : List Int × Int × List DevArg) : Prop := match m with
 | .inl c => x.2.1 = c
 | .inr (ws, r) => x = (r, 0, ws)
theorem iArgs_rd {o : Int} {l : List Int} (hl : by8 l) (ho : 0 ≤ o ∧ o < 256) : OK (loop (bz o) (l, 0, [], 0)) (RelIs (rAs (ar o).toNat l)) := by
 have hab := ar_bd o
 refine (OK.loop (k := fun x => some x) (P := RelIs (rAs (ar o).toNat l)) (Q := RelIs (rAs (ar o).toNat l)) (fun z : List Int × Int × List DevArg × Int => 0 ≤ z.2.2.2 ∧ z.2.2.2 ≤ ar o ∧ (z.2.2.1.length : Int) = z.2.2.2 ∧ ((z.2.1 = 0 ∧ by8 z.1 ∧ rAs (ar o).toNat l = joinA z.2.2.1 (rAs (ar o - z.2.2.2).toNat z.1)) ∨ (z.2.1 ≠ 0 ∧ rAs (ar o).toNat l = .inl z.2.1))) (fun z => (ar o - z.2.2.2).toNat) ?_ ?_ (fun x hx => OK.mk hx)) |> fun h => by simpa using h
 ·exact ⟨Int.le_refl _, hab.1, rfl, .inl ⟨rfl, hl, by simp only [Int.sub_zero]; rw [joinA_nil]⟩⟩
 ·rintro ⟨b, c, ws, k⟩ ⟨h1, h2, h3, h4⟩
  dsimp only at h1 h2 h3 h4
  simp only [bz]
  rw [w64 (n := o) (by omega) (by omega)]
  refine OK.bind (iArity_ok o) ?_
  rintro _ rfl
  refine OK.cond (fun hc => ?_) (fun hc => ?_)
  ·simp only [Bool.and_eq_true, decide_eq_true_eq, beq_iff_eq] at hc
   obtain ⟨hk, rfl⟩ := hc
   rcases h4 with ⟨_, hb, he⟩ | ⟨hz, _⟩
   ·refine OK.bind (iArg_rd hb) ?_
    rintro ⟨a, p⟩ hx
    refine OK.gd (apOk_of (by simp; omega) (by simp; omega)) ?_
    rw [w64 (n := k + 1) (by omega) (by omega)]
    rw [show (ar o - k).toNat = (ar o - (k + 1)).toNat + 1 by omega, rAs_step] at he
    refine OK.mk ⟨⟨by dsimp only; omega, by dsimp only; omega, by simp; omega, ?_⟩, by dsimp only; omega⟩
    dsimp only
    cases hr : rA b with
    | inl e =>
     rw [hr] at hx he
     have hx : p.code = e := hx
     have := rA_err hr
     exact .inr ⟨by omega, by rw [he, hx]⟩
    | inr y =>
     obtain ⟨a', r⟩ := y
     rw [hr] at hx he
     have hx : (a, p) = (a', ⟨r, 0⟩) := hx
     cases hx
     exact .inl ⟨rfl, rA_by8 hb hr, he⟩
   ·exact absurd rfl hz
  ·simp only [Bool.and_eq_false_iff, decide_eq_false_iff_not, beq_eq_false_iff_ne] at hc
   refine OK.mk ?_
   show RelIs _ (b, c, ws)
   rcases h4 with ⟨rfl, hb, he⟩ | ⟨hz, he⟩
   ·have : k = ar o := by rcases hc with q | q <;> omega
    subst this
    rw [he, Int.sub_self]
    show RelIs (joinA ws (.inr ([], b))) _
    simp [joinA, RelIs]
   ·rw [he]; rfl
theorem iInst_rd {l : List Int} (hl : by8 l) : OK (fQ ⟨l, 0⟩) (RelI (rI l)) := by
 unfold fQ
 cases l with
 | nil =>
  rw [iTakeS (by omega) (by omega) (by simp), Option.bind_some]
  refine OK.idx (by omega) (by simp) fun y hy _ => ?_
  refine OK.cond (fun hc => by simp at hc) (fun _ => ?_)
  simp only [bY]
  exact OK.mk rfl
 | cons c l =>
  have hk := hl.hd
  have hl := hl.tl
  rw [iTake (by omega) (by omega) (by simp; omega), Option.bind_some]
  refine OK.idx (by omega) (by simp) fun y _ hy => ?_
  obtain rfl : c = y := hy
  simp only [show List.drop (1 : Int).toNat (c :: l) = l from rfl, rI]
  refine OK.cond (fun _ => ?_) (fun hc => by simp at hc)
  rw [w64 (n := c) (by omega) (by omega), in_eq, Option.bind_some]
  refine OK.cond (fun hc => ?_) (fun hc => ?_)
  ·simp only [Bool.not_eq_true', decide_eq_false_iff_not] at hc
   rw [if_pos (by omega)]
   simp only [bY]
   exact OK.mk rfl
  simp only [Bool.not_eq_false', decide_eq_true_eq] at hc
  rw [if_neg (by omega)]
  simp only [bY]
  rw [w64 (n := c) (by omega) (by omega), iHas_eq, Option.bind_some]
  refine OK.cond (fun hz => by simp at hz) (fun _ => ?_)
  refine OK.cond (fun hh => ?_) (fun hh => ?_)
  ·simp only [Bool.not_eq_true'] at hh
   rw [if_pos hh]
   exact OK.mk rfl
  simp only [Bool.not_eq_false'] at hh
  rw [if_neg (by rw [hh]; simp)]
  by_cases h1 : (1 : Int) ≤ l.length
  ·obtain ⟨o, r, rfl⟩ := ge1 h1
   have ho := hl.hd
   rw [iTake (by omega) (by omega) h1, Option.bind_some]
   refine OK.idx (by omega) (by simp) fun y _ hy => ?_
   obtain rfl : o = y := hy
   simp only [show List.drop (1 : Int).toNat (o :: r) = r from rfl, rO]
   refine OK.cond (fun _ => ?_) (fun hc => by simp at hc)
   rw [w64 (n := o) (by omega) (by omega), iFits_eq, Option.bind_some]
   refine OK.cond (fun hf => ?_) (fun hf => ?_)
   ·simp only [Bool.not_eq_true'] at hf
    rw [if_pos hf]
    simp only [bP]
    have e : loop (bz o) (r, 2, [], 0) = some (r, 2, []) := by
     refine fg (OK.eq ?_)
     simp only [bz]
     rw [w64 (n := o) (by omega) (by omega)]
     refine OK.bind (iArity_ok o) ?_
     rintro _ rfl
     exact OK.cond (fun hc => by simp at hc) (fun _ => OK.mk rfl)
    rw [e]
    exact OK.mk rfl
   ·simp only [Bool.not_eq_false'] at hf
    rw [if_neg (by rw [hf]; simp)]
    simp only [bP]
    refine OK.bind (iArgs_rd hl.tl ho) ?_
    rintro ⟨b, e, ws⟩ hx
    simp only [fc]
    rw [w64 (n := c) (by omega) (by omega), w64 (n := o) (by omega) (by omega)]
    cases hr : rAs (ar o).toNat r with
    | inl q => rw [hr] at hx; exact OK.mk hx
    | inr y =>
     obtain ⟨bs, r'⟩ := y
     rw [hr] at hx
     have hx : (b, e, ws) = (r', 0, bs) := hx
     cases hx
     exact OK.mk rfl
  ·rw [iTakeS (by omega) (by omega) (by omega), Option.bind_some, lt1 h1]
   refine OK.idx (by omega) (by simp) fun y hy hyd => ?_
   refine OK.cond (fun hc => by simp at hc) (fun _ => ?_)
   simp only [bP]
   have hy0 : y = 0 := by simpa using hy
   subst hy0
   have e : loop (bz 0) ([], 6, [], 0) = some ([], 6, []) := by
    refine fg (OK.eq ?_)
    simp only [bz]
    rw [w64 (n := 0) (by omega) (by omega)]
    refine OK.bind (iArity_ok 0) ?_
    rintro _ rfl
    exact OK.cond (fun hc => by simp at hc) (fun _ => OK.mk rfl)
   rw [e]
   exact OK.mk rfl
def RelSA (b : List Int) (m : Int ⊕ (List DevArg × List Int)) (x : (List Int × Int × Int) ⊕ (List Int × Int × List DevArg)) : Prop := match m with
 | .inl c => ∃ q a, x = .inl (q, a, c)
 | .inr (ws, r) => ∃ q, SP b r q ∧ x = .inr (q.b, q.at_, ws)
theorem sArgs_rd {b l : List Int} {p : l17In} {o : Int} (hl : by8 l) (h : SP b l p) (ho : 0 ≤ o ∧ o < 256) : OK (loop (fN o) (p.b, p.at_, [], 0)) (RelSA b (rAs (ar o).toNat l)) := by
 have hab := ar_bd o
 refine (OK.loop (k := fun x => some x) (P := RelSA b (rAs (ar o).toNat l)) (Q := RelSA b (rAs (ar o).toNat l)) (fun z : List Int × Int × List DevArg × Int => 0 ≤ z.2.2.2 ∧ z.2.2.2 ≤ ar o ∧ (z.2.2.1.length : Int) = z.2.2.2 ∧ ∃ r, by8 r ∧ SP b r ⟨z.1, z.2.1⟩ ∧ rAs (ar o).toNat l = joinA z.2.2.1 (rAs (ar o - z.2.2.2).toNat r)) (fun z => (ar o - z.2.2.2).toNat) ?_ ?_ (fun x hx => OK.mk hx)) |> fun h => by simpa using h
 ·exact ⟨Int.le_refl _, hab.1, rfl, l, hl, h, by simp only [Int.sub_zero]; rw [joinA_nil]⟩
 ·rintro ⟨pb, pa, ws, k⟩ ⟨h1, h2, h3, r, hr8, hsp, he⟩
  dsimp only at h1 h2 h3 hsp he
  simp only [fN]
  rw [w64 (n := o) (by omega) (by omega)]
  refine OK.bind (sArity_ok o) ?_
  rintro _ rfl
  refine OK.cond (fun hc => ?_) (fun hc => ?_)
  ·simp only [decide_eq_true_eq] at hc
   refine OK.bind (sArg_rd hr8 hsp) ?_
   rintro ⟨a, e, p⟩ hx
   rw [show (ar o - k).toNat = (ar o - (k + 1)).toNat + 1 by omega, rAs_step] at he
   cases hr : rA r with
   | inl c =>
    rw [hr] at hx he
    have hx : e = c := hx
    have := rA_err hr
    refine OK.cond (fun _ => OK.mk ?_) (fun hc => by simp at hc; omega)
    show RelSA _ _ _
    rw [he]
    exact ⟨_, _, by rw [hx]⟩
   | inr y =>
    obtain ⟨a', r'⟩ := y
    rw [hr] at hx he
    obtain ⟨rfl, rfl, hp⟩ : a = a' ∧ e = 0 ∧ SP b r' p := hx
    refine OK.cond (fun hc => by simp at hc) (fun _ => ?_)
    refine OK.gd (apOk_of (by simp; omega) (by simp; omega)) ?_
    rw [w64 (n := k + 1) (by omega) (by omega)]
    exact OK.mk ⟨⟨by dsimp only; omega, by dsimp only; omega, by simp; omega, r', rA_by8 hr8 hr, hp, he⟩, by dsimp only; omega⟩
  ·simp only [decide_eq_false_iff_not] at hc
   have : k = ar o := by omega
   subst this
   rw [Int.sub_self] at he
   have he : rAs (ar o).toNat l = .inr (ws, r) := by rw [he]; show joinA ws (.inr ([], r)) = _; simp [joinA]
   refine OK.mk ?_
   show RelSA _ _ _
   rw [he]
   exact ⟨⟨pb, pa⟩, hsp, rfl⟩
theorem sInst_rd {b l : List Int} {p : l17In} (hl : by8 l) (h : SP b l p) : OK (s_l17In_inst p) (RelS b (rI l)) := by
 unfold s_l17In_inst
 cases l with
 | nil =>
  rw [sTakeS h (by omega) (by simp), Option.bind_some]
  exact OK.cond (fun _ => OK.mk rfl) (fun hc => by simp at hc)
 | cons c l =>
  have hk := hl.hd
  have hl := hl.tl
  refine OK.bind (sTake h (by omega) (by simp; omega)) ?_
  rintro ⟨x, f, p1⟩ ⟨rfl, rfl, hp1⟩
  dsimp only at hp1 ⊢
  have hp1 : SP b l p1 := hp1
  refine OK.cond (fun hc => by cases hc) (fun _ => ?_)
  refine OK.idx (by omega) (by simp) fun y _ hy => ?_
  obtain rfl : c = y := hy
  rw [w64 (n := c) (by omega) (by omega)]
  simp only [rI]
  refine OK.cond (fun hc => ?_) (fun hc => ?_)
  ·simp only [Bool.or_eq_true, decide_eq_true_eq] at hc
   rw [if_pos (by omega)]
   exact OK.mk rfl
  simp only [Bool.or_eq_false_iff, decide_eq_false_iff_not] at hc
  rw [if_neg (by omega), sHas_eq, Option.bind_some]
  refine OK.cond (fun hh => ?_) (fun hh => ?_)
  ·simp only [Bool.not_eq_true'] at hh
   rw [if_pos hh]
   exact OK.mk ⟨rfl, rfl, hp1⟩
  simp only [Bool.not_eq_false'] at hh
  rw [if_neg (by rw [hh]; simp)]
  by_cases h1 : (1 : Int) ≤ l.length
  ·refine OK.bind (sTake hp1 (by omega) h1) ?_
   rintro ⟨x, f, p2⟩ ⟨rfl, rfl, hp2⟩
   obtain ⟨o, r, rfl⟩ := ge1 h1
   have ho := hl.hd
   dsimp only at hp2 ⊢
   have hp2 : SP b r p2 := hp2
   refine OK.cond (fun hc => by cases hc) (fun _ => ?_)
   refine OK.idx (by omega) (by simp) fun y _ hy => ?_
   obtain rfl : o = y := hy
   simp only [rO]
   rw [w64 (n := o) (by omega) (by omega), sKnown_eq, Option.bind_some]
   refine OK.cond (fun hf => ?_) (fun hf => ?_)
   ·simp only [Bool.not_eq_true'] at hf
    rw [if_pos hf]
    exact OK.mk rfl
   ·simp only [Bool.not_eq_false'] at hf
    rw [if_neg (by rw [hf]; simp)]
    refine OK.bind (sArgs_rd hl.tl hp2 ho) ?_
    intro x hx
    cases hr : rAs (ar o).toNat r with
    | inl q =>
     rw [hr] at hx
     obtain ⟨q1, q2, rfl⟩ := hx
     exact OK.mk rfl
    | inr y =>
     obtain ⟨bs, r'⟩ := y
     rw [hr] at hx
     obtain ⟨q, hq, rfl⟩ := hx
     simp only [Sum.elim_inr, hZ]
     rw [w64 (n := c) (by omega) (by omega), w64 (n := o) (by omega) (by omega)]
     exact OK.mk ⟨rfl, rfl, hq⟩
  ·rw [sTakeS hp1 (by omega) (by omega), Option.bind_some, lt1 h1]
   exact OK.cond (fun _ => OK.mk rfl) (fun hc => by simp at hc)
end Go.AM
end
section
/- Images: how both packages make them. Conditions: none. -/
namespace Go.AM
open Go
def encL (l : List Inst) : List Int := l.flatMap encI
def badI : Int → List Inst → Option (Int × Int)
 | _, [] => none
 | t, i :: l => if wro i = 0 then badI (t + 1) l else some (wro i, t)
def imgH (l : List Inst) : List Int := [83, 116] ++ be2 ((encL l).length + 8) ++ be2 l.length ++ encL l
def img (l : List Inst) : List Int := imgH l ++ be2 (sumL 65535 (imgH l))
def mkP (l : List Inst) : List Int × PicFault := if (l.length : Int) > 1000 then ([], ⟨1, 0⟩) else match badI 0 l with
 | some (c, t) => ([], ⟨c, t⟩)
 | none => (img l, ⟨0, 0⟩)
theorem be2_by8 (v : Int) : by8 (be2 v) := by
 intro y hy
 simp [be2] at hy; omega
theorem encL_by8 (l : List Inst) : by8 (encL l) := fun y hy => by
 obtain ⟨i, _, hi⟩ := List.mem_flatMap.1 hy
 exact encI_by8 i y hi
theorem imgH_by8 (l : List Inst) : by8 (imgH l) := by
 unfold imgH
 refine by8.app (by8.app (by8.app ?_ (be2_by8 _)) (be2_by8 _)) (encL_by8 l)
 intro y hy; simp at hy; omega
theorem badI_none : ∀ {l : List Inst} {t : Int}, badI t l = none → ∀ i ∈ l, wro i = 0
 | [], _, _, i, hi => by cases hi
 | j :: l, t, h, i, hi => by
  simp only [badI] at h
  split at h
  ·rename_i h1
   rcases List.mem_cons.1 hi with rfl | hi
   ·exact h1
   ·exact badI_none h i hi
  ·cases h
theorem badI_some : ∀ {l : List Inst} {t c u : Int}, badI t l = some (c, u) → c ≠ 0 ∧ 0 ≤ c ∧ t ≤ u ∧ u < t + l.length
 | [], _, _, _, h => by cases h
 | j :: l, t, c, u, h => by
  simp only [badI] at h
  split at h
  ·have := badI_some h
   simp only [List.length_cons]; omega
  ·rename_i h1
   cases h
   refine ⟨h1, ?_, Int.le_refl _, by simp only [List.length_cons]; omega⟩
   unfold wro; repeat' split <;> omega
theorem badI_of : ∀ {l : List Inst} (t : Int), (∀ i ∈ l, wro i = 0) → badI t l = none
 | [], _, _ => rfl
 | j :: l, t, h => by
  rw [badI, if_pos (h j (.head _))]; exact badI_of (t + 1) fun i hi => h i (.tail _ hi)
theorem wro_nn (i : Inst) : 0 ≤ wro i := by unfold wro; repeat' split <;> omega
theorem badI_snoc {l : List Inst} {i : Inst} {t : Int} (h : badI t l = none) : badI t (l ++ [i]) = if wro i = 0 then none else some (wro i, t + l.length) := by
 induction l generalizing t with
 | nil => simp [badI]
 | cons j l ih =>
  simp only [badI] at h
  split at h
  ·rename_i h1
   rw [List.cons_append, badI, if_pos h1, ih h]
   simp only [List.length_cons]
   rw [show t + 1 + (l.length : Int) = t + ((l.length + 1 : Nat) : Int) by omega]
  ·cases h
theorem badI_app {l m : List Inst} {t : Int} {x : Int × Int} (h : badI t l = some x) : badI t (l ++ m) = some x := by
 induction l generalizing t with
 | nil => cases h
 | cons j l ih =>
  simp only [badI] at h
  rw [List.cons_append, badI]
  split at h
  ·rename_i h1
   rw [if_pos h1]; exact ih h
  ·rename_i h1
   rw [if_neg h1]; exact h
theorem encL_len : ∀ {l : List Inst}, (∀ i ∈ l, wro i = 0) → (encL l).length ≤ 20 * l.length
 | [], _ => Nat.le_refl _
 | i :: l, h => by
  have h1 := encI_len (h i (.head _))
  have h2 := encL_len fun j hj => h j (.tail _ hj)
  unfold encL at h2 ⊢
  rw [List.flatMap_cons, List.length_append, List.length_cons]
  omega
theorem take_bad {l : List Inst} {k : Nat} (hk : k < l.length) (h : badI 0 (l.take k) = none) (hw : ¬ wro (l.getD k default) = 0) : badI 0 l = some (wro (l.getD k default), (k : Int)) := by
 have e : l.take (k + 1) = l.take k ++ [l.getD k default] := by
  rw [List.take_succ_eq_append_getElem hk]; simp [List.getD, hk]
 have h1 := badI_snoc (i := l.getD k default) h
 rw [← e, if_neg hw] at h1
 have h2 := badI_app (m := l.drop (k + 1)) h1
 rw [List.take_append_drop] at h2
 rw [h2]
 simp [Nat.min_eq_left (Nat.le_of_lt hk)]
theorem num2' {v : Int} (h0 : 0 ≤ v) (h1 : v ≤ 1000000) : dU v 2 = some (be2 v) := num2 (by omega) (by omega)
theorem sMake_ok {l : List Inst} (hl : aX l) (hl2 : l.length ≤ 1000000) : iu l = some (mkP l) := by
 refine OK.eq ?_
 unfold iu mkP
 refine OK.cond (fun hc => ?_) (fun hc => ?_)
 ·simp only [decide_eq_true_eq] at hc
  rw [if_pos hc]; exact OK.mk rfl
 simp only [decide_eq_false_iff_not] at hc
 rw [if_neg hc]
 refine OK.loop (Q := fun x => match badI 0 l with | some (c, t) => x = .inl (c, t) | none => x = .inr (encL l)) (fun z : List Int × Int => 0 ≤ z.2 ∧ z.2 ≤ l.length ∧ badI 0 (l.take z.2.toNat) = none ∧ z.1 = encL (l.take z.2.toNat)) (fun z => (l.length - z.2).toNat) ⟨Int.le_refl _, by dsimp only; omega, rfl, rfl⟩ ?_ ?_
 ·rintro ⟨b, k⟩ ⟨h1, h2, h3, h4⟩
  dsimp only at h1 h2 h3 h4
  simp only [iQ]
  refine OK.cond (fun hd => ?_) (fun hd => ?_)
  ·simp only [decide_eq_true_eq] at hd
   refine OK.idx h1 hd fun i hi hid => ?_
   refine OK.bind (sWrong_ok (hl i hi)) ?_
   rintro _ rfl
   refine OK.cond (fun he => ?_) (fun he => ?_)
   ·simp only [decide_eq_true_eq] at he
    have hb := take_bad (l := l) (k := k.toNat) (by omega) h3 (by rw [hid]; omega)
    refine OK.mk ?_
    show match badI 0 l with | some (c, t) => _ | none => _
    rw [hb, hid, show ((k.toNat : Nat) : Int) = k by omega]
   ·simp only [decide_eq_false_iff_not] at he
    have hw : wro i = 0 := by have := wro_nn i; omega
    have hn : badI 0 (l.take (k + 1).toNat) = none := by rw [take1G h1 hd hid, badI_snoc h3, if_pos hw]
    refine OK.idx h1 hd fun i2 hi2 hid2 => ?_
    obtain rfl : i2 = i := by rw [← hid, ← hid2]
    refine OK.bind (sInst_ok hw) ?_
    rintro _ rfl
    have hbl := encL_len (badI_none hn)
    have he2 : encL (l.take (k + 1).toNat) = b ++ encI i2 := by rw [take1G h1 hd hid, h4]; simp [encL]
    have hle : (l.take (k + 1).toNat).length ≤ 1000 := by rw [List.length_take]; omega
    rw [he2] at hbl
    refine OK.gd (apOk_of (by omega) (by omega)) ?_
    rw [w64 (n := k + 1) (by omega) (by omega)]
    exact OK.mk ⟨⟨by dsimp only; omega, by dsimp only; omega, hn, he2.symm⟩, by dsimp only; omega⟩
  ·simp only [decide_eq_false_iff_not] at hd
   rw [List.take_of_length_le (by omega)] at h3 h4
   refine OK.mk ?_
   show match badI 0 l with | some (c, t) => _ | none => _
   rw [h3, h4]
 ·intro x hx
  cases hb : badI 0 l with
  | some y =>
   obtain ⟨c, t⟩ := y
   rw [hb] at hx
   have hx : x = .inl (c, t) := hx
   subst hx
   exact OK.mk rfl
  | none =>
   rw [hb] at hx
   have hx : x = .inr (encL l) := hx
   subst hx
   simp only [Sum.elim_inr, iJ]
   have hbl := encL_len (badI_none hb)
   have hI : imgH l = [83, 116] ++ be2 ((encL l).length + 8) ++ be2 l.length ++ encL l := rfl
   have hIl : (imgH l).length = (encL l).length + 6 := by rw [hI]; simp [be2]
   rw [w64 (n := ((encL l).length : Int) + 8) (by omega) (by omega), num2' (by omega) (by omega), Option.bind_some]
   refine OK.gd (apOk_of (by simp [be2]) (by simp [be2])) ?_
   rw [num2' (by omega) (by omega), Option.bind_some]
   refine OK.gd (apOk_of (by simp [be2]) (by simp [be2])) ?_
   rw [← hI]
   refine OK.gd (apOk_of (by omega) (by omega)) ?_
   refine OK.bind (sSum_ok (imgH_by8 l) (by omega)) ?_
   rintro _ rfl
   have hs := sumL_bd (imgH_by8 l) (s := 65535) (by omega) (by omega)
   rw [w64 (by omega) (by omega), num2' (by omega) (by omega), Option.bind_some]
   refine OK.gd (apOk_of (by simp [be2]; omega) (by simp [be2]; omega)) (OK.mk rfl)
theorem iConcat {ls : List (List Int)} {n : Nat} (hn : ls.length ≤ 1000) (hL : ls.flatten.length = n) (h0 : 0 < n) (h1 : n ≤ 1000000) : cR ls = some ls.flatten := by
 have hpre : ∀ k, (ls.take k).flatten.length ≤ n := fun k => by
  rw [← hL]
  conv => rhs; rw [← List.take_append_drop k ls, List.flatten_append, List.length_append]
  omega
 have hsn : ∀ {k : Int}, 0 ≤ k → k < ls.length → ∀ {y}, ls.getD k.toNat default = y → (ls.take (k + 1).toNat).flatten = (ls.take k.toNat).flatten ++ y := by
  intro k k0 k1 y hy
  rw [take1G k0 k1 hy, List.flatten_append]; simp
 refine OK.eq ?_
 unfold cR
 refine OK.loop (Q := fun x => x = (n : Int)) (fun z : Int × Int => 0 ≤ z.2 ∧ z.2 ≤ ls.length ∧ z.1 = ((ls.take z.2.toNat).flatten.length : Int)) (fun z => (ls.length - z.2).toNat) ⟨Int.le_refl _, by dsimp only; omega, rfl⟩ ?_ ?_
 ·rintro ⟨s, k⟩ ⟨k0, k1, k2⟩
  dsimp only at k0 k1 k2
  subst k2
  simp only [slices_Concat_byte_byte_s9]
  refine OK.cond (fun hd => ?_) (fun hd => ?_)
  ·simp only [decide_eq_true_eq] at hd
   refine OK.idx k0 hd fun y _ hy => ?_
   have h2 := hpre (k + 1).toNat
   have e := hsn k0 hd hy
   rw [e, List.length_append] at h2
   rw [w64 (n := ((ls.take k.toNat).flatten.length : Int) + y.length) (by omega) (by omega), w64 (n := k + 1) (by omega) (by omega)]
   refine OK.cond (fun hc => by simp only [decide_eq_true_eq] at hc; omega) (fun _ => ?_)
   refine OK.mk ⟨⟨by dsimp only; omega, by dsimp only; omega, ?_⟩, by dsimp only; omega⟩
   dsimp only
   rw [e, List.length_append]; omega
  ·simp only [decide_eq_false_iff_not] at hd
   refine OK.mk (show _ = (n : Int) from ?_)
   rw [List.take_of_length_le (by omega), hL]
 ·rintro _ rfl
  simp only [dt]
  have hg : b8 n = some [] := by
   unfold b8
   have : cx n = some (List.replicate n 0, 0) := by
    refine OK.eq ?_
    unfold cx
    have e : IntKind.i64.wrap ((n : Int) - IntKind.i64.wrap (0 - 0)) = n := by
     rw [show IntKind.i64.wrap (0 - 0) = 0 from rfl, w64 (by omega) (by omega)]; omega
    rw [e]
    refine OK.cond (fun hc => by simp only [decide_eq_true_eq] at hc; omega) (fun _ => ?_)
    refine OK.cond (fun _ => ?_) (fun hc => by simp only [decide_eq_false_iff_not] at hc; omega)
    refine OK.cond (fun hc => by simp only [zq, beq_iff_eq] at hc; omega) (fun _ => ?_)
    refine OK.gd (by simp [zaOk]; omega) (OK.gd (by simp) ?_)
    simp only [cJ, e]
    exact OK.mk (by simp)
   rw [this]; simp
  rw [hg, Option.bind_some]
  refine OK.loop (Q := fun x => x = ls.flatten) (fun z : List Int × Int => 0 ≤ z.2 ∧ z.2 ≤ ls.length ∧ z.1 = (ls.take z.2.toNat).flatten) (fun z => (ls.length - z.2).toNat) ⟨Int.le_refl _, by dsimp only; omega, rfl⟩ ?_ ?_
  ·rintro ⟨b, k⟩ ⟨k0, k1, k2⟩
   dsimp only at k0 k1 k2
   subst k2
   simp only [dh]
   refine OK.cond (fun hd => ?_) (fun hd => ?_)
   ·simp only [decide_eq_true_eq] at hd
    refine OK.idx k0 hd fun y _ hy => ?_
    have h2 := hpre (k + 1).toNat
    have e := hsn k0 hd hy
    rw [e] at h2
    refine OK.gd (apOk_of (by omega) (by omega)) ?_
    rw [w64 (n := k + 1) (by omega) (by omega)]
    exact OK.mk ⟨⟨by dsimp only; omega, by dsimp only; omega, e.symm⟩, by dsimp only; omega⟩
   ·simp only [decide_eq_false_iff_not] at hd
    refine OK.mk (show _ = ls.flatten from ?_)
    rw [List.take_of_length_le (by omega)]
  ·rintro _ rfl
   simp only [dg]
   exact OK.mk rfl
theorem iCloneB {l : List Int} (h : l.length ≤ 1000000) : ik l = some l := by
 unfold ik eo e6
 have e1 : nilq l (fun v2 => cond v2 (some []) (gd (apOk l.length 1) (some l))) = some l := by
  refine nilq_eq ?_ ?_
  ·rw [apOk_of (by omega) (by omega)]; rfl
  ·rintro rfl; rfl
 have e2 : prtH l l.length = some l := by unfold prtH; simp
 rw [e1, Option.bind_some, e2]; rfl
theorem iMake_ok {l : List Inst} (hl : aX l) (hl2 : l.length ≤ 1000000) : m_PicMake l = some (mkP l) := by
 refine OK.eq ?_
 unfold m_PicMake mkP
 refine OK.cond (fun hc => ?_) (fun hc => ?_)
 ·simp only [decide_eq_true_eq] at hc
  rw [if_pos hc]; exact OK.mk rfl
 simp only [decide_eq_false_iff_not] at hc
 rw [if_neg hc]
 refine OK.loop (Q := fun x => match badI 0 l with | some (c, t) => x = .inl (c, t) | none => x = .inr (encL l)) (fun z : List Int × Int => 0 ≤ z.2 ∧ z.2 ≤ l.length ∧ badI 0 (l.take z.2.toNat) = none ∧ z.1 = encL (l.take z.2.toNat)) (fun z => (l.length - z.2).toNat) ⟨Int.le_refl _, by dsimp only; omega, rfl, rfl⟩ ?_ ?_
 ·rintro ⟨b, k⟩ ⟨h1, h2, h3, h4⟩
  dsimp only at h1 h2 h3 h4
  simp only [m_PicMake_s17]
  refine OK.cond (fun hd => ?_) (fun hd => ?_)
  ·simp only [decide_eq_true_eq] at hd
   refine OK.idx h1 hd fun i hi hid => ?_
   refine OK.bind (iInst_ok (hl i hi)) ?_
   rintro ⟨e, w⟩ ⟨q1, q2, q3⟩
   dsimp only at q1 q2 q3
   subst q1
   refine OK.cond (fun he => ?_) (fun he => ?_)
   ·simp only [bne_iff_ne, ne_eq] at he
    have hb := take_bad (l := l) (k := k.toNat) (by omega) h3 (by rw [hid]; exact he)
    refine OK.mk ?_
    show match badI 0 l with | some (c, t) => _ | none => _
    rw [hb, hid, show ((k.toNat : Nat) : Int) = k by omega]
   ·have hw : wro i = 0 := by simpa using he
    obtain rfl := q2 hw
    have hn : badI 0 (l.take (k + 1).toNat) = none := by rw [take1G h1 hd hid, badI_snoc h3, if_pos hw]
    have hbl := encL_len (badI_none hn)
    have he2 : encL (l.take (k + 1).toNat) = b ++ encI i := by rw [take1G h1 hd hid, h4]; simp [encL]
    have hle : (l.take (k + 1).toNat).length ≤ 1000 := by rw [List.length_take]; omega
    rw [he2] at hbl
    dsimp only
    refine OK.gd (apOk_of (by omega) (by omega)) ?_
    rw [w64 (n := k + 1) (by omega) (by omega)]
    exact OK.mk ⟨⟨by dsimp only; omega, by dsimp only; omega, hn, he2.symm⟩, by dsimp only; omega⟩
  ·simp only [decide_eq_false_iff_not] at hd
   rw [List.take_of_length_le (by omega)] at h3 h4
   refine OK.mk ?_
   show match badI 0 l with | some (c, t) => _ | none => _
   rw [h3, h4]
 ·intro x hx
  cases hb : badI 0 l with
  | some y =>
   obtain ⟨c, t⟩ := y
   rw [hb] at hx
   have hx : x = .inl (c, t) := hx
   subst hx
   exact OK.mk rfl
  | none =>
   rw [hb] at hx
   have hx : x = .inr (encL l) := hx
   subst hx
   simp only [Sum.elim_inr, m_PicMake_j13]
   have hbl := encL_len (badI_none hb)
   have hI : imgH l = [83, 116] ++ be2 ((encL l).length + 8) ++ be2 l.length ++ encL l := rfl
   have hIl : (imgH l).length = (encL l).length + 6 := by rw [hI]; simp [be2]
   rw [w64 (n := (((encL l).length : Nat) : Int) + 8) (by omega) (by omega), big2, Option.bind_some, big2, Option.bind_some]
   have hF : [[83, 116], be2 (((encL l).length : Nat) + 8), be2 l.length, encL l].flatten = imgH l := by rw [hI]; simp
   rw [iConcat (n := (imgH l).length) (by simp) (by rw [hF]) (by omega) (by omega), hF, Option.bind_some]
   refine OK.bind (iSum_ok (imgH_by8 l) (by omega)) ?_
   rintro _ rfl
   have hs := sumL_bd (imgH_by8 l) (s := 65535) (by omega) (by omega)
   rw [w64 (by omega) (by omega), big2, Option.bind_some]
   have hlen : (imgH l ++ be2 (sumL 65535 (imgH l))).length = (encL l).length + 8 := by simp [be2]; omega
   refine OK.gd (apOk_of (by omega) (by omega)) ?_
   rw [iCloneB (by omega)]
   exact OK.mk rfl
end Go.AM
end
section
/- Images: how both packages read them. Conditions: none. -/
namespace Go.AM
open Go
def joinL (ws : List Inst) (m : (Int × Int) ⊕ (List Inst × List Int)) : (Int × Int) ⊕ (List Inst × List Int) := match m with
 | .inl c => .inl c
 | .inr (bs, r) => .inr (ws ++ bs, r)
theorem rL_step {n : Nat} {t : Int} {l : List Int} (ws : List Inst) : joinL ws (rL (n + 1) t l) = match rI l with
  | .inl c => .inl (c, t)
  | .inr (i, r) => joinL (ws ++ [i]) (rL n (t + 1) r) := by
 simp only [rL]
 cases rI l with
 | inl c => rfl
 | inr x =>
  obtain ⟨a, r⟩ := x
  dsimp only
  cases rL n (t + 1) r with
  | inl c => rfl
  | inr y => obtain ⟨bs, r'⟩ := y; simp [joinL]
theorem joinL_nil (m : (Int × Int) ⊕ (List Inst × List Int)) : joinL [] m = m := by
 cases m with
 | inl c => rfl
 | inr y => rfl
def finP (m : Int) : (Int × Int) ⊕ (List Inst × List Int) → List Inst × PicFault
 | .inl (c, t) => ([], ⟨c, t⟩)
 | .inr (l, []) => (l, ⟨0, 0⟩)
 | .inr (_, _ :: _) => ([], ⟨7, m⟩)
def rF (a0 a1 a2 a3 a4 a5 : Int) (body : List Int) (x y : Int) : List Inst × PicFault :=
 if a0 ≠ 83 then ([], ⟨4, 0⟩) else if a1 ≠ 116 then ([], ⟨4, 0⟩) else if a2 * 256 + a3 ≠ (body.length : Int) + 8 then ([], ⟨4, 0⟩)
 else if x * 256 + y ≠ sumL 65535 ([a0, a1, a2, a3, a4, a5] ++ body) then ([], ⟨5, 0⟩)
 else if a4 * 256 + a5 > 1000 then ([], ⟨1, 0⟩) else finP (a4 * 256 + a5) (rL (a4 * 256 + a5).toNat 0 body)
theorem img_split {d : List Int} (h : 8 ≤ d.length) : ∃ a0 a1 a2 a3 a4 a5 body x y, d = [a0, a1, a2, a3, a4, a5] ++ body ++ [x, y] := by
 match d, h with
 | a0 :: a1 :: a2 :: a3 :: a4 :: a5 :: r, h =>
  have h2 : 2 ≤ r.length := by simpa using h
  refine ⟨a0, a1, a2, a3, a4, a5, r.take (r.length - 2), ?_⟩
  have h3 : ∃ x y, r.drop (r.length - 2) = [x, y] := by
   have : (r.drop (r.length - 2)).length = 2 := by rw [List.length_drop]; omega
   match r.drop (r.length - 2), this with
   | [x, y], _ => exact ⟨x, y, rfl⟩
  obtain ⟨x, y, h3⟩ := h3
  refine ⟨x, y, ?_⟩
  rw [← h3, List.append_assoc, List.take_append_drop]; rfl
theorem okArgs_of {l : List Inst} (h : ∀ i ∈ l, wro i = 0) : aX l := fun i hi => by
 obtain ⟨_, _, h3, h4⟩ := wro_zero (h i hi)
 have hab := ar_bd i.One_Op
 cases hh : isHas i.Code with
 | false => rw [(h3 hh).2]; simp
 | true => have := (h4 hh).2.1; omega
section
variable {a0 a1 a2 a3 a4 a5 x y : Int} {body : List Int}
theorem sTwo {a b : Int} (h : by8 [a, b]) : s_l17Two [a, b] = some (a * 256 + b) := by
 have ha := h.hd
 have hb := h.tl.hd
 refine OK.eq ?_
 unfold s_l17Two
 refine OK.idx (by omega) (by simp) fun p _ hp => ?_
 obtain rfl : a = p := hp
 refine OK.idx (by omega) (by simp) fun q _ hq => ?_
 obtain rfl : b = q := hq
 rw [w64 (n := a) (by omega) (by omega), w64 (n := b) (by omega) (by omega), w64 (n := a * 256) (by omega) (by omega), w64 (by omega) (by omega)]
 exact OK.mk rfl
def RelIL (m : (Int × Int) ⊕ (List Inst × List Int)) (z : (Int × Int) ⊕ (List Int × Int × List Inst)) : Prop := match m with
 | .inl (c, t) => z = .inl (c, t)
 | .inr (l, r) => z = .inr (r, 0, l)
theorem iList_rd {b : List Int} {m : Int} (hb : by8 b) (hm : 0 ≤ m) (hm2 : m ≤ 1000) : OK (loop (iN m) (b, 0, [], 0)) (RelIL (rL m.toNat 0 b)) := by
 refine (OK.loop (k := fun x => some x) (P := RelIL (rL m.toNat 0 b)) (Q := RelIL (rL m.toNat 0 b)) (fun z : List Int × Int × List Inst × Int => 0 ≤ z.2.2.2 ∧ z.2.2.2 ≤ m ∧ (z.2.2.1.length : Int) = z.2.2.2 ∧ z.2.1 = 0 ∧ by8 z.1 ∧ rL m.toNat 0 b = joinL z.2.2.1 (rL (m - z.2.2.2).toNat z.2.2.2 z.1)) (fun z => (m - z.2.2.2).toNat) ?_ ?_ (fun x hx => OK.mk hx)) |> fun h => by simpa using h
 ·exact ⟨Int.le_refl _, hm, rfl, rfl, hb, by simp only [Int.sub_zero]; rw [joinL_nil]⟩
 ·rintro ⟨b, c, ws, k⟩ ⟨h1, h2, h3, h4, hb, he⟩
  dsimp only at h1 h2 h3 h4 hb he
  subst h4
  simp only [iN]
  refine OK.cond (fun hc => ?_) (fun hc => ?_)
  ·simp only [decide_eq_true_eq] at hc
   refine OK.bind (iInst_rd hb) ?_
   rintro ⟨i, p⟩ hx
   rw [show (m - k).toNat = (m - (k + 1)).toNat + 1 by omega, rL_step] at he
   cases hr : rI b with
   | inl e =>
    rw [hr] at hx he
    have hx : p.code = e := hx
    have := rI_err hr
    refine OK.cond (fun _ => OK.mk ?_) (fun hc => by simp at hc; omega)
    show RelIL _ _
    rw [he]
    show _ = _
    rw [hx]
   | inr z =>
    obtain ⟨i', r⟩ := z
    rw [hr] at hx he
    have hx : (i, p) = (i', ⟨r, 0⟩) := hx
    cases hx
    have hr8 : by8 r := by
     obtain ⟨e1, _⟩ := rI_enc hb hr
     rw [e1] at hb; exact fun y hy => hb y (List.mem_append_right _ hy)
    refine OK.cond (fun hc => by simp at hc) (fun _ => ?_)
    refine OK.gd (apOk_of (by simp; omega) (by simp; omega)) ?_
    rw [w64 (n := k + 1) (by omega) (by omega)]
    exact OK.mk ⟨⟨by dsimp only; omega, by dsimp only; omega, by simp; omega, rfl, hr8, he⟩, by dsimp only; omega⟩
  ·simp only [decide_eq_false_iff_not] at hc
   have : k = m := by omega
   subst this
   rw [Int.sub_self] at he
   refine OK.mk ?_
   show RelIL _ _
   rw [he]
   show RelIL (joinL ws (.inr ([], b))) _
   simp [joinL, RelIL]
def RelSL (b : List Int) (m : (Int × Int) ⊕ (List Inst × List Int)) (z : (Int × Int) ⊕ (List Int × Int × List Inst)) : Prop := match m with
 | .inl (c, t) => z = .inl (c, t)
 | .inr (l, r) => ∃ q : l17In, SP b r q ∧ z = .inr (q.b, q.at_, l)
theorem sList_rd {b : List Int} {m : Int} (hb : by8 b) (hbl : b.length ≤ 1000000) (hm : 0 ≤ m) (hm2 : m ≤ 1000) : OK (loop (iR m) (b, 0, [], 0)) (RelSL b (rL m.toNat 0 b)) := by
 refine (OK.loop (k := fun x => some x) (P := RelSL b (rL m.toNat 0 b)) (Q := RelSL b (rL m.toNat 0 b)) (fun z : List Int × Int × List Inst × Int => 0 ≤ z.2.2.2 ∧ z.2.2.2 ≤ m ∧ (z.2.2.1.length : Int) = z.2.2.2 ∧ ∃ r, by8 r ∧ SP b r ⟨z.1, z.2.1⟩ ∧ rL m.toNat 0 b = joinL z.2.2.1 (rL (m - z.2.2.2).toNat z.2.2.2 r)) (fun z => (m - z.2.2.2).toNat) ?_ ?_ (fun x hx => OK.mk hx)) |> fun h => by simpa using h
 ·exact ⟨Int.le_refl _, hm, rfl, b, hb, ⟨rfl, Int.le_refl _, by dsimp only; omega, rfl, hbl⟩, by simp only [Int.sub_zero]; rw [joinL_nil]⟩
 ·rintro ⟨pb, pa, ws, k⟩ ⟨h1, h2, h3, r, hr8, hsp, he⟩
  dsimp only at h1 h2 h3 hsp he
  simp only [iR]
  refine OK.cond (fun hc => ?_) (fun hc => ?_)
  ·simp only [decide_eq_true_eq] at hc
   refine OK.bind (sInst_rd hr8 hsp) ?_
   rintro ⟨i, e, p⟩ hx
   rw [show (m - k).toNat = (m - (k + 1)).toNat + 1 by omega, rL_step] at he
   cases hr : rI r with
   | inl c =>
    rw [hr] at hx he
    have hx : e = c := hx
    have := rI_err hr
    refine OK.cond (fun _ => OK.mk ?_) (fun hc => by simp at hc; omega)
    show RelSL _ _ _
    rw [he]
    show _ = _
    rw [hx]
   | inr z =>
    obtain ⟨i', r'⟩ := z
    rw [hr] at hx he
    obtain ⟨rfl, rfl, hp⟩ : i = i' ∧ e = 0 ∧ SP b r' p := hx
    have hr8' : by8 r' := by
     obtain ⟨e1, _⟩ := rI_enc hr8 hr
     rw [e1] at hr8; exact fun y hy => hr8 y (List.mem_append_right _ hy)
    refine OK.cond (fun hc => by simp at hc) (fun _ => ?_)
    refine OK.gd (apOk_of (by simp; omega) (by simp; omega)) ?_
    rw [w64 (n := k + 1) (by omega) (by omega)]
    exact OK.mk ⟨⟨by dsimp only; omega, by dsimp only; omega, by simp; omega, r', hr8', hp, he⟩, by dsimp only; omega⟩
  ·simp only [decide_eq_false_iff_not] at hc
   have : k = m := by omega
   subst this
   rw [Int.sub_self] at he
   have he : rL k.toNat 0 b = .inr (ws, r) := by rw [he]; show joinL ws (.inr ([], r)) = _; simp [joinL]
   refine OK.mk ?_
   show RelSL _ _ _
   rw [he]
   exact ⟨⟨pb, pa⟩, hsp, rfl⟩
theorem rL_ok {n : Nat} {t : Int} {b r : List Int} {l : List Inst} (hb : by8 b) (h : rL n t b = .inr (l, r)) : aX l ∧ l.length = n := by
 obtain ⟨_, h2, h3⟩ := rL_enc hb h
 exact ⟨okArgs_of h3, h2⟩
theorem img_prt (n : Nat) (hn : ([a0, a1, a2, a3, a4, a5] ++ body ++ [x, y]).length = n) : (([a0, a1, a2, a3, a4, a5] ++ body ++ [x, y]).take (n - 2)).drop 6 = body ∧ ([a0, a1, a2, a3, a4, a5] ++ body ++ [x, y]).take (n - 2) = [a0, a1, a2, a3, a4, a5] ++ body ∧ ([a0, a1, a2, a3, a4, a5] ++ body ++ [x, y]).drop (n - 2) = [x, y] := by
 have e : n - 2 = ([a0, a1, a2, a3, a4, a5] ++ body).length := by
  rw [← hn]; simp
 rw [e, List.take_left' rfl, List.drop_left' rfl]
 exact ⟨rfl, rfl, rfl⟩
theorem by8_sub {l m : List Int} (h : by8 l) (hs : ∀ y ∈ m, y ∈ l) : by8 m := fun y hy => h y (hs y hy)
theorem iRead_ok (h8 : by8 ([a0, a1, a2, a3, a4, a5] ++ body ++ [x, y])) (hl : body.length ≤ 20000) : ig ([a0, a1, a2, a3, a4, a5] ++ body ++ [x, y]) = some (rF a0 a1 a2 a3 a4 a5 body x y) := by
 obtain ⟨p1, p2, p3⟩ := img_prt (a0 := a0) (a1 := a1) (a2 := a2) (a3 := a3) (a4 := a4) (a5 := a5) (body := body) (x := x) (y := y) _ rfl
 have hd : ([a0, a1, a2, a3, a4, a5] ++ body ++ [x, y]).length = body.length + 8 := by simp
 have q0 : ([a0, a1, a2, a3, a4, a5] ++ body ++ [x, y]).getD (0 : Int).toNat default = a0 := rfl
 have q1 : ([a0, a1, a2, a3, a4, a5] ++ body ++ [x, y]).getD (1 : Int).toNat default = a1 := rfl
 have q2 : (([a0, a1, a2, a3, a4, a5] ++ body ++ [x, y]).take (4 : Int).toNat).drop (2 : Int).toNat = [a2, a3] := rfl
 have q3 : (([a0, a1, a2, a3, a4, a5] ++ body ++ [x, y]).take (6 : Int).toNat).drop (4 : Int).toNat = [a4, a5] := rfl
 have hm : ∀ z, z ∈ [a0, a1, a2, a3, a4, a5] ++ body ++ [x, y] → 0 ≤ z ∧ z < 256 := fun z hz => h8 z hz
 have b4 := hm a4 (by simp)
 have b5 := hm a5 (by simp)
 have f1 : by8 [a2, a3] := by8_sub h8 (by intro z hz; simp at hz ⊢; rcases hz with rfl | rfl <;> simp)
 have f2 : by8 [a4, a5] := by8_sub h8 (by intro z hz; simp at hz ⊢; rcases hz with rfl | rfl <;> simp)
 have f3 : by8 [x, y] := by8_sub h8 (by intro z hz; exact List.mem_append_right _ hz)
 have f4 : by8 ([a0, a1, a2, a3, a4, a5] ++ body) := by8_sub h8 (by intro z hz; exact List.mem_append_left _ hz)
 have f5 : by8 body := by8_sub f4 (by intro z hz; exact List.mem_append_right _ hz)
 have w := w64 (n := ((([a0, a1, a2, a3, a4, a5] ++ body ++ [x, y]).length : Nat) : Int) - 2) (by omega) (by omega)
 have wn : (((([a0, a1, a2, a3, a4, a5] ++ body ++ [x, y]).length : Nat) : Int) - 2).toNat = ([a0, a1, a2, a3, a4, a5] ++ body ++ [x, y]).length - 2 := by omega
 generalize hD : [a0, a1, a2, a3, a4, a5] ++ body ++ [x, y] = D at *
 refine OK.eq ?_
 unfold ig
 rw [in_eq, Option.bind_some, w]
 refine OK.cond (fun _ => ?_) (fun hc => by simp only [decide_eq_false_iff_not] at hc; omega)
 refine OK.idx (by omega) (by omega) fun z _ hz => ?_
 rw [q0] at hz
 subst hz
 refine OK.cond (fun hc => ?_) (fun hc => ?_)
 ·simp only [bne_iff_ne, ne_eq] at hc
  rw [rF, if_pos hc]; exact OK.mk rfl
 simp only [bne_eq_false_iff_eq] at hc
 refine OK.idx (by omega) (by omega) fun z _ hz => ?_
 rw [q1] at hz
 subst hz
 refine OK.cond (fun hc1 => ?_) (fun hc1 => ?_)
 ·simp only [bne_iff_ne, ne_eq] at hc1
  rw [rF, if_neg (by simpa using hc), if_pos hc1]; exact OK.mk rfl
 simp only [bne_eq_false_iff_eq] at hc1
 refine OK.prt (by omega) (by omega) (by omega) ?_
 rw [q2, fb2 f1, Option.bind_some, hd]
 refine OK.cond (fun hc2 => ?_) (fun hc2 => ?_)
 ·simp only [bne_iff_ne, ne_eq] at hc2
  rw [rF, if_neg (by simpa using hc), if_neg (by simpa using hc1), if_pos (by omega)]; exact OK.mk rfl
 simp only [bne_eq_false_iff_eq] at hc2
 refine OK.prt (by omega) (by omega) (by omega) ?_
 rw [q3, fb2 f2, Option.bind_some]
 rw [hd] at wn p1 p2 p3
 refine OK.prtL (by omega) (by omega) (OK.prtH (by omega) (by omega) ?_)
 rw [wn, p2, p3, fb2 f3, Option.bind_some]
 refine OK.bind (iSum_ok f4 (by simp; omega)) ?_
 rintro _ rfl
 have hs := sumL_bd f4 (s := 65535) (by omega) (by omega)
 rw [w64 (by omega) (by omega)]
 refine OK.cond (fun hc3 => ?_) (fun hc3 => ?_)
 ·simp only [bne_iff_ne, ne_eq] at hc3
  rw [rF, if_neg (by simpa using hc), if_neg (by simpa using hc1), if_neg (by omega), if_pos hc3]; exact OK.mk rfl
 simp only [bne_eq_false_iff_eq] at hc3
 refine OK.cond (fun hc4 => ?_) (fun hc4 => ?_)
 ·simp only [decide_eq_true_eq] at hc4
  rw [rF, if_neg (by simpa using hc), if_neg (by simpa using hc1), if_neg (by omega), if_neg (by simpa using hc3), if_pos hc4]; exact OK.mk rfl
 simp only [decide_eq_false_iff_not] at hc4
 rw [rF, if_neg (by simpa using hc), if_neg (by simpa using hc1), if_neg (by omega), if_neg (by simpa using hc3), if_neg hc4]
 refine OK.prt (by omega) (by omega) (by omega) ?_
 rw [wn, show (6 : Int).toNat = 6 from rfl, p1]
 refine OK.bind (iList_rd f5 (by omega) (by omega)) ?_
 intro z hz
 cases hr : rL (a4 * 256 + a5).toNat 0 body with
 | inl e =>
  obtain ⟨c, t⟩ := e
  rw [hr] at hz
  have hz : z = .inl (c, t) := hz
  subst hz
  exact OK.mk rfl
 | inr e =>
  obtain ⟨l, r⟩ := e
  rw [hr] at hz
  have hz : z = .inr (r, 0, l) := hz
  subst hz
  simp only [Sum.elim_inr, m_PicRead_j34]
  cases r with
  | nil =>
   have hk := rL_ok f5 hr
   refine OK.cond (fun hc => by simp at hc) (fun _ => ?_)
   rw [iCopyList l hk.1 (by omega)]
   exact OK.mk rfl
  | cons u r => exact OK.cond (fun _ => OK.mk rfl) (fun hc => by simp at hc)
theorem sRead_ok (h8 : by8 ([a0, a1, a2, a3, a4, a5] ++ body ++ [x, y])) (hl : body.length ≤ 20000) : iw ([a0, a1, a2, a3, a4, a5] ++ body ++ [x, y]) = some (rF a0 a1 a2 a3 a4 a5 body x y) := by
 obtain ⟨p1, p2, p3⟩ := img_prt (a0 := a0) (a1 := a1) (a2 := a2) (a3 := a3) (a4 := a4) (a5 := a5) (body := body) (x := x) (y := y) _ rfl
 have hd : ([a0, a1, a2, a3, a4, a5] ++ body ++ [x, y]).length = body.length + 8 := by simp
 have q0 : ([a0, a1, a2, a3, a4, a5] ++ body ++ [x, y]).getD (0 : Int).toNat default = a0 := rfl
 have q1 : ([a0, a1, a2, a3, a4, a5] ++ body ++ [x, y]).getD (1 : Int).toNat default = a1 := rfl
 have q2 : (([a0, a1, a2, a3, a4, a5] ++ body ++ [x, y]).take (4 : Int).toNat).drop (2 : Int).toNat = [a2, a3] := rfl
 have q3 : (([a0, a1, a2, a3, a4, a5] ++ body ++ [x, y]).take (6 : Int).toNat).drop (4 : Int).toNat = [a4, a5] := rfl
 have hm : ∀ z, z ∈ [a0, a1, a2, a3, a4, a5] ++ body ++ [x, y] → 0 ≤ z ∧ z < 256 := fun z hz => h8 z hz
 have b4 := hm a4 (by simp)
 have b5 := hm a5 (by simp)
 have f1 : by8 [a2, a3] := by8_sub h8 (by intro z hz; simp at hz ⊢; rcases hz with rfl | rfl <;> simp)
 have f2 : by8 [a4, a5] := by8_sub h8 (by intro z hz; simp at hz ⊢; rcases hz with rfl | rfl <;> simp)
 have f3 : by8 [x, y] := by8_sub h8 (by intro z hz; exact List.mem_append_right _ hz)
 have f4 : by8 ([a0, a1, a2, a3, a4, a5] ++ body) := by8_sub h8 (by intro z hz; exact List.mem_append_left _ hz)
 have f5 : by8 body := by8_sub f4 (by intro z hz; exact List.mem_append_right _ hz)
 have w := w64 (n := ((([a0, a1, a2, a3, a4, a5] ++ body ++ [x, y]).length : Nat) : Int) - 2) (by omega) (by omega)
 have wn : (((([a0, a1, a2, a3, a4, a5] ++ body ++ [x, y]).length : Nat) : Int) - 2).toNat = ([a0, a1, a2, a3, a4, a5] ++ body ++ [x, y]).length - 2 := by omega
 generalize hD : [a0, a1, a2, a3, a4, a5] ++ body ++ [x, y] = D at *
 refine OK.eq ?_
 unfold iw
 rw [w]
 refine OK.cond (fun hc => by simp only [decide_eq_true_eq] at hc; omega) (fun _ => ?_)
 refine OK.cond (fun hc => by simp only [decide_eq_true_eq] at hc; omega) (fun _ => ?_)
 refine OK.idx (by omega) (by omega) fun z _ hz => ?_
 rw [q0] at hz
 subst hz
 refine OK.cond (fun hc => ?_) (fun hc => ?_)
 ·simp only [bne_iff_ne, ne_eq] at hc
  rw [rF, if_pos hc]; exact OK.mk rfl
 simp only [bne_eq_false_iff_eq] at hc
 refine OK.idx (by omega) (by omega) fun z _ hz => ?_
 rw [q1] at hz
 subst hz
 refine OK.cond (fun hc1 => ?_) (fun hc1 => ?_)
 ·simp only [bne_iff_ne, ne_eq] at hc1
  rw [rF, if_neg (by simpa using hc), if_pos hc1]; exact OK.mk rfl
 simp only [bne_eq_false_iff_eq] at hc1
 refine OK.prt (by omega) (by omega) (by omega) ?_
 rw [q2, sTwo f1, Option.bind_some, hd]
 refine OK.cond (fun hc2 => ?_) (fun hc2 => ?_)
 ·simp only [bne_iff_ne, ne_eq] at hc2
  rw [rF, if_neg (by simpa using hc), if_neg (by simpa using hc1), if_pos (by omega)]; exact OK.mk rfl
 simp only [bne_eq_false_iff_eq] at hc2
 rw [hd] at wn p1 p2 p3
 refine OK.prtL (by omega) (by omega) (OK.prtH (by omega) (by omega) ?_)
 rw [wn, p2, p3, sTwo f3, Option.bind_some]
 refine OK.bind (sSum_ok f4 (by simp; omega)) ?_
 rintro _ rfl
 have hs := sumL_bd f4 (s := 65535) (by omega) (by omega)
 rw [w64 (by omega) (by omega)]
 refine OK.cond (fun hc3 => ?_) (fun hc3 => ?_)
 ·simp only [bne_iff_ne, ne_eq] at hc3
  rw [rF, if_neg (by simpa using hc), if_neg (by simpa using hc1), if_neg (by omega), if_pos hc3]; exact OK.mk rfl
 simp only [bne_eq_false_iff_eq] at hc3
 refine OK.prt (by omega) (by omega) (by omega) ?_
 rw [q3, sTwo f2, Option.bind_some]
 refine OK.cond (fun hc4 => ?_) (fun hc4 => ?_)
 ·simp only [decide_eq_true_eq] at hc4
  rw [rF, if_neg (by simpa using hc), if_neg (by simpa using hc1), if_neg (by omega), if_neg (by simpa using hc3), if_pos hc4]; exact OK.mk rfl
 simp only [decide_eq_false_iff_not] at hc4
 rw [rF, if_neg (by simpa using hc), if_neg (by simpa using hc1), if_neg (by omega), if_neg (by simpa using hc3), if_neg hc4]
 refine OK.prt (by omega) (by omega) (by omega) ?_
 rw [wn, show (6 : Int).toNat = 6 from rfl, p1]
 refine OK.bind (sList_rd f5 (by omega) (by omega) (by omega)) ?_
 intro z hz
 cases hr : rL (a4 * 256 + a5).toNat 0 body with
 | inl e =>
  obtain ⟨c, t⟩ := e
  rw [hr] at hz
  have hz : z = .inl (c, t) := hz
  subst hz
  exact OK.mk rfl
 | inr e =>
  obtain ⟨l, r⟩ := e
  rw [hr] at hz
  obtain ⟨q, hq, rfl⟩ := hz
  have hlen := hq.len
  obtain ⟨h1, h2, h3, h4, h5⟩ := hq
  simp only [Sum.elim_inr, s_PicRead_j35]
  rw [h1]
  cases r with
  | nil => exact OK.cond (fun hc => by simp at hc hlen; omega) (fun _ => OK.mk rfl)
  | cons u r => exact OK.cond (fun _ => OK.mk rfl) (fun hc => by simp at hc hlen; omega)
end
theorem iRead_bad {d : List Int} (h : d.length < 8 ∨ d.length > 20008) : ig d = some ([], ⟨4, 0⟩) := by
 refine OK.eq ?_
 unfold ig
 rw [in_eq, Option.bind_some]
 refine OK.cond (fun hc => by simp only [decide_eq_true_eq] at hc; omega) (fun _ => OK.mk rfl)
theorem sRead_bad {d : List Int} (h : d.length < 8 ∨ d.length > 20008) : iw d = some ([], ⟨4, 0⟩) := by
 refine OK.eq ?_
 unfold iw
 refine OK.cond (fun _ => OK.mk rfl) (fun hc => ?_)
 refine OK.cond (fun _ => OK.mk rfl) (fun hc2 => ?_)
 simp only [decide_eq_false_iff_not] at hc hc2; omega
end Go.AM
end
section
/- Images that are drawn, spoilt ones too. Conditions: none. -/
namespace Go.AM
open Go
theorem img_len (l : List Inst) : (img l).length = (encL l).length + 8 := by
 unfold img imgH; simp [be2]
theorem img_by8 (l : List Inst) : by8 (img l) := (imgH_by8 l).app (be2_by8 _)
theorem by8.take {l : List Int} (h : by8 l) (n : Nat) : by8 (l.take n) := fun y hy => h y (List.mem_of_mem_take hy)
theorem by8.drop {l : List Int} (h : by8 l) (n : Nat) : by8 (l.drop n) := fun y hy => h y (List.mem_of_mem_drop hy)
def okN (A L : Nat) (l : List Inst) : Prop := l.length ≤ L ∧ ∀ i ∈ l, i.One_Args.length ≤ A
theorem okN.set {A L : Nat} {l : List Inst} (h : okN A L l) (n : Nat) {i : Inst} (hi : i.One_Args.length ≤ A) : okN A L (l.set n i) := ⟨by have := h.1; simp; omega, fun j hj => by
 rcases List.mem_or_eq_of_mem_set hj with q | rfl
 ·exact h.2 j q
 ·exact hi⟩
theorem okN.one {A : Nat} {i : Inst} (hi : i.One_Args.length ≤ A) : okN A 1 [i] := ⟨by simp, fun j hj => by simp at hj; subst hj; exact hi⟩
theorem okN.app {A L M : Nat} {l m : List Inst} (h : okN A L l) (k : okN A M m) : okN A (L + M) (l ++ m) := ⟨by have := h.1; have := k.1; simp; omega, fun j hj => by
 rcases List.mem_append.1 hj with q | q
 ·exact h.2 j q
 ·exact k.2 j q⟩
theorem okN.take {A L : Nat} {l : List Inst} (h : okN A L l) (n : Nat) : okN A L (l.take n) := ⟨by have := h.1; simp; omega, fun j hj => h.2 j (List.mem_of_mem_take hj)⟩
theorem okN.drop {A L : Nat} {l : List Inst} (h : okN A L l) (n : Nat) : okN A L (l.drop n) := ⟨by have := h.1; simp; omega, fun j hj => h.2 j (List.mem_of_mem_drop hj)⟩
theorem okN.ap {A L : Nat} {l : List Inst} (h : okN A L l) (hL : L ≤ 1000000) : apOk l.length 40 = true := by
 have := h.1
 exact apOk_of (by omega) (by omega)
end Go.AM
end
section
/- What is read of an image. Conditions: none. -/
namespace Go.AM
open Go
theorem be2_of {a b v : Int} (ha : 0 ≤ a ∧ a < 256) (hb : 0 ≤ b ∧ b < 256) (h : a * 256 + b = v) : be2 v = [a, b] := by
 unfold be2; subst h
 rw [show (a * 256 + b) / 256 % 256 = a by omega, show (a * 256 + b) % 256 = b by omega]
theorem rL_err : ∀ {n : Nat} {t : Int} {b : List Int} {e : Int × Int}, rL n t b = .inl e → 0 < e.1
 | 0, _, _, _, h => by cases h
 | n + 1, t, b, e, h => by
  simp only [rL] at h
  split at h
  ·rename_i h1; cases h; exact (rI_err h1).1
  ·split at h
   ·rename_i h2; cases h; exact rL_err h2
   ·cases h
theorem finP_nn {m : Int} {n : Nat} {t : Int} {b : List Int} : 0 ≤ (finP m (rL n t b)).2.Code := by
 cases h : rL n t b with
 | inl e => obtain ⟨c, u⟩ := e; exact Int.le_of_lt (rL_err h)
 | inr e =>
  obtain ⟨l, r⟩ := e
  cases r with
  | nil => exact Int.le_refl _
  | cons _ _ => show (0 : Int) ≤ 7; omega
theorem rF_nn {a0 a1 a2 a3 a4 a5 x y : Int} {body : List Int} : 0 ≤ (rF a0 a1 a2 a3 a4 a5 body x y).2.Code := by
 unfold rF
 repeat' split
 all_goals first | exact finP_nn | (show (0 : Int) ≤ _; simp)
theorem finP_bad {m : Int} {z : (Int × Int) ⊕ (List Inst × List Int)} (h : (finP m z).2.Code ≠ 0) : (finP m z).1 = [] := by
 unfold finP at h ⊢
 split
 ·rfl
 ·exact absurd rfl h
 ·rfl
theorem rF_bad {a0 a1 a2 a3 a4 a5 x y : Int} {body : List Int} (h : (rF a0 a1 a2 a3 a4 a5 body x y).2.Code ≠ 0) : (rF a0 a1 a2 a3 a4 a5 body x y).1 = [] := by
 unfold rF at h ⊢
 repeat' split
 all_goals first | rfl | skip
 simp only [*, not_true_eq_false, if_false] at h
 exact finP_bad h
theorem rF_good {a0 a1 a2 a3 a4 a5 x y : Int} {body : List Int} (h8 : by8 ([a0, a1, a2, a3, a4, a5] ++ body ++ [x, y])) (hc : (rF a0 a1 a2 a3 a4 a5 body x y).2.Code = 0) :
  (∀ i ∈ (rF a0 a1 a2 a3 a4 a5 body x y).1, wro i = 0) ∧ (rF a0 a1 a2 a3 a4 a5 body x y).1.length ≤ 1000 ∧ img (rF a0 a1 a2 a3 a4 a5 body x y).1 = [a0, a1, a2, a3, a4, a5] ++ body ++ [x, y] := by
 have hm : ∀ z, z ∈ [a0, a1, a2, a3, a4, a5] ++ body ++ [x, y] → 0 ≤ z ∧ z < 256 := fun z hz => h8 z hz
 have b2 := hm a2 (by simp)
 have b3 := hm a3 (by simp)
 have b4 := hm a4 (by simp)
 have b5 := hm a5 (by simp)
 have bx := hm x (by simp)
 have hyb := hm y (by simp)
 have f5 : by8 body := fun z hz => hm z (by simp [hz])
 revert hc
 unfold rF
 split
 ·intro hc; cases hc
 split
 ·intro hc; cases hc
 split
 ·intro hc; cases hc
 split
 ·intro hc; cases hc
 split
 ·intro hc; cases hc
 rename_i g0 g1 g2 g3 g4
 intro hc
 cases hr : rL (a4 * 256 + a5).toNat 0 body with
 | inl e =>
  obtain ⟨c, t⟩ := e
  exfalso
  rw [hr] at hc
  have hc : c = 0 := hc
  have := rL_err hr
  dsimp only at this; omega
 | inr e =>
  obtain ⟨l, r⟩ := e
  rw [hr] at hc
  cases r with
  | cons u r => cases hc
  | nil =>
   obtain ⟨e1, e2, e3⟩ := rL_enc f5 hr
   show (∀ i ∈ l, wro i = 0) ∧ l.length ≤ 1000 ∧ img l = _
   have hb : encL l = body := by rw [e1]; simp [encL]
   have g0 : a0 = 83 := by simpa using g0
   have g1 : a1 = 116 := by simpa using g1
   have g2 : a2 * 256 + a3 = body.length + 8 := by simpa using g2
   have g3 : x * 256 + y = sumL 65535 ([a0, a1, a2, a3, a4, a5] ++ body) := by simpa using g3
   refine ⟨e3, by omega, ?_⟩
   have hH : imgH l = [a0, a1, a2, a3, a4, a5] ++ body := by
    unfold imgH
    rw [hb, be2_of b2 b3 (by omega), be2_of b4 b5 (v := (l.length : Int)) (by omega), g0, g1]; rfl
   unfold img
   rw [hH, be2_of bx hyb g3]
theorem rF_img {l : List Inst} (hl : l.length ≤ 1000) (hw : ∀ i ∈ l, wro i = 0) (h : ∃ a0 a1 a2 a3 a4 a5 body x y, img l = [a0, a1, a2, a3, a4, a5] ++ body ++ [x, y] ∧ body.length ≤ 20000 ∧ rF a0 a1 a2 a3 a4 a5 body x y = (l, ⟨0, 0⟩)) : ig (img l) = some (l, ⟨0, 0⟩) := by
 obtain ⟨a0, a1, a2, a3, a4, a5, body, x, y, h1, h2, h3⟩ := h
 have h8 := img_by8 l
 rw [h1] at h8 ⊢
 rw [iRead_ok h8 h2, h3]
theorem img_parts {l : List Inst} (hl : l.length ≤ 1000) (hw : ∀ i ∈ l, wro i = 0) : ∃ a0 a1 a2 a3 a4 a5 body x y, img l = [a0, a1, a2, a3, a4, a5] ++ body ++ [x, y] ∧ body.length ≤ 20000 ∧ rF a0 a1 a2 a3 a4 a5 body x y = (l, ⟨0, 0⟩) := by
 have hb := encL_len hw
 have hs := sumL_bd (imgH_by8 l) (s := 65535) (by omega) (by omega)
 refine ⟨83, 116, ((encL l).length + 8 : Int) / 256 % 256, ((encL l).length + 8 : Int) % 256, (l.length : Int) / 256 % 256, (l.length : Int) % 256, encL l, sumL 65535 (imgH l) / 256 % 256, sumL 65535 (imgH l) % 256, rfl, by omega, ?_⟩
 unfold rF
 rw [if_neg (by simp), if_neg (by simp), if_neg (by omega), if_neg ?_, if_neg (by omega)]
 ·rw [show ((l.length : Int) / 256 % 256 * 256 + (l.length : Int) % 256) = l.length by omega, Int.toNat_natCast]
  have := rL_dec 0 [] hw
  rw [List.append_nil] at this
  show finP _ (rL l.length 0 (encL l)) = _
  rw [show encL l = l.flatMap encI from rfl, this]; rfl
 ·simp only [ne_eq, Decidable.not_not]
  have : [83, 116, ((encL l).length + 8 : Int) / 256 % 256, ((encL l).length + 8 : Int) % 256, (l.length : Int) / 256 % 256, (l.length : Int) % 256] ++ encL l = imgH l := rfl
  rw [this]; omega
theorem mkP_read {l : List Inst} (h : (mkP l).2.Code = 0) : l.length ≤ 1000 ∧ (∀ i ∈ l, wro i = 0) ∧ mkP l = (img l, ⟨0, 0⟩) := by
 unfold mkP at h ⊢
 split at h
 ·cases h
 ·rename_i h1
  rw [if_neg h1]
  split at h
  ·rename_i c t hb
   exact absurd h (badI_some hb).1
  ·rename_i hb
   exact ⟨by omega, badI_none hb, rfl⟩
theorem mkP_bad {l : List Inst} (h : (mkP l).2.Code ≠ 0) : (mkP l).1 = [] ∧ 0 ≤ (mkP l).2.At ∧ (mkP l).2.At < l.length := by
 unfold mkP at h ⊢
 split
 ·exact ⟨rfl, Int.le_refl _, by dsimp only; omega⟩
 ·rename_i h1
  rw [if_neg h1] at h
  cases hb : badI 0 l with
  | some y =>
   obtain ⟨c, t⟩ := y
   have := badI_some hb
   exact ⟨rfl, by dsimp only; omega, by dsimp only; omega⟩
  | none => rw [hb] at h; exact absurd rfl h
theorem mkP_good {l : List Inst} (h1 : l.length ≤ 1000) (h2 : ∀ i ∈ l, wro i = 0) : mkP l = (img l, ⟨0, 0⟩) := by
 unfold mkP
 rw [if_neg (by omega), badI_of 0 h2]
end Go.AM
end
section
/- Ladders: sizes, what is wrong with them; loops through lists. Conditions: none. -/
namespace Go.AM
open Go
theorem for_ok {α β ρ : Type} {l : List β} {f : α × Int → Option ((α × Int) ⊕ ρ)} {Q : ρ → Prop} (I : Nat → α → Prop) (s : Nat) (a0 : α) (hs : s ≤ l.length) (h0 : I s a0)
  (h : ∀ k a, k < l.length → I k a → OK (f (a, (k : Int))) (Sum.elim (fun p => p.2 = (k : Int) + 1 ∧ I (k + 1) p.1) Q)) (he : ∀ a, I l.length a → OK (f (a, (l.length : Int))) (Sum.elim (fun _ => False) Q)) : OK (loop f (a0, (s : Int))) Q := by
 refine loop_inv (fun p => ∃ k : Nat, p.2 = (k : Int) ∧ k ≤ l.length ∧ I k p.1) (fun p => ((l.length : Int) - p.2).toNat) Q (fun p hp => ?_) _ ⟨s, rfl, hs, h0⟩
 obtain ⟨a, i⟩ := p
 obtain ⟨k, rfl, hk, hI⟩ := hp
 by_cases hk2 : k < l.length
 ·obtain ⟨x, e, hx⟩ := h k a hk2 hI
  cases x with
  | inl p => exact .inl ⟨p, e, ⟨k + 1, by rw [hx.1]; omega, by omega, hx.2⟩, by simp only; rw [hx.1]; omega⟩
  | inr b => exact .inr ⟨b, e, hx⟩
 ·obtain rfl : k = l.length := by omega
  obtain ⟨x, e, hx⟩ := he a hI
  cases x with
  | inl p => exact hx.elim
  | inr b => exact .inr ⟨b, e, hx⟩
theorem srch_ok {β ρ : Type} {l : List β} {f : Int → Option (Int ⊕ ρ)} {Q : ρ → Prop} (I : Nat → Prop) (h0 : I 0)
  (h : ∀ k : Nat, k < l.length → I k → OK (f (k : Int)) (Sum.elim (fun p => p = (k : Int) + 1 ∧ I (k + 1)) Q)) (he : I l.length → OK (f (l.length : Int)) (Sum.elim (fun _ => False) Q)) : OK (loop f 0) Q := by
 refine loop_inv (fun p => ∃ k : Nat, p = (k : Int) ∧ k ≤ l.length ∧ I k) (fun p => ((l.length : Int) - p).toNat) Q (fun p hp => ?_) _ ⟨0, rfl, Nat.zero_le _, h0⟩
 obtain ⟨k, rfl, hk, hI⟩ := hp
 by_cases hk2 : k < l.length
 ·obtain ⟨x, e, hx⟩ := h k hk2 hI
  cases x with
  | inl p => exact .inl ⟨p, e, ⟨k + 1, by rw [hx.1]; omega, by omega, hx.2⟩, by rw [hx.1]; omega⟩
  | inr b => exact .inr ⟨b, e, hx⟩
 ·obtain rfl : k = l.length := by omega
  obtain ⟨x, e, hx⟩ := he hI
  cases x with
  | inl p => exact hx.elim
  | inr b => exact .inr ⟨b, e, hx⟩
theorem idxN {α : Type} [Inhabited α] {l : List α} {k : Nat} (h : k < l.length) : idx l (k : Int) = some (l.getD k default) := by
 rw [idx_eq (by omega) (by omega)]; rfl
theorem w1 {k n : Nat} (h : k < n) (hn : n ≤ 1000000000) : IntKind.i64.wrap ((k : Int) + 1) = (k : Int) + 1 := w64 (by omega) (by omega)
theorem takeS {α : Type} [Inhabited α] {l : List α} {k : Nat} (h : k < l.length) : l.take (k + 1) = l.take k ++ [l.getD k default] := by
 rw [List.take_succ_eq_append_getElem h]; simp [List.getD, h]
mutual
def nsz : Net → Nat
 | ⟨_, _, _, ks⟩ => 1 + nszL ks
def nszL : List Net → Nat
 | [] => 0
 | k :: r => nsz k + nszL r
end
theorem eT (n : Net) : nsz n = 1 + nszL n.Kids := by cases n; rw [nsz]
theorem cF : nszL [] = 0 := by rw [nszL]
theorem fL (k : Net) (r : List Net) : nszL (k :: r) = nsz k + nszL r := by rw [nszL]
theorem nszL_app (a b : List Net) : nszL (a ++ b) = nszL a + nszL b := by
 induction a with
 | nil => simp [cF]
 | cons k r ih => simp [fL, ih]; omega
theorem nsz_pos (n : Net) : 1 ≤ nsz n := by rw [eT]; omega
theorem nszL_len (l : List Net) : l.length ≤ nszL l := by
 induction l with
 | nil => simp
 | cons k r ih => rw [fL]; have := nsz_pos k; simp; omega
theorem nszL_mem {l : List Net} {n : Net} (h : n ∈ l) : nsz n ≤ nszL l := by
 induction l with
 | nil => cases h
 | cons k r ih => rw [fL]; rcases List.mem_cons.1 h with rfl | h; (omega); (have := ih h; omega)
theorem nszL_at {l : List Net} {k : Nat} (h : k < l.length) : nsz (l.getD k default) ≤ nszL l := nszL_mem (bA h)
theorem nszL_take {l : List Net} {k : Nat} (h : k < l.length) : nszL (l.take (k + 1)) = nszL (l.take k) + nsz (l.getD k default) := by
 rw [takeS h, nszL_app, fL, cF]; omega
theorem nszL_le (l : List Net) (k : Nat) : nszL (l.take k) ≤ nszL l := by
 have := nszL_app (l.take k) (l.drop k)
 rw [List.take_append_drop] at this; omega
theorem sNetSize (n : Net) (h : nsz n ≤ 1000000000) : s_l7NetSize n = some (nsz n : Int) := by
 have key : ∀ f : Nat, ∀ n : Net, nsz n ≤ f → nsz n ≤ 1000000000 → OK (cL f n) (fun x => x = (nsz n : Int)) := by
  intro f
  induction f with
  | zero => intro n h; have := nsz_pos n; omega
  | succ f ih =>
   intro n hf hb
   have e := eT n
   have hl := nszL_len n.Kids
   show OK (dG (cL f) n) _
   unfold dG
   refine OK.bind (Q := fun x => x = (nsz n : Int)) ?_ (fun x hx => ⟨x, rfl, hx⟩)
   refine for_ok (l := n.Kids) (fun k a => a = ((1 + nszL (n.Kids.take k) : Nat) : Int)) 0 1 (Nat.zero_le _) (by simp [cF]) (fun k a hk ha => ?_) (fun a ha => ?_)
   ·simp only [dZ, idxN hk, Option.bind_some]
    have hd : decide ((k : Int) < (n.Kids.length : Int)) = true := by simp; omega
    rw [hd, cond_true]
    have hk2 := nszL_at hk
    have hk3 := nszL_take hk
    have hk4 := nszL_le n.Kids (k + 1)
    refine OK.bind (ih (n.Kids.getD k default) (by omega) (by omega)) fun x hx => ?_
    subst hx ha
    refine ⟨_, rfl, ?_⟩
    simp only [Sum.elim_inl]
    refine ⟨w1 hk (by omega), ?_⟩
    rw [w64 (by omega) (by omega), hk3]; omega
   ·simp only [dZ]
    have hd : decide ((n.Kids.length : Int) < (n.Kids.length : Int)) = false := by simp
    rw [hd, cond_false]
    refine ⟨_, rfl, ?_⟩
    simp only [Sum.elim_inr]
    rw [ha, List.take_length, e]
 exact s_l7NetSize_up n (key _ n (Nat.le_refl _) h).eq
end Go.AM
end
section
/- Ladders: what the document finds wrong with them. Conditions: none. -/
namespace Go.AM
open Go
theorem dltT {k n : Nat} (h : k < n) : decide ((k : Int) < (n : Int)) = true := by simp; omega
theorem dltF (n : Nat) : decide ((n : Int) < (n : Int)) = false := by simp
def noneB (n : Net) : Bool := (((n.Kind == 0) && (n.One_Op == 0)) && ((n.One_Args.length : Int) == 0)) && ((n.Kids.length : Int) == 0)
theorem sNone (n : Net) : gG n = some (noneB n) := rfl
theorem noneB_iff (n : Net) : noneB n = true ↔ n = ⟨0, 0, [], []⟩ := by
 obtain ⟨k, o, a, ks⟩ := n
 simp [noneB, and_assoc]
def aY (a : Arm) : Net := ⟨a.Net_Kind, a.Net_One_Op, a.Net_One_Args, a.Net_Kids⟩
mutual
def asz : Arm → Nat
 | ⟨k, o, a, ks, cs, ms⟩ => 1 + cs.length + (if noneB ⟨k, o, a, ks⟩ = true then 0 else nsz ⟨k, o, a, ks⟩) + aszL ms
def aszL : List Arm → Nat
 | [] => 0
 | k :: r => asz k + aszL r
end
theorem asz_eq (a : Arm) : asz a = 1 + a.Coils.length + (if noneB (aY a) = true then 0 else nsz (aY a)) + aszL a.Kids := by cases a; rw [asz]; rfl
theorem b7 : aszL [] = 0 := by rw [aszL]
theorem eP (k : Arm) (r : List Arm) : aszL (k :: r) = asz k + aszL r := by rw [aszL]
theorem aszL_app (a b : List Arm) : aszL (a ++ b) = aszL a + aszL b := by
 induction a with
 | nil => simp [b7]
 | cons k r ih => simp [eP, ih]; omega
theorem asz_pos (n : Arm) : 1 ≤ asz n := by rw [asz_eq]; omega
theorem fT (l : List Arm) : l.length ≤ aszL l := by
 induction l with
 | nil => simp
 | cons k r ih => rw [eP]; have := asz_pos k; simp; omega
theorem aszL_mem {l : List Arm} {n : Arm} (h : n ∈ l) : asz n ≤ aszL l := by
 induction l with
 | nil => cases h
 | cons k r ih =>
  rw [eP]
  rcases List.mem_cons.1 h with rfl | h
  ·omega
  ·have := ih h; omega
theorem aszL_at {l : List Arm} {k : Nat} (h : k < l.length) : asz (l.getD k default) ≤ aszL l := aszL_mem (bA h)
theorem aszL_take {l : List Arm} {k : Nat} (h : k < l.length) : aszL (l.take (k + 1)) = aszL (l.take k) + asz (l.getD k default) := by
 rw [takeS h, aszL_app, eP, b7]; omega
theorem aszL_le (l : List Arm) (k : Nat) : aszL (l.take k) ≤ aszL l := by
 have := aszL_app (l.take k) (l.drop k)
 rw [List.take_append_drop] at this; omega
theorem sArmSize (n : Arm) (h : asz n ≤ 1000000000) : s_l7ArmSize n = some (asz n : Int) := by
 have key : ∀ f : Nat, ∀ n : Arm, asz n ≤ f → asz n ≤ 1000000000 → OK (cq f n) (fun x => x = (asz n : Int)) := by
  intro f
  induction f with
  | zero => intro n h; have := asz_pos n; omega
  | succ f ih =>
   intro n hf hb
   have e := asz_eq n
   have hl := fT n.Kids
   show OK (dH (cq f) n) _
   have j5 : ∀ c : Nat, asz n = c + aszL n.Kids → OK (dA n (cq f) (c : Int)) (fun x => x = (asz n : Int)) := by
    intro c hc
    simp only [dA]
    refine OK.bind (Q := fun x => x = (asz n : Int)) ?_ (fun x hx => ⟨x, rfl, hx⟩)
    refine for_ok (l := n.Kids) (fun k a => a = ((c + aszL (n.Kids.take k) : Nat) : Int)) 0 c (Nat.zero_le _) (by simp [b7]) (fun k a hk ha => ?_) (fun a ha => ?_)
    ·simp only [dF, idxN hk, Option.bind_some, dltT hk, cond_true]
     have hk2 := aszL_at hk
     have hk3 := aszL_take hk
     have hk4 := aszL_le n.Kids (k + 1)
     refine OK.bind (ih (n.Kids.getD k default) (by omega) (by omega)) fun x hx => ?_
     subst hx ha
     refine ⟨_, rfl, ?_⟩
     simp only [Sum.elim_inl]
     refine ⟨w1 hk (by omega), ?_⟩
     rw [w64 (by omega) (by omega), hk3]; omega
    ·simp only [dF, dltF, cond_false]
     refine ⟨_, rfl, ?_⟩
     simp only [Sum.elim_inr]
     rw [ha, List.take_length, hc]
   unfold dH
   rw [sNone, Option.bind_some]
   have e2 : (⟨n.Net_Kind, n.Net_One_Op, n.Net_One_Args, n.Net_Kids⟩ : Net) = aY n := rfl
   rw [e2]
   cases hn : noneB (aY n) with
   | true =>
    rw [hn] at e
    simp only [if_true] at e
    simp only [Bool.not_true, cond_false]
    rw [w64 (by omega) (by omega)]
    have := j5 (1 + n.Coils.length) (by omega)
    simpa using this
   | false =>
    rw [hn] at e
    simp only [Bool.false_eq_true, if_false] at e
    simp only [Bool.not_false, cond_true]
    rw [sNetSize _ (by omega), Option.bind_some, w64 (n := 1 + (n.Coils.length : Int)) (by omega) (by omega), w64 (by omega) (by omega)]
    have := j5 (1 + n.Coils.length + nsz (aY n)) (by omega)
    simpa using this
 exact s_l7ArmSize_up n (key _ n (Nat.le_refl _) h).eq
theorem sTreeSize (l : List Arm) (h : aszL l ≤ 1000000000) : s_TreeSize l = some (aszL l : Int) := by
 have hl := fT l
 refine OK.eq (?_ : OK _ (fun x => x = (aszL l : Int)))
 unfold s_TreeSize
 refine OK.bind (Q := fun x => x = (aszL l : Int)) ?_ (fun x hx => ⟨x, rfl, hx⟩)
 refine for_ok (l := l) (fun k a => a = ((aszL (l.take k) : Nat) : Int)) 0 0 (Nat.zero_le _) (by simp [b7]) (fun k a hk ha => ?_) (fun a ha => ?_)
 ·simp only [iL, idxN hk, Option.bind_some, dltT hk, cond_true]
  have hk2 := aszL_at hk
  have hk3 := aszL_take hk
  have hk4 := aszL_le l (k + 1)
  rw [sArmSize _ (by omega), Option.bind_some]
  subst ha
  refine ⟨_, rfl, ?_⟩
  simp only [Sum.elim_inl]
  refine ⟨w1 hk (by omega), ?_⟩
  rw [w64 (by omega) (by omega), hk3]; omega
 ·simp only [iL, dltF, cond_false]
  refine ⟨_, rfl, ?_⟩
  simp only [Sum.elim_inr]
  rw [ha, List.take_length]
mutual
def nwr : Net → Int
 | ⟨k, o, a, ks⟩ => if k = 1 then (if 0 < ks.length then 2 else if iA o a = false then 3 else 0)
  else if k < 2 ∨ 4 < k ∨ o ≠ 0 ∨ 0 < a.length ∨ ks.length = 0 ∨ (k = 4 ∧ ks.length ≠ 1) then 2 else nwrL ks
def nwrL : List Net → Int
 | [] => 0
 | x :: r => if 0 < nwr x then nwr x else nwrL r
end
theorem nwr_eq (n : Net) : nwr n = if n.Kind = 1 then (if 0 < n.Kids.length then 2 else if iA n.One_Op n.One_Args = false then 3 else 0)
  else if n.Kind < 2 ∨ 4 < n.Kind ∨ n.One_Op ≠ 0 ∨ 0 < n.One_Args.length ∨ n.Kids.length = 0 ∨ (n.Kind = 4 ∧ n.Kids.length ≠ 1) then 2 else nwrL n.Kids := by cases n; rw [nwr]
theorem nwrL_nil : nwrL [] = 0 := by rw [nwrL]
theorem nwrL_cons (x : Net) (r : List Net) : nwrL (x :: r) = if 0 < nwr x then nwr x else nwrL r := by rw [nwrL]
theorem nwrL_nn (l : List Net) : 0 ≤ nwrL l := by
 induction l with
 | nil => rw [nwrL_nil]; omega
 | cons x r ih => rw [nwrL_cons]; split <;> omega
theorem nwr_nn (n : Net) : 0 ≤ nwr n := by
 rw [nwr_eq]; have := nwrL_nn n.Kids
 repeat' split
 all_goals omega
theorem dropS {α : Type} [Inhabited α] {l : List α} {k : Nat} (h : k < l.length) : l.drop k = l.getD k default :: l.drop (k + 1) := by
 rw [List.drop_eq_getElem_cons h]; simp [List.getD, h]
theorem sNetWrong (n : Net) (h : nsz n ≤ 1000000000) : ic n = some (nwr n) := by
 have key : ∀ f : Nat, ∀ n : Net, nsz n ≤ f → nsz n ≤ 1000000000 → OK (cv f n) (fun x => x = nwr n) := by
  intro f
  induction f with
  | zero => intro n h; have := nsz_pos n; omega
  | succ f ih =>
   intro n hf hb
   have e := eT n
   have hl := nszL_len n.Kids
   show OK (cY (cv f) n) _
   unfold cY
   rw [nwr_eq]
   by_cases h1 : n.Kind = 1
   ·simp only [h1, beq_self_eq_true, cond_true, if_true]
    by_cases h2 : 0 < n.Kids.length
    ·rw [if_pos h2, show decide ((n.Kids.length : Int) > 0) = true from decide_eq_true (by omega), cond_true]; exact ⟨_, rfl, rfl⟩
    ·rw [if_neg h2, show decide ((n.Kids.length : Int) > 0) = false from decide_eq_false (by omega), cond_false, sContact, Option.bind_some]
     cases iA n.One_Op n.One_Args <;> exact ⟨_, rfl, rfl⟩
   ·rw [if_neg h1, show (n.Kind == 1) = false by simpa using h1, cond_false]
    by_cases h2 : n.Kind < 2 ∨ 4 < n.Kind ∨ n.One_Op ≠ 0 ∨ 0 < n.One_Args.length ∨ n.Kids.length = 0 ∨ (n.Kind = 4 ∧ n.Kids.length ≠ 1)
    ·rw [if_pos h2]
     have : ((((((decide (n.Kind < 2)) || (decide (n.Kind > 4))) || (n.One_Op != 0)) || (decide (((n.One_Args).length : Int) > 0))) || (((n.Kids).length : Int) == 0)) || ((n.Kind == 4) && (((n.Kids).length : Int) != 1))) = true := by
      simp only [Bool.or_eq_true, Bool.and_eq_true, decide_eq_true_eq, bne_iff_ne, beq_iff_eq]; omega
     rw [this, cond_true]; exact ⟨_, rfl, rfl⟩
    ·rw [if_neg h2]
     have : ((((((decide (n.Kind < 2)) || (decide (n.Kind > 4))) || (n.One_Op != 0)) || (decide (((n.One_Args).length : Int) > 0))) || (((n.Kids).length : Int) == 0)) || ((n.Kind == 4) && (((n.Kids).length : Int) != 1))) = false := by
      rw [← Bool.not_eq_true]
      simp only [Bool.or_eq_true, Bool.and_eq_true, decide_eq_true_eq, bne_iff_ne, beq_iff_eq]; omega
     rw [this, cond_false]
     refine OK.bind (Q := fun r => Sum.elim (fun v => v = nwrL n.Kids) (fun _ => 0 = nwrL n.Kids) r) ?_ (fun r hr => ?_)
     ·refine srch_ok (l := n.Kids) (fun k => nwrL (n.Kids.drop k) = nwrL n.Kids) rfl (fun k hk hI => ?_) (fun hI => ?_)
      ·simp only [cQ, idxN hk, Option.bind_some, dltT hk, cond_true]
       have hk2 := nszL_at hk
       refine OK.bind (ih (n.Kids.getD k default) (by omega) (by omega)) fun x hx => ?_
       subst hx
       rw [dropS hk, nwrL_cons] at hI
       by_cases h3 : 0 < nwr (n.Kids.getD k default)
       ·rw [if_pos h3] at hI
        rw [show decide (nwr (n.Kids.getD k default) > 0) = true by simpa using h3, cond_true]
        exact ⟨_, rfl, hI⟩
       ·rw [if_neg h3] at hI
        rw [show decide (nwr (n.Kids.getD k default) > 0) = false by simpa using h3, cond_false]
        exact ⟨_, rfl, w1 hk (by omega), hI⟩
      ·simp only [cQ, dltF, cond_false]
       rw [List.drop_length, nwrL_nil] at hI
       exact ⟨_, rfl, hI⟩
     ·cases r with
      | inl v => exact ⟨_, rfl, hr⟩
      | inr u => exact ⟨_, rfl, hr⟩
 exact s_l7NetWrong_up n (key _ n (Nat.le_refl _) h).eq
mutual
def awr : Bool → Arm → Int
 | t, ⟨k, o, a, ks, cs, ms⟩ => if t = true ∧ noneB ⟨k, o, a, ks⟩ = true then 4 else if noneB ⟨k, o, a, ks⟩ = false ∧ 0 < nwr ⟨k, o, a, ks⟩ then nwr ⟨k, o, a, ks⟩
  else if (cs.any fun e => !isCoil e.Op e.Args) = true then 3 else if cs.length = 0 ∧ ms.length = 0 then 5 else awrL ms
def awrL : List Arm → Int
 | [] => 0
 | x :: r => if 0 < awr false x then awr false x else awrL r
end
theorem awr_eq (t : Bool) (a : Arm) : awr t a = if t = true ∧ noneB (aY a) = true then 4 else if noneB (aY a) = false ∧ 0 < nwr (aY a) then nwr (aY a)
  else if (a.Coils.any fun e => !isCoil e.Op e.Args) = true then 3 else if a.Coils.length = 0 ∧ a.Kids.length = 0 then 5 else awrL a.Kids := by cases a; rw [awr]; rfl
theorem awrL_nil : awrL [] = 0 := by rw [awrL]
theorem awrL_cons (x : Arm) (r : List Arm) : awrL (x :: r) = if 0 < awr false x then awr false x else awrL r := by rw [awrL]
theorem awrL_nn (l : List Arm) : 0 ≤ awrL l := by
 induction l with
 | nil => rw [awrL_nil]; omega
 | cons x r ih => rw [awrL_cons]; split <;> omega
theorem awr_nn (t : Bool) (a : Arm) : 0 ≤ awr t a := by
 rw [awr_eq]; have := awrL_nn a.Kids; have := nwr_nn (aY a)
 repeat' split
 all_goals omega
mutual
def aB : Arm → Prop
 | ⟨_, _, _, _, cs, ms⟩ => cs.length ≤ 1000000 ∧ (∀ e ∈ cs, e.Args.length ≤ 1000) ∧ aBL ms
def aBL : List Arm → Prop
 | [] => True
 | x :: r => aB x ∧ aBL r
end
theorem aB_eq (a : Arm) : aB a = (a.Coils.length ≤ 1000000 ∧ (∀ e ∈ a.Coils, e.Args.length ≤ 1000) ∧ aBL a.Kids) := by cases a; rw [aB]
theorem aBL_iff (l : List Arm) : aBL l ↔ ∀ a ∈ l, aB a := by
 induction l with
 | nil => simp [aBL]
 | cons x r ih => rw [aBL]; simp [ih]
theorem sArmWrong (a : Arm) (t : Bool) (h : asz a ≤ 1000000000) (hB : aB a) (hn : nsz (aY a) ≤ 1000000000) : s_l7ArmWrong a t = some (awr t a) := by
 have key : ∀ f : Nat, ∀ (a : Arm) (t : Bool), asz a ≤ f → asz a ≤ 1000000000 → aB a → OK (bu f a t) (fun x => x = awr t a) := by
  intro f
  induction f with
  | zero => intro n t h; have := asz_pos n; omega
  | succ f ih =>
   intro a t hf hb hB
   have e := asz_eq a
   have hl := fT a.Kids
   rw [aB_eq] at hB
   obtain ⟨hB0, hB1, hB2⟩ := hB
   show OK (df (bu f) a t) _
   have j25 : OK (bV a (bu f) ()) (fun x => x = if a.Coils.length = 0 ∧ a.Kids.length = 0 then 5 else awrL a.Kids) := by
    simp only [bV]
    by_cases h1 : a.Coils.length = 0 ∧ a.Kids.length = 0
    ·rw [if_pos h1, show (((a.Coils.length : Int) == 0) && ((a.Kids.length : Int) == 0)) = true by simp only [Bool.and_eq_true, beq_iff_eq]; omega, cond_true]
     exact ⟨_, rfl, rfl⟩
    ·rw [if_neg h1, show (((a.Coils.length : Int) == 0) && ((a.Kids.length : Int) == 0)) = false by rw [← Bool.not_eq_true]; simp only [Bool.and_eq_true, beq_iff_eq]; omega, cond_false]
     refine OK.bind (Q := fun r => Sum.elim (fun v => v = awrL a.Kids) (fun _ => 0 = awrL a.Kids) r) ?_ (fun r hr => ?_)
     ·refine srch_ok (l := a.Kids) (fun k => awrL (a.Kids.drop k) = awrL a.Kids) rfl (fun k hk hI => ?_) (fun hI => ?_)
      ·simp only [bX, idxN hk, Option.bind_some, dltT hk, cond_true]
       have hk2 := aszL_at hk
       refine OK.bind (ih (a.Kids.getD k default) false (by omega) (by omega) ((aBL_iff _).1 hB2 _ (bA hk))) fun x hx => ?_
       subst hx
       rw [dropS hk, awrL_cons] at hI
       by_cases h3 : 0 < awr false (a.Kids.getD k default)
       ·rw [if_pos h3] at hI
        rw [show decide (awr false (a.Kids.getD k default) > 0) = true by simpa using h3, cond_true]
        exact ⟨_, rfl, hI⟩
       ·rw [if_neg h3] at hI
        rw [show decide (awr false (a.Kids.getD k default) > 0) = false by simpa using h3, cond_false]
        exact ⟨_, rfl, w1 hk (by omega), hI⟩
      ·simp only [bX, dltF, cond_false]
       rw [List.drop_length, awrL_nil] at hI
       exact ⟨_, rfl, hI⟩
     ·cases r with
      | inl v => exact ⟨_, rfl, hr⟩
      | inr u => exact ⟨_, rfl, hr⟩
   have j11 : OK (bk a (bu f) ()) (fun x => x = if (a.Coils.any fun e => !isCoil e.Op e.Args) = true then 3 else if a.Coils.length = 0 ∧ a.Kids.length = 0 then 5 else awrL a.Kids) := by
    simp only [bk]
    refine OK.bind (Q := fun r => Sum.elim (fun _ => (a.Coils.any fun e => !isCoil e.Op e.Args) = true) (fun _ => (a.Coils.any fun e => !isCoil e.Op e.Args) = false) r) ?_ (fun r hr => ?_)
    ·refine srch_ok (l := a.Coils) (fun k => ((a.Coils.drop k).any fun e => !isCoil e.Op e.Args) = (a.Coils.any fun e => !isCoil e.Op e.Args)) rfl (fun k hk hI => ?_) (fun hI => ?_)
     ·simp only [dL, idxN hk, Option.bind_some, dltT hk, cond_true]
      rw [sCoil _ (by have := hB1 _ (bA hk); omega), Option.bind_some]
      rw [dropS hk, List.any_cons] at hI
      cases hc : isCoil (a.Coils.getD k default).Op (a.Coils.getD k default).Args with
      | true => rw [hc] at hI; simp only [Bool.not_true, Bool.false_or] at hI; exact ⟨_, rfl, w1 hk (by omega), hI⟩
      | false => rw [hc] at hI; simp only [Bool.not_false, Bool.true_or] at hI; exact ⟨_, rfl, hI.symm⟩
     ·simp only [dL, dltF, cond_false]
      rw [List.drop_length] at hI
      exact ⟨_, rfl, hI.symm⟩
    ·cases r with
     | inl v => have hr : _ = true := hr; rw [if_pos hr]; exact ⟨_, rfl, rfl⟩
     | inr u => have hr : _ = false := hr; rw [if_neg (by rw [hr]; simp)]; exact j25
   unfold df
   have e2 : (⟨a.Net_Kind, a.Net_One_Op, a.Net_One_Args, a.Net_Kids⟩ : Net) = aY a := rfl
   rw [e2, sNone]
   simp only [Option.bind_some]
   rw [awr_eq]
   have tailp : noneB (aY a) = false → OK ((ic (aY a)).bind fun v43 => (cond (decide (v43 > 0)) (some v43) (bk a (bu f) ()))) (fun x => x = if noneB (aY a) = false ∧ 0 < nwr (aY a) then nwr (aY a)
     else if (a.Coils.any fun e => !isCoil e.Op e.Args) = true then 3 else if a.Coils.length = 0 ∧ a.Kids.length = 0 then 5 else awrL a.Kids) := by
    intro hn
    rw [hn] at e
    simp only [Bool.false_eq_true, if_false] at e
    rw [sNetWrong _ (by omega), Option.bind_some]
    by_cases h3 : 0 < nwr (aY a)
    ·rw [if_pos ⟨hn, h3⟩, show decide (nwr (aY a) > 0) = true by simpa using h3, cond_true]; exact ⟨_, rfl, rfl⟩
    ·rw [if_neg (fun q => h3 q.2), show decide (nwr (aY a) > 0) = false by simpa using h3, cond_false]; exact j11
   cases hn : noneB (aY a) with
   | true =>
    cases t with
    | true => simp only [cond_true, and_self, if_true]; exact ⟨_, rfl, rfl⟩
    | false => simp only [cond_true, cond_false, Bool.not_true, Bool.false_eq_true, false_and, and_true, if_false, Bool.true_eq_false]; exact j11
   | false =>
    have tp := tailp hn
    rw [hn] at tp
    cases t with
    | true => simp only [cond_true, cond_false, Bool.not_false, Bool.false_eq_true, and_false, if_false] at tp ⊢; exact tp
    | false => simp only [cond_true, cond_false, Bool.not_false, Bool.false_eq_true, and_false, if_false] at tp ⊢; exact tp
 exact s_l7ArmWrong_up a t (key _ a t (Nat.le_refl _) h hB).eq
def fl : Int → List Arm → TreeFault
 | _, [] => ⟨0, 0⟩
 | k, x :: r => if 0 < awr true x then ⟨awr true x, k⟩ else fl (k + 1) r
def treeCk (l : List Arm) : TreeFault := if 40 < l.length ∨ 400 < aszL l then ⟨1, 0⟩ else fl 0 l
theorem sTreeCheck (l : List Arm) (h : aszL l ≤ 1000000000) (hB : aBL l) (hN : ∀ a ∈ l, nsz (aY a) ≤ 1000000000) : s_TreeCheck l = some (treeCk l) := by
 unfold s_TreeCheck treeCk
 by_cases h1 : 40 < l.length
 ·rw [if_pos (.inl h1), show decide ((l.length : Int) > 40) = true from decide_eq_true (by omega), cond_true]
 ·rw [show decide ((l.length : Int) > 40) = false from decide_eq_false (by omega), cond_false, sTreeSize l h, Option.bind_some]
  by_cases h2 : 400 < aszL l
  ·rw [if_pos (.inr h2), show decide ((aszL l : Int) > 400) = true from decide_eq_true (by omega), cond_true]
  ·rw [if_neg (by omega), show decide ((aszL l : Int) > 400) = false from decide_eq_false (by omega), cond_false]
   refine OK.eq (?_ : OK _ (fun x => x = fl 0 l))
   refine OK.bind (Q := fun r => Sum.elim (fun v : Int × Int => (⟨v.1, v.2⟩ : TreeFault) = fl 0 l) (fun _ => (⟨0, 0⟩ : TreeFault) = fl 0 l) r) ?_ (fun r hr => ?_)
   ·refine srch_ok (l := l) (fun k => fl (k : Int) (l.drop k) = fl 0 l) rfl (fun k hk hI => ?_) (fun hI => ?_)
    ·simp only [gz, idxN hk, Option.bind_some, dltT hk, cond_true]
     have hk2 := aszL_at hk
     have hm := bA hk
     rw [sArmWrong _ true (by omega) ((aBL_iff _).1 hB _ hm) (hN _ hm), Option.bind_some]
     rw [dropS hk, fl] at hI
     by_cases h3 : 0 < awr true (l.getD k default)
     ·rw [if_pos h3] at hI
      rw [show decide (awr true (l.getD k default) > 0) = true by simpa using h3, cond_true]
      exact ⟨_, rfl, hI⟩
     ·rw [if_neg h3] at hI
      rw [show decide (awr true (l.getD k default) > 0) = false by simpa using h3, cond_false]
      exact ⟨_, rfl, w1 hk (by omega), by push_cast; exact hI⟩
    ·simp only [gz, dltF, cond_false]
     rw [List.drop_length, fl] at hI
     exact ⟨_, rfl, hI⟩
   ·cases r with
    | inl v => exact ⟨_, rfl, hr⟩
    | inr u => exact ⟨_, rfl, hr⟩
end Go.AM
end
