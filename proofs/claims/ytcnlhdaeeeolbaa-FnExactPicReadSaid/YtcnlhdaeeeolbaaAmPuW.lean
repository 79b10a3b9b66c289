/- Images: how both packages read them. Conditions: none. -/
import Derived.Test.YtcnlhdaeeeolbaaAmPuV
set_option linter.unusedSimpArgs false
set_option linter.unusedVariables false
namespace Go.AM
open Go
def joinL (ws : List Inst) (m : (Int × Int) ⊕ (List Inst × List Int)) : (Int × Int) ⊕ (List Inst × List Int) := match m with
  | .inl c => .inl c
  | .inr (bs, r) => .inr (ws ++ bs, r)
theorem rL_step {n : Nat} {t : Int} {l : List Int} (ws : List Inst) : joinL ws (rL (n + 1) t l) = match rI l with
    | .inl c => .inl (c, t)
    | .inr (i, r) => joinL (ws ++ [i]) (rL n (t + 1) r) := by
  simp only [rL]
  cases rI l with
  | inl c => rfl
  | inr x =>
    obtain ⟨a, r⟩ := x
    dsimp only
    cases rL n (t + 1) r with
    | inl c => rfl
    | inr y => obtain ⟨bs, r'⟩ := y; simp [joinL]
theorem joinL_nil (m : (Int × Int) ⊕ (List Inst × List Int)) : joinL [] m = m := by
  cases m with
  | inl c => rfl
  | inr y => rfl
def finP (m : Int) : (Int × Int) ⊕ (List Inst × List Int) → List Inst × PicFault
  | .inl (c, t) => ([], ⟨c, t⟩)
  | .inr (l, []) => (l, ⟨0, 0⟩)
  | .inr (_, _ :: _) => ([], ⟨7, m⟩)
def rF (a0 a1 a2 a3 a4 a5 : Int) (body : List Int) (x y : Int) : List Inst × PicFault :=
  if a0 ≠ 83 then ([], ⟨4, 0⟩) else if a1 ≠ 116 then ([], ⟨4, 0⟩) else if a2 * 256 + a3 ≠ (body.length : Int) + 8 then ([], ⟨4, 0⟩)
  else if x * 256 + y ≠ sumL 65535 ([a0, a1, a2, a3, a4, a5] ++ body) then ([], ⟨5, 0⟩)
  else if a4 * 256 + a5 > 1000 then ([], ⟨1, 0⟩) else finP (a4 * 256 + a5) (rL (a4 * 256 + a5).toNat 0 body)
theorem img_split {d : List Int} (h : 8 ≤ d.length) : ∃ a0 a1 a2 a3 a4 a5 body x y, d = [a0, a1, a2, a3, a4, a5] ++ body ++ [x, y] := by
  match d, h with
  | a0 :: a1 :: a2 :: a3 :: a4 :: a5 :: r, h =>
    have h2 : 2 ≤ r.length := by simpa using h
    refine ⟨a0, a1, a2, a3, a4, a5, r.take (r.length - 2), ?_⟩
    have h3 : ∃ x y, r.drop (r.length - 2) = [x, y] := by
      have : (r.drop (r.length - 2)).length = 2 := by rw [List.length_drop]; omega
      match r.drop (r.length - 2), this with
      | [x, y], _ => exact ⟨x, y, rfl⟩
    obtain ⟨x, y, h3⟩ := h3
    refine ⟨x, y, ?_⟩
    rw [← h3, List.append_assoc, List.take_append_drop]; rfl
theorem okArgs_of {l : List Inst} (h : ∀ i ∈ l, wro i = 0) : okArgs l := fun i hi => by
  obtain ⟨_, _, h3, h4⟩ := wro_zero (h i hi)
  have hab := ar_bd i.One_Op
  cases hh : isHas i.Code with
  | false => rw [(h3 hh).2]; simp
  | true => have := (h4 hh).2.1; omega
section
variable {a0 a1 a2 a3 a4 a5 x y : Int} {body : List Int}
theorem sTwo {a b : Int} (h : by8 [a, b]) : spec_l17Two [a, b] = some (a * 256 + b) := by
  have ha := h.hd
  have hb := h.tl.hd
  refine OK.eq ?_
  unfold spec_l17Two
  refine OK.idx (by omega) (by simp) fun p _ hp => ?_
  obtain rfl : a = p := hp
  refine OK.idx (by omega) (by simp) fun q _ hq => ?_
  obtain rfl : b = q := hq
  rw [w64 (n := a) (by omega) (by omega), w64 (n := b) (by omega) (by omega), w64 (n := a * 256) (by omega) (by omega), w64 (by omega) (by omega)]
  exact OK.mk rfl
def RelIL (m : (Int × Int) ⊕ (List Inst × List Int)) (z : (Int × Int) ⊕ (List Int × Int × List Inst)) : Prop := match m with
  | .inl (c, t) => z = .inl (c, t)
  | .inr (l, r) => z = .inr (r, 0, l)
theorem iList_rd {b : List Int} {m : Int} (hb : by8 b) (hm : 0 ≤ m) (hm2 : m ≤ 1000) : OK (loop (impl_PicRead_s38 m) (b, 0, [], 0)) (RelIL (rL m.toNat 0 b)) := by
  refine (OK.loop (k := fun x => some x) (P := RelIL (rL m.toNat 0 b)) (Q := RelIL (rL m.toNat 0 b)) (fun z : List Int × Int × List Inst × Int => 0 ≤ z.2.2.2 ∧ z.2.2.2 ≤ m ∧ (z.2.2.1.length : Int) = z.2.2.2 ∧ z.2.1 = 0 ∧ by8 z.1 ∧ rL m.toNat 0 b = joinL z.2.2.1 (rL (m - z.2.2.2).toNat z.2.2.2 z.1)) (fun z => (m - z.2.2.2).toNat) ?_ ?_ (fun x hx => OK.mk hx)) |> fun h => by simpa using h
  · exact ⟨Int.le_refl _, hm, rfl, rfl, hb, by simp only [Int.sub_zero]; rw [joinL_nil]⟩
  · rintro ⟨b, c, ws, k⟩ ⟨h1, h2, h3, h4, hb, he⟩
    dsimp only at h1 h2 h3 h4 hb he
    subst h4
    simp only [impl_PicRead_s38]
    refine OK.cond (fun hc => ?_) (fun hc => ?_)
    · simp only [decide_eq_true_eq] at hc
      refine OK.bind (iInst_rd hb) ?_
      rintro ⟨i, p⟩ hx
      rw [show (m - k).toNat = (m - (k + 1)).toNat + 1 by omega, rL_step] at he
      cases hr : rI b with
      | inl e =>
        rw [hr] at hx he
        have hx : p.code = e := hx
        have := rI_err hr
        refine OK.cond (fun _ => OK.mk ?_) (fun hc => by simp at hc; omega)
        show RelIL _ _
        rw [he]
        show _ = _
        rw [hx]
      | inr z =>
        obtain ⟨i', r⟩ := z
        rw [hr] at hx he
        have hx : (i, p) = (i', ⟨r, 0⟩) := hx
        cases hx
        have hr8 : by8 r := by
          obtain ⟨e1, _⟩ := rI_enc hb hr
          rw [e1] at hb; exact fun y hy => hb y (List.mem_append_right _ hy)
        refine OK.cond (fun hc => by simp at hc) (fun _ => ?_)
        refine OK.gd (apOk_of (by simp; omega) (by simp; omega)) ?_
        rw [w64 (n := k + 1) (by omega) (by omega)]
        exact OK.mk ⟨⟨by dsimp only; omega, by dsimp only; omega, by simp; omega, rfl, hr8, he⟩, by dsimp only; omega⟩
    · simp only [decide_eq_false_iff_not] at hc
      have : k = m := by omega
      subst this
      rw [Int.sub_self] at he
      refine OK.mk ?_
      show RelIL _ _
      rw [he]
      show RelIL (joinL ws (.inr ([], b))) _
      simp [joinL, RelIL]
def RelSL (b : List Int) (m : (Int × Int) ⊕ (List Inst × List Int)) (z : (Int × Int) ⊕ (List Int × Int × List Inst)) : Prop := match m with
  | .inl (c, t) => z = .inl (c, t)
  | .inr (l, r) => ∃ q : l17In, SP b r q ∧ z = .inr (q.b, q.at_, l)
theorem sList_rd {b : List Int} {m : Int} (hb : by8 b) (hbl : b.length ≤ 1000000) (hm : 0 ≤ m) (hm2 : m ≤ 1000) : OK (loop (spec_PicRead_s39 m) (b, 0, [], 0)) (RelSL b (rL m.toNat 0 b)) := by
  refine (OK.loop (k := fun x => some x) (P := RelSL b (rL m.toNat 0 b)) (Q := RelSL b (rL m.toNat 0 b)) (fun z : List Int × Int × List Inst × Int => 0 ≤ z.2.2.2 ∧ z.2.2.2 ≤ m ∧ (z.2.2.1.length : Int) = z.2.2.2 ∧ ∃ r, by8 r ∧ SP b r ⟨z.1, z.2.1⟩ ∧ rL m.toNat 0 b = joinL z.2.2.1 (rL (m - z.2.2.2).toNat z.2.2.2 r)) (fun z => (m - z.2.2.2).toNat) ?_ ?_ (fun x hx => OK.mk hx)) |> fun h => by simpa using h
  · exact ⟨Int.le_refl _, hm, rfl, b, hb, ⟨rfl, Int.le_refl _, by dsimp only; omega, rfl, hbl⟩, by simp only [Int.sub_zero]; rw [joinL_nil]⟩
  · rintro ⟨pb, pa, ws, k⟩ ⟨h1, h2, h3, r, hr8, hsp, he⟩
    dsimp only at h1 h2 h3 hsp he
    simp only [spec_PicRead_s39]
    refine OK.cond (fun hc => ?_) (fun hc => ?_)
    · simp only [decide_eq_true_eq] at hc
      refine OK.bind (sInst_rd hr8 hsp) ?_
      rintro ⟨i, e, p⟩ hx
      rw [show (m - k).toNat = (m - (k + 1)).toNat + 1 by omega, rL_step] at he
      cases hr : rI r with
      | inl c =>
        rw [hr] at hx he
        have hx : e = c := hx
        have := rI_err hr
        refine OK.cond (fun _ => OK.mk ?_) (fun hc => by simp at hc; omega)
        show RelSL _ _ _
        rw [he]
        show _ = _
        rw [hx]
      | inr z =>
        obtain ⟨i', r'⟩ := z
        rw [hr] at hx he
        obtain ⟨rfl, rfl, hp⟩ : i = i' ∧ e = 0 ∧ SP b r' p := hx
        have hr8' : by8 r' := by
          obtain ⟨e1, _⟩ := rI_enc hr8 hr
          rw [e1] at hr8; exact fun y hy => hr8 y (List.mem_append_right _ hy)
        refine OK.cond (fun hc => by simp at hc) (fun _ => ?_)
        refine OK.gd (apOk_of (by simp; omega) (by simp; omega)) ?_
        rw [w64 (n := k + 1) (by omega) (by omega)]
        exact OK.mk ⟨⟨by dsimp only; omega, by dsimp only; omega, by simp; omega, r', hr8', hp, he⟩, by dsimp only; omega⟩
    · simp only [decide_eq_false_iff_not] at hc
      have : k = m := by omega
      subst this
      rw [Int.sub_self] at he
      have he : rL k.toNat 0 b = .inr (ws, r) := by rw [he]; show joinL ws (.inr ([], r)) = _; simp [joinL]
      refine OK.mk ?_
      show RelSL _ _ _
      rw [he]
      exact ⟨⟨pb, pa⟩, hsp, rfl⟩
theorem rL_ok {n : Nat} {t : Int} {b r : List Int} {l : List Inst} (hb : by8 b) (h : rL n t b = .inr (l, r)) : okArgs l ∧ l.length = n := by
  obtain ⟨_, h2, h3⟩ := rL_enc hb h
  exact ⟨okArgs_of h3, h2⟩
theorem img_prt (n : Nat) (hn : ([a0, a1, a2, a3, a4, a5] ++ body ++ [x, y]).length = n) : (([a0, a1, a2, a3, a4, a5] ++ body ++ [x, y]).take (n - 2)).drop 6 = body ∧ ([a0, a1, a2, a3, a4, a5] ++ body ++ [x, y]).take (n - 2) = [a0, a1, a2, a3, a4, a5] ++ body ∧ ([a0, a1, a2, a3, a4, a5] ++ body ++ [x, y]).drop (n - 2) = [x, y] := by
  have e : n - 2 = ([a0, a1, a2, a3, a4, a5] ++ body).length := by
    rw [← hn]; simp
  rw [e, List.take_left' rfl, List.drop_left' rfl]
  exact ⟨rfl, rfl, rfl⟩
theorem by8_sub {l m : List Int} (h : by8 l) (hs : ∀ y ∈ m, y ∈ l) : by8 m := fun y hy => h y (hs y hy)
theorem iRead_ok (h8 : by8 ([a0, a1, a2, a3, a4, a5] ++ body ++ [x, y])) (hl : body.length ≤ 20000) : impl_PicRead ([a0, a1, a2, a3, a4, a5] ++ body ++ [x, y]) = some (rF a0 a1 a2 a3 a4 a5 body x y) := by
  obtain ⟨p1, p2, p3⟩ := img_prt (a0 := a0) (a1 := a1) (a2 := a2) (a3 := a3) (a4 := a4) (a5 := a5) (body := body) (x := x) (y := y) _ rfl
  have hd : ([a0, a1, a2, a3, a4, a5] ++ body ++ [x, y]).length = body.length + 8 := by simp
  have q0 : ([a0, a1, a2, a3, a4, a5] ++ body ++ [x, y]).getD (0 : Int).toNat default = a0 := rfl
  have q1 : ([a0, a1, a2, a3, a4, a5] ++ body ++ [x, y]).getD (1 : Int).toNat default = a1 := rfl
  have q2 : (([a0, a1, a2, a3, a4, a5] ++ body ++ [x, y]).take (4 : Int).toNat).drop (2 : Int).toNat = [a2, a3] := rfl
  have q3 : (([a0, a1, a2, a3, a4, a5] ++ body ++ [x, y]).take (6 : Int).toNat).drop (4 : Int).toNat = [a4, a5] := rfl
  have hm : ∀ z, z ∈ [a0, a1, a2, a3, a4, a5] ++ body ++ [x, y] → 0 ≤ z ∧ z < 256 := fun z hz => h8 z hz
  have b4 := hm a4 (by simp)
  have b5 := hm a5 (by simp)
  have f1 : by8 [a2, a3] := by8_sub h8 (by intro z hz; simp at hz ⊢; rcases hz with rfl | rfl <;> simp)
  have f2 : by8 [a4, a5] := by8_sub h8 (by intro z hz; simp at hz ⊢; rcases hz with rfl | rfl <;> simp)
  have f3 : by8 [x, y] := by8_sub h8 (by intro z hz; exact List.mem_append_right _ hz)
  have f4 : by8 ([a0, a1, a2, a3, a4, a5] ++ body) := by8_sub h8 (by intro z hz; exact List.mem_append_left _ hz)
  have f5 : by8 body := by8_sub f4 (by intro z hz; exact List.mem_append_right _ hz)
  have w := w64 (n := ((([a0, a1, a2, a3, a4, a5] ++ body ++ [x, y]).length : Nat) : Int) - 2) (by omega) (by omega)
  have wn : (((([a0, a1, a2, a3, a4, a5] ++ body ++ [x, y]).length : Nat) : Int) - 2).toNat = ([a0, a1, a2, a3, a4, a5] ++ body ++ [x, y]).length - 2 := by omega
  generalize hD : [a0, a1, a2, a3, a4, a5] ++ body ++ [x, y] = D at *
  refine OK.eq ?_
  unfold impl_PicRead
  rw [in_eq, Option.bind_some, w]
  refine OK.cond (fun _ => ?_) (fun hc => by simp only [decide_eq_false_iff_not] at hc; omega)
  refine OK.idx (by omega) (by omega) fun z _ hz => ?_
  rw [q0] at hz
  subst hz
  refine OK.cond (fun hc => ?_) (fun hc => ?_)
  · simp only [bne_iff_ne, ne_eq] at hc
    rw [rF, if_pos hc]; exact OK.mk rfl
  simp only [bne_eq_false_iff_eq] at hc
  refine OK.idx (by omega) (by omega) fun z _ hz => ?_
  rw [q1] at hz
  subst hz
  refine OK.cond (fun hc1 => ?_) (fun hc1 => ?_)
  · simp only [bne_iff_ne, ne_eq] at hc1
    rw [rF, if_neg (by simpa using hc), if_pos hc1]; exact OK.mk rfl
  simp only [bne_eq_false_iff_eq] at hc1
  refine OK.prt (by omega) (by omega) (by omega) ?_
  rw [q2, fb2 f1, Option.bind_some, hd]
  refine OK.cond (fun hc2 => ?_) (fun hc2 => ?_)
  · simp only [bne_iff_ne, ne_eq] at hc2
    rw [rF, if_neg (by simpa using hc), if_neg (by simpa using hc1), if_pos (by omega)]; exact OK.mk rfl
  simp only [bne_eq_false_iff_eq] at hc2
  refine OK.prt (by omega) (by omega) (by omega) ?_
  rw [q3, fb2 f2, Option.bind_some]
  rw [hd] at wn p1 p2 p3
  refine OK.prtL (by omega) (by omega) (OK.prtH (by omega) (by omega) ?_)
  rw [wn, p2, p3, fb2 f3, Option.bind_some]
  refine OK.bind (iSum_ok f4 (by simp; omega)) ?_
  rintro _ rfl
  have hs := sumL_bd f4 (s := 65535) (by omega) (by omega)
  rw [w64 (by omega) (by omega)]
  refine OK.cond (fun hc3 => ?_) (fun hc3 => ?_)
  · simp only [bne_iff_ne, ne_eq] at hc3
    rw [rF, if_neg (by simpa using hc), if_neg (by simpa using hc1), if_neg (by omega), if_pos hc3]; exact OK.mk rfl
  simp only [bne_eq_false_iff_eq] at hc3
  refine OK.cond (fun hc4 => ?_) (fun hc4 => ?_)
  · simp only [decide_eq_true_eq] at hc4
    rw [rF, if_neg (by simpa using hc), if_neg (by simpa using hc1), if_neg (by omega), if_neg (by simpa using hc3), if_pos hc4]; exact OK.mk rfl
  simp only [decide_eq_false_iff_not] at hc4
  rw [rF, if_neg (by simpa using hc), if_neg (by simpa using hc1), if_neg (by omega), if_neg (by simpa using hc3), if_neg hc4]
  refine OK.prt (by omega) (by omega) (by omega) ?_
  rw [wn, show (6 : Int).toNat = 6 from rfl, p1]
  refine OK.bind (iList_rd f5 (by omega) (by omega)) ?_
  intro z hz
  cases hr : rL (a4 * 256 + a5).toNat 0 body with
  | inl e =>
    obtain ⟨c, t⟩ := e
    rw [hr] at hz
    have hz : z = .inl (c, t) := hz
    subst hz
    exact OK.mk rfl
  | inr e =>
    obtain ⟨l, r⟩ := e
    rw [hr] at hz
    have hz : z = .inr (r, 0, l) := hz
    subst hz
    simp only [Sum.elim_inr, impl_PicRead_j34]
    cases r with
    | nil =>
      have hk := rL_ok f5 hr
      refine OK.cond (fun hc => by simp at hc) (fun _ => ?_)
      rw [iCopyList l hk.1 (by omega)]
      exact OK.mk rfl
    | cons u r => exact OK.cond (fun _ => OK.mk rfl) (fun hc => by simp at hc)
theorem sRead_ok (h8 : by8 ([a0, a1, a2, a3, a4, a5] ++ body ++ [x, y])) (hl : body.length ≤ 20000) : spec_PicRead ([a0, a1, a2, a3, a4, a5] ++ body ++ [x, y]) = some (rF a0 a1 a2 a3 a4 a5 body x y) := by
  obtain ⟨p1, p2, p3⟩ := img_prt (a0 := a0) (a1 := a1) (a2 := a2) (a3 := a3) (a4 := a4) (a5 := a5) (body := body) (x := x) (y := y) _ rfl
  have hd : ([a0, a1, a2, a3, a4, a5] ++ body ++ [x, y]).length = body.length + 8 := by simp
  have q0 : ([a0, a1, a2, a3, a4, a5] ++ body ++ [x, y]).getD (0 : Int).toNat default = a0 := rfl
  have q1 : ([a0, a1, a2, a3, a4, a5] ++ body ++ [x, y]).getD (1 : Int).toNat default = a1 := rfl
  have q2 : (([a0, a1, a2, a3, a4, a5] ++ body ++ [x, y]).take (4 : Int).toNat).drop (2 : Int).toNat = [a2, a3] := rfl
  have q3 : (([a0, a1, a2, a3, a4, a5] ++ body ++ [x, y]).take (6 : Int).toNat).drop (4 : Int).toNat = [a4, a5] := rfl
  have hm : ∀ z, z ∈ [a0, a1, a2, a3, a4, a5] ++ body ++ [x, y] → 0 ≤ z ∧ z < 256 := fun z hz => h8 z hz
  have b4 := hm a4 (by simp)
  have b5 := hm a5 (by simp)
  have f1 : by8 [a2, a3] := by8_sub h8 (by intro z hz; simp at hz ⊢; rcases hz with rfl | rfl <;> simp)
  have f2 : by8 [a4, a5] := by8_sub h8 (by intro z hz; simp at hz ⊢; rcases hz with rfl | rfl <;> simp)
  have f3 : by8 [x, y] := by8_sub h8 (by intro z hz; exact List.mem_append_right _ hz)
  have f4 : by8 ([a0, a1, a2, a3, a4, a5] ++ body) := by8_sub h8 (by intro z hz; exact List.mem_append_left _ hz)
  have f5 : by8 body := by8_sub f4 (by intro z hz; exact List.mem_append_right _ hz)
  have w := w64 (n := ((([a0, a1, a2, a3, a4, a5] ++ body ++ [x, y]).length : Nat) : Int) - 2) (by omega) (by omega)
  have wn : (((([a0, a1, a2, a3, a4, a5] ++ body ++ [x, y]).length : Nat) : Int) - 2).toNat = ([a0, a1, a2, a3, a4, a5] ++ body ++ [x, y]).length - 2 := by omega
  generalize hD : [a0, a1, a2, a3, a4, a5] ++ body ++ [x, y] = D at *
  refine OK.eq ?_
  unfold spec_PicRead
  rw [w]
  refine OK.cond (fun hc => by simp only [decide_eq_true_eq] at hc; omega) (fun _ => ?_)
  refine OK.cond (fun hc => by simp only [decide_eq_true_eq] at hc; omega) (fun _ => ?_)
  refine OK.idx (by omega) (by omega) fun z _ hz => ?_
  rw [q0] at hz
  subst hz
  refine OK.cond (fun hc => ?_) (fun hc => ?_)
  · simp only [bne_iff_ne, ne_eq] at hc
    rw [rF, if_pos hc]; exact OK.mk rfl
  simp only [bne_eq_false_iff_eq] at hc
  refine OK.idx (by omega) (by omega) fun z _ hz => ?_
  rw [q1] at hz
  subst hz
  refine OK.cond (fun hc1 => ?_) (fun hc1 => ?_)
  · simp only [bne_iff_ne, ne_eq] at hc1
    rw [rF, if_neg (by simpa using hc), if_pos hc1]; exact OK.mk rfl
  simp only [bne_eq_false_iff_eq] at hc1
  refine OK.prt (by omega) (by omega) (by omega) ?_
  rw [q2, sTwo f1, Option.bind_some, hd]
  refine OK.cond (fun hc2 => ?_) (fun hc2 => ?_)
  · simp only [bne_iff_ne, ne_eq] at hc2
    rw [rF, if_neg (by simpa using hc), if_neg (by simpa using hc1), if_pos (by omega)]; exact OK.mk rfl
  simp only [bne_eq_false_iff_eq] at hc2
  rw [hd] at wn p1 p2 p3
  refine OK.prtL (by omega) (by omega) (OK.prtH (by omega) (by omega) ?_)
  rw [wn, p2, p3, sTwo f3, Option.bind_some]
  refine OK.bind (sSum_ok f4 (by simp; omega)) ?_
  rintro _ rfl
  have hs := sumL_bd f4 (s := 65535) (by omega) (by omega)
  rw [w64 (by omega) (by omega)]
  refine OK.cond (fun hc3 => ?_) (fun hc3 => ?_)
  · simp only [bne_iff_ne, ne_eq] at hc3
    rw [rF, if_neg (by simpa using hc), if_neg (by simpa using hc1), if_neg (by omega), if_pos hc3]; exact OK.mk rfl
  simp only [bne_eq_false_iff_eq] at hc3
  refine OK.prt (by omega) (by omega) (by omega) ?_
  rw [q3, sTwo f2, Option.bind_some]
  refine OK.cond (fun hc4 => ?_) (fun hc4 => ?_)
  · simp only [decide_eq_true_eq] at hc4
    rw [rF, if_neg (by simpa using hc), if_neg (by simpa using hc1), if_neg (by omega), if_neg (by simpa using hc3), if_pos hc4]; exact OK.mk rfl
  simp only [decide_eq_false_iff_not] at hc4
  rw [rF, if_neg (by simpa using hc), if_neg (by simpa using hc1), if_neg (by omega), if_neg (by simpa using hc3), if_neg hc4]
  refine OK.prt (by omega) (by omega) (by omega) ?_
  rw [wn, show (6 : Int).toNat = 6 from rfl, p1]
  refine OK.bind (sList_rd f5 (by omega) (by omega) (by omega)) ?_
  intro z hz
  cases hr : rL (a4 * 256 + a5).toNat 0 body with
  | inl e =>
    obtain ⟨c, t⟩ := e
    rw [hr] at hz
    have hz : z = .inl (c, t) := hz
    subst hz
    exact OK.mk rfl
  | inr e =>
    obtain ⟨l, r⟩ := e
    rw [hr] at hz
    obtain ⟨q, hq, rfl⟩ := hz
    have hlen := hq.len
    obtain ⟨h1, h2, h3, h4, h5⟩ := hq
    simp only [Sum.elim_inr, spec_PicRead_j35]
    rw [h1]
    cases r with
    | nil => exact OK.cond (fun hc => by simp at hc hlen; omega) (fun _ => OK.mk rfl)
    | cons u r => exact OK.cond (fun _ => OK.mk rfl) (fun hc => by simp at hc hlen; omega)
end
theorem iRead_bad {d : List Int} (h : d.length < 8 ∨ d.length > 20008) : impl_PicRead d = some ([], ⟨4, 0⟩) := by
  refine OK.eq ?_
  unfold impl_PicRead
  rw [in_eq, Option.bind_some]
  refine OK.cond (fun hc => by simp only [decide_eq_true_eq] at hc; omega) (fun _ => OK.mk rfl)
theorem sRead_bad {d : List Int} (h : d.length < 8 ∨ d.length > 20008) : spec_PicRead d = some ([], ⟨4, 0⟩) := by
  refine OK.eq ?_
  unfold spec_PicRead
  refine OK.cond (fun _ => OK.mk rfl) (fun hc => ?_)
  refine OK.cond (fun _ => OK.mk rfl) (fun hc2 => ?_)
  simp only [decide_eq_false_iff_not] at hc hc2; omega
end Go.AM
