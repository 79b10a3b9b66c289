/- FnPicHex: what it computes answers so. Conditions: none. -/
import Derived.Test.YtkafcijfljjlaaaAmPuM
set_option linter.unusedSimpArgs false
set_option linter.unusedVariables false
namespace Go.AM
open Go
def hxd (n : Int) : Int := bat (ByteArray.mk #[48, 49, 50, 51, 52, 53, 54, 55, 56, 57, 97, 98, 99, 100, 101, 102]) n
def hxv (c : Int) : Int := firstIdx (ByteArray.mk #[48, 49, 50, 51, 52, 53, 54, 55, 56, 57, 97, 98, 99, 100, 101, 102]) c.toNat.toUInt8
def hexL : List Int → List Int
  | [] => []
  | b :: r => hxd (b / 16) :: hxd (b % 16) :: hexL r
def unhex : List Int → Option (List Int)
  | a :: b :: r => if hxv a < 0 ∨ hxv b < 0 then none else (unhex r).map fun l => (hxv a * 16 + hxv b) :: l
  | [] => some []
  | [_] => none
theorem hex_c : ∀ c : Fin 256, (-1 ≤ hxv c.val ∧ hxv c.val ≤ 15) ∧ (0 ≤ hxv c.val → hxd (hxv c.val) = c.val) ∧ spec_l17Digit c.val = some (hxv c.val) ∧ band .u8 c.val 15 = c.val % 16 := by decide +kernel
theorem hex_n : ∀ n : Fin 16, hxv (hxd n.val) = n.val ∧ 0 ≤ hxd n.val ∧ hxd n.val < 256 := by decide +kernel
theorem hex_cI {c : Int} (h0 : 0 ≤ c) (h1 : c < 256) : (-1 ≤ hxv c ∧ hxv c ≤ 15) ∧ (0 ≤ hxv c → hxd (hxv c) = c) ∧ spec_l17Digit c = some (hxv c) ∧ band .u8 c 15 = c % 16 := by
  have := hex_c ⟨c.toNat, by omega⟩
  have e : ((c.toNat : Nat) : Int) = c := by omega
  simpa only [e] using this
theorem hex_nI {n : Int} (h0 : 0 ≤ n) (h1 : n < 16) : hxv (hxd n) = n ∧ 0 ≤ hxd n ∧ hxd n < 256 := by
  have := hex_n ⟨n.toNat, by omega⟩
  have e : ((n.toNat : Nat) : Int) = n := by omega
  simpa only [e] using this
theorem hexL_len (l : List Int) : (hexL l).length = 2 * l.length := by
  induction l with
  | nil => rfl
  | cons b l ih => simp [hexL, ih]; omega
theorem hexL_app (l m : List Int) : hexL (l ++ m) = hexL l ++ hexL m := by
  induction l with
  | nil => rfl
  | cons b l ih => simp [hexL, ih]
theorem hexL_by8 {l : List Int} (h : by8 l) : by8 (hexL l) := by
  induction l with
  | nil => exact fun y hy => by cases hy
  | cons b l ih =>
    have hb := h b (.head _)
    intro y hy
    simp only [hexL, List.mem_cons] at hy
    rcases hy with rfl | rfl | hy
    · exact (hex_nI (by omega) (by omega)).2
    · exact (hex_nI (by omega) (by omega)).2
    · exact ih (fun z hz => h z (.tail _ hz)) y hy
theorem unhex_hexL {l : List Int} (h : by8 l) : unhex (hexL l) = some l := by
  induction l with
  | nil => rfl
  | cons b l ih =>
    have hb := h b (.head _)
    have e1 := (hex_nI (n := b / 16) (by omega) (by omega)).1
    have e2 := (hex_nI (n := b % 16) (by omega) (by omega)).1
    simp only [hexL, unhex, e1, e2, ih (fun z hz => h z (.tail _ hz)), Option.map_some]
    rw [if_neg (by omega)]
    have : b / 16 * 16 + b % 16 = b := by omega
    rw [this]
theorem hexL_unhex : ∀ {t : List Int}, by8 t → ∀ {l : List Int}, unhex t = some l → hexL l = t ∧ by8 l ∧ t.length = 2 * l.length
  | [], _, l, h => by simp [unhex] at h; subst h; exact ⟨rfl, fun y hy => (by cases hy), rfl⟩
  | [_], _, l, h => by simp [unhex] at h
  | a :: b :: r, ht, l, h => by
    simp only [unhex] at h
    split at h
    · cases h
    · rename_i hn
      cases hr : unhex r with
      | none => rw [hr] at h; cases h
      | some m =>
        rw [hr] at h
        simp only [Option.map_some, Option.some.injEq] at h
        subst h
        obtain ⟨q1, q2, q3⟩ := hexL_unhex (fun y hy => ht y (.tail _ (.tail _ hy))) hr
        obtain ⟨⟨a1, a2⟩, a3, _⟩ := hex_cI (ht a (.head _)).1 (ht a (.head _)).2
        obtain ⟨⟨b1, b2⟩, b3, _⟩ := hex_cI (ht b (.tail _ (.head _))).1 (ht b (.tail _ (.head _))).2
        refine ⟨?_, fun y hy => ?_, by simp [q3]; omega⟩
        · simp only [hexL, q1]
          have e1 : (hxv a * 16 + hxv b) / 16 = hxv a := by omega
          have e2 : (hxv a * 16 + hxv b) % 16 = hxv b := by omega
          rw [e1, e2, a3 (by omega), b3 (by omega)]
        · rcases List.mem_cons.1 hy with rfl | hy
          · omega
          · exact q2 y hy
/-! texts and lists -/
theorem bts_len (s : ByteArray) : (bts s).length = s.size := by unfold bts; rw [List.length_map, Array.length_toList]; rfl
theorem bts_by8 (s : ByteArray) : by8 (bts s) := fun y hy => by
  obtain ⟨b, _, rfl⟩ := List.mem_map.1 hy
  have := b.toNat_lt
  omega
theorem bstr_bts (s : ByteArray) : bstr (bts s) = s := by
  cases s with
  | mk d =>
    simp only [bstr, bts, List.map_map]
    have : (d.toList.map ((fun n : Int => UInt8.ofNat n.toNat) ∘ fun b : UInt8 => (b.toNat : Int))) = d.toList := by
      conv => rhs; rw [← List.map_id d.toList]
      exact List.map_congr_left fun b _ => by simp
    rw [this]
theorem bts_bstr {l : List Int} (h : by8 l) : bts (bstr l) = l := by
  simp only [bstr, bts, List.map_map]
  conv => rhs; rw [← List.map_id l]
  refine List.map_congr_left fun n hn => ?_
  have := h n hn
  simp [UInt8.toNat_ofNat']
  omega
theorem bat_eq (s : ByteArray) (i : Int) : bat s i = (bts s).getD i.toNat 0 := by
  simp only [bat, bts, List.getD_eq_getElem?_getD, List.getElem?_map]
  cases s.data.toList[i.toNat]? <;> rfl
theorem getD_by8 {l : List Int} (h : by8 l) (n : Nat) : 0 ≤ l.getD n 0 ∧ l.getD n 0 < 256 := by
  rw [List.getD_eq_getElem?_getD]
  cases e : l[n]? with
  | none => simp
  | some y => exact h y (List.mem_of_getElem? e)
theorem drop2 {l : List Int} {j : Nat} (h : j + 1 < l.length) : l.drop j = l.getD j 0 :: l.getD (j + 1) 0 :: l.drop (j + 2) := by
  rw [List.drop_eq_getElem_cons (by omega), List.drop_eq_getElem_cons (by omega)]
  simp [List.getD_eq_getElem?_getD, List.getElem?_eq_getElem (show j < l.length by omega), List.getElem?_eq_getElem h]
theorem take1 {l : List Int} {i : Int} (h0 : 0 ≤ i) (h1 : i < l.length) {y : Int} (hy : l.getD i.toNat default = y) : l.take (i + 1).toNat = l.take i.toNat ++ [y] := by
  have e : (i + 1).toNat = i.toNat + 1 := by omega
  have hlt : i.toNat < l.length := by omega
  rw [e, List.take_succ_eq_append_getElem hlt, ← hy, List.getD_eq_getElem?_getD, List.getElem?_eq_getElem hlt]
  rfl
/-! the program's -/
theorem hexText_ok {l : List Int} (hl : by8 l) (hlen : l.length ≤ 1000000) : OK (impl_hexText l) (fun s => s = bstr (hexL l)) := by
  unfold impl_hexText
  have e2 : IntKind.i64.wrap (2 * (l.length : Int)) = 2 * l.length := w64 (by omega) (by omega)
  refine OK.gd (by rw [e2]; exact mkOk_of (by omega) (by omega) (by omega) (by omega)) ?_
  refine OK.loop (Q := fun o => o = hexL l) (fun z : List Int × Int => 0 ≤ z.2 ∧ z.2 ≤ l.length ∧ z.1 = hexL (l.take z.2.toNat)) (fun z => (l.length - z.2).toNat) ⟨Int.le_refl _, by dsimp only; omega, rfl⟩ ?_ ?_
  · rintro ⟨o, i⟩ ⟨h1, h2, h3⟩
    dsimp only at h1 h2 h3
    simp only [impl_hexText_s9]
    refine OK.cond (fun hc => ?_) (fun hc => ?_)
    · simp only [decide_eq_true_eq] at hc
      refine OK.idx h1 hc fun y hy hyd => ?_
      obtain ⟨y0, y1⟩ := hl y hy
      obtain ⟨_, _, _, q4⟩ := hex_cI y0 y1
      have q5 : y.fdiv 16 = y / 16 := by rw [Int.fdiv_eq_ediv_of_nonneg _ (by omega)]
      rw [q4, q5]
      have hlo := hexL_len (l.take i.toNat)
      rw [← h3, List.length_take] at hlo
      refine OK.gd (by simp; omega) (OK.gd (by simp; omega) (OK.gd (apOk_of (by simp; omega) (by simp; omega)) ?_))
      have e : IntKind.i64.wrap (i + 1) = i + 1 := w64 (by omega) (by omega)
      rw [e]
      refine OK.mk ⟨⟨by dsimp only; omega, by dsimp only; omega, ?_⟩, by dsimp only; omega⟩
      dsimp only
      rw [take1 h1 hc hyd, hexL_app, ← h3]
      rfl
    · simp only [decide_eq_false_iff_not] at hc
      refine OK.mk (show o = hexL l from ?_)
      rw [h3, List.take_of_length_le (by omega)]
  · rintro o rfl
    exact OK.mk rfl
def ph (l : List Int) : ByteArray := if l.length > 20008 then ByteArray.mk #[] else bstr (hexL l)
theorem iPicHex_ok {l : List Int} (hl : by8 l) (hlen : l.length ≤ 1000000) : OK (impl_PicHex l) (fun s => s = ph l) := by
  unfold impl_PicHex
  refine OK.cond (fun hc => ?_) (fun hc => ?_)
  · simp only [decide_eq_true_eq] at hc
    exact OK.mk (by rw [ph, if_pos (by omega)])
  · simp only [decide_eq_false_iff_not] at hc
    refine OK.bind (hexText_ok hl hlen) ?_
    rintro s rfl
    exact OK.mk (by rw [ph, if_neg (by omega)])
theorem sPicHex_ok {l : List Int} (hl : by8 l) (hlen : l.length ≤ 1000000) : OK (spec_PicHex l) (fun s => s = ph l) := by
  unfold spec_PicHex
  refine OK.cond (fun hc => ?_) (fun hc => ?_)
  · simp only [decide_eq_true_eq] at hc
    exact OK.mk (by rw [ph, if_pos (by omega)])
  · simp only [decide_eq_false_iff_not] at hc
    have hph : ph l = bstr (hexL l) := by rw [ph, if_neg (by omega)]
    rw [hph]
    refine OK.loop (Q := fun o => o = hexL l) (fun z : List Int × Int => 0 ≤ z.2 ∧ z.2 ≤ l.length ∧ z.1 = hexL (l.take z.2.toNat)) (fun z => (l.length - z.2).toNat) ⟨Int.le_refl _, by dsimp only; omega, rfl⟩ ?_ ?_
    · rintro ⟨o, i⟩ ⟨h1, h2, h3⟩
      dsimp only at h1 h2 h3
      simp only [spec_PicHex_s17]
      refine OK.cond (fun hc => ?_) (fun hc => ?_)
      · simp only [decide_eq_true_eq] at hc
        refine OK.idx h1 hc fun y hy hyd => ?_
        obtain ⟨y0, y1⟩ := hl y hy
        have q5 : IntKind.u8.wrap (y.tdiv 16) = y / 16 := by rw [u8w_eq, Int.tdiv_eq_ediv_of_nonneg y0]; omega
        have q6 : y.tmod 16 = y % 16 := Int.tmod_eq_emod_of_nonneg y0
        have hlo := hexL_len (l.take i.toNat)
        rw [← h3, List.length_take] at hlo
        rw [q5, q6]
        refine OK.gd (by simp; omega) ?_
        have fin : OK (some (Sum.inl (o ++ [hxd (y / 16), hxd (y % 16)], IntKind.i64.wrap (i + 1))) : Option ((List Int × Int) ⊕ List Int)) (Sum.elim (fun a' => (0 ≤ a'.2 ∧ a'.2 ≤ l.length ∧ a'.1 = hexL (l.take a'.2.toNat)) ∧ (l.length - a'.2).toNat < (l.length - i).toNat) (fun o => o = hexL l)) := by
          have e : IntKind.i64.wrap (i + 1) = i + 1 := w64 (by omega) (by omega)
          rw [e]
          refine OK.mk ⟨⟨by dsimp only; omega, by dsimp only; omega, ?_⟩, by dsimp only; omega⟩
          dsimp only
          rw [take1 h1 hc hyd, hexL_app, ← h3]
          rfl
        repeat' (first | exact fin | (refine OK.idx h1 hc fun y2 hy2 hyd2 => ?_; obtain rfl := hyd.symm.trans hyd2) | refine OK.gd (by first | (simp; omega) | exact apOk_of (by simp; omega) (by simp; omega)) ?_)
      · simp only [decide_eq_false_iff_not] at hc
        refine OK.mk (show o = hexL l from ?_)
        rw [h3, List.take_of_length_le (by omega)]
    · rintro o rfl
      exact OK.mk rfl
theorem idxB_ok (c : Int) : strings_IndexByte (ByteArray.mk #[48, 49, 50, 51, 52, 53, 54, 55, 56, 57, 97, 98, 99, 100, 101, 102]) c = some (hxv c) := rfl
theorem hexStep {v : ByteArray} {o : List Int} {i : Int} (h1 : 0 ≤ i) (hi : i + 1 < v.size) (h3 : unhex (bts v) = (unhex ((bts v).drop i.toNat)).map fun m => o ++ m) :
    (hxv (bat v i) < 0 ∨ hxv (bat v (i + 1)) < 0 → unhex (bts v) = none) ∧
    (¬ (hxv (bat v i) < 0 ∨ hxv (bat v (i + 1)) < 0) → unhex (bts v) = (unhex ((bts v).drop (i + 2).toNat)).map fun m => (o ++ [hxv (bat v i) * 16 + hxv (bat v (i + 1))]) ++ m) := by
  have hl := bts_len v
  have e1 : (i + 1).toNat = i.toNat + 1 := by omega
  have e2 : (i + 2).toNat = i.toNat + 2 := by omega
  rw [bat_eq, bat_eq, h3, drop2 (by omega), e1, e2]
  simp only [unhex]
  constructor
  · intro h; rw [if_pos h]; rfl
  · intro h
    rw [if_neg h]
    cases unhex ((bts v).drop (i.toNat + 2)) <;> simp
theorem bat_by8 (v : ByteArray) (i : Int) : 0 ≤ bat v i ∧ bat v i < 256 := by rw [bat_eq]; exact getD_by8 (bts_by8 v) _
theorem hexVal {a b : Int} (ha0 : 0 ≤ a) (ha : a < 256) (hb0 : 0 ≤ b) (hb : b < 256) (h : ¬ (hxv a < 0 ∨ hxv b < 0)) : IntKind.u8.wrap (IntKind.i64.wrap (IntKind.i64.wrap (hxv a * 16) + hxv b)) = hxv a * 16 + hxv b := by
  obtain ⟨⟨a1, a2⟩, _⟩ := hex_cI ha0 ha
  obtain ⟨⟨b1, b2⟩, _⟩ := hex_cI hb0 hb
  have e1 : IntKind.i64.wrap (hxv a * 16) = hxv a * 16 := w64 (by omega) (by omega)
  rw [e1]
  have e2 : IntKind.i64.wrap (hxv a * 16 + hxv b) = hxv a * 16 + hxv b := w64 (by omega) (by omega)
  rw [e2, u8w_eq]
  omega
theorem unhex_odd : ∀ (t : List Int), t.length % 2 = 1 → unhex t = none
  | [], h => by simp at h
  | [_], _ => rfl
  | a :: b :: r, h => by
    simp only [unhex]
    rw [unhex_odd r (by simp at h; omega)]
    split <;> rfl
def ub (v : ByteArray) : List Int × Bool := match unhex (bts v) with
  | some l => (l, true)
  | none => ([], false)
theorem hexBytes_ok {v : ByteArray} (hv : v.size ≤ 1000000) : OK (impl_hexBytes v) (fun x => x = ub v) := by
  unfold impl_hexBytes
  have hl := bts_len v
  refine OK.cond (fun hc => ?_) (fun hc => ?_)
  · refine OK.mk ?_
    simp only [bne_iff_ne, ne_eq] at hc
    rw [Int.tmod_eq_emod_of_nonneg (by omega)] at hc
    rw [ub, unhex_odd _ (by omega)]
  · have hev : (v.size : Int) % 2 = 0 := by
      have : (v.size : Int).tmod 2 = 0 := by simpa using hc
      rwa [Int.tmod_eq_emod_of_nonneg (by omega)] at this
    have e2 : IntKind.i64.wrap ((v.size : Int).tdiv 2) = v.size / 2 := by rw [Int.tdiv_eq_ediv_of_nonneg (by omega)]; exact w64 (by omega) (by omega)
    refine OK.gd (by rw [e2]; exact mkOk_of (by omega) (by omega) (by omega) (by omega)) ?_
    refine OK.loop (Q := Sum.elim (fun _ => unhex (bts v) = none) (fun o => unhex (bts v) = some o)) (fun z : List Int × Int => 0 ≤ z.2 ∧ z.2 ≤ v.size ∧ z.2 % 2 = 0 ∧ (z.1.length : Int) * 2 = z.2 ∧ unhex (bts v) = (unhex ((bts v).drop z.2.toNat)).map fun m => z.1 ++ m) (fun z => (v.size - z.2).toNat) ⟨Int.le_refl _, by dsimp only; omega, rfl, rfl, by simp⟩ ?_ ?_
    · rintro ⟨o, i⟩ ⟨h1, h2, h3, h4, h5⟩
      dsimp only at h1 h2 h3 h4 h5
      simp only [impl_hexBytes_s17]
      refine OK.cond (fun hc => ?_) (fun hc => ?_)
      · simp only [decide_eq_true_eq] at hc
        have e : IntKind.i64.wrap (i + 1) = i + 1 := w64 (by omega) (by omega)
        have e3 : IntKind.i64.wrap (i + 2) = i + 2 := w64 (by omega) (by omega)
        have hi : i + 1 < v.size := by omega
        obtain ⟨s1, s2⟩ := hexStep h1 hi h5
        rw [e, e3]
        refine OK.gd (by simp; omega) (OK.gd (by simp; omega) ?_)
        rw [idxB_ok, idxB_ok]
        refine OK.cond (fun hd => ?_) (fun hd => ?_)
        · exact OK.mk (s1 (by simpa using hd))
        · have hd2 : ¬ (hxv (bat v i) < 0 ∨ hxv (bat v (i + 1)) < 0) := by simpa using hd
          rw [hexVal (bat_by8 _ _).1 (bat_by8 _ _).2 (bat_by8 _ _).1 (bat_by8 _ _).2 hd2]
          refine OK.gd (apOk_of (by simp; omega) (by simp; omega)) (OK.mk ⟨⟨by dsimp only; omega, by dsimp only; omega, by dsimp only; omega, by simp; omega, s2 hd2⟩, by dsimp only; omega⟩)
      · simp only [decide_eq_false_iff_not] at hc
        refine OK.mk ?_
        rw [List.drop_of_length_le (by omega)] at h5
        simpa [unhex] using h5
    · rintro (x | o) hx
      · exact OK.mk (by rw [ub, show unhex (bts v) = none from hx])
      · exact OK.mk (by rw [ub, show unhex (bts v) = some o from hx])
theorem sPicBytes_ok {v : ByteArray} (hv : v.size ≤ 1000000) : OK (spec_PicBytes v) (fun x => x.2 = ((ub v).2 && decide ((ub v).1.length ≤ 20008))) := by
  unfold spec_PicBytes
  have hl := bts_len v
  refine OK.cond (fun hc => ?_) (fun hc => ?_)
  · refine OK.mk ?_
    simp only [Bool.or_eq_true, beq_iff_eq, decide_eq_true_eq] at hc
    rw [Int.tmod_eq_emod_of_nonneg (by omega)] at hc
    cases hu : unhex (bts v) with
    | none => simp [ub, hu]
    | some l =>
      obtain ⟨_, _, q3⟩ := hexL_unhex (bts_by8 v) hu
      simp only [ub, hu, Bool.true_and]
      symm
      rw [decide_eq_false_iff_not]
      omega
  · simp only [Bool.or_eq_false_iff, beq_eq_false_iff_ne, decide_eq_false_iff_not] at hc
    obtain ⟨hc1, hc2⟩ := hc
    rw [Int.tmod_eq_emod_of_nonneg (by omega)] at hc1
    refine OK.loop (Q := Sum.elim (fun _ => unhex (bts v) = none) (fun o => unhex (bts v) = some o)) (fun z : List Int × Int => 0 ≤ z.2 ∧ z.2 ≤ v.size ∧ z.2 % 2 = 0 ∧ (z.1.length : Int) * 2 = z.2 ∧ unhex (bts v) = (unhex ((bts v).drop z.2.toNat)).map fun m => z.1 ++ m) (fun z => (v.size - z.2).toNat) ⟨Int.le_refl _, by dsimp only; omega, rfl, rfl, by simp⟩ ?_ ?_
    · rintro ⟨o, i⟩ ⟨h1, h2, h3, h4, h5⟩
      dsimp only at h1 h2 h3 h4 h5
      simp only [spec_PicBytes_s17]
      refine OK.cond (fun hc => ?_) (fun hc => ?_)
      · simp only [decide_eq_true_eq] at hc
        have e : IntKind.i64.wrap (i + 1) = i + 1 := w64 (by omega) (by omega)
        have e3 : IntKind.i64.wrap (i + 2) = i + 2 := w64 (by omega) (by omega)
        have hi : i + 1 < v.size := by omega
        obtain ⟨s1, s2⟩ := hexStep h1 hi h5
        rw [e, e3, (hex_cI (bat_by8 v i).1 (bat_by8 v i).2).2.2.1, (hex_cI (bat_by8 v (i + 1)).1 (bat_by8 v (i + 1)).2).2.2.1]
        refine OK.gd (by simp; omega) ?_
        simp only [Option.bind_some]
        refine OK.gd (by simp; omega) ?_
        refine OK.cond (fun hd => ?_) (fun hd => ?_)
        · exact OK.mk (s1 (by simpa using hd))
        · have hd2 : ¬ (hxv (bat v i) < 0 ∨ hxv (bat v (i + 1)) < 0) := by simpa using hd
          rw [hexVal (bat_by8 _ _).1 (bat_by8 _ _).2 (bat_by8 _ _).1 (bat_by8 _ _).2 hd2]
          refine OK.gd (apOk_of (by simp; omega) (by simp; omega)) (OK.mk ⟨⟨by dsimp only; omega, by dsimp only; omega, by dsimp only; omega, by simp; omega, s2 hd2⟩, by dsimp only; omega⟩)
      · simp only [decide_eq_false_iff_not] at hc
        refine OK.mk ?_
        rw [List.drop_of_length_le (by omega)] at h5
        simpa [unhex] using h5
    · rintro (x | o) hx
      · exact OK.mk (by simp [ub, show unhex (bts v) = none from hx])
      · have hx : unhex (bts v) = some o := hx
        obtain ⟨_, _, q3⟩ := hexL_unhex (bts_by8 v) hx
        refine OK.mk ?_
        simp only [ub, hx, Bool.true_and]
        symm
        rw [decide_eq_true_eq]
        omega
theorem cloneB_ok {l : List Int} (hl : l.length ≤ 1000000) : impl_clone_byte l = some l := by
  have h1 : slices_Clone_byte_byte l = some l := by
    unfold slices_Clone_byte_byte
    refine nilq_eq ?_ (fun e => by rw [e]; rfl)
    show gd (apOk l.length 1) (some l) = some l
    rw [apOk_of (by omega) (by omega)]; rfl
  have h2 : slices_Clip_byte_byte l = some l := by
    unfold slices_Clip_byte_byte
    refine OK.eq (OK.prtH (by omega) (by omega) (OK.mk ?_))
    rw [Int.toNat_natCast, List.take_length]
  unfold impl_clone_byte
  rw [h1, Option.bind_some, h2]; rfl
def pb (v : ByteArray) : List Int × Bool := if (ub v).2 = true ∧ (ub v).1.length ≤ 20008 then ub v else ([], false)
theorem iPicBytes_ok {v : ByteArray} (hv : v.size ≤ 1000000) : OK (impl_PicBytes v) (fun x => x = pb v) := by
  unfold impl_PicBytes
  refine OK.bind (hexBytes_ok hv) ?_
  rintro _ rfl
  refine OK.cond (fun hc => ?_) (fun hc => ?_)
  · simp only [Bool.or_eq_true, Bool.not_eq_true', decide_eq_true_eq] at hc
    refine OK.mk ?_
    rw [pb, if_neg]
    rintro ⟨h1, h2⟩
    rcases hc with hc | hc
    · rw [h1] at hc; cases hc
    · omega
  · simp only [Bool.or_eq_false_iff, Bool.not_eq_false', decide_eq_false_iff_not] at hc
    rw [cloneB_ok (by omega)]
    refine OK.mk ?_
    rw [pb, if_pos ⟨hc.1, by omega⟩]
    exact Prod.ext rfl hc.1.symm
/-! the draws -/
theorem DrawPicHex_ok {l : List Int} (h : by8 l) : OK (spec_DrawPicHex l) (fun x => by8 x ∧ x.length ≤ 70000) := by
  unfold spec_DrawPicHex
  refine OK.bind (l26Open_ok h) fun r hr => ?_
  refine OK.bind (l17Image_ok hr (by omega)) ?_
  rintro ⟨b, r⟩ ⟨hb, g1⟩
  dsimp only at hb g1
  refine OK.bind (pick_ok g1 (by omega)) ?_
  rintro ⟨m, r⟩ ⟨m1, m2, m3⟩
  dsimp only at m1 m2 m3
  refine OK.cond (fun _ => ?_) (fun _ => OK.mk hb)
  refine OK.bind (pick_ok m1 (by omega)) ?_
  rintro ⟨n, r⟩ ⟨n1, n2, n3⟩
  dsimp only at n1 n2 n3
  have e : IntKind.i64.wrap (20008 + n) = 20008 + n := w64 (by omega) (by omega)
  dsimp only
  rw [e]
  refine OK.gd (mkOk_of (by omega) (Int.le_refl _) (by omega) (by omega)) (OK.mk ⟨fun y hy => ?_, by simp; omega⟩)
  rw [List.mem_replicate] at hy
  omega
theorem many_ok {n : Int} (h0 : 0 ≤ n) (h1 : n ≤ 20010) : OK (spec_l26Many (ByteArray.mk #[48, 48]) n) (fun s => s.size ≤ 100000) := by
  unfold spec_l26Many
  refine OK.loop (Q := fun s => s.size ≤ 100000) (fun z : ByteArray × Int × ByteArray => 0 ≤ z.2.1 ∧ 2 ≤ z.1.size ∧ (z.1.size : Int) * z.2.1 + z.2.2.size ≤ 40020) (fun z => z.2.1.toNat) ⟨h0, Nat.le_refl _, ?_⟩ ?_ (fun s hs => OK.mk hs)
  · show (2 : Int) * n + 0 ≤ 40020
    omega
  · rintro ⟨p, k, o⟩ ⟨k0, kp, k1⟩
    dsimp only at k0 kp k1
    simp only [spec_l26Many_s7]
    refine OK.cond (fun hc => ?_) (fun hc => ?_)
    · simp only [decide_eq_true_eq] at hc
      have hk : ∃ q r : Int, k = 2 * q + r ∧ 0 ≤ q ∧ 0 ≤ r ∧ r ≤ 1 ∧ k.tdiv 2 = q ∧ k.tmod 2 = r := ⟨k / 2, k % 2, by omega, by omega, by omega, by omega, Int.tdiv_eq_ediv_of_nonneg k0, Int.tmod_eq_emod_of_nonneg k0⟩
      obtain ⟨q, r, rfl, q0, r0, r1, e1, e2⟩ := hk
      have hp : (p.size : Int) ≤ p.size * (2 * q + r) := by
        have := Int.mul_le_mul_of_nonneg_left (show (1 : Int) ≤ 2 * q + r by omega) (show (0 : Int) ≤ p.size by omega)
        omega
      have hpk : (2 * q + r : Int) ≤ p.size * (2 * q + r) := by
        have := Int.mul_le_mul_of_nonneg_right (show (1 : Int) ≤ p.size by omega) (show (0 : Int) ≤ 2 * q + r by omega)
        omega
      have hpq : (p.size : Int) * (2 * q + r) = 2 * (p.size * q) + p.size * r := by rw [Int.mul_add, Int.mul_left_comm]
      have fin : ∀ o2 : ByteArray, 2 * ((p.size : Int) * q) + o2.size ≤ 40020 → OK (spec_l26Many_j15 p (2 * q + r) o2) (Sum.elim (fun a' => (0 ≤ a'.2.1 ∧ 2 ≤ a'.1.size ∧ (a'.1.size : Int) * a'.2.1 + a'.2.2.size ≤ 40020) ∧ a'.2.1.toNat < (2 * q + r).toNat) (fun s => s.size ≤ 100000)) := by
        intro o2 ho2
        simp only [spec_l26Many_j15, e1]
        have e : IntKind.i64.wrap q = q := w64 (by omega) (by omega)
        rw [e]
        refine OK.gd (by simp; omega) (OK.mk ⟨⟨q0, by dsimp only; rw [ByteArray.size_append]; omega, ?_⟩, by dsimp only; omega⟩)
        dsimp only
        rw [ByteArray.size_append, Int.natCast_add, Int.add_mul]
        omega
      rw [e2]
      refine OK.cond (fun hr => ?_) (fun hr => ?_)
      · simp only [beq_iff_eq] at hr
        subst hr
        refine OK.gd (by simp; omega) (fin _ ?_)
        rw [ByteArray.size_append, Int.natCast_add]
        omega
      · simp only [beq_eq_false_iff_ne] at hr
        have : r = 0 := by omega
        subst this
        exact fin _ (by omega)
    · refine OK.mk (show o.size ≤ 100000 from ?_)
      have : 0 ≤ (p.size : Int) * k := Int.mul_nonneg (by omega) k0
      omega
theorem of_ok {N : Int} {r : l26Rd} {l : List ByteArray} (h : G N r) (hN : N ≤ 1000000000000) (hl : 0 < l.length) : OK (spec_l26Rd_of r l) (fun x => x.1 ∈ l) := by
  unfold spec_l26Rd_of
  refine OK.bind (pick_ok h hN) ?_
  rintro ⟨m, r⟩ ⟨m1, m2, m3⟩
  dsimp only at m1 m2 m3
  exact OK.idx m2 (m3 (by omega)) fun x hx _ => OK.mk hx
theorem ph_size (l : List Int) : (ph l).size ≤ 40016 := by
  unfold ph
  split
  · exact Nat.zero_le _
  · have := hexL_len l
    simp only [bstr, ByteArray.size, List.size_toArray, List.length_map]
    omega
theorem DrawPicBytes_ok {l : List Int} (h : by8 l) : OK (spec_DrawPicBytes l) (fun x => x.size ≤ 200000) := by
  unfold spec_DrawPicBytes
  refine OK.bind (l26Open_ok h) fun r hr => ?_
  refine OK.bind (l17Image_ok hr (by omega)) ?_
  rintro ⟨b, r⟩ ⟨hb, g1⟩
  dsimp only at hb g1
  refine OK.bind (sPicHex_ok hb.1 (by have := hb.2; show b.length ≤ _; omega)) ?_
  rintro s rfl
  have hs := ph_size b
  refine OK.bind (pick_ok g1 (by omega)) ?_
  rintro ⟨m, r⟩ ⟨m1, m2, m3⟩
  dsimp only at m1 m2 m3
  refine OK.cond (fun _ => ?_) (fun _ => ?_)
  · refine OK.bind (of_ok m1 (by omega) (by simp)) ?_
    rintro ⟨x, r⟩ hx
    dsimp only at hx
    have hxs : x.size ≤ 2 := by
      simp only [List.mem_cons, List.not_mem_nil, or_false] at hx
      rcases hx with rfl | rfl | rfl | rfl | rfl | rfl | rfl <;> simp [ByteArray.size]
    refine OK.gd (by simp; omega) (OK.mk ?_)
    rw [ByteArray.size_append]
    dsimp only
    omega
  refine OK.cond (fun _ => ?_) (fun _ => OK.mk (by show (ph b).size ≤ _; omega))
  refine OK.bind (pick_ok m1 (by omega)) ?_
  rintro ⟨n, r⟩ ⟨n1, n2, n3⟩
  dsimp only at n1 n2 n3
  have e : IntKind.i64.wrap (20008 + n) = 20008 + n := w64 (by omega) (by omega)
  dsimp only
  rw [e]
  exact OK.bind (many_ok (by omega) (by omega)) fun s hs => OK.mk (by omega)
theorem law_PicHex {a b : List Int} (ha : by8 a) (hb : by8 b) : laws_FnPicHex a b = some true := by
  refine OK.eq ?_
  unfold laws_FnPicHex
  refine OK.cond (fun _ => OK.mk rfl) (fun _ => ?_)
  refine OK.bind (DrawPicHex_ok ha) ?_
  rintro l ⟨l1, l2⟩
  refine OK.bind (iPicHex_ok l1 (by omega)) ?_
  rintro _ rfl
  have hs := ph_size l
  refine OK.bind (iPicBytes_ok (by omega)) ?_
  rintro _ rfl
  refine OK.bind (sPicHex_ok l1 (by omega)) ?_
  rintro _ rfl
  have key : (pb (ph l)).2 = true ∧ (l.length ≤ 20008 → (pb (ph l)).1 = l) := by
    rcases Nat.lt_or_ge 20008 l.length with hq | hq
    · have e1 : ph l = ByteArray.mk #[] := by rw [ph, if_pos hq]
      have e2 : ub (ph l) = ([], true) := by rw [e1]; rfl
      have e3 : pb (ph l) = ([], true) := by rw [pb, if_pos (by rw [e2]; simp), e2]
      rw [e3]; exact ⟨rfl, fun h => by omega⟩
    · have e1 : ph l = bstr (hexL l) := by rw [ph, if_neg (by omega)]
      have e2 : ub (ph l) = (l, true) := by rw [e1, ub, bts_bstr (hexL_by8 l1), unhex_hexL l1]
      have e3 : pb (ph l) = (l, true) := by rw [pb, if_pos (by rw [e2]; exact ⟨rfl, hq⟩), e2]
      rw [e3]; exact ⟨rfl, fun _ => rfl⟩
  refine OK.cond (fun hc => ?_) (fun _ => ?_)
  · exfalso
    simp only [beq_self_eq_true, Bool.not_true, Bool.false_or, key.1, Bool.or_eq_true, Bool.and_eq_true, decide_eq_true_eq, Bool.false_eq_true, false_or] at hc
    obtain ⟨h1, h2⟩ := hc
    rw [key.2 (by omega)] at h2
    simp at h2
  refine OK.bind (DrawPicBytes_ok hb) fun v hv => ?_
  refine OK.bind (iPicBytes_ok (by omega)) ?_
  rintro _ rfl
  refine OK.bind (sPicBytes_ok (by omega)) ?_
  rintro ⟨x, f⟩ hf
  dsimp only at hf
  have e : (pb v).2 = f := by
    rw [hf, pb]
    split
    · rename_i h; rw [h.1]; simp [h.2]
    · rename_i h
      cases hu : (ub v).2 with
      | false => rfl
      | true =>
        rw [hu] at h
        simp only [true_and] at h
        simp [h]
  refine OK.cond (fun _ => ?_) (fun hc => ?_)
  · refine OK.cond (fun ht => ?_) (fun _ => OK.mk rfl)
    have hp : pb v = ub v ∧ (ub v).2 = true ∧ (ub v).1.length ≤ 20008 := by
      unfold pb at ht ⊢
      split at ht
      · rename_i h; rw [if_pos h]; exact ⟨rfl, h⟩
      · cases ht
    obtain ⟨p1, p2, p3⟩ := hp
    rw [p1]
    cases hu : unhex (bts v) with
    | none => rw [ub, hu] at p2; cases p2
    | some y =>
      have e2 : ub v = (y, true) := by rw [ub, hu]
      rw [e2] at p3 ⊢
      dsimp only at p3 ⊢
      obtain ⟨q1, q2, _⟩ := hexL_unhex (bts_by8 v) hu
      refine OK.bind (iPicHex_ok q2 (by omega)) ?_
      rintro _ rfl
      refine OK.mk ?_
      have e3 : ph y = v := by rw [ph, if_neg (by omega), q1, bstr_bts]
      rw [e3, beq_self_eq_true]
  · exfalso
    rw [e] at hc
    simp at hc
end Go.AM
