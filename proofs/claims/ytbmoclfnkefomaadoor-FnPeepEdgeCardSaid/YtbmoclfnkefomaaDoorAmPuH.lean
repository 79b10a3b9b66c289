/- What is ok: operands, contacts, coils, instructions; both packages say the same. Conditions: none. -/
import Derived.Test.YtbmoclfnkefomaaDoorAmPuG
set_option linter.unusedSimpArgs false
set_option linter.unusedVariables false
namespace Go.AM
open Go
def devSz (k : Int) : Int := if k = 1 ∨ k = 2 ∨ k = 5 ∨ k = 9 then 32 else if k = 3 then 64 else if k = 4 ∨ k = 7 ∨ k = 8 ∨ k = 10 then 16 else if k = 6 then 5 else 0
def arity (n : Int) : Int := if n = 1 ∨ n = 2 ∨ n = 21 ∨ n = 22 ∨ n = 23 ∨ n = 25 then 1 else if n = 31 ∨ n = 32 ∨ n = 33 ∨ n = 34 ∨ n = 35 then 3 else if (1 ≤ n ∧ n ≤ 10) ∨ (21 ≤ n ∧ n ≤ 37) then 2 else 0
def devOk (d : DevArg) : Bool := if d.Kind = 11 then decide (-32768 ≤ d.N) && decide (d.N ≤ 32767) && (d.P == 0)
  else if d.Kind = 12 then decide (-999999999 ≤ d.N) && decide (d.N ≤ 999999999) && decide (1 ≤ d.P) && decide (d.P ≤ 6) && ((d.P == 1) || (d.N.tmod 10 != 0))
  else if d.Kind = 13 then decide (0 ≤ d.N) && decide (d.N ≤ 3) && (d.P == 0)
  else decide (0 ≤ d.N) && decide (d.N < devSz d.Kind) && (d.P == 0)
def isBit (d : DevArg) : Bool := devOk d && (decide (d.Kind ≤ 4) || (d.Kind == 6) || (d.Kind == 7) || (d.Kind == 8))
def isWhole (d : DevArg) : Bool := devOk d && ((d.Kind == 7) || (d.Kind == 8) || (d.Kind == 9) || (d.Kind == 11))
def isReal (d : DevArg) : Bool := devOk d && ((d.Kind == 10) || (d.Kind == 12) || (d.Kind == 13))
def kind2 (d : DevArg) (k o : Int) : Bool := devOk d && ((d.Kind == k) || (d.Kind == o))
def a0 (l : List DevArg) : DevArg := l.getD 0 default
def a1 (l : List DevArg) : DevArg := l.getD 1 default
def isContact (o : Int) (l : List DevArg) : Bool := decide (1 ≤ o) && decide (o ≤ 10) && ((l.length : Int) == arity o) &&
  (if o ≤ 2 then isBit (a0 l) else if o ≤ 4 then isBit (a0 l) && devOk (a1 l) && ((a1 l).Kind == 5) else (isWhole (a0 l) && isWhole (a1 l)) || (isReal (a0 l) && isReal (a1 l)))
def calcB (o : Int) (l : List DevArg) : Bool := kind2 (a0 l) 9 10 && (if (a0 l).Kind = 9 then l.tail.all isWhole else l.tail.all isReal && !(o == 35))
def isCoil (o : Int) (l : List DevArg) : Bool := decide (21 ≤ o) && decide (o ≤ 37) && ((l.length : Int) == arity o) &&
  (if o = 21 then kind2 (a0 l) 2 3 else if o = 22 then kind2 (a0 l) 2 3 || kind2 (a0 l) 4 4 else if o = 23 then kind2 (a0 l) 2 3 || kind2 (a0 l) 4 7 || kind2 (a0 l) 8 8
  else if o = 24 then kind2 (a0 l) 2 3 && kind2 (a1 l) 5 5 else if o = 25 then kind2 (a0 l) 4 4 else if o = 26 ∨ o = 27 ∨ o = 28 then kind2 (a0 l) 7 7 && kind2 (a1 l) 11 11 && decide (0 ≤ (a1 l).N)
  else if o = 29 then kind2 (a0 l) 8 8 && kind2 (a1 l) 11 11 && decide (0 ≤ (a1 l).N) else if o = 36 then kind2 (a0 l) 10 10 && isWhole (a1 l) else if o = 37 then kind2 (a0 l) 9 9 && isReal (a1 l) else calcB o l)
def listOk (i : Inst) : Bool := decide (1 ≤ i.Code) && decide (i.Code ≤ 11) && (if i.Code ≤ 3 then isContact i.One_Op i.One_Args else if i.Code = 10 then isCoil i.One_Op i.One_Args else (i.One_Op == 0) && ((i.One_Args.length : Int) == 0))
theorem sDevSize (k : Int) : spec_DevSize k = some (devSz k) := by
  unfold spec_DevSize spec_DevSize_j7 spec_DevSize_j31 devSz
  simp only [Bool.cond_eq_ite]
  grind
theorem sDevOk (d : DevArg) : spec_DevOk d = some (devOk d) := by
  unfold spec_DevOk devOk
  simp only [Bool.cond_eq_ite, sDevSize, Option.bind_some]
  grind
theorem sBit (d : DevArg) : spec_DevIsBit d = some (isBit d) := by
  unfold spec_DevIsBit isBit; simp only [sDevOk, Option.bind_some]
theorem sWhole (d : DevArg) : spec_DevIsWhole d = some (isWhole d) := by
  unfold spec_DevIsWhole isWhole; simp only [sDevOk, Option.bind_some]
theorem sReal (d : DevArg) : spec_DevIsReal d = some (isReal d) := by
  unfold spec_DevIsReal isReal; simp only [sDevOk, Option.bind_some]
theorem sKind (d : DevArg) (k o : Int) : spec_l4Kind d k o = some (kind2 d k o) := by
  unfold spec_l4Kind kind2; simp only [sDevOk, Option.bind_some]
theorem sArity (k : Int) : spec_ElemArity k = some (arity k) := by
  unfold spec_ElemArity spec_ElemArity_j7 spec_ElemArity_j33 arity
  simp only [Bool.cond_eq_ite]
  grind (splits := 60)
theorem arity_facts (n : Int) : (1 ≤ n → n ≤ 10 → 1 ≤ arity n) ∧ (21 ≤ n → n ≤ 37 → 1 ≤ arity n) ∧ (3 ≤ n → n ≤ 10 → arity n = 2) ∧ (n = 24 → arity n = 2) ∧ (26 ≤ n → n ≤ 30 → arity n = 2) ∧ (31 ≤ n → n ≤ 35 → arity n = 3) ∧ (36 ≤ n → n ≤ 37 → arity n = 2) := by
  unfold arity; (repeat' split) <;> omega
theorem idx0 {l : List DevArg} (h : 0 < l.length) : idx l 0 = some (a0 l) := by
  unfold idx a0; simp [h]
theorem idx1 {l : List DevArg} (h : 1 < l.length) : idx l 1 = some (a1 l) := by
  have : (1 : Int) < l.length := by omega
  unfold idx a1; simp [this]
theorem sContact (e : Elem) : spec_ElemIsContact e = some (isContact e.Op e.Args) := by
  obtain ⟨o, l⟩ := e
  unfold spec_ElemIsContact isContact
  simp only [sArity, Option.bind_some, sBit, sWhole, sReal, sDevOk]
  obtain ⟨f1, _, f3, _⟩ := arity_facts o
  by_cases h1 : o < 1
  · have : ¬ 1 ≤ o := by omega
    simp [h1, this]
  by_cases h2 : o > 10
  · have : ¬ o ≤ 10 := by omega
    simp [h1, h2, this]
  by_cases h3 : (l.length : Int) = arity o
  · have g1 : 1 ≤ o := by omega
    have g2 : o ≤ 10 := by omega
    have i0 := idx0 (l := l) (by have := f1 g1 g2; omega)
    by_cases h4 : o ≤ 2
    · simp [h1, h2, h3, h4, g1, g2, i0]
    · have i1 := idx1 (l := l) (by have := f3 (by omega) g2; omega)
      simp only [h1, h2, h3, h4, g1, g2, i0, i1, decide_true, decide_false, cond_false, bne_self_eq_false, Option.bind_some, Bool.true_and, beq_self_eq_true, if_false]
      by_cases h5 : o ≤ 4
      · simp only [h5, decide_true, cond_true, if_true]
        cases isBit (a0 l) <;> cases devOk (a1 l) <;> simp
      · simp only [h5, decide_false, cond_false, if_false]
        cases isWhole (a0 l) <;> cases isWhole (a1 l) <;> cases isReal (a0 l) <;> cases isReal (a1 l) <;> rfl
  · have h4 : ((l.length : Int) == arity o) = false := by simpa using h3
    simp only [h1, h2, bne, h4, decide_false, Bool.not_false, cond_true, cond_false, Bool.and_false, Bool.false_and]
/-- A search through a list: what comes of the rest from each place on. -/
theorem drop_at {α : Type} [Inhabited α] {l : List α} {i : Int} (h0 : 0 ≤ i) (h1 : i < l.length) : l.drop i.toNat = l.getD i.toNat default :: l.drop (i + 1).toNat := by
  have hn : i.toNat < l.length := by omega
  rw [List.drop_eq_getElem_cons hn, show (i + 1).toNat = i.toNat + 1 by omega]
  simp [List.getD, hn]
theorem drop_end {α : Type} (l : List α) : l.drop (l.length : Int).toNat = [] := by simp
theorem sCalc (o : Int) (l : List DevArg) (h : 0 < l.length) (hl : l.length ≤ 1000000) : spec_l4Calc ⟨o, l⟩ = some (calcB o l) := by
  unfold spec_l4Calc calcB
  simp only [idx0 h, Option.bind_some, sKind]
  cases hk : kind2 (a0 l) 9 10 with
  | false => rfl
  | true =>
    simp only [Bool.not_true, cond_false]
    have key : ∀ w : Bool, loop (spec_l4Calc_s17 ⟨o, l⟩) (w, 1) = some (if (l.drop 1).all (fun d => if w then isWhole d else isReal d) then .inr w else .inl ()) := by
      intro w
      obtain ⟨b, e, hb⟩ := loop_inv (f := spec_l4Calc_s17 ⟨o, l⟩) (fun z => z.1 = w ∧ 1 ≤ z.2 ∧ z.2 ≤ l.length ∧ (l.drop z.2.toNat).all (fun d => if w then isWhole d else isReal d) = (l.drop 1).all (fun d => if w then isWhole d else isReal d)) (fun z => (l.length - z.2).toNat)
        (fun b => b = if (l.drop 1).all (fun d => if w then isWhole d else isReal d) then .inr w else .inl ()) (by
          rintro ⟨w', i⟩ ⟨rfl, i0, i1, he⟩
          simp only [spec_l4Calc_s17]
          dsimp only at i0 i1 he
          by_cases hi : i < l.length
          · have e : IntKind.i64.wrap (i + 1) = i + 1 := w64 (by omega) (by omega)
            rw [drop_at (by omega) hi, List.all_cons] at he
            simp only [hi, decide_true, cond_true, idx_eq (show 0 ≤ i by omega) hi, Option.bind_some, sWhole, sReal, e]
            cases w'
            · simp only [cond_false, Bool.false_eq_true, if_false] at he ⊢
              cases hw : isReal (l.getD i.toNat default)
              · rw [hw, Bool.false_and] at he
                rw [← he]; exact .inr ⟨_, rfl, rfl⟩
              · rw [hw, Bool.true_and] at he
                exact .inl ⟨_, rfl, ⟨rfl, by dsimp only; omega, by dsimp only; omega, he⟩, by dsimp only; omega⟩
            · simp only [cond_true, if_true] at he ⊢
              cases hw : isWhole (l.getD i.toNat default)
              · rw [hw, Bool.false_and] at he
                rw [← he]; exact .inr ⟨_, rfl, rfl⟩
              · rw [hw, Bool.true_and] at he
                exact .inl ⟨_, rfl, ⟨rfl, by dsimp only; omega, by dsimp only; omega, he⟩, by dsimp only; omega⟩
          · have : i = l.length := by omega
            subst this
            rw [drop_end] at he
            rw [← he]
            simp) (w, 1) ⟨rfl, Int.le_refl _, by dsimp only; omega, rfl⟩
      rw [e, hb]
    rw [key]
    simp only [Option.bind_some, List.drop_one]
    by_cases h9 : (a0 l).Kind = 9
    · simp only [h9, beq_self_eq_true, if_true]
      cases hh : l.tail.all fun d => isWhole d with
      | true => simp [spec_l4Calc_j13, hh]
      | false => simp [hh]
    · have : ((a0 l).Kind == 9) = false := by simpa using h9
      simp only [this, h9, if_false, Bool.false_eq_true]
      cases hh : l.tail.all fun d => isReal d with
      | true => simp [spec_l4Calc_j13, hh]; rfl
      | false => simp [hh]
end Go.AM
