/- What is known of a program's types, read off the program. Conditions: none. -/
import Derived.Test.YtcnlhdaeeeolbaaAmQ
set_option linter.unusedSimpArgs false
set_option linter.unusedVariables false
namespace Go.AM
open Go

def isAggD : TypeDesc → Bool
  | .struct _ | .array _ _ => true
  | _ => false

def goodZero (i : TypeInfo) : Bool := match i.zero with
  | some z => z.cells.size == i.size && z.cells.toList.all (fun v => v.oneCell')
  | none => false

def szOf (P : Program) (t : Nat) : Nat := match P.info? t, P.underlying t with
  | some i, some _ => if goodZero i then i.size else 0
  | _, _ => 0

def kindOf (P : Program) : TypeDesc → TK
  | .int k => .int k
  | .bool => .bool
  | .string => .str
  | .float k => .flt k
  | .slice e => .slice e
  | .struct fields => match fields.toList.mapM (fun f => (P.info? f.type).map fun i => (f.offset, i.size)) with
    | some fs => .struct fs
    | none => .other
  | .array n e => match P.info? e with
    | some i => if i.size = szOf P e then .array n e else .other
    | none => .other
  | _ => .other

def sortGood (P : Program) (t : Nat) : Option AV → Bool
  | some (.sc (.int _ _)) => match P.underlying t with
    | some (.int _) => true
    | _ => false
  | some (.sc (.bool _)) => match P.underlying t with
    | some .bool => true
    | _ => false
  | _ => false

def eqGood (P : Program) (zs : List AV) (t : Nat) (d : TypeDesc) : Bool :=
  match d with
  | .struct fields => fields.size == zs.length && (List.range fields.size).all (fun i => match fields[i]? with
      | some f => f.offset == i && !(f.name == "_") && sortGood P f.type zs[i]?
      | none => false) && !P.stoodInHeld t && !P.eqGuardType P.depth t
  | _ => false

def ftysOf : TypeDesc → List Nat
  | .struct fields => fields.toList.map (·.type)
  | _ => []

def tiOf (P : Program) (t : Nat) : TI := match P.info? t, P.underlying t with
  | some i, some d => if goodZero i then
      (match i.zero with
      | some z => ⟨i.size, i.bytes, isAggD d, z.cells.toList.map AV.sc, kindOf P d, eqGood P (z.cells.toList.map AV.sc) t d, ftysOf d⟩
      | none => ⟨0, 0, false, [], .other, false, []⟩) else ⟨0, 0, false, [], .other, false, []⟩
  | _, _ => ⟨0, 0, false, [], .other, false, []⟩

theorem tiOf_sz (P : Program) (t : Nat) : (tiOf P t).sz = szOf P t := by
  unfold tiOf szOf
  cases P.info? t with
  | none => rfl
  | some i =>
    cases P.underlying t with
    | none => rfl
    | some d =>
      simp only
      split
      · rename_i h
        unfold goodZero at h
        cases hz : i.zero with
        | none => rw [hz] at h; cases h
        | some z => rfl
      · rfl

theorem sortGood_ok {P : Program} {t : Nat} {x : Option AV} (h : sortGood P t x = true) : SortOk P t x := by
  unfold sortGood at h
  split at h
  · split at h
    · exact ⟨_, by assumption⟩
    · cases h
  · split at h
    · assumption
    · cases h
  · cases h

theorem eqGood_ok {P : Program} {zs : List AV} {t : Nat} {d : TypeDesc} (h : eqGood P zs t d = true) : EqOk P zs t d := by
  unfold eqGood at h
  split at h
  · rename_i fields
    simp only [Bool.and_eq_true, Bool.not_eq_true', beq_iff_eq, List.all_eq_true, List.mem_range] at h
    obtain ⟨⟨⟨h1, h2⟩, h3⟩, h4⟩ := h
    refine ⟨h3, h4, fields, rfl, h1, fun i f hf => ?_⟩
    have hi := lt_of_heap hf
    have := h2 i hi
    rw [hf] at this
    simp only [Bool.and_eq_true, Bool.not_eq_true', beq_iff_eq] at this
    exact ⟨this.1.1, this.1.2, sortGood_ok this.2⟩
  · cases h

theorem tiOf_ok (P : Program) (t : Nat) (h : 0 < (tiOf P t).sz) : TyOk P (tiOf P) t := by
  have key : ∀ i d z, P.info? t = some i → P.underlying t = some d → goodZero i = true → i.zero = some z →
      tiOf P t = ⟨i.size, i.bytes, isAggD d, z.cells.toList.map AV.sc, kindOf P d, eqGood P (z.cells.toList.map AV.sc) t d, ftysOf d⟩ := by
    intro i d z h1 h2 h3 h4
    unfold tiOf
    rw [h1, h2]
    simp only [h3, if_true, h4]
  rw [tiOf_sz] at h
  unfold szOf at h
  cases h1 : P.info? t with
  | none => rw [h1] at h; simp at h
  | some i =>
    cases h2 : P.underlying t with
    | none => rw [h1, h2] at h; simp at h
    | some d =>
      rw [h1, h2] at h
      simp only at h
      split at h
      · rename_i h3
        have h3' := h3
        unfold goodZero at h3
        cases hz : i.zero with
        | none => rw [hz] at h3; cases h3
        | some z =>
          rw [hz] at h3
          simp only [Bool.and_eq_true, beq_iff_eq, List.all_eq_true] at h3
          have e := key i d z h1 h2 h3' hz
          refine ⟨⟨i, d, z, h1, ?_, ?_, h2, ?_, hz, ?_, ?_, fun v hv => h3.2 v hv, ?_, h3.1⟩, ?_⟩
          · rw [e]
          · rw [e]
          · rw [e]; cases d <;> rfl
          · rw [e]
          · rw [e]
            simp only
            cases d with
            | int k => rfl
            | bool => rfl
            | string => rfl
            | float k => rfl
            | slice el => rfl
            | array n el =>
              unfold kindOf
              simp only
              split
              · rename_i j hj
                split
                · rename_i hs
                  exact ⟨rfl, j, hj, by rw [hs, tiOf_sz]⟩
                · trivial
              · trivial
            | struct fields =>
              unfold kindOf
              simp only
              split
              · rename_i fs hfs; exact ⟨fields, rfl, hfs⟩
              · trivial
            | _ => trivial
          · intro he
            rw [e] at he ⊢
            exact eqGood_ok he
          · intro hne
            rw [e] at hne ⊢
            cases d with
            | struct fields => exact ⟨fields, h2, rfl⟩
            | _ => exact absurd rfl hne
      · omega

theorem prOk (P : Program) (G : Nat → AV) (h : P.follows .mixedOrders = true) : PrOk P ⟨tiOf P, G⟩ := ⟨fun t ht => tiOf_ok P t ht, h⟩

end Go.AM
