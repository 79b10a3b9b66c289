/- append, make, literals: what they do in memory is what they do here. Conditions: none. -/
import Derived.Test.YtcnlhdaeeeolbaaAmH
import Derived.Laws.Append
set_option linter.unusedSimpArgs false
set_option linter.unusedVariables false
namespace Go.AM
open Go

variable {P : Program} {c : Cx} {X : Ctx} {os : List AO} {g : Nat → List Nat} {w : World}

theorem run_app_room (t u ty e : TypeId) (i : TypeInfo) (ht : P.underlying t = some (.slice e)) (hi : P.info? e = some i) (hu : (∃ e, P.underlying u = some (.slice e)) ∨ P.underlying u = some .string)
    (base : Option Addr) (sLen sCap n : Nat) (x : Value) (news : List Value) (hn : (Builtin.lenOf x).run P w = .ok n w) (hx : (Builtin.firstCells i.size n x).run P w = .ok news.toArray w)
    (hroom : sLen + n ≤ sCap) (w' : World) (hst : (match base with | some a => storeCells (a.add (sLen * i.size)) news | none => pure () : Sem Unit).run P w = .ok () w') :
    (Builtin.append_ #[t, u] ty #[.slice base sLen sCap, x]).run P w = .ok (.slice base (sLen + n) sCap) w' := by
  cases base with
  | none =>
    simp at hst
    subst hst
    rcases hu with ⟨e', hu⟩ | hu <;> simp [Builtin.append_, run_underlying ht, run_underlying hu, sizeOf, typeInfo, hi, hn, hroom, hx]
  | some a =>
    simp only at hst
    rcases hu with ⟨e', hu⟩ | hu <;> simp [Builtin.append_, run_underlying ht, run_underlying hu, sizeOf, typeInfo, hi, hn, hroom, hx, hst]

theorem run_app_grow (t u ty e : TypeId) (i : TypeInfo) (z : Value) (ht : P.underlying t = some (.slice e)) (hi : P.info? e = some i) (hz : i.zero = some z) (hu : (∃ e, P.underlying u = some (.slice e)) ∨ P.underlying u = some .string)
    (base : Option Addr) (sLen sCap n : Nat) (x : Value) (olds news : List Value) (hold : (Builtin.firstCells i.size sLen (.slice base sLen sCap)).run P w.drew = .ok olds.toArray w.drew)
    (hn : (Builtin.lenOf x).run P w = .ok n w) (hx : (Builtin.firstCells i.size n x).run P w.drew = .ok news.toArray w.drew)
    (hg : sCap < sLen + n) (h63 : ((sLen + n : Nat) : Int) ≤ 9223372036854775807) (hfit : Builtin.nextslicecap (sLen + n) sCap * i.bytes ≤ 281474976710656) :
    (Builtin.append_ #[t, u] ty #[.slice base sLen sCap, x]).run P w =
      .ok (.slice (some ⟨w.heap.size, 0, none⟩) (sLen + n) (grownCap w (sLen + n) sCap e))
        (w.drew.alloc (.cells (olds.toArray ++ news.toArray ++ Builtin.zeroCells z.cells (grownCap w (sLen + n) sCap e - (sLen + n))) e)) := by
  have hn' : ¬ (sLen + n ≤ sCap) := by omega
  have h63' : ¬ (9223372036854775807 < ((sLen : Int) + (n : Int))) := by omega
  have h48' : ¬ (281474976710656 < Builtin.nextslicecap (sLen + n) sCap * i.bytes) := by omega
  have fin : ∀ (r : Result Value), r = .ok (.slice (some ⟨w.heap.size, 0, none⟩) (sLen + n) (grownCap w (sLen + n) sCap e))
        (w.drew.alloc (.cells (olds.toArray ++ (news.toArray ++ Builtin.zeroCells z.cells (grownCap w (sLen + n) sCap e - (sLen + n)))) e)) → r = .ok (.slice (some ⟨w.heap.size, 0, none⟩) (sLen + n) (grownCap w (sLen + n) sCap e))
        (w.drew.alloc (.cells (olds.toArray ++ news.toArray ++ Builtin.zeroCells z.cells (grownCap w (sLen + n) sCap e - (sLen + n))) e)) := fun r h => by rw [h, Array.append_assoc]
  apply fin
  rcases hu with ⟨e', hu⟩ | hu <;> simp [Builtin.append_, run_underlying ht, run_underlying hu, sizeOf, typeInfo, zeroValue, hi, hz, hn, hn', h63', h48', Question.forced, hold, hx, newRow, grownCap]


/-- What is added: its values. -/
theorem Rep_new (h : SRel X os g w) {x : AV} {v : Value} {sz : Nat} (hx : RepV (rdF X os g w) os g w x v) (hk : appNewOk os sz x) :
    ∃ news : List Value, (Builtin.lenOf v).run P w = .ok (appNew os x).length w ∧ ((appNew os x = [] ∧ news = []) ∨ RepE (rdF X os g w) sz (appNew os x) news) ∧
      ∀ w' : World, w'.heap = w.heap → (Builtin.firstCells sz (appNew os x).length v).run P w' = .ok news.toArray w' := by
  by_cases hs : ∃ s, x = .sc (.string s)
  · obtain ⟨s, rfl⟩ := hs
    obtain rfl : v = .string s := hx
    have : sz = 1 := hk
    subst this
    have hl : (strElems s).length = s.size := by simp [strElems]
    refine ⟨s.data.toList.map fun b => .int .u8 (b.toNat : Int), by simp [Builtin.lenOf, appNew, hl], .inr ⟨by simp [appNew, strElems], fun y hy => ?_, fun i k y z hy hz => ?_⟩, fun w' _ => ?_⟩
    · simp only [appNew, strElems, List.mem_map] at hy
      obtain ⟨b, _, rfl⟩ := hy; rfl
    · simp only [appNew, strElems, List.getElem?_map] at hy
      cases hb : s.data.toList[i]? with
      | none => simp [hb] at hy
      | some b =>
        simp only [hb, Option.map_some, Option.some.injEq] at hy
        subst hy
        cases k with
        | succ k => simp at hz
        | zero =>
          simp at hz; subst hz
          exact ⟨_, by simp only [Nat.mul_one, Nat.add_zero, List.getElem?_map, hb, Option.map_some], .sc rfl⟩
    · simp only [appNew, hl]
      simp only [Builtin.firstCells, Sem.run_pure]
      congr 1
      have e1 : s.extract 0 s.size = s := by
        simp
      rw [e1]
      apply Array.ext'
      simp
  · have hlen : lenOk os x := by
      unfold appNewOk at hk
      split at hk
      · exact absurd ⟨_, rfl⟩ hs
      · trivial
      · trivial
      · rename_i L off n
        split at hk
        · rename_i b s xs hL; simp only [lenOk, hL]
        · exact hk.elim
      · exact hk.elim
    obtain ⟨a, cap, vs, rfl, h1, h2, h3, h4⟩ := Rep_elems h hx hlen (fun s e => hs ⟨s, e⟩) (fun L off n s xs op e hL => by subst e; simp [appNewOk, hL] at hk)
    have hn : appNew os x = elems os x := by
      unfold appNew
      split
      · exact absurd ⟨_, rfl⟩ hs
      · rfl
    rw [hn, h2]
    have he : elems os x = [] ∨ esz os x = sz := by
      unfold appNewOk at hk
      split at hk
      · exact absurd ⟨_, rfl⟩ hs
      · exact .inl rfl
      · rcases hk with rfl | rfl
        · exact .inr rfl
        · exact .inl rfl
      · rename_i L off n
        split at hk
        · rename_i b s xs hL; subst hk; exact .inr (by simp [esz, hL])
        · exact hk.elim
      · exact hk.elim
    have h3' : (elems os x = [] ∧ vs = []) ∨ RepE (rdF X os g w) sz (elems os x) vs := by
      rcases h3 with h3 | h3
      · exact .inl h3
      · rcases he with e | e
        · have := h3.1; rw [e] at this; exact .inl ⟨e, List.eq_nil_of_length_eq_zero (by simpa using this)⟩
        · rw [e] at h3; exact .inr h3
    have hvl : vs.length = lenA x * sz := by
      rcases h3' with ⟨e1, e2⟩ | h3'
      · rw [e2]; rw [e1] at h2; simp at h2; simp [← h2]
      · rw [h3'.1, h2]
    refine ⟨vs, by simp [Builtin.lenOf], h3', fun w' hw => ?_⟩
    rcases h4 with rfl | ⟨b, o, rfl, h4⟩
    · cases a with
      | none => simp [Builtin.firstCells]
      | some ad =>
        simp only [Builtin.firstCells]
        have : lenA x * sz = 0 := by simpa using hvl.symm
        rw [this]
        simp [loadCells, loadCellsFrom]
    · exact run_firstCells_some w' sz (lenA x) ⟨b, o, none⟩ (lenA x) cap vs hvl fun j u hu => by rw [addr_add, cell_heap (w := w) (w' := w') (by rw [hw])]; exact h4 j u hu

end Go.AM
