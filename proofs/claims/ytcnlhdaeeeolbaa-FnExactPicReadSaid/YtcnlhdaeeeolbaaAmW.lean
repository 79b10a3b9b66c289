/- From a contract to the row of a law over slices of bytes. Conditions: none. -/
import Derived.Test.YtcnlhdaeeeolbaaAmT
import Derived.Below
import Derived.SizedLaws
import Derived.ChangeSlices
import Derived.SliceStrings
import Derived.FnData
set_option linter.unusedSimpArgs false
set_option linter.unusedVariables false
namespace Go.AM
open Go Go.RowKit

/-- Whole numbers as bytes' cells. -/
def u8s (zs : List Int) : List (List AV) := zs.map fun z => [.sc (.int .u8 z)]

theorem u8s_mem {l : List Int} {r : List AV} (h : r ∈ u8s l) : ∃ z, r = [.sc (.int .u8 z)] := by
  obtain ⟨z, _, e⟩ := List.mem_map.1 h
  exact ⟨z, e.symm⟩

def IsRow8 (w : World) (a : Option Addr) (len cap : Nat) (zs : List Int) : Prop :=
  (a = none ∧ len = 0 ∧ cap = 0 ∧ zs = []) ∨
  ∃ x, a = some x ∧ len ≤ cap ∧ cap ≤ maxLen ∧ zs.length = cap ∧ (∀ i, i < zs.length → w.cell? (x.add i) = some (.int .u8 (zs.getD i 0))) ∧ ∀ n ∈ zs, (Lit.int .u8 n).wf = true

theorem IsRow8.rep {w : World} {a : Option Addr} {len cap : Nat} {zs : List Int} (h : IsRow8 w a len cap zs) :
    RepP (fun b o => w.cell? ⟨b, o, none⟩) (.fz 1 (u8s (zs.take len))) (.slice a len cap) ∧ (zs.take len).length = len ∧ ∀ n ∈ zs.take len, 0 ≤ n ∧ n < 256 := by
  rcases h with ⟨rfl, rfl, rfl, rfl⟩ | ⟨x, rfl, hl, _, hz, hc, hw⟩
  · exact ⟨.nil, rfl, fun n hn => by simp at hn⟩
  · have hlen : (zs.take len).length = len := by simp; omega
    refine ⟨?_, hlen, fun n hn => ?_⟩
    · rcases Nat.eq_zero_or_pos len with rfl | hpos
      · exact .nil
      · have h0 := hc 0 (by omega)
        obtain ⟨b, o, s⟩ := x
        have hs : s = none := by
          simp only [Addr.add, if_true] at h0
          unfold World.cell? at h0
          split at h0
          · split at h0
            · cases h0
            · rename_i h; cases s with
              | none => rfl
              | some _ => simp at h
          · cases h0
        subst hs
        have key : RepP (fun b o => w.cell? ⟨b, o, none⟩) (.fz 1 (u8s (zs.take len))) (.slice (some ⟨b, o, none⟩) (u8s (zs.take len)).length cap) := by
          refine .fz (fun i _ => .int .u8 (zs.getD i 0)) (by simp [u8s]; omega) (by intro r hr; obtain ⟨z, rfl⟩ := u8s_mem hr; rfl) ?_ ?_
          · intro i k r y hr hy
            have hi : i < len := by
              have := (List.getElem?_eq_some_iff.1 hr).1
              simp [u8s] at this; omega
            have hk : k = 0 := by
              have e : r.length = 1 := by
                obtain ⟨z, rfl⟩ := u8s_mem (List.mem_of_getElem? hr); rfl
              have := (List.getElem?_eq_some_iff.1 hy).1
              omega
            subst hk
            have := hc i (by omega)
            simp only [Nat.mul_one, Nat.add_zero]
            rw [← this]
            cases i with
            | zero => rfl
            | succ i => simp [Addr.add]
          · intro i k r y hr hy
            have hi : i < zs.length := by
              have := (List.getElem?_eq_some_iff.1 hr).1
              simp [u8s] at this; omega
            have e : r = [.sc (.int .u8 (zs.getD i 0))] := by
              simp only [u8s, List.getElem?_map, List.getElem?_take] at hr
              split at hr
              · simp [hi] at hr
                simp [List.getD, hi, ← hr]
              · simp at hr
            subst e
            have hk : k = 0 := by
              have := (List.getElem?_eq_some_iff.1 hy).1
              simp at this; omega
            subst hk
            simp at hy
            subst hy
            exact .sc rfl
        have e : (u8s (zs.take len)).length = len := by simp only [u8s, List.length_map]; exact hlen
        rw [e] at key
        exact key
    · have := hw n (List.mem_of_mem_take hn)
      simp [Lit.wf, IntKind.min, IntKind.max, IntKind.signed, IntKind.bits] at this
      omega

/-- A law's function, called. -/
theorem calls_lawG {P : Program} {c : Cx} {f : Nat} {vs : List AV} (h : Con P c f vs [] (fun x σ' => x = .sc (.bool true) ∧ σ' = [])) (W : World) (hG : ∀ n, GOk (fun b o => W.cell? ⟨b, o, none⟩) (c.G n) n) (vals : Array Value) (hs : vals.size = vs.length) (hbd : ∀ fn, P.funcs[f]? = some fn → fn.body.isNone = false)
    (hv : ∀ (i : Nat) y, vs[i]? = some y → (∃ s xs, y = .fz s xs) ∧ ∃ u, vals[i]? = some u ∧ RepP (fun b o => W.cell? ⟨b, o, none⟩) y u) : Calls P f vals W fun e w' => e = .returned (.bool true) ∧ Below W.heap.size W w' := by
  obtain ⟨⟨fn, hfn⟩, h2⟩ := h
  let X : Ctx := ⟨W, fun b => b < W.heap.size, fun _ => False, fn.ntmps, [], fun _ => []⟩
  have hno : ∀ L, ¬ own ([] : List AO) L := fun L hL => by simp [own, isOwn] at hL
  have hrd : rdF X [] X.g0 W = fun b o => W.cell? ⟨b, o, none⟩ := by
    funext b o
    unfold rdF
    rw [if_pos]
    refine ⟨?_, fun ⟨L, hL, _⟩ => hno L hL⟩
    rcases Nat.lt_or_ge b W.heap.size with hb | hb
    · exact .inl hb
    · exact .inr (.inr hb)
  have hS : SRel X [] X.g0 X.W := ⟨rfl, rfl, rfl, Nat.le_refl _, fun _ _ _ => rfl, fun L hL => absurd hL (hno L), fun L _ hL => absurd hL (hno L), fun L => by simp [OOk]⟩
  have hcalls : ∀ R, CallsX P f vals W R → Calls P f vals W R := fun R ⟨fn', q1, _, q3⟩ => by
    rcases q3 with q3 | q3
    · exact q3.2
    · rw [hbd fn' q1] at q3; exact absurd q3.1 (by simp)
  refine hcalls _ ((h2 X vals ⟨fun b hb => ⟨hb, id⟩, fun b hb => hb.elim⟩ rfl (fun fn' h' => by rw [hfn] at h'; cases h'; rfl) hS (fun n => by show GOk (rdF X [] X.g0 W) (c.G n) n; rw [hrd]; exact hG n) hs ?_).mono ?_)
  · intro i y hy
    obtain ⟨⟨s, xs, rfl⟩, u, hu, hr⟩ := hv i y hy
    refine ⟨u, hu, ?_⟩
    show RepP (rdF X [] X.g0 W) (.fz s xs) u
    rw [hrd]; exact hr
  · rintro e w' ⟨v, x, σ', g', rfl, ⟨rfl, rfl⟩, hS', _, hr⟩
    have : v = .bool true := hr
    subst this
    exact ⟨rfl, hS'.sys, hS'.tape, hS'.output, hS'.size, fun k hk => hS'.same k hk id⟩

theorem calls_law {P : Program} {c : Cx} {f : Nat} {vs : List AV} (h : Con P c f vs [] (fun x σ' => x = .sc (.bool true) ∧ σ' = [])) (hG : ∀ n, c.G n = .junk) (W : World) (vals : Array Value) (hs : vals.size = vs.length) (hbd : ∀ fn, P.funcs[f]? = some fn → fn.body.isNone = false)
    (hv : ∀ (i : Nat) y, vs[i]? = some y → (∃ s xs, y = .fz s xs) ∧ ∃ u, vals[i]? = some u ∧ RepP (fun b o => W.cell? ⟨b, o, none⟩) y u) : Calls P f vals W fun e w' => e = .returned (.bool true) ∧ Below W.heap.size W w' :=
  calls_lawG h W (fun n => by rw [hG]; trivial) vals hs hbd hv

/-- A slice of values that stand in one cell each. -/
theorem rep_row {W : World} {x : Addr} {len cap : Nat} {xs : List Value} (hc : len ≤ cap) (hl : xs.length = len) (h1 : ∀ v ∈ xs, v.oneCell' = true) (h : ∀ i v, xs[i]? = some v → W.cell? (x.add i) = some v) :
    RepP (fun b o => W.cell? ⟨b, o, none⟩) (.fz 1 (xs.map fun v => [.sc v])) (.slice (some x) len cap) := by
  subst hl
  rcases xs with _ | ⟨v, vs⟩
  · exact .nil
  · have h0 := h 0 v rfl
    obtain ⟨b, o, s⟩ := x
    have hs : s = none := by
      simp only [Addr.add, if_true] at h0
      unfold World.cell? at h0
      split at h0
      · split at h0
        · cases h0
        · rename_i h; cases s with
          | none => rfl
          | some _ => simp at h
      · cases h0
    subst hs
    generalize hxs : v :: vs = xs at *
    have key : Row (fun b o => W.cell? ⟨b, o, none⟩) b o 1 (xs.map fun v => [AV.sc v]) := by
      refine ⟨fun r hr => ?_, fun i k r y hr hy => ?_⟩
      · obtain ⟨z, _, rfl⟩ := List.mem_map.1 hr; rfl
      · simp only [List.getElem?_map, Option.map_eq_some_iff] at hr
        obtain ⟨z, hz, rfl⟩ := hr
        rcases k with _ | k
        · simp at hy
          subst hy
          refine ⟨z, ?_, .sc (h1 z (List.mem_of_getElem? hz))⟩
          have := h i z hz
          simp only [Nat.mul_one, Nat.add_zero]
          rw [← this]
          cases i with
          | zero => rfl
          | succ i => simp [Addr.add]
        · simp at hy
    have := RepP.of_row (c := cap) key (by simpa using hc)
    simpa using this

def intOf : DataW Unit → Int
  | .lit (.int _ n) => n
  | _ => 0
def strOf1 : DataW Unit → ByteArray
  | .lit (.string bs) => ⟨bs.toArray⟩
  | _ => ByteArray.empty

/-- A package variable, a slice of whole numbers, laid. -/
theorem laid_ints {P : Program} {W : World} {t e : TypeId} {k : IntKind} {fuel : Nat} {cs : List Value} {d : DataW Unit} {p : List MemPlace} (ht : P.underlying t = some (.slice e)) (he : P.underlying e = some (.int k)) (hc : P.cellsOf e = 1)
    (h : DataW.trod (fun _ => ()) P W 0 (fun _ => true) false fuel t cs = some (d, p)) (zs0 : List Int) (hd : d = .slice (zs0.map fun z => .lit (.int k z)) []) :
    ∃ v, cs = [v] ∧ RepP (fun b o => W.cell? ⟨b, o, none⟩) (.fz 1 (zs0.map fun z => [.sc (.int k z)])) v := by
  rcases Go.ChangeShapes.open_ints ht he hc h with ⟨_, hx⟩ | ⟨a, len, cap, zs, rfl, _, hl, _, hz, hx, hcell, hwf⟩
  · subst hd; simp at hx
  · subst hd
    refine ⟨_, rfl, ?_⟩
    have hx1 := (Prod.mk.inj hx).1
    injection hx1 with e1 e2
    have e3 : zs0 = zs.take len := by
      have := congrArg (List.map intOf) e1
      simpa [Go.ChangeShapes.lits, List.map_map, Function.comp_def, intOf] using this
    have hlen : (zs.take len).length = len := by simp; split at hz <;> omega
    have := rep_row (W := W) (x := a) (len := len) (cap := cap) (xs := zs0.map fun z => Value.int k z) hl (by rw [List.length_map, e3]; exact hlen) (by intro v hv; obtain ⟨z, _, rfl⟩ := List.mem_map.1 hv; rfl) (by
      intro i v hv
      simp only [List.getElem?_map, Option.map_eq_some_iff] at hv
      obtain ⟨z, hz', rfl⟩ := hv
      rw [e3, List.getElem?_take] at hz'
      split at hz'
      · have hi := (List.getElem?_eq_some_iff.1 hz').1
        rw [hcell i hi]; simp [List.getD, hz']
      · cases hz')
    simpa [List.map_map, Function.comp_def] using this

/-- A package variable, a slice of texts, laid. -/
theorem laid_strs {P : Program} {W : World} {t e : TypeId} {fuel : Nat} {cs : List Value} {d : DataW Unit} {p : List MemPlace} (ht : P.underlying t = some (.slice e)) (he : P.underlying e = some .string) (hc : P.cellsOf e = 1)
    (h : DataW.trod (fun _ => ()) P W 0 (fun _ => true) false fuel t cs = some (d, p)) (ss0 : List ByteArray) (hd : d = .slice (ss0.map fun s => .lit (.string s.data.toList)) []) :
    ∃ v, cs = [v] ∧ RepP (fun b o => W.cell? ⟨b, o, none⟩) (.fz 1 (ss0.map fun s => [.sc (.string s)])) v := by
  rcases Go.ChangeShapes.open_strings ht he hc h with ⟨_, hx⟩ | ⟨a, len, cap, ss, rfl, _, hl, _, hz, hx, hcell, hwf⟩
  · subst hd; simp at hx
  · subst hd
    refine ⟨_, rfl, ?_⟩
    have hx1 := (Prod.mk.inj hx).1
    injection hx1 with e1 e2
    have e3 : ss0 = ss.take len := by
      have := congrArg (List.map strOf1) e1
      simpa [Go.ChangeShapes.strs, List.map_map, Function.comp_def, strOf1] using this
    have hlen : (ss.take len).length = len := by simp; split at hz <;> omega
    have := rep_row (W := W) (x := a) (len := len) (cap := cap) (xs := ss0.map fun s => Value.string s) hl (by rw [List.length_map, e3]; exact hlen) (by intro v hv; obtain ⟨z, _, rfl⟩ := List.mem_map.1 hv; rfl) (by
      intro i v hv
      simp only [List.getElem?_map, Option.map_eq_some_iff] at hv
      obtain ⟨z, hz', rfl⟩ := hv
      rw [e3, List.getElem?_take] at hz'
      split at hz'
      · have hi := (List.getElem?_eq_some_iff.1 hz').1
        rw [hcell i hi]; simp [List.getD, hz']
      · cases hz')
    simpa [List.map_map, Function.comp_def] using this

/-- A package variable of one cell. -/
theorem gok_one {P : Program} {W : World} {n : Nat} {nm : String} {cs : Array Value} {v : Value} {y : AV} (hg : P.globalNamed nm = some n) (hv : W.var? P nm = some cs) (hcs : cs.toList = [v]) (hr : RepP (fun b o => W.cell? ⟨b, o, none⟩) y v) :
    GOk (fun b o => W.cell? ⟨b, o, none⟩) (.fp 1 [[y]] 0 0) n := by
  refine ⟨fun r hr => by simp at hr; subst hr; rfl, fun i k r z h1 h2 => ?_⟩
  rcases i with _ | i
  · simp at h1; subst h1
    rcases k with _ | k
    · simp at h2; subst h2
      refine ⟨v, ?_, hr⟩
      have := World.var?_cell hg hv 0
      simp only [Nat.zero_mul, Nat.add_zero, Nat.zero_add]
      rw [this]
      obtain ⟨l⟩ := cs
      simp at hcs; subst hcs; rfl
    · simp at h2
  · simp at h1

/-- A package variable, a slice, reads behind the call as ahead of it. -/
theorem var_stays {H : Type} {enc : TypeId × Value → H} {P : Program} (hl : laidOutB P = true) {W W' : World} (bel : Below W.heap.size W W') {n : String} {g : Nat} {t e : TypeId} {cs : Array Value} {f : Nat} {d : DataW H} {p : List MemPlace}
    (hg : P.globalNamed n = some g) (hv : W.var? P n = some cs) (hu : P.underlying t = some (.slice e)) (hr : P.readableRec t = true) (ht : t < P.types.size) (h : DataW.trod enc P W 0 (fun _ => true) true f t cs.toList = some (d, p)) :
    W'.var? P n = some cs ∧ ∃ f', DataW.trod enc P W' 0 (fun b => decide (b < W.heap.size)) true f' t cs.toList = some (d, p) := by
  constructor
  · unfold World.var? at hv ⊢
    rw [hg] at hv ⊢
    simp only [Option.bind_some] at hv ⊢
    have hlt : g < W.heap.size := by
      rcases Nat.lt_or_ge g W.heap.size with h1 | h1
      · exact h1
      · rw [Array.getElem?_eq_none h1] at hv; cases hv
    rw [bel.block g hlt]; exact hv
  · obtain ⟨v, hcs⟩ : ∃ v : Value, cs.toList = v.cells.toList := by
      rcases DataW.trod_slice hu h with ⟨h0, _⟩ | ⟨a, len, cap, _, _, _, _, h0, _⟩
      · exact ⟨.slice none 0 0, h0⟩
      · exact ⟨.slice (some a) len cap, h0⟩
    have lt := DataW.trod_lt f _ _ _ h
    rw [hcs] at h ⊢
    exact Below.trod hl hr ht ⟨f, h⟩ bel lt

/-- A slice of bytes is no longer than its weight allows. -/
theorem sized8 {H : Type} {enc : TypeId × Value → H} {P : Program} {W : World} {base : Nat} {spare : Nat → Bool} {held : Bool} {t e : TypeId} {a : Option Addr} {len cap : Nat} {d : DataW H} {ps : List MemPlace} {ts : List TypeId} {ds : List (DataW H)} {j : Nat}
    (hsz : (DataW.weightsEach P ts ds).all (· ≤ reachBytes) = true) (ht : ts[j]? = some t) (hd : ds[j]? = some d) (hu : P.underlying t = some (.slice e)) (he : P.underlying e = some (.int .u8)) (hc : P.cellsOf e = 1) (hB : P.bytesOf e = 1)
    (h : DataW.Trod enc P W base spare held t (.slice a len cap) d ps) : len ≤ 140737488351232 := by
  obtain ⟨fuel, hf⟩ := h
  rcases Go.ChangeShapes.open_ints hu he hc hf with ⟨hcs, _⟩ | ⟨x, l, c, zs, hcs, _, hl, _, hz, hx, _, _⟩
  · simp [Value.cells] at hcs
    omega
  · simp [Value.cells] at hcs
    obtain ⟨rfl, rfl, rfl⟩ := hcs
    obtain ⟨hx, _⟩ := Prod.mk.inj hx
    subst hx
    have z := sized_slice hsz ht hd hu
    rw [hB] at z
    have hl2 : len ≤ zs.length := by
      rw [hz]; split
      · exact hl
      · exact Nat.le_refl _
    have h1 : (Go.ChangeShapes.lits (H := H) .u8 (zs.take len)).length = len := by simp [Go.ChangeShapes.lits]; omega
    have h2 : reachBytes = 140737488351232 := rfl
    omega
end Go.AM
