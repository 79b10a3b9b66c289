/- Several texts in one. Conditions: none. -/
import Derived.Test.YtcnlhdaeeeolbaaDoorAmB3
set_option linter.unusedSimpArgs false
set_option linter.unusedVariables false
section
/- Regions and code: the model's walk follows the abstract one; a function's contract from its code. Conditions: none. -/
namespace Go.AM
open Go

variable {P : Program} {c : Cx} {X : Ctx}

theorem ops_ok (hP : PrOk P c) (hX : X.Ok) {ops : Array Oper} (hd : ∀ (i : Nat) o, ops[i]? = some o → ∀ d, o.dst = some d → d < X.nt) {Q : Exit → Act → World → Prop} : ∀ (m n : Nat) (st : St) (g : Nat → List Nat) (a : Act) (w : World) (K : St → Prop), n + m = ops.size →
    opsA c (Con P c) ops (ops.toList.drop n) st K → Rel X c st g a w → (∀ st' g' a' w', K st' → Rel X c st' g' a' w' → Q .normal a' w') → wpOps P ops Q (List.range' n m) a w
  | 0, n, st, g, a, w, K, hn, hk, h, hQ => by
    have : ops.toList.drop n = [] := List.drop_eq_nil_of_le (by simp; omega)
    rw [this] at hk
    exact hQ st g a w hk h
  | m + 1, n, st, g, a, w, K, hn, hk, h, hQ => by
    have hlt : n < ops.size := by omega
    have hget : ops[n]? = some ops[n] := Array.getElem?_eq_getElem hlt
    have hdrop : ops.toList.drop n = ops[n] :: ops.toList.drop (n + 1) := by
      rw [List.drop_eq_getElem_cons (by simpa using hlt)]; simp
    rw [hdrop] at hk
    have ih := fun st' g' a' w' hk' h' => ops_ok hP hX hd (Q := Q) m (n + 1) st' g' a' w' K (by omega) hk' h' hQ
    have := step_ok hP hX h (hd n _ hget) hk (Q := Q) (next := wpOps P ops Q (List.range' (n + 1) m)) fun st' g' a' w' hk' h' _ => ih st' g' a' w' hk' h'
    rw [List.range'_succ]
    simp only [wpOps, hget]
    split at this
    · rename_i hw; rw [if_pos hw]; exact .inl this
    · rename_i hw; rw [if_neg hw]; exact this

/-- The blocks that nobody writes in this region. -/
def Fix (H : List Nat) (os : List AO) (g : Nat → List Nat) (w : World) (b : Nat) : Prop := b < w.heap.size ∧ ∀ L, own os L → b ∈ g L → memN H L = true

def SameFix (H : List Nat) (os : List AO) (g : Nat → List Nat) (w w1 : World) : Prop := ∀ b, Fix H os g w b → w1.heap[b]? = w.heap[b]?

theorem lt_of_heap {α : Type} {l : Array α} {b : Nat} {x : α} (h : l[b]? = some x) : b < l.size := by
  rcases Nat.lt_or_ge b l.size with h' | h'
  · exact h'
  · rw [Array.getElem?_eq_none h'] at h; cases h

theorem Left.same {H : List Nat} {os os' : List AO} {g g' : Nat → List Nat} {w w' : World} (h : Left H os g w os' g' w') : SameFix H os g w w' := by
  obtain ⟨ns, h1, h2⟩ := h
  intro b hb
  refine h1.1 b hb.1 fun L hL e => ?_
  have := hb.2 L (h2 L hL).1 e
  rw [(h2 L hL).2] at this; cases this

theorem Left.fix {H : List Nat} {os os' : List AO} {g g' : Nat → List Nat} {w w' : World} (h : Left H os g w os' g' w') {b : Nat} (hb : Fix H os g w b) : Fix H os' g' w' b := by
  have hs := h.same b hb
  have hlt : b < w'.heap.size := by
    rw [Array.getElem?_eq_getElem hb.1] at hs
    exact lt_of_heap hs
  refine ⟨hlt, fun L hL e => ?_⟩
  obtain ⟨ns, h1, h2⟩ := h
  rcases h1.2 L hL b e hb.1 with ⟨h3, h4⟩ | ⟨M, hM, h4⟩
  · exact hb.2 L h3 h4
  · have := hb.2 M (h2 M hM).1 h4
    rw [(h2 M hM).2] at this; cases this

theorem SameFix.trans {H : List Nat} {os os' : List AO} {g g' : Nat → List Nat} {w w' w1 : World} (h : Left H os g w os' g' w') (k : SameFix H os' g' w' w1) : SameFix H os g w w1 :=
  fun b hb => (k b (h.fix hb)).trans (h.same b hb)

/-- What is asked of the worlds behind an operation: nothing behind one that waits for all loads. -/
def nextS (ops : Array Oper) (i : Nat) (S : World → Prop) : World → Prop := if lastB ops i = true then fun _ => True else S

/-- Whatever order is picked from here on; behind each operation, till one that waits for all loads, 'S' holds. -/
def wpAnyL (P : Program) (ops : Array Oper) (Q : Exit → Act → World → Prop) : Nat → (World → Prop) → Array Bool → Act → World → Prop
  | 0, _, listed, a, w => Region.ready .any ops listed = [] ∧ Q .normal a w
  | fuel + 1, S, listed, a, w => (Region.ready .any ops listed = [] → Q .normal a w) ∧
    ∀ i ∈ Region.ready .any ops listed, wpOp P ops Q i (fun a' w' => (lastB ops i = false → S w') ∧ wpAnyL P ops Q fuel (nextS ops i S) (listed.setIfInBounds i true) a' w') a w

theorem wpAny_of_L {ops : Array Oper} {Q : Exit → Act → World → Prop} : ∀ (fuel : Nat) (S : World → Prop) (listed : Array Bool) (a : Act) (w : World), wpAnyL P ops Q fuel S listed a w → wpAny P .any ops Q fuel listed a w
  | 0, _, _, _, _, h => h
  | fuel + 1, _, _, _, _, h => ⟨h.1, fun i hi => wpOp_mono (fun a' w' h' => wpAny_of_L fuel _ _ a' w' h'.2) (h.2 i hi)⟩

theorem nextS_mono {ops : Array Oper} {i : Nat} {S S' : World → Prop} (hs : ∀ w, S w → S' w) (w : World) (h : nextS ops i S w) : nextS ops i S' w := by
  unfold nextS at *
  split
  · trivial
  · rename_i hn; rw [if_neg hn] at h; exact hs w h

theorem nextS_up {ops : Array Oper} {i : Nat} {S : World → Prop} (w : World) (h : S w) : nextS ops i S w := by
  unfold nextS
  split
  · trivial
  · exact h

theorem wpAnyL_mono {ops : Array Oper} {Q : Exit → Act → World → Prop} : ∀ (fuel : Nat) (S S' : World → Prop) (listed : Array Bool) (a : Act) (w : World), (∀ w, S w → S' w) → wpAnyL P ops Q fuel S listed a w → wpAnyL P ops Q fuel S' listed a w
  | 0, _, _, _, _, _, _, h => h
  | fuel + 1, S, S', listed, a, w, hs, h => ⟨h.1, fun i hi => wpOp_mono (fun a' w' h' => ⟨fun hl => hs _ (h'.1 hl), wpAnyL_mono fuel _ _ _ a' w' (nextS_mono hs) h'.2⟩) (h.2 i hi)⟩

theorem lastB_after {ops : Array Oper} {i j : Nat} {oi oj : Oper} (hi : ops[i]? = some oi) (hl : isLoad oi.op = true) (hj : ops[j]? = some oj) (h : lastB ops j = true) (hne : i ≠ j) : ∃ e ∈ oj.after, Region.binds .any e = true ∧ e.on = i := by
  simp only [lastB, hj, List.all_eq_true, List.mem_range, Bool.or_eq_true, beq_iff_eq] at h
  rcases h i (lt_of_heap hi) with (h | h) | h
  · exact absurd h hne
  · rw [hi] at h; simp [hl] at h
  · obtain ⟨e, he, hb⟩ := Array.any_eq_true'.1 h
    simp only [Bool.and_eq_true, beq_iff_eq] at hb
    exact ⟨e, he, hb.1, hb.2⟩

theorem wpAnyL_first {ops : Array Oper} {Q : Exit → Act → World → Prop} {S0 : World → Prop} {i : Nat} {oi : Oper} {v : Value} (hi : ops[i]? = some oi) (h00 : isLoad oi.op = false → ∀ w, S0 w) (hsel : ∀ (j : Nat) (o : Oper) cs b, ops[j]? = some o → o.op ≠ .select cs b)
    (hQ : ∀ c a w, Q (.panic c) (a.put oi.dst v) w → Q (.panic c) a w) : ∀ (fuel : Nat) (S : World → Prop) (listed : Array Bool) (a : Act) (w : World), (isLoad oi.op = true → ∀ w, S w → S0 w) →
      (∀ j oj, ops[j]? = some oj → j ≠ i → listed.getD j true = false → (∀ e ∈ oj.after, Region.binds .any e = true → e.on ≠ i) → oi.apart ops oj = true) →
      i ∈ Region.ready .any ops listed → YieldsIf P ops S0 oi v a → S w →
      wpAnyL P ops Q fuel S (listed.setIfInBounds i true) (a.put oi.dst v) w → wpAnyL P ops Q (fuel + 1) S listed a w := by
  intro fuel
  have key : ∀ (S : World → Prop) w, (isLoad oi.op = true → ∀ w, S w → S0 w) → S w → S0 w := fun S w h1 h2 => by
    cases hl : isLoad oi.op with
    | false => exact h00 hl w
    | true => exact h1 hl w h2
  induction fuel with
  | zero =>
    intro S listed a w h0 _ hr hy hS H
    refine ⟨fun h => (by rw [h] at hr; cases hr), fun j hj => ?_⟩
    by_cases hji : j = i
    · subst hji; exact hy.wpOp hi (key S w h0 hS) ⟨fun _ => hS, wpAnyL_mono _ _ _ _ _ _ nextS_up H⟩
    · have := ready_mono hj hji
      rw [H.1] at this
      cases this
  | succ fuel ih =>
    intro S listed a w h0 hfree hr hy hS H
    refine ⟨fun h => (by rw [h] at hr; cases hr), fun j hj => ?_⟩
    by_cases hji : j = i
    · subst hji; exact hy.wpOp hi (key S w h0 hS) ⟨fun _ => hS, wpAnyL_mono _ _ _ _ _ _ nextS_up H⟩
    · have h1 := H.2 j (ready_mono hj hji)
      obtain ⟨hjun, oj, hoj, hall⟩ := mem_ready.1 hj
      have hnot : ∀ e ∈ oj.after, Region.binds .any e = true → e.on ≠ i := fun e he hb heq => by
        have h1 := hall e he hb
        have h0 := (mem_ready.1 hr).1
        rw [heq] at h1
        rcases Nat.lt_or_ge i listed.size with h' | h'
        · simp [h'] at h0 h1; rw [h0] at h1; cases h1
        · simp [Array.getElem?_eq_none h'] at h1
      have hlast : isLoad oi.op = true → lastB ops j = false := fun hld => by
        cases hl : lastB ops j with
        | false => rfl
        | true =>
          obtain ⟨e, he, hb, hon⟩ := lastB_after hi hld hoj hl (Ne.symm hji)
          exact absurd hon (hnot e he hb)
      have h2 := wpOp_putIf hoj (hfree j oj hoj hji hjun hnot) (fun cs b => hsel i oi cs b hi) (fun cs b => hsel j oj cs b hoj) hQ hy h1
      have hfree' : ∀ k ok, ops[k]? = some ok → k ≠ i → (listed.setIfInBounds j true).getD k true = false →
          (∀ e ∈ ok.after, Region.binds .any e = true → e.on ≠ i) → oi.apart ops ok = true := fun k ok hk hki hun hno => by
        refine hfree k ok hk hki ?_ hno
        by_cases hjk : j = k
        · subst hjk; exact hjun
        · rw [getD_set_ne true hjk] at hun; exact hun
      have hn0 : isLoad oi.op = true → ∀ w, nextS ops j S w → S0 w := fun hld w hw => by
        unfold nextS at hw
        rw [if_neg (by rw [hlast hld]; simp)] at hw
        exact h0 hld w hw
      have hnS : ∀ w', (lastB ops j = false → S w') → nextS ops j S w' := fun w' hw' => by
        unfold nextS
        split
        · trivial
        · rename_i hn; exact hw' (by simpa using hn)
      refine wpOp_mono (fun a' w' h3 => ⟨h3.2.1, ih (nextS ops j S) (listed.setIfInBounds j true) a' w' hn0 hfree' (ready_mono hr (Ne.symm hji)) h3.1 (hnS w' h3.2.1) ?_⟩) h2
      rw [Array.setIfInBounds_comm _ _ hji]
      exact h3.2.2

theorem wpAnyL_take {ops : Array Oper} {Q : Exit → Act → World → Prop} {S S0 : World → Prop} {i : Nat} {oi : Oper} {v : Value} {fuel : Nat} {listed : Array Bool} {a : Act} {w : World} (hi : ops[i]? = some oi)
    (h00 : isLoad oi.op = false → ∀ w, S0 w) (h0 : isLoad oi.op = true → ∀ w, S w → S0 w)
    (hs : Region.noSelect ops = true) (hf : Region.free .any ops listed i = true) (hr : (Region.ready .any ops listed).contains i = true)
    (hQ : ∀ c a w, Q (.panic c) (a.put oi.dst v) w → Q (.panic c) a w) (hy : YieldsIf P ops S0 oi v a) (hS : S w)
    (h : wpAnyL P ops Q fuel S (listed.setIfInBounds i true) (a.put oi.dst v) w) : wpAnyL P ops Q (fuel + 1) S listed a w :=
  wpAnyL_first hi h00 (Region.noSelect_spec hs) hQ fuel S listed a w h0 (Region.free_spec hi hf) (by simpa using hr) hy hS h

theorem wpAnyL_all {ops : Array Oper} {Q : Exit → Act → World → Prop} {S : World → Prop} {rs : List Nat} {fuel : Nat} {listed : Array Bool} {a : Act} {w : World} (hr : Region.ready .any ops listed = rs) (hne : rs ≠ [])
    (h : ∀ i ∈ rs, wpOp P ops Q i (fun a' w' => (lastB ops i = false → S w') ∧ wpAnyL P ops Q fuel (nextS ops i S) (listed.setIfInBounds i true) a' w') a w) : wpAnyL P ops Q (fuel + 1) S listed a w :=
  ⟨fun h0 => absurd (hr ▸ h0) hne, hr ▸ h⟩

theorem wpAnyL_done {ops : Array Oper} {Q : Exit → Act → World → Prop} {S : World → Prop} {listed : Array Bool} {a : Act} {w : World} (hr : Region.ready .any ops listed = []) (h : Q .normal a w) : ∀ fuel, wpAnyL P ops Q fuel S listed a w
  | 0 => ⟨hr, h⟩
  | _ + 1 => ⟨fun _ => h, by rw [hr]; simp⟩

theorem wp_region_L {ops : Array Oper} {Q : Exit → Act → World → Prop} {S : World → Prop} {id : Nat} {a : Act} {w : World} (hm : P.follows .mixedOrders = true)
    (h : wpAnyL P ops Q ops.size S (Array.replicate ops.size false) a { w with drawn := w.drawn + 1 }) : (Code.region id ops true).wp P Q a w :=
  wp_region_any hm (wpAny_of_L _ _ _ _ _ h)

theorem heldA_strip {H : List Nat} {x : AV} (h : heldA H x) : allP (fun L => memN H L = true) (names (strip x)) := by
  cases x <;> exact h

theorem quietC_plain {os : List AO} {s d : TK} {et : TI} {x : AV} (h : quietC x) (hk : convOk os s d et x) : ∃ u, x = .sc u ∧ ((∃ k n, u = .int k n) ∨ ∃ s, u = .string s) := by
  unfold quietC at h
  split at h
  · exact ⟨_, rfl, .inl ⟨_, _, rfl⟩⟩
  · exact ⟨_, rfl, .inr ⟨_, rfl⟩⟩
  · obtain ⟨_, _, _, _, h5, _⟩ := hk; exact h5.elim
  · obtain ⟨_, _, _, _, h5, _⟩ := hk; exact h5.elim
  · obtain ⟨_, _, _, _, h5, _⟩ := hk; exact h5.elim
  · exact h.elim

theorem quietC_strip {x : AV} (h : quietC x) (hs : stripOk true x) : ∃ u, strip x = .sc u ∧ ((∃ k n, u = .int k n) ∨ ∃ s, u = .string s) := by
  unfold quietC at h
  split at h
  · exact ⟨_, rfl, .inl ⟨_, _, rfl⟩⟩
  · exact ⟨_, rfl, .inr ⟨_, rfl⟩⟩
  · exact ⟨_, rfl, .inl ⟨_, _, rfl⟩⟩
  · exact ⟨_, rfl, .inr ⟨_, rfl⟩⟩
  · simp [stripOk] at hs
  · exact h.elim

/-- What a load looks at stays. -/
theorem load_fix {H : List Nat} {os : List AO} {g : Nat → List Nat} {w : World} (hs : SRel X os g w) {x : AV} {b o n : Nat} (hx : RepV (rdF X os g w) os g w x (.pointer (some ⟨b, o, none⟩))) (hk : isAddr os x = true)
    (hn : 0 < n) (hl : n ≤ (rowAt os x).length) (hh : allP (fun L => memN H L = true) (names x)) : Fix H os g w b := by
  have hrd : ∀ {b' o' : Nat} {v : Value}, rdF X os g w b' o' = some v → Fix H os g w b' := fun hr => by
    rw [rdF_some] at hr
    exact ⟨cell_lt hr.2.2, fun L hL e => absurd ⟨L, hL, e⟩ hr.2.1⟩
  cases x with
  | fp s xs i k =>
    obtain ⟨b', o', e, hr⟩ := hx
    simp only [Value.pointer.injEq, Option.some.injEq, Addr.mk.injEq, and_true] at e
    obtain ⟨rfl, rfl⟩ := e
    simp only [rowAt] at hl
    have hk0 : k < (xs.getD i []).length := by simp only [List.length_drop] at hl; omega
    cases hxi : xs[i]? with
    | none => simp [List.getD, hxi] at hk0
    | some x0 =>
      have e0 : xs.getD i [] = x0 := by simp [List.getD, hxi]
      rw [e0] at hk0
      obtain ⟨v, hv, _⟩ := hr.2 i k x0 _ hxi (List.getElem?_eq_getElem hk0)
      exact hrd hv
  | pa L i k =>
    simp only [isAddr] at hk
    split at hk
    · rename_i ow s xs hL
      have hx' : RepC (rdF X os g w) os g w (.pa L i k) (.pointer (some ⟨b, o, none⟩)) := hx
      simp only [RepC, hL] at hx'
      obtain ⟨b1, hb1, hx'⟩ := hx'
      simp only [Value.pointer.injEq, Option.some.injEq, Addr.mk.injEq, and_true] at hx'
      obtain ⟨rfl, rfl⟩ := hx'
      cases ow with
      | true =>
        have how : own os L := by unfold own; rw [hL]; trivial
        exact ⟨hs.bnd L how _ (List.mem_of_mem_head? hb1), fun M hM e => hs.inj M L hM how _ e (List.mem_of_mem_head? hb1) ▸ hh.1⟩
      | false =>
        have ho := hs.obj L
        rw [hL] at ho
        simp only [rowAt, hL] at hl
        have hk0 : k < (xs.getD i []).length := by simp only [List.length_drop] at hl; omega
        cases hxi : xs[i]? with
        | none => simp [List.getD, hxi] at hk0
        | some x0 =>
          have e0 : xs.getD i [] = x0 := by simp [List.getD, hxi]
          rw [e0] at hk0
          obtain ⟨v, hv, _⟩ := (show Row _ _ _ _ _ from ho _ hb1).2 i k x0 _ hxi (List.getElem?_eq_getElem hk0)
          exact hrd hv
    · rename_i s xs op hL
      have hx' : RepC (rdF X os g w) os g w (.pa L i k) (.pointer (some ⟨b, o, none⟩)) := hx
      simp only [RepC, hL] at hx'
      obtain ⟨b1, hb1, hx'⟩ := hx'
      simp only [Value.pointer.injEq, Option.some.injEq, Addr.mk.injEq, and_true] at hx'
      obtain ⟨rfl, rfl⟩ := hx'
      have how : own os L := by unfold own; rw [hL]; trivial
      exact ⟨hs.bnd L how _ (List.mem_of_mem_head? hb1), fun M hM e => hs.inj M L hM how _ e (List.mem_of_mem_head? hb1) ▸ hh.1⟩
    · cases hk
  | clo n ps => simp [isAddr] at hk
  | pt L k =>
    simp only [isAddr] at hk
    split at hk
    · rename_i cs hL
      have hx' : RepC (rdF X os g w) os g w (.pt L k) (.pointer (some ⟨b, o, none⟩)) := hx
      simp only [RepC, hL] at hx'
      obtain ⟨b1, hb1, hx'⟩ := hx'
      simp only [Value.pointer.injEq, Option.some.injEq, Addr.mk.injEq, and_true] at hx'
      obtain ⟨rfl, rfl⟩ := hx'
      have how : own os L := by unfold own; rw [hL]; trivial
      exact ⟨hs.bnd L how _ (List.mem_of_mem_head? hb1), fun M hM e => hs.inj M L hM how _ e (List.mem_of_mem_head? hb1) ▸ hh.1⟩
    · cases hk
  | _ => cases hk

theorem zero_len (hP : PrOk P c) {t : Nat} (h : 0 < (c.T t).sz) : (c.T t).zero.length = (c.T t).sz := by
  obtain ⟨i, d, z, _, q2, _, _, _, _, q7, _, _, _, q11⟩ := (hP.ty t h).ex
  rw [← q7, List.length_map, Array.length_toList, q11, q2]

/-- A quiet operation may be taken first. -/
theorem take_ok (hP : PrOk P c) (hX : X.Ok) {st : St} {g : Nat → List Nat} {a : Act} {w : World} (h : Rel X c st g a w) {H : List Nat} {ops : Array Oper} {o : Oper} (hd : ∀ d, o.dst = some d → d < X.nt) (hp : isPure o.op = true) {K : St → Prop}
    (hh : heldOk H c st.env o.op) (hk : stepA c (Con P c) H ops o st K) :
    ∃ v st', YieldsIf P ops (fun w1 => isLoad o.op = true → SameFix H st.os g w w1) o v a ∧ K st' ∧ Rel X c st' g (a.put o.dst v) w ∧ st'.os = st.os := by
  have hpure : ∀ rA, (∀ x ∈ o.op.operands, RepV (rdF X st.os g w) st.os g w (rA x) (a.eval x)) → (∀ t x, o.op = .load t x → allP (fun L => memN H L = true) (names (rA x))) → (∀ t d x, o.op = .convert t d x → ∃ u, rA x = .sc u ∧ ((∃ k n, u = .int k n) ∨ ∃ s, u = .string s)) → pureOk c st.os rA o.op →
      ∃ v, RepV (rdF X st.os g w) st.os g w (pureA c st.os rA o.op) v ∧ ∀ w1, (isLoad o.op = true → SameFix H st.os g w w1) → (execOp a.eval o).run P w1 = .ok (.value v) w1 := by
    intro rA hr hheld hcv hk
    obtain ⟨v, hv, hrun⟩ := pure_ok hP h.srel o rA a.eval hr hp hk
    refine ⟨v, hv, fun w1 hw1 => hrun w1 fun b hb => ?_⟩
    cases hop : o.op with
    | load t x =>
      refine hw1 (by rw [hop]; rfl) b ?_
      rw [hop] at hb hk hr
      obtain ⟨off, hb⟩ := hb
      obtain ⟨q1, q2, q3⟩ := hk
      have hx := hr x (by simp [Op.operands])
      rw [hb] at hx
      exact load_fix h.srel hx q1 q2 (loadV_eq (zero_len hP q2) q2 q3).2 (hheld t x hop)
    | convert t d x =>
      rw [hop] at hb hr
      obtain ⟨off, l, cp, hb⟩ := hb
      have hx := hr x (by simp [Op.operands])
      obtain ⟨u, e1, e2⟩ := hcv t d x hop
      rw [hb, e1] at hx
      have hx : _ = u := hx
      rcases e2 with ⟨k, n, rfl⟩ | ⟨s, rfl⟩ <;> cases hx
    | _ => rw [hop] at hb; exact hb.elim
  have hheld : ∀ t x, o.op = .load t x → heldA H (ev c st.env x) := fun t x e => by rw [e] at hh; exact hh
  unfold stepA at hk
  cases hg : o.guard with
  | none =>
    rw [hg] at hk
    have hw : Region.wanted o (yielded ops a.tmps) = true := by simp [Region.wanted, hg]
    simp only [hp, if_true] at hk
    obtain ⟨k1, k2⟩ := hk
    have hl : ∀ t x, o.op = .load t x → allP (fun L => memN H L = true) (names (ev c st.env x)) := fun t x e => by
      have h1 := hheld t x e
      rw [e] at k1
      have h2 : isAddr st.os (ev c st.env x) = true := k1.1
      revert h1 h2
      cases ev c st.env x <;> intro h1 h2 <;> first | exact h1 | cases h2
    have hcv : ∀ t d x, o.op = .convert t d x → ∃ u, ev c st.env x = .sc u ∧ ((∃ k n, u = .int k n) ∨ ∃ s, u = .string s) := fun t d x e => by
      rw [e] at hh k1
      have hh : quietC (ev c st.env x) := hh
      exact quietC_plain hh k1.2.2
    obtain ⟨v, hv, hrun⟩ := hpure _ (fun x _ => h.ev x) hl hcv k1
    exact ⟨v, _, .inl ⟨hw, hrun⟩, k2, h.put o.dst hd hv, rfl⟩
  | some jw =>
    obtain ⟨j, want⟩ := jw
    rw [hg] at hk
    simp only at hk
    split at hk
    · exact hk.elim
    · rename_i gb hgb
      have hw := guardA_ok h hg hgb
      simp only [hp, if_true] at hk
      obtain ⟨k1, k2⟩ := hk
      cases gb with
      | true =>
        obtain ⟨k1, k3, k4⟩ := k1 rfl
        have hcv : ∀ t d x, o.op = .convert t d x → ∃ u, gev c st.env o.op x = .sc u ∧ ((∃ k n, u = .int k n) ∨ ∃ s, u = .string s) := fun t d x e => by
          rw [e] at hh k1 ⊢
          have : stripOk true (ev c st.env x) := by have := allP_mem k1 x (by simp [Op.operands]); exact this
          have hh : quietC (ev c st.env x) := hh
          exact quietC_strip hh this
        obtain ⟨v, hv, hrun⟩ := hpure _ (gev_ok h k1) (fun t x e => by rw [e]; exact heldA_strip (hheld t x e)) hcv k3
        exact ⟨v, _, .inl ⟨hw, hrun⟩, k2, h.put o.dst hd ⟨fun _ => hv.ofPlain k4, fun h => (by cases h)⟩, rfl⟩
      | false =>
        exact ⟨undef, _, .inr ⟨hw, rfl⟩, k2, h.put o.dst hd ⟨fun h => (by cases h), fun _ => rfl⟩, rfl⟩

theorem plan_ok (hP : PrOk P c) (hX : X.Ok) {ops : Array Oper} (hd : ∀ (i : Nat) o, ops[i]? = some o → ∀ d, o.dst = some d → d < X.nt) (hns : Region.noSelect ops = true) {H : List Nat} {Q : Exit → Act → World → Prop} (hQp : ∀ ch a w, ¬ Q (.panic ch) a w) {K : St → Prop} (hQ : ∀ st' g' a' w', K st' → Rel X c st' g' a' w' → Q .normal a' w') :
    ∀ (p : Plan) (n : Nat) (listed : Array Bool) (st : St) (g : Nat → List Nat) (a : Act) (w : World) (S : World → Prop), planOkA ops p n listed = true → planA c (Con P c) ops H p st K → Rel X c st g a w → (∀ w1, SameFix H st.os g w w1 → S w1) →
      wpAnyL P ops Q n S listed a w
  | .done, n, listed, st, g, a, w, S, hp, hk, h, hS => by
    have hr : Region.ready .any ops listed = [] := by cases n <;> simpa [planOkA] using hp
    exact wpAnyL_done hr (hQ st g a w hk h) n
  | .take i p, 0, listed, st, g, a, w, S, hp, hk, h, hS => by simp [planOkA] at hp
  | .one i p, 0, listed, st, g, a, w, S, hp, hk, h, hS => by simp [planOkA] at hp
  | .last i p, 0, listed, st, g, a, w, S, hp, hk, h, hS => by simp [planOkA] at hp
  | .two i j p q, 0, listed, st, g, a, w, S, hp, hk, h, hS => by simp [planOkA] at hp
  | .take i p, n + 1, listed, st, g, a, w, S, hp, hk, h, hS => by
    simp only [planOkA, Bool.and_eq_true] at hp
    obtain ⟨⟨⟨p1, p2⟩, p3⟩, p4⟩ := hp
    simp only [planA] at hk
    cases hi : ops[i]? with
    | none => rw [hi] at hk; exact hk.elim
    | some o =>
      rw [hi] at hk p1
      obtain ⟨k1, k2⟩ := hk
      obtain ⟨v, st', hy, hK', h', hos⟩ := take_ok hP hX h (hd i o hi) p1 k1 k2
      have ih := plan_ok hP hX hd hns hQp hQ p n (listed.setIfInBounds i true) st' g (a.put o.dst v) w (fun w1 => S w1 ∧ SameFix H st.os g w w1) p4 hK' h' (fun w1 hw1 => by rw [hos] at hw1; exact ⟨hS w1 hw1, hw1⟩)
      have hsw : S w ∧ SameFix H st.os g w w := ⟨hS w (fun _ _ => rfl), fun _ _ => rfl⟩
      have := wpAnyL_take (S := fun w1 => S w1 ∧ SameFix H st.os g w w1) (S0 := fun w1 => isLoad o.op = true → SameFix H st.os g w w1) (a := a) (w := w) hi (fun hl w1 hl' => absurd hl' (by rw [hl]; simp)) (fun _ w1 hw1 _ => hw1.2) hns p2 p3 (fun ch a w hq => absurd hq (hQp _ _ _)) hy hsw ih
      exact wpAnyL_mono _ _ _ _ _ _ (fun w1 h1 => h1.1) this
  | .one i p, n + 1, listed, st, g, a, w, S, hp, hk, h, hS => by
    simp only [planOkA, Bool.and_eq_true, beq_iff_eq] at hp
    obtain ⟨p1, p2⟩ := hp
    refine wpAnyL_all p1 (by simp) fun i' hi' => ?_
    simp only [List.mem_cons, List.not_mem_nil, or_false] at hi'
    subst hi'
    simp only [planA] at hk
    cases hi : ops[i']? with
    | none => rw [hi] at hk; exact hk.elim
    | some o =>
      rw [hi] at hk
      have := step_ok hP hX h (hd i' o hi) hk (Q := Q) (next := fun a' w' => (lastB ops i' = false → S w') ∧ wpAnyL P ops Q n (nextS ops i' S) (listed.setIfInBounds i' true) a' w') fun st' g' a' w' hk' h' hl =>
        ⟨fun _ => hS _ hl.same, plan_ok hP hX hd hns hQp hQ p n (listed.setIfInBounds i' true) st' g' a' w' (nextS ops i' S) p2 hk' h' (fun w1 hw1 => nextS_up w1 (hS w1 (SameFix.trans hl hw1)))⟩
      simp only [wpOp, hi]
      split at this
      · rename_i hw; rw [if_pos hw]; exact .inl this
      · rename_i hw; rw [if_neg hw]; exact this
  | .last i p, n + 1, listed, st, g, a, w, S, hp, hk, h, hS => by
    simp only [planOkA, Bool.and_eq_true, beq_iff_eq] at hp
    obtain ⟨⟨p1, pl⟩, p2⟩ := hp
    refine wpAnyL_all p1 (by simp) fun i' hi' => ?_
    simp only [List.mem_cons, List.not_mem_nil, or_false] at hi'
    subst hi'
    simp only [planA] at hk
    cases hi : ops[i']? with
    | none => rw [hi] at hk; exact hk.elim
    | some o =>
      rw [hi] at hk
      have := step_ok hP hX h (hd i' o hi) hk (Q := Q) (next := fun a' w' => (lastB ops i' = false → S w') ∧ wpAnyL P ops Q n (nextS ops i' S) (listed.setIfInBounds i' true) a' w') fun st' g' a' w' hk' h' hl =>
        ⟨fun hf => absurd pl (by rw [hf]; simp), plan_ok hP hX hd hns hQp hQ p n (listed.setIfInBounds i' true) st' g' a' w' (nextS ops i' S) p2 hk' h' (fun w1 hw1 => by unfold nextS; rw [if_pos pl]; trivial)⟩
      simp only [wpOp, hi]
      split at this
      · rename_i hw; rw [if_pos hw]; exact .inl this
      · rename_i hw; rw [if_neg hw]; exact this
  | .two i j p q, n + 1, listed, st, g, a, w, S, hp, hk, h, hS => by
    simp only [planOkA, Bool.and_eq_true, beq_iff_eq] at hp
    obtain ⟨⟨p1, p2⟩, p3⟩ := hp
    simp only [planA] at hk
    cases hi : ops[i]? with
    | none => rw [hi] at hk; exact hk.elim
    | some o =>
      cases hj : ops[j]? with
      | none => rw [hi, hj] at hk; exact hk.elim
      | some u =>
        rw [hi, hj] at hk
        obtain ⟨k1, k2⟩ := hk
        refine wpAnyL_all p1 (by simp) fun i' hi' => ?_
        simp only [List.mem_cons, List.not_mem_nil, or_false] at hi'
        rcases hi' with rfl | rfl
        · have := step_ok hP hX h (hd i' o hi) k1 (Q := Q) (next := fun a' w' => (lastB ops i' = false → S w') ∧ wpAnyL P ops Q n (nextS ops i' S) (listed.setIfInBounds i' true) a' w') fun st' g' a' w' hk' h' hl =>
            ⟨fun _ => hS _ hl.same, plan_ok hP hX hd hns hQp hQ p n (listed.setIfInBounds i' true) st' g' a' w' (nextS ops i' S) p2 hk' h' (fun w1 hw1 => nextS_up w1 (hS w1 (SameFix.trans hl hw1)))⟩
          simp only [wpOp, hi]
          split at this
          · rename_i hw; rw [if_pos hw]; exact .inl this
          · rename_i hw; rw [if_neg hw]; exact this
        · have := step_ok hP hX h (hd i' u hj) k2 (Q := Q) (next := fun a' w' => (lastB ops i' = false → S w') ∧ wpAnyL P ops Q n (nextS ops i' S) (listed.setIfInBounds i' true) a' w') fun st' g' a' w' hk' h' hl =>
            ⟨fun _ => hS _ hl.same, plan_ok hP hX hd hns hQp hQ q n (listed.setIfInBounds i' true) st' g' a' w' (nextS ops i' S) p3 hk' h' (fun w1 hw1 => nextS_up w1 (hS w1 (SameFix.trans hl hw1)))⟩
          simp only [wpOp, hj]
          split at this
          · rename_i hw; rw [if_pos hw]; exact .inl this
          · rename_i hw; rw [if_neg hw]; exact this

/-- The same memory, other names. -/
theorem SRel.regroup {os os' : List AO} {g g' : Nat → List Nat} {w : World} (h : SRel X os g w) (hlen : os.length ≤ os'.length) (C : Nat → Prop)
    (hC : ∀ M, ¬ C M → os'[M]? = os[M]? ∧ (os[M]? ≠ none → g' M = g M))
    (hA : ∀ M o, C M → os[M]? = some o → (∃ a, o.al = some a) ∧ (os'[M]? = some .dead ∨ ∃ o', os'[M]? = some o' ∧ o'.al = o.al ∧ (g' M).head? = (g M).head?))
    (hsub : ∀ M, own os' M → ∀ b ∈ g' M, ownB os g b) (hinj : ∀ M N, own os' M → own os' N → ∀ b, b ∈ g' M → b ∈ g' N → M = N)
    (hobj : Step X os g w os' g' w → ∀ M, C M → OOk X os' g' w M os'[M]?) : SRel X os' g' w ∧ Step X os g w os' g' w := by
  have hrd : ∀ b u v, rdF X os g w b u = some v → rdF X os' g' w b u = some v := by
    intro b u v hb
    rw [rdF_some] at hb ⊢
    exact ⟨hb.1, fun ⟨M, hM, e⟩ => hb.2.1 (hsub M hM b e), hb.2.2⟩
  have st : Step X os g w os' g' w := by
    refine ⟨hlen, ?_, ?_, ?_, ?_, ?_, hrd, fun _ => Nat.le_refl _⟩
    · intro M o1 o2 a1 a2 h1 h2 e1 e2
      rcases Classical.em (C M) with hc | hc
      · obtain ⟨_, h3 | ⟨o', h3, h4, h5⟩⟩ := hA M o1 hc h1
        · rw [h2] at h3; cases h3; cases e2
        · rw [h2] at h3; cases h3; rw [e1, e2] at h4; cases h4; exact ⟨rfl, Nat.le_refl _, h5⟩
      · obtain ⟨h3, h4⟩ := hC M hc
        rw [h1] at h3; rw [h2] at h3; cases h3; rw [e1] at e2; cases e2
        exact ⟨rfl, Nat.le_refl _, by rw [h4 (by rw [h1]; simp)]⟩
    · intro M c1 c2 h1 h2
      rcases Classical.em (C M) with hc | hc
      · obtain ⟨⟨a, ha⟩, _⟩ := hA M _ hc h1; cases ha
      · exact (hC M hc).2 (by rw [h1]; simp)
    · intro M o1 a1 c2 h1 e1 h2
      rcases Classical.em (C M) with hc | hc
      · obtain ⟨_, h3 | ⟨o', h3, h4, h5⟩⟩ := hA M o1 hc h1
        · rw [h2] at h3; cases h3
        · rw [h2] at h3; cases h3; rw [e1] at h4; cases h4
      · obtain ⟨h3, h4⟩ := hC M hc
        rw [h1] at h3; rw [h2] at h3; cases h3; cases e1
    · intro M c1 o2 a2 h1 h2 e2
      rcases Classical.em (C M) with hc | hc
      · obtain ⟨⟨a, ha⟩, _⟩ := hA M _ hc h1; cases ha
      · obtain ⟨h3, h4⟩ := hC M hc
        rw [h1] at h3; rw [h2] at h3; cases h3; cases e2
    · intro M h1
      rcases Classical.em (C M) with hc | hc
      · obtain ⟨⟨a, ha⟩, _⟩ := hA M _ hc h1; cases ha
      · rw [(hC M hc).1]; exact h1
  refine ⟨h.next st rfl rfl rfl (Nat.le_refl _) (fun _ _ _ => rfl) C (fun M hM => ⟨(hC M hM).1, (hC M hM).2, fun _ _ _ => rfl⟩) (hobj st) ?_ hinj, st⟩
  intro M hM b hb
  obtain ⟨N, hN, e⟩ := hsub M hM b hb
  exact h.bnd N hN b e

theorem RepP.toC {rd : Nat → Nat → Option Value} {os : List AO} {g : Nat → List Nat} {w : World} {y : AV} {v : Value} (h : RepP rd y v) : RepC rd os g w y v := by
  cases h with
  | sc hv => rfl
  | nil => exact RepP.nil
  | fz f hc hs h1 h2 => exact RepP.fz f hc hs h1 h2

theorem CellN.toC {rd : Nat → Nat → Option Value} {os : List AO} {g : Nat → List Nat} {w : World} {l : List Nat} {y : AV} {v : Value} (h : CellN rd X w l y v) : RepC rd os g w y v := by
  cases y with
  | own s ys => trivial
  | _ => exact RepP.toC h

theorem RepC.toP {rd : Nat → Nat → Option Value} {os : List AO} {g : Nat → List Nat} {w : World} {y : AV} {v : Value} (h : RepC rd os g w y v) (hc : cellP y) : RepP rd y v := by
  cases y with
  | sc u => obtain rfl : v = u := h; exact .sc hc
  | fz s xs => exact h
  | _ => exact hc.elim

theorem CellN.ofP {rd : Nat → Nat → Option Value} {w : World} {l : List Nat} {y : AV} {v : Value} (h : RepP rd y v) : CellN rd X w l y v := by
  cases y with
  | own s ys => cases h
  | _ => exact h

theorem ns_ok {os os' : List AO} {g : Nat → List Nat} {w : World} (h : SRel X os g w) (hn : NS1 os os') : ∃ g', SRel X os' g' w ∧ Step X os g w os' g' w := by
  cases hn with
  | mk L k s hL hs =>
    rename_i z xs
    have hown : own os L := by unfold own; rw [hL]; trivial
    have how : ∀ M, own (os.set L (.nst z (xs.map (mkRow k s)) none)) M → own os M := by
      intro M hM
      by_cases e : L = M
      · subst e; exact hown
      · unfold own at hM ⊢; rw [set_other e] at hM; exact hM
    refine ⟨g, h.regroup (by simp) (fun M => M = L) (fun M hM => ⟨set_other (Ne.symm hM), fun _ => rfl⟩) ?_ (fun M hM b hb => ⟨M, how M hM, hb⟩) (fun M N hM hN b e f => h.inj M N (how M hM) (how N hN) b e f) ?_⟩
    · rintro M o rfl e
      rw [hL] at e; cases e
      exact ⟨⟨_, rfl⟩, .inr ⟨_, set_same hL, by simp [AO.al], rfl⟩⟩
    · rintro st M rfl
      rw [set_same hL]
      have ho := h.obj M
      rw [hL] at ho
      obtain ⟨p2, ⟨p0, p1⟩ | ⟨b, p0, p1, c, t, p3, p4, p5, p6⟩⟩ := ho
      · exact ⟨p2, .inl ⟨p0, by rw [p1]; rfl, rfl⟩⟩
      refine ⟨p2, .inr ⟨b, [], fun _ _ => [], p0, p1, c, t, p3, by simpa using p4, fun x hx => ?_, fun i q x y hx hy _ => ?_, (fun j row e => by cases e), (fun i q b' hb => hb), (fun _ _ _ _ _ hb => by cases hb), by simp, (fun _ hb => by cases hb)⟩⟩
      · obtain ⟨x0, h0, rfl⟩ := List.mem_map.1 hx
        unfold mkRow
        split
        · rw [List.length_set]; exact p5 x0 h0
        · exact p5 x0 h0
      · rw [List.getElem?_map] at hx
        cases e : xs[i]? with
        | none => rw [e] at hx; cases hx
        | some x0 =>
          rw [e] at hx; cases hx
          unfold mkRow at hy
          split at hy
          · rename_i hnil
            rw [List.getElem?_set] at hy
            by_cases e2 : k = q
            · subst e2
              rw [if_pos rfl] at hy
              split at hy
              · rename_i hk
                cases hy
                have hx0 : x0[k]? = some (x0.getD k .junk) := by rw [List.getD, List.getElem?_eq_getElem hk]; rfl
                obtain ⟨v, hv, hr⟩ := p6 i k x0 _ e hx0
                rw [nil_of hnil] at hr
                cases hr
                exact ⟨_, hv, hs, .inl ⟨rfl, rfl, none, rfl⟩⟩
              · cases hy
            · rw [if_neg e2] at hy
              obtain ⟨v, hv, hr⟩ := p6 i q x0 y e hy
              exact ⟨v, hv, .ofP (hr.mono st.rd)⟩
          · obtain ⟨v, hv, hr⟩ := p6 i q x0 y e hy
            exact ⟨v, hv, .ofP (hr.mono st.rd)⟩
  | opn L i k hL hx hk =>
    rename_i z s xs ys x
    have hown : own os L := by unfold own; rw [hL]; trivial
    have hLt := lt_of_get hL
    have ho := h.obj L
    rw [hL] at ho
    obtain ⟨p2, ⟨p0, p1, _⟩ | ⟨b, nb, F, p0, p1, c, t, p3, p4, p5, p6, p7, p8, p9, p10⟩⟩ := ho
    · rw [p1] at hx; simp at hx
    have hN : (os.set L (.nst z xs (some (i, x.set k (.sl os.length 0 ys.length)))) ++ [.arr true s ys])[os.length]? = some (.arr true s ys) := by
      rw [push_get]; simp
    have hL' : (os.set L (.nst z xs (some (i, x.set k (.sl os.length 0 ys.length)))) ++ [.arr true s ys])[L]? = some (.nst z xs (some (i, x.set k (.sl os.length 0 ys.length)))) := by
      rw [push_get, if_pos (by simpa using hLt), set_same hL]
    have hM' : ∀ M, M ≠ L → M ≠ os.length → (os.set L (.nst z xs (some (i, x.set k (.sl os.length 0 ys.length)))) ++ [.arr true s ys])[M]? = os[M]? := by
      intro M h1 h2
      rw [push_get]
      by_cases e : M < os.length
      · rw [if_pos (by simpa using e), set_other (Ne.symm h1)]
      · rw [if_neg (by simpa using e), if_neg (by simpa using h2), List.getElem?_eq_none (by omega)]
    generalize hos : (os.set L (.nst z xs (some (i, x.set k (.sl os.length 0 ys.length)))) ++ [.arr true s ys]) = os' at *
    obtain ⟨v0, hv0, hcell⟩ := p6 i k x _ hx hk id
    have hne : L ≠ os.length := by omega
    have how : ∀ M, own os' M → M = L ∨ M = os.length ∨ (M ≠ L ∧ M ≠ os.length ∧ own os M) := by
      intro M hM
      by_cases e1 : M = L
      · exact .inl e1
      · by_cases e2 : M = os.length
        · exact .inr (.inl e2)
        · refine .inr (.inr ⟨e1, e2, ?_⟩)
          unfold own at hM ⊢; rw [hM' M e1 e2] at hM; exact hM
    refine ⟨updG (updG g L (b :: nb.filter fun b' => decide (b' ∉ F i k))) os.length (F i k), h.regroup (by rw [← hos]; simp) (fun M => M = L ∨ M = os.length) (fun M hM => ?_) ?_ (fun M hM b' hb' => ?_) (fun M N hM hN b' e f => ?_) ?_⟩
    · simp only [not_or] at hM
      exact ⟨hM' M hM.1 hM.2, fun _ => by rw [updG_other _ hM.2, updG_other _ hM.1]⟩
    · rintro M o (rfl | rfl) e
      · rw [hL] at e; cases e
        exact ⟨⟨_, rfl⟩, .inr ⟨_, hL', rfl, by rw [updG_other _ hne, updG_same, p0]; rfl⟩⟩
      · rw [List.getElem?_eq_none (Nat.le_refl _)] at e; cases e
    · rcases how M hM with rfl | rfl | ⟨h1, h2, h3⟩
      · rw [updG_other _ hne, updG_same] at hb'
        refine ⟨M, hown, ?_⟩
        rw [p0]
        rcases List.mem_cons.1 hb' with rfl | hb'
        · exact .head _
        · exact .tail _ (List.mem_filter.1 hb').1
      · rw [updG_same] at hb'
        exact ⟨L, hown, by rw [p0]; exact .tail _ (p8 i k b' hb')⟩
      · rw [updG_other _ h2, updG_other _ h1] at hb'
        exact ⟨M, h3, hb'⟩
    · have hsubL : ∀ b', b' ∈ updG (updG g L (b :: nb.filter fun b' => decide (b' ∉ F i k))) os.length (F i k) L → b' ∈ g L ∧ b' ∉ F i k := by
        intro b' hb'
        rw [updG_other _ hne, updG_same] at hb'
        rw [p0]
        rcases List.mem_cons.1 hb' with rfl | hb'
        · exact ⟨.head _, fun e => p10.1 (p8 i k _ e)⟩
        · have := List.mem_filter.1 hb'
          exact ⟨.tail _ this.1, by simpa using this.2⟩
      have hsubN : ∀ b', b' ∈ updG (updG g L (b :: nb.filter fun b' => decide (b' ∉ F i k))) os.length (F i k) os.length → b' ∈ g L ∧ b' ∈ F i k := by
        intro b' hb'
        rw [updG_same] at hb'
        exact ⟨by rw [p0]; exact .tail _ (p8 i k b' hb'), hb'⟩
      have hoth : ∀ M, M ≠ L → M ≠ os.length → updG (updG g L (b :: nb.filter fun b' => decide (b' ∉ F i k))) os.length (F i k) M = g M := fun M h1 h2 => by rw [updG_other _ h2, updG_other _ h1]
      rcases how M hM with rfl | rfl | ⟨h1, h2, h3⟩ <;> rcases how N hN with rfl | rfl | ⟨k1, k2, k3⟩
      · rfl
      · exact absurd (hsubN b' f).2 (hsubL b' e).2
      · rw [hoth N k1 k2] at f; exact h.inj M N hown k3 b' (hsubL b' e).1 f
      · exact absurd (hsubN b' e).2 (hsubL b' f).2
      · rfl
      · rw [hoth N k1 k2] at f; exact absurd (h.inj L N hown k3 b' (hsubN b' e).1 f).symm k1
      · rw [hoth M h1 h2] at e; exact h.inj M N h3 hown b' e (hsubL b' f).1
      · rw [hoth M h1 h2] at e; exact absurd (h.inj M L h3 hown b' e (hsubN b' f).1) h1
      · rw [hoth M h1 h2] at e; rw [hoth N k1 k2] at f; exact h.inj M N h3 k3 b' e f
    · rintro st M (rfl | rfl)
      · rw [hL']
        have hxl : x.length = z := p5 x (List.mem_of_getElem? hx)
        have hkl : k < x.length := lt_of_get hk
        refine ⟨p2, .inr ⟨b, nb.filter (fun b' => decide (b' ∉ F i k)), fun i' k' => if i' = i then [] else F i' k', by rw [updG_other _ hne, updG_same], p1, c, t, p3, p4, p5, fun i' k' x' y hx' hy' hno => ?_, fun j row e => ?_, fun i' k' b' hb' => ?_, fun i1 k1 i2 k2 b' e1 e2 => ?_, fun e => p10.1 (List.mem_filter.1 e).1, fun b' hb' => p10.2 b' (List.mem_filter.1 hb').1⟩⟩
        · obtain ⟨v, hv, hr⟩ := p6 i' k' x' y hx' hy' id
          refine ⟨v, hv, ?_⟩
          dsimp only
          rw [if_neg (show ¬ i' = i from hno)]
          exact hr.to st.rd (fun _ _ => rfl) fun _ _ => id
        · cases e
          refine ⟨lt_of_get hx, by rw [List.length_set]; exact hxl, fun q y hy => ?_⟩
          rw [List.getElem?_set] at hy
          by_cases e : k = q
          · subst e
            rw [if_pos rfl, if_pos hkl] at hy
            cases hy
            refine ⟨v0, hv0, ?_⟩
            simp only [RepC, hN, updG_same]
            obtain ⟨h0, ⟨q1, rfl, a, rfl⟩ | ⟨b', cap, q0, q1, rfl, q3, c', t', q4, q5, q6, q7⟩⟩ := hcell
            · exact ⟨0, Nat.le_refl _, Nat.le_refl _, .inr ⟨rfl, a, rfl⟩⟩
            · refine ⟨cap, q3, by simp, .inl ⟨b', by rw [q0]; rfl, by simp, ?_⟩⟩
              simp only [room, q4, Nat.zero_add]; exact q5
          · rw [if_neg e] at hy
            obtain ⟨v, hv, hr⟩ := p6 i q x y hx hy id
            exact ⟨v, hv, st.repC hr.toC⟩
        · dsimp only at hb'
          by_cases e : i' = i
          · rw [if_pos e] at hb'; cases hb'
          · rw [if_neg e] at hb'
            exact List.mem_filter.2 ⟨p8 _ _ _ hb', by simpa using fun h2 => e (p9 _ _ _ _ _ hb' h2).1⟩
        · dsimp only at e1 e2
          by_cases a1 : i1 = i
          · rw [if_pos a1] at e1; cases e1
          · by_cases a2 : i2 = i
            · rw [if_pos a2] at e2; cases e2
            · rw [if_neg a1] at e1; rw [if_neg a2] at e2; exact p9 _ _ _ _ _ e1 e2
      · rw [hN]
        obtain ⟨h0, ⟨q1, rfl, a, _⟩ | ⟨b', cap, q0, q1, _, q3, c', t', q4, q5, q6, q7⟩⟩ := hcell
        · exact ⟨h0, .inl ⟨by rw [updG_same]; exact q1, rfl⟩⟩
        · refine ⟨h0, .inr ⟨b', by rw [updG_same]; exact q0, q1, c', t', q4, Nat.le_trans (Nat.mul_le_mul_right s q3) q5, q6, fun i' k' x' y hx' hy' => ?_⟩⟩
          obtain ⟨v, hv, hr⟩ := q7 i' k' x' y hx' hy'
          exact ⟨v, hv, hr.mono st.rd⟩
  | cls L k hL hk hN hcp =>
    rename_i z s i N xs ys row
    have hown : own os L := by unfold own; rw [hL]; trivial
    have hownN : own os N := by unfold own; rw [hN]; trivial
    have hLN : L ≠ N := by rintro rfl; rw [hL] at hN; cases hN
    have ho := h.obj L
    rw [hL] at ho
    obtain ⟨p2, ⟨_, _, p1⟩ | ⟨b, nb, F, p0, p1, c, t, p3, p4, p5, p6, p7, p8, p9, p10⟩⟩ := ho
    · cases p1
    obtain ⟨r1, r2, r3⟩ := p7 i row rfl
    have hN' : ((os.set L (.nst z (xs.set i (row.set k (.own s ys))) none)).set N .dead)[N]? = some .dead := set_same (o := .arr true s ys) (by rw [set_other hLN]; exact hN)
    have hL' : ((os.set L (.nst z (xs.set i (row.set k (.own s ys))) none)).set N .dead)[L]? = some (.nst z (xs.set i (row.set k (.own s ys))) none) := by
      rw [set_other (Ne.symm hLN), set_same hL]
    have hM' : ∀ M, M ≠ L → M ≠ N → ((os.set L (.nst z (xs.set i (row.set k (.own s ys))) none)).set N .dead)[M]? = os[M]? := fun M h1 h2 => by
      rw [set_other (Ne.symm h2), set_other (Ne.symm h1)]
    have hlen : os.length ≤ ((os.set L (.nst z (xs.set i (row.set k (.own s ys))) none)).set N .dead).length := by simp
    generalize ((os.set L (.nst z (xs.set i (row.set k (.own s ys))) none)).set N .dead) = os' at *
    have how : ∀ M, own os' M → M = L ∨ (M ≠ L ∧ M ≠ N ∧ own os M) := by
      intro M hM
      by_cases e1 : M = L
      · exact .inl e1
      · by_cases e2 : M = N
        · subst e2; unfold own at hM; rw [hN'] at hM; exact hM.elim
        · refine .inr ⟨e1, e2, ?_⟩
          unfold own at hM ⊢; rw [hM' M e1 e2] at hM; exact hM
    -- the slice that is put away
    obtain ⟨v0, hv0, hr0⟩ := r3 k _ hk
    have hsl : ∃ l, (∀ b' ∈ l, b' ∈ g N) ∧ OwnA (rdF X os g w) X w l s ys v0 := by
      have hoN := h.obj N
      rw [hN] at hoN
      simp only [RepC, hN] at hr0
      obtain ⟨cap, hc, _, hv⟩ := hr0
      obtain ⟨q2, hq⟩ := hoN
      rcases hv with ⟨b', hb', rfl, hroom⟩ | ⟨rfl, a, rfl⟩
      · rcases hq with ⟨q0, _⟩ | ⟨b2, q0, q1, c', t', q3, q4, q5, q6⟩
        · rw [q0] at hb'; cases hb'
        · obtain rfl : b2 = b' := by rw [q0] at hb'; simpa using hb'
          refine ⟨[b2], by simp [q0], q2, .inr ⟨b2, cap, rfl, q1, by simp, hc, c', t', q3, ?_, q5, q6⟩⟩
          simpa [room, q3] using hroom
      · have hy : ys = [] := List.eq_nil_of_length_eq_zero (by omega)
        subst hy
        exact ⟨[], (fun _ hb => by cases hb), q2, .inl ⟨rfl, rfl, a, rfl⟩⟩
    obtain ⟨l, hl, hsl⟩ := hsl
    have hlnb : ∀ b' ∈ l, b' ∉ g L := fun b' hb' e => hLN (h.inj L N hown hownN b' e (hl b' hb'))
    have hgL : updG g L (b :: (nb ++ l)) L = b :: (nb ++ l) := updG_same _ _ _
    refine ⟨updG g L (b :: (nb ++ l)), h.regroup hlen (fun M => M = L ∨ M = N) (fun M hM => ?_) ?_ (fun M hM b' hb' => ?_) (fun M M2 hM hM2 b' e f => ?_) ?_⟩
    · simp only [not_or] at hM
      exact ⟨hM' M hM.1 hM.2, fun _ => updG_other _ hM.1⟩
    · rintro M o (rfl | rfl) e
      · rw [hL] at e; cases e
        exact ⟨⟨_, rfl⟩, .inr ⟨_, hL', by simp [AO.al], by rw [hgL, p0]; rfl⟩⟩
      · rw [hN] at e; cases e
        exact ⟨⟨_, rfl⟩, .inl hN'⟩
    · rcases how M hM with rfl | ⟨h1, h2, h3⟩
      · rw [hgL] at hb'
        rcases List.mem_cons.1 hb' with rfl | hb'
        · exact ⟨M, hown, by rw [p0]; exact .head _⟩
        · rcases List.mem_append.1 hb' with hb' | hb'
          · exact ⟨M, hown, by rw [p0]; exact .tail _ hb'⟩
          · exact ⟨N, hownN, hl b' hb'⟩
      · rw [updG_other _ h1] at hb'; exact ⟨M, h3, hb'⟩
    · have hkey : ∀ M, M ≠ L → M ≠ N → own os M → b' ∈ g M → b' ∈ b :: (nb ++ l) → False := by
        intro M h1 h2 h3 e5 f5
        rcases List.mem_cons.1 f5 with f5 | f5
        · exact h1 (h.inj M L h3 hown _ e5 (by rw [p0, f5]; exact .head _))
        · rcases List.mem_append.1 f5 with f5 | f5
          · exact h1 (h.inj M L h3 hown _ e5 (by rw [p0]; exact .tail _ f5))
          · exact h2 (h.inj M N h3 hownN _ e5 (hl b' f5))
      rcases how M hM with rfl | ⟨h1, h2, h3⟩ <;> rcases how M2 hM2 with rfl | ⟨k1, k2, k3⟩
      · rfl
      · rw [updG_other _ k1] at f; rw [hgL] at e; exact (hkey M2 k1 k2 k3 f e).elim
      · rw [updG_other _ h1] at e; rw [hgL] at f; exact (hkey M h1 h2 h3 e f).elim
      · rw [updG_other _ h1] at e; rw [updG_other _ k1] at f; exact h.inj M M2 h3 k3 b' e f
    · rintro st M (rfl | rfl)
      · rw [hL']
        have hkl : k < row.length := lt_of_get hk
        refine ⟨p2, .inr ⟨b, nb ++ l, fun i' k' => if i' = i then (if k' = k then l else []) else F i' k', hgL, p1, c, t, p3, by simpa using p4, fun x hx => ?_, fun i' k' x' y hx' hy' _ => ?_, (fun j row e => by cases e), fun i' k' b' hb' => ?_, fun i1 k1 i2 k2 b' e1 e2 => ?_, fun e => ?_, fun b' hb' => ?_⟩⟩
        · rcases List.mem_or_eq_of_mem_set hx with hx | rfl
          · exact p5 x hx
          · rw [List.length_set]; exact r2
        · rw [List.getElem?_set] at hx'
          by_cases e : i = i'
          · subst e
            rw [if_pos rfl, if_pos r1] at hx'
            cases hx'
            rw [List.getElem?_set] at hy'
            by_cases e2 : k = k'
            · subst e2
              rw [if_pos rfl, if_pos hkl] at hy'
              cases hy'
              refine ⟨v0, hv0, ?_⟩
              simp only [if_true]
              exact OwnA.to st.rd (fun _ _ => rfl) (fun _ _ => id) hsl
            · rw [if_neg e2] at hy'
              obtain ⟨v, hv, hr⟩ := r3 k' y hy'
              exact ⟨v, hv, .ofP ((hr.toP (hcp k' y (Ne.symm e2) hy')).mono st.rd)⟩
          · rw [if_neg e] at hx'
            obtain ⟨v, hv, hr⟩ := p6 i' k' x' y hx' hy' (fun q => e q.symm)
            refine ⟨v, hv, ?_⟩
            dsimp only
            rw [if_neg (Ne.symm e)]
            exact hr.to st.rd (fun _ _ => rfl) fun _ _ => id
        · dsimp only at hb'
          by_cases e : i' = i
          · rw [if_pos e] at hb'
            split at hb'
            · exact List.mem_append.2 (.inr hb')
            · cases hb'
          · rw [if_neg e] at hb'
            exact List.mem_append.2 (.inl (p8 _ _ _ hb'))
        · have hx : ∀ {i' k'}, b' ∈ F i' k' → b' ∈ l → False := fun h1 h2 => hlnb b' h2 (by rw [p0]; exact .tail _ (p8 _ _ _ h1))
          dsimp only at e1 e2
          by_cases a1 : i1 = i
          · rw [if_pos a1] at e1
            split at e1
            · rename_i c1
              by_cases a2 : i2 = i
              · rw [if_pos a2] at e2
                split at e2
                · rename_i c2; exact ⟨a1.trans a2.symm, c1.trans c2.symm⟩
                · cases e2
              · rw [if_neg a2] at e2; exact (hx e2 e1).elim
            · cases e1
          · rw [if_neg a1] at e1
            by_cases a2 : i2 = i
            · rw [if_pos a2] at e2
              split at e2
              · exact (hx e1 e2).elim
              · cases e2
            · rw [if_neg a2] at e2; exact p9 _ _ _ _ _ e1 e2
        · rcases List.mem_append.1 e with e | e
          · exact p10.1 e
          · exact hlnb b e (by rw [p0]; exact .head _)
        · rcases List.mem_append.1 hb' with e | e
          · exact p10.2 _ e
          · exact own_wr h hownN _ (hl _ e)
      · rw [hN']; trivial

/-- What holds behind code. -/
def CQ (X : Ctx) (c : Cx) (Q : Ex → St → Prop) : Exit → Act → World → Prop
  | .normal, a, w => ∃ st g, Q .normal st ∧ Rel X c st g a w
  | .exit id, a, w => ∃ st g, Q (.exit id) st ∧ Rel X c st g a w
  | .ret, a, w => ∃ st g, Q .ret st ∧ Rel X c st g a w
  | _, _, _ => False

theorem wp_loop_n {Q : Exit → Act → World → Prop} {b0 : Code} (I : Nat → Act → World → Prop) (round : ∀ n a w, I n a w → b0.wp P (Exit.then (fun a' w' => ∃ m, m < n ∧ I m a' w') Q) a w) : ∀ n a w, I n a w → (Code.loop b0).wp P Q a w := by
  intro n a w h b k cs
  have key : ∀ n a w, I n a w → ∃ e a' w', Q e a' w' ∧ Arrives P (lone (b.at a (.code b0 :: .inLoop b0 :: k)) cs w) b k cs e a' w' := by
    intro n
    induction n using Nat.strongRecOn with
    | _ n ih =>
      intro a w hI
      obtain ⟨e, a₁, w₁, hq, harr⟩ := round n a w hI b (.inLoop b0 :: k) cs
      cases e with
      | normal =>
        obtain ⟨m, hlt, hI₁⟩ := hq
        obtain ⟨e₂, a₂, w₂, hq₂, harr₂⟩ := ih m hlt a₁ w₁ hI₁
        exact ⟨e₂, a₂, w₂, hq₂, .of_steps (Steps.trans harr (.one step_inLoop)) harr₂⟩
      | exit id => exact ⟨_, a₁, w₁, hq, .pass (x := .inLoop b0) rfl (fun _ _ => .inl (by simp)) harr⟩
      | goto l => exact ⟨_, a₁, w₁, hq, .pass (x := .inLoop b0) rfl (fun _ _ => .inl (by simp)) harr⟩
      | ret => exact ⟨_, a₁, w₁, hq, .pass (x := .inLoop b0) rfl (fun _ _ => .inl (by simp)) harr⟩
      | panic ch => exact ⟨_, a₁, w₁, hq, .pass (x := .inLoop b0) rfl (fun _ _ => .inl (by simp)) harr⟩
      | outgrown => exact ⟨_, a₁, w₁, hq, .pass (x := .inLoop b0) rfl (fun _ _ => .inl (by simp)) harr⟩
  obtain ⟨e, a', w', hq, harr⟩ := key n a w h
  exact ⟨e, a', w', hq, .of_steps (.one step_loop) harr⟩

theorem dsts_ops {nt id : Nat} {ops : Array Oper} {dr : Bool} (h : dstsOk nt (.region id ops dr) = true) (i : Nat) (o : Oper) (ho : ops[i]? = some o) (d : Nat) (hd : o.dst = some d) : d < nt := by
  simp only [dstsOk, List.all_eq_true] at h
  have := h o (Array.mem_toList_iff.2 (Array.mem_of_getElem? ho))
  rw [hd] at this
  simpa using this

theorem aw_ok (hP : PrOk P c) (hX : X.Ok) {lv : List Nat} : ∀ (d : Code) (Q : Ex → St → Prop) (st : St) (g : Nat → List Nat) (a : Act) (w : World), dstsOk X.nt d = true → aw c (Con P c) X.os0.length lv d Q st → Rel X c st g a w → d.wp P (CQ X c Q) a w
  | .skip, Q, st, g, a, w, _, hk, h => wp_skip ⟨st, g, hk, h⟩
  | .region id ops false, Q, st, g, a, w, hd, hk, h => by
    refine wp_region ?_
    rw [List.range_eq_range']
    exact ops_ok hP hX (dsts_ops hd) ops.size 0 st g a w _ (by omega) hk h fun st' g' a' w' hk' h' => ⟨_, g', hk', h'.keep lv⟩
  | .region id ops true, Q, st, g, a, w, hd, hk, h => by
    obtain ⟨p, H, hp, hk⟩ := hk
    simp only [planOk, Bool.and_eq_true] at hp
    refine wp_region_L hP.mixed (S := fun _ => True) ?_
    obtain ⟨h1, h2⟩ := h.srel.drew (w' := { w with drawn := w.drawn + 1 }) rfl rfl rfl rfl
    exact plan_ok hP hX (dsts_ops hd) hp.1 (fun _ _ _ hq => hq) (fun st' g' a' w' hk' h' => ⟨_, g', hk', h'.keep lv⟩) p ops.size _ st g a _ _ hp.2 hk (h.to h1 h2) (fun _ _ => trivial)
  | .seq x y, Q, st, g, a, w, hd, hk, h => by
    simp only [dstsOk, Bool.and_eq_true] at hd
    refine wp_seq (wp_mono (aw_ok hP hX x _ st g a w hd.1 hk h) fun e a' w' hq => ?_)
    cases e with
    | normal =>
      obtain ⟨st', g', hk', h'⟩ := hq
      rcases hk' with hk' | ⟨ts, ks, t, h1, h2, h3⟩ | ⟨os1, h1, h2⟩
      · exact aw_ok hP hX y Q st' g' a' w' hd.2 hk' h'
      · exact aw_ok hP hX y Q t _ a' w' hd.2 h3 ((h'.view h1).wk h2)
      · obtain ⟨g1, h3, h4⟩ := ns_ok h'.srel h1
        exact aw_ok hP hX y Q _ g1 a' w' hd.2 h2 (h'.to h3 h4)
    | exit id => exact hq
    | ret => exact hq
    | _ => exact hq
  | .cond x t f, Q, st, g, a, w, hd, hk, h => by
    simp only [dstsOk, Bool.and_eq_true] at hd
    simp only [aw] at hk
    split at hk
    · rename_i b hb
      have he := h.ev x
      rw [hb] at he
      exact wp_cond_split (t := b) he (fun e => aw_ok hP hX t Q st g a w hd.1 (hk.1 e) h) (fun e => aw_ok hP hX f Q st g a w hd.2 (hk.2 e) h)
    · exact hk.elim
  | .block id b, Q, st, g, a, w, hd, hk, h => by
    refine wp_block (wp_mono (aw_ok hP hX b _ st g a w hd hk h) fun e a' w' hq => ?_)
    cases e with
    | normal => exact hq
    | exit j =>
      obtain ⟨st', g', hk', h'⟩ := hq
      simp only [inBlockA] at hk'
      simp only [Exit.inBlock]
      split at hk'
      · rename_i e; rw [if_pos e]; exact ⟨st', g', hk', h'⟩
      · rename_i e; rw [if_neg e]; exact ⟨st', g', hk', h'⟩
    | ret => exact hq
    | _ => exact hq
  | .loop b, Q, st, g, a, w, hd, hk, h => by
    obtain ⟨ts, I, ⟨n0, ks, s0, hks, hw0, hI⟩, hround⟩ := hk
    refine wp_loop_n (fun n a w => ∃ st g, I n st ∧ Rel X c st g a w) ?_ n0 a w ⟨s0, _, hI, (h.view hks).wk hw0⟩
    rintro n a w ⟨st, g, hI, h⟩
    refine wp_mono (aw_ok hP hX b _ st g a w hd (hround n st hI) h) fun e a' w' hq => ?_
    cases e with
    | normal =>
      obtain ⟨st', g', ⟨m, ks', t, hm, hks', hw', hI'⟩, h'⟩ := hq
      exact ⟨m, hm, _, _, hI', (h'.view hks').wk hw'⟩
    | exit id => exact hq
    | ret => exact hq
    | _ => exact hq
  | .exit id, Q, st, g, a, w, _, hk, h => wp_exit ⟨st, g, hk, h⟩
  | .ret, Q, st, g, a, w, _, hk, h => wp_ret ⟨st, g, hk, h⟩
  | .rangeFunc .., Q, st, g, a, w, _, hk, h => hk.elim
  | .scope .., Q, st, g, a, w, _, hk, h => hk.elim
  | .label .., Q, st, g, a, w, _, hk, h => hk.elim
  | .goto .., Q, st, g, a, w, _, hk, h => hk.elim
  | .refuse .., Q, st, g, a, w, _, hk, h => hk.elim

theorem enter_lk : ∀ (vs : List AV) (n t : Nat), lk (enterE n vs) t = if n ≤ t then vs.getD (t - n) .junk else .junk
  | [], n, t => by simp [enterE, lk]
  | x :: r, n, t => by
    simp only [enterE, lk, enter_lk r (n + 1) t]
    by_cases h : n = t
    · subst h; simp
    · rw [if_neg h]
      by_cases h2 : n ≤ t
      · rw [if_pos (by omega), if_pos h2]
        have : t - n = (t - (n + 1)) + 1 := by omega
        rw [this]; rfl
      · rw [if_neg (by omega), if_neg h2]

theorem viewA_V {rd rd' : Nat → Nat → Option Value} {os : List AO} {g g' : Nat → List Nat} {w : World} {ks : List Nat} {x : AV} {v : Value} (hm : ∀ b o v, rd b o = some v → rd' b o = some v) (hg : ∀ j L o, ks[j]? = some L → os[L]? = some o → g' j = g L)
    (hsh : ∀ L ∈ shownV ks x, ∀ o s xs, os[L]? = some o → o.fzr = some (s, xs) → ∀ b, (g L).head? = some b → Row rd' b 0 s xs) (h : RepV rd os g w x v) : RepA rd' (viewS ks os) g' w (viewA ks os x) v := by
  cases x with
  | tup cs => trivial
  | opt b x => trivial
  | agg cs => exact viewA_ok hm hg (x := .agg cs) hsh h
  | sc => exact (viewC_ok hm hg (x := .sc _) hsh h).toA
  | fz => exact (viewC_ok hm hg (x := .fz _ _) hsh h).toA
  | fp => exact (viewC_ok hm hg (x := .fp _ _ _ _) hsh h).toA
  | sl => exact (viewC_ok hm hg (x := .sl _ _ _) hsh h).toA
  | pa => exact (viewC_ok hm hg (x := .pa _ _ _) hsh h).toA
  | pt => exact (viewC_ok hm hg (x := .pt _ _) hsh h).toA
  | clo => exact (viewC_ok hm hg (x := .clo _ _) hsh h).toA
  | own => trivial
  | junk => trivial

def resS (tmps : Array Value) : ResultVar → Sem Value
  | .tmp t => pure (tmps.getD t undef)
  | .cell a t => do loadVar t (← asAddr (tmps.getD a undef))

theorem results_run {fn : Func} {rs : List ResultVar} (h : fn.results = rs.toArray) (tmps : Array Value) (w : World) (val : ResultVar → Value)
    (hv : ∀ r ∈ rs, (resS tmps r).run P w = .ok (val r) w) :
    (results fn tmps).run P w = .ok (if h : (rs.map val).length = 1 then (rs.map val)[0] else .tuple (rs.map val).toArray) w := by
  have hm : ∀ (f : ResultVar → Sem Value) (l : List ResultVar), (∀ r ∈ l, (f r).run P w = .ok (val r) w) → (l.mapM f).run P w = .ok (l.map val) w := by
    intro f l
    induction l with
    | nil => intro _; rfl
    | cons r l ih =>
      intro hl
      simp only [List.mapM_cons, Sem.run_bind, hl r (.head _), Result.andThen_ok, ih fun q hq => hl q (.tail _ hq), Sem.run_pure, List.map_cons]
  unfold results
  rw [h, List.mapM_toArray]
  simp only [Sem.run_bind, Sem.run_map]
  rw [hm _ rs ?_]
  · simp
  · intro r hr
    have := hv r hr
    cases r <;> exact this

theorem cell_run (hP : PrOk P c) {st : St} {g : Nat → List Nat} {a : Act} {w : World} (h : Rel X c st g a w) (r : ResultVar) (hk : resOk c st.os st.env r) :
    ∃ v, RepV (rdF X st.os g w) st.os g w (resV c st.os st.env r) v ∧ (resS a.tmps r).run P w = .ok v w := by
  cases r with
  | tmp t => exact ⟨_, h.env t, rfl⟩
  | cell x t =>
    obtain ⟨h1, h2, h3⟩ := hk
    have hx := h.env x
    obtain ⟨b, o, e⟩ := Rep_addr hx h1
    obtain ⟨h6, h7⟩ := loadV_eq (zero_len hP h2) h2 h3
    simp only [resV, h6]
    rw [e] at hx
    obtain ⟨v, h4, h5⟩ := Rep_load hP h.srel hx h1 h2 h7
    refine ⟨v, h4, ?_⟩
    have := h5 w rfl
    simp only [resS, e]
    simpa [Instr.loadAt, Instr.sureAddr, asAddr] using this

end Go.AM
end
section
/- A function's contract from its code; the code, walked step by step. Conditions: none. -/
namespace Go.AM
open Go

section con
variable {P : Program} {c : Cx}

theorem resA_map (c : Cx) (ks : List Nat) (os : List AO) (e : Env) : ∀ rs, resA c ks os e rs = rs.map fun r => viewA ks os (resV c os e r)
  | [] => rfl
  | t :: r => by simp only [resA, List.map_cons, resA_map c ks os e r]

theorem con_of_aw (hP : PrOk P c) {f : Nat} {fn : Func} {body : Code} {vs : List AV} {σ : List AO} {post : AV → List AO → Prop} {lv : List Nat} {rs : List ResultVar} (hf : P.funcs[f]? = some fn) (hb : fn.body = some body)
    (hname : (fn.name == "runtime.NumGoroutine") = false) (hd : dstsOk fn.ntmps body = true) (hn : vs.length ≤ fn.ntmps) (hres : fn.results = rs.toArray)
    (h : aw c (Con P c) σ.length lv body (endQ c σ.length rs post) ⟨enterE 0 vs, σ⟩) : Con P c f vs σ post := by
  refine ⟨⟨fn, hf⟩, fun X vals hX h0 hnt hs hgl hsz hrep => ⟨fn, hf, hname, .inl ⟨by simp [hb], ?_⟩⟩⟩
  have hrel : Rel X c ⟨enterE 0 vs, σ⟩ X.g0 { tmps := vals ++ Array.replicate (fn.ntmps - vals.size) undef, defers := [] } X.W := by
    refine ⟨hs, fun t => ?_, ?_, rfl, hgl, by rw [h0]; exact Keeps.refl _ _ _⟩
    · simp only [enter_lk]
      rw [if_pos (Nat.zero_le _), Nat.sub_zero]
      cases hv : vs[t]? with
      | none => simp only [List.getD, hv, Option.getD_none]; trivial
      | some y =>
        obtain ⟨u, hu, hr⟩ := hrep t y hv
        simp only [List.getD, hv, Option.getD_some]
        have hlt := lt_of_heap hu
        rw [Array.getD_eq_getD_getElem?, Array.getElem?_append_left hlt, hu]
        exact hr
    · rw [hnt fn hf]; simp; omega
  have hwp := aw_ok hP hX body _ _ X.g0 _ X.W (by rw [hnt fn hf]; exact hd) (by rw [h0]; exact h) hrel
  refine calls_of_wp hf hb (wp_mono hwp ?_)
  have hend : ∀ (a : Act) (w : World), (∃ st g, (allP (resOk c st.os st.env) rs ∧ ∃ ks x σ', keepP σ.length ks st.os ∧ wkV (oneA (resA c ks st.os st.env rs)) x ∧ wkS (viewS ks st.os) σ' ∧ post x σ') ∧ Rel X c st g a w) →
      a.defers = [] ∧ ∃ v, (results fn a.tmps).run P w = .ok v w ∧ ∃ v' x σ' g', Ending.returned v = .returned v' ∧ post x σ' ∧ SRel X σ' g' w ∧ Keeps σ X.g0 X.W σ' g' w ∧ RepV (rdF X σ' g' w) σ' g' w x v' := by
    rintro a w ⟨st, g, ⟨hok, ks, x0, σ0, hk, hwx, hws, hp⟩, hr⟩
    have hnd : ks.Nodup := nodupN_spec (by have := hk.1; simp only [keepOk, Bool.and_eq_true] at this; exact this.2)
    obtain ⟨h1, h2, h3⟩ := hr.srel.view hnd
    have hal := hws.alike
    have hrd : rdF X σ0 (viewG ks st.os g) w = rdF X (viewS ks st.os) (viewG ks st.os g) w := by funext b o; exact hal.rd b o
    have hval : ∀ r ∈ rs, ∃ v, RepV (rdF X st.os g w) st.os g w (resV c st.os st.env r) v ∧ (resS a.tmps r).run P w = .ok v w := fun r hm => cell_run hP hr r (allP_mem hok r hm)
    classical
    let val : ResultVar → Value := fun r => if hm : r ∈ rs then (hval r hm).choose else undef
    have hvr : ∀ r ∈ rs, RepV (rdF X st.os g w) st.os g w (resV c st.os st.env r) (val r) ∧ (resS a.tmps r).run P w = .ok (val r) w := by
      intro r hm
      have : val r = (hval r hm).choose := by simp only [val, dif_pos hm]
      rw [this]; exact (hval r hm).choose_spec
    refine ⟨hr.defs, _, results_run hres a.tmps w val (fun r hm => (hvr r hm).2), _, _, _, _, rfl, hp, h1.wk hws, ?_, ?_⟩
    · have := hr.keeps.view (ks := ks) (by rw [h0]; exact hk)
      rw [h0] at this
      exact this.wk hws
    · rw [hrd]
      refine hal.repV (RepV.wk ?_ hwx)
      have hA : ∀ r ∈ rs, RepA (rdF X (viewS ks st.os) (viewG ks st.os g) w) (viewS ks st.os) (viewG ks st.os g) w (viewA ks st.os (resV c st.os st.env r)) (val r) := fun r hm =>
        viewA_V (g := g) h2 (fun j L o => viewG_get) (fun L hL => h3 L (shownV_not hL)) (hvr r hm).1
      rw [resA_map]
      clear_value val
      match rs, hA with
      | [], _ => exact ⟨#[], by simp, rfl, fun i y hy => by simp at hy⟩
      | [t], hA => simpa [oneA] using (hA t (.head _)).toV
      | t :: u :: r, hA =>
        refine ⟨((t :: u :: r).map val).toArray, by simp, by simp, fun i y hy => ?_⟩
        rw [← List.map_cons (f := fun t => viewA ks st.os (resV c st.os st.env t)), List.getElem?_map] at hy
        cases hi : (t :: u :: r)[i]? with
        | none => rw [hi] at hy; cases hy
        | some q =>
          rw [hi] at hy; cases hy
          refine ⟨val q, ?_, hA q (List.mem_of_getElem? hi)⟩
          rw [List.getElem?_toArray, List.getElem?_map, hi]; rfl
  intro e a w hq
  cases e with
  | normal => exact hend a w hq
  | ret => exact hend a w hq
  | exit id => obtain ⟨st, g, hq, _⟩ := hq; exact hq.elim
  | _ => exact hq.elim

/-- A function without a body, of values that stand in one cell, that leaves memory as it is. -/
theorem con_ext {f : Nat} {fn : Func} {ent : Array Value → Sem Value} (hf : P.funcs[f]? = some fn) (hname : (fn.name == "runtime.NumGoroutine") = false) (hb : fn.body.isNone = true) (hn : Extern.findNext fn = none) (he : Extern.find fn = some ent)
    (vs : List Value) (v : Value) (σ : List AO) (hrun : ∀ w, (ent vs.toArray).run P w = .ok v w) : Con P c f (vs.map AV.sc) σ (fun x σ' => x = .sc v ∧ σ' = σ) := by
  refine ⟨⟨fn, hf⟩, fun X vals hX h0 hnt hs hgl hsz hrep => ⟨fn, hf, hname, .inr ⟨hb, hn, ent, v, X.W, he, ?_, v, .sc v, σ, X.g0, rfl, ⟨rfl, rfl⟩, hs, by first | exact Keeps.refl _ _ _ | (rw [← h0]; exact Keeps.refl _ _ _), rfl⟩⟩⟩
  have : vals = vs.toArray := by
    apply Array.ext'
    apply List.ext_getElem?
    intro i
    rw [Array.getElem?_toList]
    cases hi : vs[i]? with
    | none =>
      have h1 : vs.length ≤ i := by simpa using hi
      simp at hsz
      simp [hi]; omega
    | some y =>
      obtain ⟨u, hu, hr⟩ := hrep i (.sc y) (by rw [List.getElem?_map, hi]; rfl)
      have : u = y := hr
      simp [hu, hi, this]
  rw [this]; exact hrun _

theorem Con.mono {f : Nat} {vs : List AV} {σ : List AO} {post post' : AV → List AO → Prop} (h : Con P c f vs σ post) (hp : ∀ x σ', post x σ' → post' x σ') : Con P c f vs σ post' :=
  ⟨h.1, fun X vals a1 a2 a3 a4 a5 a6 a7 => CallsX.mono (h.2 X vals a1 a2 a3 a4 a5 a6 a7) fun _ _ ⟨v, x, σ', g', he, hp', r⟩ => ⟨v, x, σ', g', he, hp x σ' hp', r⟩⟩
end con

/-- What is still to be done. -/
inductive It where
  | code (d : Code)
  | ops (all : Array Oper) (l : List Oper)
  | op (H : List Nat) (all : Array Oper) (o : Oper)
  | plan (ops : Array Oper) (H : List Nat) (p : Plan)
  | tak (H : List Nat) (all : Array Oper) (l : List Oper)
  | blk (id : Nat)
  | back (B : St → Prop)
  | join

/-- Quiet operations of a region that draws its order, one behind the other. -/
def takesA (c : Cx) (CT : CTab) (ops : Array Oper) (H : List Nat) : List Oper → St → (St → Prop) → Prop
  | [], st, K => K st
  | o :: r, st, K => heldOk H c st.env o.op ∧ stepA c CT H ops o st fun st' => takesA c CT ops H r st' K

/-- What must hold here, so that what is still to be done ends well. -/
def sem (c : Cx) (CT : CTab) (nl : Nat) (lv : List Nat) (Q : Ex → St → Prop) : List It → Ex → St → Prop
  | [], e, s => Q e s
  | .code d :: k, .normal, s => aw c CT nl lv d (sem c CT nl lv Q k) s
  | .ops all l :: k, .normal, s => opsA c CT all l s fun s' => sem c CT nl lv Q k .normal ⟨keepE lv s'.env, s'.os⟩
  | .op H all o :: k, .normal, s => stepA c CT H all o s fun s' => sem c CT nl lv Q k .normal s'
  | .plan ops H p :: k, .normal, s => planA c CT ops H p s fun s' => sem c CT nl lv Q k .normal ⟨keepE lv s'.env, s'.os⟩
  | .tak H all l :: k, .normal, s => takesA c CT all H l s fun s' => sem c CT nl lv Q k .normal ⟨keepE lv s'.env, s'.os⟩
  | .blk _ :: k, .normal, s => sem c CT nl lv Q k .normal s
  | .blk id :: k, .exit j, s => if j = id then sem c CT nl lv Q k .normal s else sem c CT nl lv Q k (.exit j) s
  | .back B :: _, .normal, s => B s
  | .join :: k, .normal, s => upA nl (sem c CT nl lv Q k .normal) s
  | _ :: k, e, s => sem c CT nl lv Q k e s

theorem con_of_sem {P : Program} {c : Cx} (hP : PrOk P c) {f : Nat} {fn : Func} {body : Code} {vs : List AV} {σ : List AO} {post : AV → List AO → Prop} (lv : List Nat) (rs : List ResultVar) (hf : P.funcs[f]? = some fn) (hb : fn.body = some body)
    (hname : (fn.name == "runtime.NumGoroutine") = false) (hd : dstsOk fn.ntmps body = true) (hn : vs.length ≤ fn.ntmps) (hres : fn.results = rs.toArray)
    (h : sem c (Con P c) σ.length lv (endQ c σ.length rs post) [.code body] .normal ⟨enterE 0 vs, σ⟩) : Con P c f vs σ post :=
  con_of_aw hP hf hb hname hd hn hres h

theorem effA_mono {c : Cx} {CT : CTab} {H : List Nat} {os : List AO} {r : Operand → AV} {o : Op} {K K' : AV → List AO → Prop} (h : effA c CT H os r o K) (hk : ∀ x s, K x s → K' x s) : effA c CT H os r o K' := by
  cases o <;> try exact h.elim
  case binOp op t x y t' =>
    obtain ⟨a0, a1, a, b, d, e, f, g⟩ := h
    exact ⟨a0, a1, a, b, d, e, f, fun v hv => hk _ _ (g v hv)⟩
  case alloc t => exact ⟨h.1, hk _ _ h.2⟩
  case box t x => exact ⟨h.1, h.2.1, hk _ _ h.2.2⟩
  case store t a x => exact ⟨h.1, h.2.1, h.2.2.1, h.2.2.2.1, hk _ _ h.2.2.2.2⟩
  case buildSlice t n ps => obtain ⟨a, b, d, e, f, g⟩ := h; exact ⟨a, b, d, e, f, hk _ _ g⟩
  case makeSlice t l m => obtain ⟨a, b, d, e, f, g, i, j, l, m⟩ := h; exact ⟨a, b, d, e, f, g, i, j, l, hk _ _ m⟩
  case call cl =>
    obtain ⟨callee, args, tys⟩ := cl
    cases callee with
    | invoke rv nm => exact h.elim
    | builtin b =>
      cases b <;> try exact h.elim
      case append =>
        simp only [effA] at h ⊢
        split at h
        · split at h
          · rename_i hi
            rw [if_pos hi]
            obtain ⟨k0, k1, k2, k3, k4, k5, k6, k7, k8, K1, K2⟩ := h
            exact ⟨k0, k1, k2, k3, k4, k5, k6, k7, k8, fun a => hk _ _ (K1 a), fun a => hk _ _ (K2 a)⟩
          · rename_i hi
            rw [if_neg hi]
            obtain ⟨k0, k1, k2, k3, k4, k5, k6, k7, k8, k9, K1, K2⟩ := h
            exact ⟨k0, k1, k2, k3, k4, k5, k6, k7, k8, k9, fun a b => hk _ _ (K1 a b), fun a => hk _ _ (K2 a)⟩
        · exact h.elim
    | value f =>
      simp only [effA] at h ⊢
      split at h
      · obtain ⟨lend, esc, post, con, hn, hl, hp⟩ := h
        exact ⟨lend, esc, post, con, hn, hl, fun x σ hx => ⟨(hp x σ hx).1, hk _ _ (hp x σ hx).2⟩⟩
      · exact h.elim

theorem stepA_mono {c : Cx} {CT : CTab} {H : List Nat} {ops : Array Oper} {o : Oper} {s : St} {K K' : St → Prop} (h : stepA c CT H ops o s K) (hk : ∀ s, K s → K' s) : stepA c CT H ops o s K' := by
  unfold stepA at h ⊢
  split
  · rename_i hg
    rw [hg] at h
    simp only at h
    split at h
    · rename_i hp; rw [if_pos hp]; exact ⟨h.1, hk _ h.2⟩
    · rename_i hp; rw [if_neg hp]; exact effA_mono h fun _ _ => hk _
  · rename_i j want hg
    rw [hg] at h
    simp only at h
    split at h
    · exact h.elim
    · split at h
      · rename_i hp; rw [if_pos hp]; exact ⟨h.1, hk _ h.2⟩
      · rename_i hp; rw [if_neg hp]; exact ⟨fun hg => ⟨(h.1 hg).1, effA_mono (h.1 hg).2 fun _ _ => hk _⟩, fun hg => hk _ (h.2 hg)⟩

/-- A call that is to be told. -/
def callR (c : Cx) (CT : CTab) (nl : Nat) (lv : List Nat) (Q : Ex → St → Prop) (H : List Nat) (n : Nat) (vs : List AV) (e : Env) (os : List AO) (dst : Option Nat) (k : List It) : Prop :=
  ∃ (lend : List Nat) (esc : Bool) (post : AV → List AO → Prop), CT n (vs.map (viewV lend os)) (viewS lend os) post ∧ nodupN lend = true ∧ allP (fun L => own os L ∧ memN H L = false) lend ∧
    ∀ x σ', post x σ' → (esc = false → noFzV x ∧ allP noFzO σ') ∧
      sem c CT nl lv Q k .normal ⟨put e dst (renV (backN lend os.length) x), merge lend (if esc = true then unownN os (shownAll lend os vs) else os) σ'⟩

/-- A choice that is to be made. -/
def condR (c : Cx) (CT : CTab) (nl : Nat) (lv : List Nat) (Q : Ex → St → Prop) (x : AV) (t f : Code) (k : List It) (s : St) : Prop := match x with
  | .sc (.bool b) => (b = true → sem c CT nl lv Q (.code t :: k) .normal s) ∧ (b = false → sem c CT nl lv Q (.code f :: k) .normal s)
  | _ => False

section
variable (c : Cx) (CT : CTab) (nl : Nat) (lv : List Nat) (Q : Ex → St → Prop) (k : List It) (s : St)

theorem sem_seq (a b : Code) : sem c CT nl lv Q (.code (.seq a b) :: k) .normal s = sem c CT nl lv Q (.code a :: .join :: .code b :: k) .normal s := by
  show aw c CT nl lv (.seq a b) (sem c CT nl lv Q k) s = aw c CT nl lv a (sem c CT nl lv Q (.join :: .code b :: k)) s
  show aw c CT nl lv a (thenA (upA nl (aw c CT nl lv b (sem c CT nl lv Q k))) (sem c CT nl lv Q k)) s = _
  congr 1
  funext e s'
  cases e <;> rfl
theorem sem_skip : sem c CT nl lv Q (.code .skip :: k) .normal s = sem c CT nl lv Q k .normal s := rfl
theorem sem_region (id : Nat) (ops : Array Oper) : sem c CT nl lv Q (.code (.region id ops false) :: k) .normal s = sem c CT nl lv Q (.ops ops ops.toList :: k) .normal s := rfl
theorem sem_draw (id : Nat) (ops : Array Oper) (p : Plan) (H : List Nat) (hp : planOk ops p = true) (h : sem c CT nl lv Q (.plan ops H p :: k) .normal s) : sem c CT nl lv Q (.code (.region id ops true) :: k) .normal s := ⟨p, H, hp, h⟩
theorem sem_block (id : Nat) (b : Code) : sem c CT nl lv Q (.code (.block id b) :: k) .normal s = sem c CT nl lv Q (.code b :: .blk id :: k) .normal s := by
  show aw c CT nl lv b (inBlockA id (sem c CT nl lv Q k)) s = aw c CT nl lv b (sem c CT nl lv Q (.blk id :: k)) s
  congr 1
  funext e s'
  cases e <;> rfl
theorem sem_exit (id : Nat) : sem c CT nl lv Q (.code (.exit id) :: k) .normal s = sem c CT nl lv Q k (.exit id) s := rfl
theorem sem_ret : sem c CT nl lv Q (.code .ret :: k) .normal s = sem c CT nl lv Q k .ret s := rfl
theorem sem_cond (x : Operand) (t f : Code) (e : Env) (os : List AO) : sem c CT nl lv Q (.code (.cond x t f) :: k) .normal ⟨e, os⟩ = condR c CT nl lv Q (ev c e x) t f k ⟨e, os⟩ := by
  show aw c CT nl lv (.cond x t f) (sem c CT nl lv Q k) _ = _
  simp only [aw, condR]
  cases ev c e x <;> try rfl
theorem condR_bool (b : Bool) (t f : Code) : condR c CT nl lv Q (.sc (.bool b)) t f k s = ((b = true → sem c CT nl lv Q (.code t :: k) .normal s) ∧ (b = false → sem c CT nl lv Q (.code f :: k) .normal s)) := rfl
theorem condR_true (t f : Code) : condR c CT nl lv Q (.sc (.bool true)) t f k s = sem c CT nl lv Q (.code t :: k) .normal s := by simp [condR]
theorem condR_false (t f : Code) : condR c CT nl lv Q (.sc (.bool false)) t f k s = sem c CT nl lv Q (.code f :: k) .normal s := by simp [condR]
theorem sem_blk_n (id : Nat) : sem c CT nl lv Q (.blk id :: k) .normal s = sem c CT nl lv Q k .normal s := rfl
theorem sem_blk_e (id j : Nat) : sem c CT nl lv Q (.blk id :: k) (.exit j) s = if j = id then sem c CT nl lv Q k .normal s else sem c CT nl lv Q k (.exit j) s := rfl
theorem sem_blk_r (id : Nat) : sem c CT nl lv Q (.blk id :: k) .ret s = sem c CT nl lv Q k .ret s := rfl
theorem sem_code_e (d : Code) (j : Nat) : sem c CT nl lv Q (.code d :: k) (.exit j) s = sem c CT nl lv Q k (.exit j) s := rfl
theorem sem_code_r (d : Code) : sem c CT nl lv Q (.code d :: k) .ret s = sem c CT nl lv Q k .ret s := rfl
theorem sem_back_n (B : St → Prop) : sem c CT nl lv Q (.back B :: k) .normal s = B s := rfl
theorem sem_back_e (B : St → Prop) (j : Nat) : sem c CT nl lv Q (.back B :: k) (.exit j) s = sem c CT nl lv Q k (.exit j) s := rfl
theorem sem_back_r (B : St → Prop) : sem c CT nl lv Q (.back B :: k) .ret s = sem c CT nl lv Q k .ret s := rfl
theorem sem_nil (e : Ex) : sem c CT nl lv Q [] e s = Q e s := rfl

/-- A loop: by a family of states. -/
theorem sem_loop {α : Type} (b : Code) (ts ks : List Nat) (F : α → St) (φ : α → Prop) (μ : α → Nat) (a0 : α) (hk : keepP nl ks s.os) (h0 : wkSt (viewSt ts ks s) (F a0)) (hφ : φ a0)
    (hr : ∀ a, φ a → sem c CT nl lv Q (.code b :: .back (fun s' => ∃ ks a', keepP nl ks s'.os ∧ wkSt (viewSt ts ks s') (F a') ∧ φ a' ∧ μ a' < μ a) :: k) .normal (F a)) : sem c CT nl lv Q (.code (.loop b) :: k) .normal s := by
  refine ⟨ts, fun n s => ∃ a, s = F a ∧ φ a ∧ μ a = n, ⟨_, ks, F a0, hk, h0, a0, rfl, hφ, rfl⟩, ?_⟩
  rintro n s ⟨a, rfl, ha, rfl⟩
  have := hr a ha
  have e : (thenA (fun s' => ∃ m ks t, m < μ a ∧ keepP nl ks s'.os ∧ wkSt (viewSt ts ks s') t ∧ ∃ a_1, t = F a_1 ∧ φ a_1 ∧ μ a_1 = m) (sem c CT nl lv Q k)) = sem c CT nl lv Q (.back (fun s' => ∃ ks a', keepP nl ks s'.os ∧ wkSt (viewSt ts ks s') (F a') ∧ φ a' ∧ μ a' < μ a) :: k) := by
    funext ex s'
    cases ex with
    | normal =>
      apply propext
      constructor
      · rintro ⟨m, ks, t, h1, h2, h3, a', rfl, h4, rfl⟩; exact ⟨ks, a', h2, h3, h4, h1⟩
      · rintro ⟨ks, a', h2, h3, h4, h5⟩; exact ⟨μ a', ks, F a', h5, h2, h3, a', rfl, h4, rfl⟩
    | exit j => rfl
    | ret => rfl
  show aw c CT nl lv b (thenA _ (sem c CT nl lv Q k)) (F a)
  rw [e]; exact this

variable (all : Array Oper) (r : List Oper) (dst : Option Nat) (ty : Nat) (pos : String) (af : Array Edge) (e : Env) (os : List AO) (H : List Nat)

theorem sem_ops_nil : sem c CT nl lv Q (.ops all [] :: k) .normal ⟨e, os⟩ = sem c CT nl lv Q k .normal ⟨keepE lv e, os⟩ := rfl
theorem sem_ops_cons (o : Oper) : sem c CT nl lv Q (.ops all (o :: r) :: k) .normal ⟨e, os⟩ = sem c CT nl lv Q (.op [] all o :: .ops all r :: k) .normal ⟨e, os⟩ := rfl
theorem sem_plan_done : sem c CT nl lv Q (.plan all H .done :: k) .normal ⟨e, os⟩ = sem c CT nl lv Q k .normal ⟨keepE lv e, os⟩ := rfl
/-- One operation of a plan. -/
def planR (held : Bool) (p : Plan) : Option Oper → Prop
  | some o => (held = true → heldOk H c e o.op) ∧ sem c CT nl lv Q (.op H all o :: .plan all H p :: k) .normal ⟨e, os⟩
  | none => False
theorem planR_take (p : Plan) (o : Oper) : planR c CT nl lv Q k all e os H true p (some o) = (heldOk H c e o.op ∧ sem c CT nl lv Q (.op H all o :: .plan all H p :: k) .normal ⟨e, os⟩) := by simp [planR]
theorem planR_one (p : Plan) (o : Oper) : planR c CT nl lv Q k all e os H false p (some o) = sem c CT nl lv Q (.op H all o :: .plan all H p :: k) .normal ⟨e, os⟩ := by simp [planR]
theorem sem_plan_take (i : Nat) (p : Plan) : sem c CT nl lv Q (.plan all H (.take i p) :: k) .normal ⟨e, os⟩ = planR c CT nl lv Q k all e os H true p all[i]? := by
  cases h : all[i]? with
  | none => simp only [sem, planA, h, planR]
  | some o => simp only [sem, planA, h, planR, true_imp_iff]
theorem sem_plan_one (i : Nat) (p : Plan) : sem c CT nl lv Q (.plan all H (.one i p) :: k) .normal ⟨e, os⟩ = planR c CT nl lv Q k all e os H false p all[i]? := by
  cases h : all[i]? with
  | none => simp only [sem, planA, h, planR]
  | some o => simp only [sem, planA, h, planR, Bool.false_eq_true, false_imp_iff, true_and]
theorem sem_plan_two (i j : Nat) (p q : Plan) (h1 : planR c CT nl lv Q k all e os H false p all[i]?) (h2 : planR c CT nl lv Q k all e os H false q all[j]?) : sem c CT nl lv Q (.plan all H (.two i j p q) :: k) .normal ⟨e, os⟩ := by
  cases h : all[i]? with
  | none => rw [h] at h1; exact h1.elim
  | some o =>
    cases h' : all[j]? with
    | none => rw [h'] at h2; exact h2.elim
    | some u =>
      rw [h] at h1; rw [h'] at h2
      simp only [sem, planA, h, h']
      exact ⟨h1.2, h2.2⟩
theorem sem_tak_nil : sem c CT nl lv Q (.tak H all [] :: k) .normal ⟨e, os⟩ = sem c CT nl lv Q k .normal ⟨keepE lv e, os⟩ := rfl
theorem sem_tak_cons (o : Oper) : sem c CT nl lv Q (.tak H all (o :: r) :: k) .normal ⟨e, os⟩ = (heldOk H c e o.op ∧ sem c CT nl lv Q (.op H all o :: .tak H all r :: k) .normal ⟨e, os⟩) := rfl

theorem sem_move (x : Operand) : sem c CT nl lv Q (.op H all ⟨dst, .move x, ty, pos, af, none⟩ :: k) .normal ⟨e, os⟩ = sem c CT nl lv Q k .normal ⟨put e dst (ev c e x), os⟩ := by
  simp [sem, stepA, isPure, pureOk, pureA]
theorem sem_assign (x : Operand) : sem c CT nl lv Q (.op H all ⟨dst, .assign x, ty, pos, af, none⟩ :: k) .normal ⟨e, os⟩ = sem c CT nl lv Q k .normal ⟨put e dst (ev c e x), os⟩ := by
  simp [sem, stepA, isPure, pureOk, pureA]
theorem sem_pure (op : Op) (hp : isPure op = true) : sem c CT nl lv Q (.op H all ⟨dst, op, ty, pos, af, none⟩ :: k) .normal ⟨e, os⟩ = (pureOk c os (ev c e) op ∧ sem c CT nl lv Q k .normal ⟨put e dst (pureA c os (ev c e) op), os⟩) := by
  simp [sem, stepA, hp]
theorem sem_pick (a b d : Operand) : sem c CT nl lv Q (.op H all ⟨dst, .pick a b d, ty, pos, af, none⟩ :: k) .normal ⟨e, os⟩ = (selOk (ev c e a) (ev c e b) (ev c e d) ∧ sem c CT nl lv Q k .normal ⟨put e dst (selA (ev c e a) (ev c e b) (ev c e d)), os⟩) := sem_pure c CT nl lv Q k all dst ty pos af e os H _ rfl
theorem sem_build (t : Nat) (ps : Array (Nat × Operand)) : sem c CT nl lv Q (.op H all ⟨dst, .build t ps, ty, pos, af, none⟩ :: k) .normal ⟨e, os⟩ = (pureOk c os (ev c e) (.build t ps) ∧ sem c CT nl lv Q k .normal ⟨put e dst (pureA c os (ev c e) (.build t ps)), os⟩) := sem_pure c CT nl lv Q k all dst ty pos af e os H _ rfl
theorem sem_load (t : Nat) (a : Operand) : sem c CT nl lv Q (.op H all ⟨dst, .load t a, ty, pos, af, none⟩ :: k) .normal ⟨e, os⟩ =
    ((isAddr os (ev c e a) = true ∧ 0 < (c.T t).sz ∧ likeAll (c.T t).zero (rowAt os (ev c e a))) ∧ sem c CT nl lv Q k .normal ⟨put e dst (loadV (c.T t) (rowAt os (ev c e a))), os⟩) := sem_pure c CT nl lv Q k all dst ty pos af e os H _ rfl
theorem sem_nilCheck (x : Operand) : sem c CT nl lv Q (.op H all ⟨dst, .nilCheck x, ty, pos, af, none⟩ :: k) .normal ⟨e, os⟩ = (isAddr os (ev c e x) = true ∧ sem c CT nl lv Q k .normal ⟨put e dst (ev c e x), os⟩) := sem_pure c CT nl lv Q k all dst ty pos af e os H _ rfl
theorem sem_binOp (op : BinOp) (t t' : Nat) (x y : Operand) (hy : isPure (.binOp op t x y t') = true) : sem c CT nl lv Q (.op H all ⟨dst, .binOp op t x y t', ty, pos, af, none⟩ :: k) .normal ⟨e, os⟩ = (binOk (c.T t) op (ev c e x) (ev c e y) ∧ sem c CT nl lv Q k .normal ⟨put e dst (binA op (ev c e x) (ev c e y)), os⟩) := sem_pure c CT nl lv Q k all dst ty pos af e os H _ hy
theorem sem_unOp (op : UnOp) (t : Nat) (x : Operand) : sem c CT nl lv Q (.op H all ⟨dst, .unOp op t x, ty, pos, af, none⟩ :: k) .normal ⟨e, os⟩ = (unOk op (ev c e x) ∧ sem c CT nl lv Q k .normal ⟨put e dst (unA op (ev c e x)), os⟩) := sem_pure c CT nl lv Q k all dst ty pos af e os H _ rfl
theorem sem_convert (t d : Nat) (x : Operand) : sem c CT nl lv Q (.op H all ⟨dst, .convert t d x, ty, pos, af, none⟩ :: k) .normal ⟨e, os⟩ =
    ((0 < (c.T t).sz ∧ 0 < (c.T d).sz ∧ convOk os (c.T t).kind (c.T d).kind (c.T (elemOf c t)) (ev c e x)) ∧ sem c CT nl lv Q k .normal ⟨put e dst (convA os (c.T t).kind (c.T d).kind (ev c e x)), os⟩) := sem_pure c CT nl lv Q k all dst ty pos af e os H _ rfl
theorem sem_slice (t : Nat) (x : Operand) (lo hi mx : Option Operand) : sem c CT nl lv Q (.op H all ⟨dst, .slice t x lo hi mx, ty, pos, af, none⟩ :: k) .normal ⟨e, os⟩ =
    ((0 < (c.T t).sz ∧ cutTy c os t (ev c e x) ∧ numOk (lo.map (ev c e)) ∧ numOk (hi.map (ev c e)) ∧ mxOk (ev c e) (ev c e x) lo hi mx ∧ 0 ≤ loOf (ev c e) lo ∧ loOf (ev c e) lo ≤ hiOf (ev c e) (ev c e x) hi ∧ hiOf (ev c e) (ev c e x) hi ≤ lenA (ev c e x)) ∧
      sem c CT nl lv Q k .normal ⟨put e dst (cutA (ev c e x) (loOf (ev c e) lo) (hiOf (ev c e) (ev c e x) hi)), os⟩) := sem_pure c CT nl lv Q k all dst ty pos af e os H _ rfl
theorem sem_fieldAddr (t : Nat) (x : Operand) (f : Nat) : sem c CT nl lv Q (.op H all ⟨dst, .fieldAddr t x f, ty, pos, af, none⟩ :: k) .normal ⟨e, os⟩ =
    ((0 < (c.T t).sz ∧ isAddr os (ev c e x) = true ∧ 0 < (fieldOff (c.T t) f).2) ∧ sem c CT nl lv Q k .normal ⟨put e dst (addOff (ev c e x) (fieldOff (c.T t) f).1), os⟩) := sem_pure c CT nl lv Q k all dst ty pos af e os H _ rfl
theorem sem_indexAddr (t : Nat) (x i : Operand) : sem c CT nl lv Q (.op H all ⟨dst, .indexAddr t x i, ty, pos, af, none⟩ :: k) .normal ⟨e, os⟩ =
    ((0 < (c.T t).sz ∧ 0 < (c.T (elemOf c t)).sz ∧ isSliceT c t ∧ esz os (ev c e x) = (c.T (elemOf c t)).sz ∧ lenOk os (ev c e x) ∧ isNum (ev c e i) ∧ 0 ≤ numA (ev c e i) ∧ numA (ev c e i) < lenA (ev c e x)) ∧
      sem c CT nl lv Q k .normal ⟨put e dst (idxA (ev c e x) (numA (ev c e i))), os⟩) := sem_pure c CT nl lv Q k all dst ty pos af e os H _ rfl
theorem sem_index (t : Nat) (x i : Operand) : sem c CT nl lv Q (.op H all ⟨dst, .index t x i, ty, pos, af, none⟩ :: k) .normal ⟨e, os⟩ = (pureOk c os (ev c e) (.index t x i) ∧ sem c CT nl lv Q k .normal ⟨put e dst (pureA c os (ev c e) (.index t x i)), os⟩) := sem_pure c CT nl lv Q k all dst ty pos af e os H _ rfl
theorem sem_extract (x : Operand) (i : Nat) : sem c CT nl lv Q (.op H all ⟨dst, .extract x i, ty, pos, af, none⟩ :: k) .normal ⟨e, os⟩ = (pureOk c os (ev c e) (.extract x i) ∧ sem c CT nl lv Q k .normal ⟨put e dst (pureA c os (ev c e) (.extract x i)), os⟩) := sem_pure c CT nl lv Q k all dst ty pos af e os H _ rfl
theorem sem_len (x : Operand) (t : Nat) : sem c CT nl lv Q (.op H all ⟨dst, .call ⟨.builtin .len, #[x], #[t]⟩, ty, pos, af, none⟩ :: k) .normal ⟨e, os⟩ =
    ((0 < (c.T t).sz ∧ lenOk os (ev c e x) ∧ lenTy c t (ev c e x)) ∧ sem c CT nl lv Q k .normal ⟨put e dst (.sc (.int .i64 (lenA (ev c e x)))), os⟩) := sem_pure c CT nl lv Q k all dst ty pos af e os H _ rfl
theorem sem_cap (x : Operand) (t : Nat) : sem c CT nl lv Q (.op H all ⟨dst, .call ⟨.builtin .cap, #[x], #[t]⟩, ty, pos, af, none⟩ :: k) .normal ⟨e, os⟩ =
    ((0 < (c.T t).sz ∧ isSliceT c t ∧ ev c e x = .sc (.slice none 0 0)) ∧ sem c CT nl lv Q k .normal ⟨put e dst (.sc (.int .i64 0)), os⟩) := sem_pure c CT nl lv Q k all dst ty pos af e os H _ rfl
theorem sem_alloc (t : Nat) : sem c CT nl lv Q (.op H all ⟨dst, .alloc t, ty, pos, af, none⟩ :: k) .normal ⟨e, os⟩ = (0 < (c.T t).sz ∧ sem c CT nl lv Q k .normal ⟨put e dst (.pt os.length 0), os ++ [.rc (c.T t).zero]⟩) := by
  simp [sem, stepA, isPure, effA]
theorem sem_box (t : Nat) (x : Operand) : sem c CT nl lv Q (.op H all ⟨dst, .box t x, ty, pos, af, none⟩ :: k) .normal ⟨e, os⟩ =
    (0 < (c.T t).sz ∧ allP (recOk os) (cellsOf (ev c e x)) ∧ sem c CT nl lv Q k .normal ⟨put e dst (.pt os.length 0), os ++ [.rc (cellsOf (ev c e x))]⟩) := by
  simp [sem, stepA, isPure, effA]
theorem sem_store (t : Nat) (a x : Operand) : sem c CT nl lv Q (.op H all ⟨dst, .store t a x, ty, pos, af, none⟩ :: k) .normal ⟨e, os⟩ =
    (0 < (c.T t).sz ∧ (cellsOf (ev c e x)).length = (c.T t).sz ∧ storeOk os (ev c e a) (cellsOf (ev c e x)) ∧ allP (fun L => memN H L = false) (names (ev c e a)) ∧ sem c CT nl lv Q k .normal ⟨put e dst .junk, storeA os (ev c e a) (cellsOf (ev c e x))⟩) := by
  simp [sem, stepA, isPure, effA]
theorem sem_buildSlice (t n : Nat) (ps : Array (Nat × Operand)) : sem c CT nl lv Q (.op H all ⟨dst, .buildSlice t n ps, ty, pos, af, none⟩ :: k) .normal ⟨e, os⟩ =
    (0 < (c.T t).sz ∧ isSliceT c t ∧ 0 < (c.T (elemOf c t)).sz ∧ n * (c.T (elemOf c t)).sz ≤ 16777216 ∧ litOk os (c.T (elemOf c t)) n (ps.toList.map fun p => (p.1, ev c e p.2)) ∧
    sem c CT nl lv Q k .normal ⟨put e dst (.sl os.length 0 n), unownAll os ((ps.toList.map fun p => (p.1, ev c e p.2)).flatMap fun p => cellsOf p.2) ++
      [.arr true (c.T (elemOf c t)).sz ((litElems (c.T (elemOf c t)) n (ps.toList.map fun p => (p.1, ev c e p.2))).map fun x => x.map (frz os))]⟩) := by
  simp [sem, stepA, isPure, effA]
theorem sem_makeSlice (t : Nat) (l m : Operand) : sem c CT nl lv Q (.op H all ⟨dst, .makeSlice t l m, ty, pos, af, none⟩ :: k) .normal ⟨e, os⟩ =
    (0 < (c.T t).sz ∧ isSliceT c t ∧ 0 < (c.T (elemOf c t)).sz ∧ isNum (ev c e l) ∧ isNum (ev c e m) ∧ 0 ≤ numA (ev c e l) ∧ numA (ev c e l) ≤ numA (ev c e m) ∧ (c.T (elemOf c t)).bytes * numA (ev c e m) ≤ 281474976710656 ∧ numA (ev c e m) ≤ 9223372036854775807 ∧
    sem c CT nl lv Q k .normal ⟨put e dst (.sl os.length 0 (numA (ev c e l)).toNat), os ++ [.arr true (c.T (elemOf c t)).sz (List.replicate (numA (ev c e l)).toNat (c.T (elemOf c t)).zero)]⟩) := by
  simp [sem, stepA, isPure, effA]
theorem sem_append (s x : Operand) (t u : Nat) : sem c CT nl lv Q (.op H all ⟨dst, .call ⟨.builtin .append, #[s, x], #[t, u]⟩, ty, pos, af, none⟩ :: k) .normal ⟨e, os⟩ =
    (if isIntK (c.T u).kind = true then
      0 < (c.T t).sz ∧ isSliceT c t ∧ 0 < (c.T (elemOf c t)).sz ∧ 0 < (c.T u).sz ∧ ev c e s = .sc (.slice none 0 0) ∧ isNum (ev c e x) ∧ 0 ≤ numA (ev c e x) ∧ numA (ev c e x) * ((c.T (elemOf c t)).bytes : Int) ≤ 140737488355328 ∧ numA (ev c e x) ≤ 140737488355328 ∧
      (numA (ev c e x) = 0 → sem c CT nl lv Q k .normal ⟨put e dst (.sc (.slice none 0 0)), os⟩) ∧
      (¬ numA (ev c e x) = 0 → sem c CT nl lv Q k .normal ⟨put e dst (.sl os.length 0 (numA (ev c e x)).toNat), os ++ [.arr true (c.T (elemOf c t)).sz (List.replicate (numA (ev c e x)).toNat (c.T (elemOf c t)).zero)]⟩)
      else
      0 < (c.T t).sz ∧ isSliceT c t ∧ 0 < (c.T (elemOf c t)).sz ∧ seqT c (some u) ∧ appBase os (ev c e s) ∧ appNewOk os (c.T (elemOf c t)).sz (ev c e x) ∧ (isNil (ev c e s) = false → esz os (ev c e s) = (c.T (elemOf c t)).sz) ∧
      ((elems os (ev c e s) ++ appNew os (ev c e x)).length * (c.T (elemOf c t)).bytes ≤ appBound) ∧ (elems os (ev c e s) ++ appNew os (ev c e x)).length ≤ appBound ∧ allP (fun L => memN H L = false) (names (ev c e s)) ∧
      (isNil (ev c e s) = true → elems os (ev c e s) ++ appNew os (ev c e x) = [] → sem c CT nl lv Q k .normal ⟨put e dst (.sc (.slice none 0 0)), os⟩) ∧
      ((isNil (ev c e s) = true → elems os (ev c e s) ++ appNew os (ev c e x) ≠ []) →
        sem c CT nl lv Q k .normal ⟨put e dst (.sl os.length 0 (elems os (ev c e s) ++ appNew os (ev c e x)).length), kill os (ev c e s) ++ [.arr true (c.T (elemOf c t)).sz (elems os (ev c e s) ++ appNew os (ev c e x))]⟩)) := by
  simp [sem, stepA, isPure, effA]
theorem sem_call (n : Nat) (args : Array Operand) (tys : Array Nat) : sem c CT nl lv Q (.op H all ⟨dst, .call ⟨.value (.func n), args, tys⟩, ty, pos, af, none⟩ :: k) .normal ⟨e, os⟩ =
    callR c CT nl lv Q H n (args.toList.map (ev c e)) e os dst k := by
  simp only [sem, stepA, isPure, effA, callR, ev, fnC_func, List.append_nil, Bool.false_eq_true, if_false]
theorem sem_guard (op : Op) (j : Nat) (want : Bool) : sem c CT nl lv Q (.op H all ⟨dst, op, ty, pos, af, some (j, want)⟩ :: k) .normal ⟨e, os⟩ = match guardA all e j want with
    | none => False
    | some g =>
      if isPure op then (g = true → operOk c e g op ∧ pureOk c os (gev c e op) op ∧ plain (pureA c os (gev c e op) op)) ∧
        sem c CT nl lv Q k .normal ⟨put e dst (.opt g (pureA c os (gev c e op) op)), os⟩
      else (g = true → operOk c e g op ∧ effA c CT H os (gev c e op) op fun v os => sem c CT nl lv Q k .normal ⟨put e dst v, os⟩) ∧
        (g = false → sem c CT nl lv Q k .normal ⟨put e dst offA, os⟩) := rfl

/-- A call by its contract. -/
theorem callR_use {n : Nat} {vs vs' : List AV} {σ : List AO} {post : AV → List AO → Prop} (lend : List Nat) (esc : Bool) (con : CT n vs' σ post) (h1 : vs.map (viewV lend os) = vs') (h2 : viewS lend os = σ) (hn : nodupN lend = true) (hl : allP (fun L => own os L ∧ memN H L = false) lend)
    (h : ∀ x σ', post x σ' → (esc = false → noFzV x ∧ allP noFzO σ') ∧ sem c CT nl lv Q k .normal ⟨put e dst (renV (backN lend os.length) x), merge lend (if esc = true then unownN os (shownAll lend os vs) else os) σ'⟩) :
    callR c CT nl lv Q H n vs e os dst k := ⟨lend, esc, post, by rw [h1, h2]; exact con, hn, hl, h⟩
end
end Go.AM
namespace Go.AM
open Go
section
variable {c : Cx} {CT : CTab} {nl : Nat} {lv : List Nat} {Q : Ex → St → Prop} {k : List It} {s : St} {e : Env} {os : List AO}

/-- What comes later is put aside. -/
theorem sem_cut {a b : Code} (h : ∀ k', k' = .join :: .code b :: k → sem c CT nl lv Q (.code a :: k') .normal s) : sem c CT nl lv Q (.code (.seq a b) :: k) .normal s := by
  rw [sem_seq]; exact h _ rfl

theorem sem_blk {id : Nat} {b : Code} (h : ∀ k', k' = .blk id :: k → sem c CT nl lv Q (.code b :: k') .normal s) : sem c CT nl lv Q (.code (.block id b) :: k) .normal s := by
  rw [sem_block]; exact h _ rfl

theorem sem_if {x : Operand} {t f : Code} {b : Bool} (hb : ev c e x = .sc (.bool b)) (ht : b = true → sem c CT nl lv Q (.code t :: k) .normal ⟨e, os⟩) (hf : b = false → sem c CT nl lv Q (.code f :: k) .normal ⟨e, os⟩) :
    sem c CT nl lv Q (.code (.cond x t f) :: k) .normal ⟨e, os⟩ := by
  rw [sem_cond, hb]; exact ⟨ht, hf⟩

theorem sem_plan {id : Nat} {ops : Array Oper} (p : Plan) (H : List Nat) (hp : planOk ops p = true) (h : sem c CT nl lv Q (.plan ops H p :: k) .normal s) : sem c CT nl lv Q (.code (.region id ops true) :: k) .normal s := sem_draw c CT nl lv Q k s id ops p H hp h

/-- All quiet, one behind the other. -/
def takes : Nat → Nat → Plan
  | _, 0 => .done
  | i, n + 1 => .take i (takes (i + 1) n)

theorem takes_ok {ops : Array Oper} {H : List Nat} {K : St → Prop} : ∀ (m n : Nat) (s : St), n + m = ops.size → takesA c CT ops H (ops.toList.drop n) s K → planA c CT ops H (takes n m) s K
  | 0, n, s, hn, h => by
    have : ops.toList.drop n = [] := List.drop_eq_nil_of_le (by simp; omega)
    rw [this] at h; exact h
  | m + 1, n, s, hn, h => by
    have hlt : n < ops.size := by omega
    have hget : ops[n]? = some ops[n] := Array.getElem?_eq_getElem hlt
    have hdrop : ops.toList.drop n = ops[n] :: ops.toList.drop (n + 1) := by
      rw [List.drop_eq_getElem_cons (by simpa using hlt)]; simp
    rw [hdrop] at h
    simp only [takes, planA, hget]
    have e : (fun s' => takesA c CT ops H (ops.toList.drop (n + 1)) s' K) = fun s' => takesA c CT ops H (ops.toList.drop (n + 1)) s' K := rfl
    refine ⟨h.1, stepA_mono h.2 fun s' h' => takes_ok m (n + 1) s' (by omega) h'⟩

theorem sem_quiet {id : Nat} {ops : Array Oper} (H : List Nat) (hp : planOk ops (takes 0 ops.size) = true) (h : sem c CT nl lv Q (.tak H ops ops.toList :: k) .normal s) : sem c CT nl lv Q (.code (.region id ops true) :: k) .normal s :=
  ⟨takes 0 ops.size, H, hp, takes_ok ops.size 0 s (by omega) h⟩
end
end Go.AM
end
section
/- What is known of a program's types, read off the program. Conditions: none. -/
namespace Go.AM
open Go

def isAggD : TypeDesc → Bool
  | .struct _ | .array _ _ => true
  | _ => false

def goodZero (i : TypeInfo) : Bool := match i.zero with
  | some z => z.cells.size == i.size && z.cells.toList.all (fun v => v.oneCell')
  | none => false

def szOf (P : Program) (t : Nat) : Nat := match P.info? t, P.underlying t with
  | some i, some _ => if goodZero i then i.size else 0
  | _, _ => 0

def kindOf (P : Program) : TypeDesc → TK
  | .int k => .int k
  | .bool => .bool
  | .string => .str
  | .float k => .flt k
  | .slice e => .slice e
  | .struct fields => match fields.toList.mapM (fun f => (P.info? f.type).map fun i => (f.offset, i.size)) with
    | some fs => .struct fs
    | none => .other
  | .array n e => match P.info? e with
    | some i => if i.size = szOf P e then .array n e else .other
    | none => .other
  | _ => .other

def sortGood (P : Program) (t : Nat) : Option AV → Bool
  | some (.sc (.int _ _)) => match P.underlying t with
    | some (.int _) => true
    | _ => false
  | some (.sc (.bool _)) => match P.underlying t with
    | some .bool => true
    | _ => false
  | _ => false

def eqGood (P : Program) (zs : List AV) (t : Nat) (d : TypeDesc) : Bool :=
  match d with
  | .struct fields => fields.size == zs.length && (List.range fields.size).all (fun i => match fields[i]? with
      | some f => f.offset == i && !(f.name == "_") && sortGood P f.type zs[i]?
      | none => false) && !P.stoodInHeld t && !P.eqGuardType P.depth t
  | _ => false

def ftysOf : TypeDesc → List Nat
  | .struct fields => fields.toList.map (·.type)
  | _ => []

def tiOf (P : Program) (t : Nat) : TI := match P.info? t, P.underlying t with
  | some i, some d => if goodZero i then
      (match i.zero with
      | some z => ⟨i.size, i.bytes, isAggD d, z.cells.toList.map AV.sc, kindOf P d, eqGood P (z.cells.toList.map AV.sc) t d, ftysOf d⟩
      | none => ⟨0, 0, false, [], .other, false, []⟩) else ⟨0, 0, false, [], .other, false, []⟩
  | _, _ => ⟨0, 0, false, [], .other, false, []⟩

theorem tiOf_sz (P : Program) (t : Nat) : (tiOf P t).sz = szOf P t := by
  unfold tiOf szOf
  cases P.info? t with
  | none => rfl
  | some i =>
    cases P.underlying t with
    | none => rfl
    | some d =>
      simp only
      split
      · rename_i h
        unfold goodZero at h
        cases hz : i.zero with
        | none => rw [hz] at h; cases h
        | some z => rfl
      · rfl

theorem sortGood_ok {P : Program} {t : Nat} {x : Option AV} (h : sortGood P t x = true) : SortOk P t x := by
  unfold sortGood at h
  split at h
  · split at h
    · exact ⟨_, by assumption⟩
    · cases h
  · split at h
    · assumption
    · cases h
  · cases h

theorem eqGood_ok {P : Program} {zs : List AV} {t : Nat} {d : TypeDesc} (h : eqGood P zs t d = true) : EqOk P zs t d := by
  unfold eqGood at h
  split at h
  · rename_i fields
    simp only [Bool.and_eq_true, Bool.not_eq_true', beq_iff_eq, List.all_eq_true, List.mem_range] at h
    obtain ⟨⟨⟨h1, h2⟩, h3⟩, h4⟩ := h
    refine ⟨h3, h4, fields, rfl, h1, fun i f hf => ?_⟩
    have hi := lt_of_heap hf
    have := h2 i hi
    rw [hf] at this
    simp only [Bool.and_eq_true, Bool.not_eq_true', beq_iff_eq] at this
    exact ⟨this.1.1, this.1.2, sortGood_ok this.2⟩
  · cases h

theorem tiOf_ok (P : Program) (t : Nat) (h : 0 < (tiOf P t).sz) : TyOk P (tiOf P) t := by
  have key : ∀ i d z, P.info? t = some i → P.underlying t = some d → goodZero i = true → i.zero = some z →
      tiOf P t = ⟨i.size, i.bytes, isAggD d, z.cells.toList.map AV.sc, kindOf P d, eqGood P (z.cells.toList.map AV.sc) t d, ftysOf d⟩ := by
    intro i d z h1 h2 h3 h4
    unfold tiOf
    rw [h1, h2]
    simp only [h3, if_true, h4]
  rw [tiOf_sz] at h
  unfold szOf at h
  cases h1 : P.info? t with
  | none => rw [h1] at h; simp at h
  | some i =>
    cases h2 : P.underlying t with
    | none => rw [h1, h2] at h; simp at h
    | some d =>
      rw [h1, h2] at h
      simp only at h
      split at h
      · rename_i h3
        have h3' := h3
        unfold goodZero at h3
        cases hz : i.zero with
        | none => rw [hz] at h3; cases h3
        | some z =>
          rw [hz] at h3
          simp only [Bool.and_eq_true, beq_iff_eq, List.all_eq_true] at h3
          have e := key i d z h1 h2 h3' hz
          refine ⟨⟨i, d, z, h1, ?_, ?_, h2, ?_, hz, ?_, ?_, fun v hv => h3.2 v hv, ?_, h3.1⟩, ?_⟩
          · rw [e]
          · rw [e]
          · rw [e]; cases d <;> rfl
          · rw [e]
          · rw [e]
            simp only
            cases d with
            | int k => rfl
            | bool => rfl
            | string => rfl
            | float k => rfl
            | slice el => rfl
            | array n el =>
              unfold kindOf
              simp only
              split
              · rename_i j hj
                split
                · rename_i hs
                  exact ⟨rfl, j, hj, by rw [hs, tiOf_sz]⟩
                · trivial
              · trivial
            | struct fields =>
              unfold kindOf
              simp only
              split
              · rename_i fs hfs; exact ⟨fields, rfl, hfs⟩
              · trivial
            | _ => trivial
          · intro he
            rw [e] at he ⊢
            exact eqGood_ok he
          · intro hne
            rw [e] at hne ⊢
            cases d with
            | struct fields => exact ⟨fields, h2, rfl⟩
            | _ => exact absurd rfl hne
      · omega

theorem prOk (P : Program) (G : Nat → AV) (h : P.follows .mixedOrders = true) : PrOk P ⟨tiOf P, G⟩ := ⟨fun t ht => tiOf_ok P t ht, h⟩

end Go.AM
end
