/- Regions and code: the model's walk follows the abstract one; a function's contract from its code. Conditions: none. -/
import Derived.Test.YtcnlhdaeeeolbaaAmO
set_option linter.unusedSimpArgs false
set_option linter.unusedVariables false
namespace Go.AM
open Go

variable {P : Program} {c : Cx} {X : Ctx}

theorem ops_ok (hP : PrOk P c) (hX : X.Ok) {ops : Array Oper} (hd : ∀ (i : Nat) o, ops[i]? = some o → ∀ d, o.dst = some d → d < X.nt) {Q : Exit → Act → World → Prop} : ∀ (m n : Nat) (st : St) (g : Nat → List Nat) (a : Act) (w : World) (K : St → Prop), n + m = ops.size →
    opsA c (Con P c) ops (ops.toList.drop n) st K → Rel X c st g a w → (∀ st' g' a' w', K st' → Rel X c st' g' a' w' → Q .normal a' w') → wpOps P ops Q (List.range' n m) a w
  | 0, n, st, g, a, w, K, hn, hk, h, hQ => by
    have : ops.toList.drop n = [] := List.drop_eq_nil_of_le (by simp; omega)
    rw [this] at hk
    exact hQ st g a w hk h
  | m + 1, n, st, g, a, w, K, hn, hk, h, hQ => by
    have hlt : n < ops.size := by omega
    have hget : ops[n]? = some ops[n] := Array.getElem?_eq_getElem hlt
    have hdrop : ops.toList.drop n = ops[n] :: ops.toList.drop (n + 1) := by
      rw [List.drop_eq_getElem_cons (by simpa using hlt)]; simp
    rw [hdrop] at hk
    have ih := fun st' g' a' w' hk' h' => ops_ok hP hX hd (Q := Q) m (n + 1) st' g' a' w' K (by omega) hk' h' hQ
    have := step_ok hP hX h (hd n _ hget) hk (Q := Q) (next := wpOps P ops Q (List.range' (n + 1) m)) fun st' g' a' w' hk' h' _ => ih st' g' a' w' hk' h'
    rw [List.range'_succ]
    simp only [wpOps, hget]
    split at this
    · rename_i hw; rw [if_pos hw]; exact .inl this
    · rename_i hw; rw [if_neg hw]; exact this

/-- The blocks that nobody writes in this region. -/
def Fix (H : List Nat) (os : List AO) (g : Nat → List Nat) (w : World) (b : Nat) : Prop := b < w.heap.size ∧ ∀ L, own os L → b ∈ g L → memN H L = true

def SameFix (H : List Nat) (os : List AO) (g : Nat → List Nat) (w w1 : World) : Prop := ∀ b, Fix H os g w b → w1.heap[b]? = w.heap[b]?

theorem lt_of_heap {α : Type} {l : Array α} {b : Nat} {x : α} (h : l[b]? = some x) : b < l.size := by
  rcases Nat.lt_or_ge b l.size with h' | h'
  · exact h'
  · rw [Array.getElem?_eq_none h'] at h; cases h

theorem Left.same {H : List Nat} {os os' : List AO} {g g' : Nat → List Nat} {w w' : World} (h : Left H os g w os' g' w') : SameFix H os g w w' := by
  obtain ⟨ns, h1, h2⟩ := h
  intro b hb
  refine h1.1 b hb.1 fun L hL e => ?_
  have := hb.2 L (h2 L hL).1 e
  rw [(h2 L hL).2] at this; cases this

theorem Left.fix {H : List Nat} {os os' : List AO} {g g' : Nat → List Nat} {w w' : World} (h : Left H os g w os' g' w') {b : Nat} (hb : Fix H os g w b) : Fix H os' g' w' b := by
  have hs := h.same b hb
  have hlt : b < w'.heap.size := by
    rw [Array.getElem?_eq_getElem hb.1] at hs
    exact lt_of_heap hs
  refine ⟨hlt, fun L hL e => ?_⟩
  obtain ⟨ns, h1, h2⟩ := h
  rcases h1.2 L hL b e hb.1 with ⟨h3, h4⟩ | ⟨M, hM, h4⟩
  · exact hb.2 L h3 h4
  · have := hb.2 M (h2 M hM).1 h4
    rw [(h2 M hM).2] at this; cases this

theorem SameFix.trans {H : List Nat} {os os' : List AO} {g g' : Nat → List Nat} {w w' w1 : World} (h : Left H os g w os' g' w') (k : SameFix H os' g' w' w1) : SameFix H os g w w1 :=
  fun b hb => (k b (h.fix hb)).trans (h.same b hb)

/-- What is asked of the worlds behind an operation: nothing behind one that waits for all loads. -/
def nextS (ops : Array Oper) (i : Nat) (S : World → Prop) : World → Prop := if lastB ops i = true then fun _ => True else S

/-- Whatever order is picked from here on; behind each operation, till one that waits for all loads, 'S' holds. -/
def wpAnyL (P : Program) (ops : Array Oper) (Q : Exit → Act → World → Prop) : Nat → (World → Prop) → Array Bool → Act → World → Prop
  | 0, _, listed, a, w => Region.ready .any ops listed = [] ∧ Q .normal a w
  | fuel + 1, S, listed, a, w => (Region.ready .any ops listed = [] → Q .normal a w) ∧
    ∀ i ∈ Region.ready .any ops listed, wpOp P ops Q i (fun a' w' => (lastB ops i = false → S w') ∧ wpAnyL P ops Q fuel (nextS ops i S) (listed.setIfInBounds i true) a' w') a w

theorem wpAny_of_L {ops : Array Oper} {Q : Exit → Act → World → Prop} : ∀ (fuel : Nat) (S : World → Prop) (listed : Array Bool) (a : Act) (w : World), wpAnyL P ops Q fuel S listed a w → wpAny P .any ops Q fuel listed a w
  | 0, _, _, _, _, h => h
  | fuel + 1, _, _, _, _, h => ⟨h.1, fun i hi => wpOp_mono (fun a' w' h' => wpAny_of_L fuel _ _ a' w' h'.2) (h.2 i hi)⟩

theorem nextS_mono {ops : Array Oper} {i : Nat} {S S' : World → Prop} (hs : ∀ w, S w → S' w) (w : World) (h : nextS ops i S w) : nextS ops i S' w := by
  unfold nextS at *
  split
  · trivial
  · rename_i hn; rw [if_neg hn] at h; exact hs w h

theorem nextS_up {ops : Array Oper} {i : Nat} {S : World → Prop} (w : World) (h : S w) : nextS ops i S w := by
  unfold nextS
  split
  · trivial
  · exact h

theorem wpAnyL_mono {ops : Array Oper} {Q : Exit → Act → World → Prop} : ∀ (fuel : Nat) (S S' : World → Prop) (listed : Array Bool) (a : Act) (w : World), (∀ w, S w → S' w) → wpAnyL P ops Q fuel S listed a w → wpAnyL P ops Q fuel S' listed a w
  | 0, _, _, _, _, _, _, h => h
  | fuel + 1, S, S', listed, a, w, hs, h => ⟨h.1, fun i hi => wpOp_mono (fun a' w' h' => ⟨fun hl => hs _ (h'.1 hl), wpAnyL_mono fuel _ _ _ a' w' (nextS_mono hs) h'.2⟩) (h.2 i hi)⟩

theorem lastB_after {ops : Array Oper} {i j : Nat} {oi oj : Oper} (hi : ops[i]? = some oi) (hl : isLoad oi.op = true) (hj : ops[j]? = some oj) (h : lastB ops j = true) (hne : i ≠ j) : ∃ e ∈ oj.after, Region.binds .any e = true ∧ e.on = i := by
  simp only [lastB, hj, List.all_eq_true, List.mem_range, Bool.or_eq_true, beq_iff_eq] at h
  rcases h i (lt_of_heap hi) with (h | h) | h
  · exact absurd h hne
  · rw [hi] at h; simp [hl] at h
  · obtain ⟨e, he, hb⟩ := Array.any_eq_true'.1 h
    simp only [Bool.and_eq_true, beq_iff_eq] at hb
    exact ⟨e, he, hb.1, hb.2⟩

theorem wpAnyL_first {ops : Array Oper} {Q : Exit → Act → World → Prop} {S0 : World → Prop} {i : Nat} {oi : Oper} {v : Value} (hi : ops[i]? = some oi) (h00 : isLoad oi.op = false → ∀ w, S0 w) (hsel : ∀ (j : Nat) (o : Oper) cs b, ops[j]? = some o → o.op ≠ .select cs b)
    (hQ : ∀ c a w, Q (.panic c) (a.put oi.dst v) w → Q (.panic c) a w) : ∀ (fuel : Nat) (S : World → Prop) (listed : Array Bool) (a : Act) (w : World), (isLoad oi.op = true → ∀ w, S w → S0 w) →
      (∀ j oj, ops[j]? = some oj → j ≠ i → listed.getD j true = false → (∀ e ∈ oj.after, Region.binds .any e = true → e.on ≠ i) → oi.apart ops oj = true) →
      i ∈ Region.ready .any ops listed → YieldsIf P ops S0 oi v a → S w →
      wpAnyL P ops Q fuel S (listed.setIfInBounds i true) (a.put oi.dst v) w → wpAnyL P ops Q (fuel + 1) S listed a w := by
  intro fuel
  have key : ∀ (S : World → Prop) w, (isLoad oi.op = true → ∀ w, S w → S0 w) → S w → S0 w := fun S w h1 h2 => by
    cases hl : isLoad oi.op with
    | false => exact h00 hl w
    | true => exact h1 hl w h2
  induction fuel with
  | zero =>
    intro S listed a w h0 _ hr hy hS H
    refine ⟨fun h => (by rw [h] at hr; cases hr), fun j hj => ?_⟩
    by_cases hji : j = i
    · subst hji; exact hy.wpOp hi (key S w h0 hS) ⟨fun _ => hS, wpAnyL_mono _ _ _ _ _ _ nextS_up H⟩
    · have := ready_mono hj hji
      rw [H.1] at this
      cases this
  | succ fuel ih =>
    intro S listed a w h0 hfree hr hy hS H
    refine ⟨fun h => (by rw [h] at hr; cases hr), fun j hj => ?_⟩
    by_cases hji : j = i
    · subst hji; exact hy.wpOp hi (key S w h0 hS) ⟨fun _ => hS, wpAnyL_mono _ _ _ _ _ _ nextS_up H⟩
    · have h1 := H.2 j (ready_mono hj hji)
      obtain ⟨hjun, oj, hoj, hall⟩ := mem_ready.1 hj
      have hnot : ∀ e ∈ oj.after, Region.binds .any e = true → e.on ≠ i := fun e he hb heq => by
        have h1 := hall e he hb
        have h0 := (mem_ready.1 hr).1
        rw [heq] at h1
        rcases Nat.lt_or_ge i listed.size with h' | h'
        · simp [h'] at h0 h1; rw [h0] at h1; cases h1
        · simp [Array.getElem?_eq_none h'] at h1
      have hlast : isLoad oi.op = true → lastB ops j = false := fun hld => by
        cases hl : lastB ops j with
        | false => rfl
        | true =>
          obtain ⟨e, he, hb, hon⟩ := lastB_after hi hld hoj hl (Ne.symm hji)
          exact absurd hon (hnot e he hb)
      have h2 := wpOp_putIf hoj (hfree j oj hoj hji hjun hnot) (fun cs b => hsel i oi cs b hi) (fun cs b => hsel j oj cs b hoj) hQ hy h1
      have hfree' : ∀ k ok, ops[k]? = some ok → k ≠ i → (listed.setIfInBounds j true).getD k true = false →
          (∀ e ∈ ok.after, Region.binds .any e = true → e.on ≠ i) → oi.apart ops ok = true := fun k ok hk hki hun hno => by
        refine hfree k ok hk hki ?_ hno
        by_cases hjk : j = k
        · subst hjk; exact hjun
        · rw [getD_set_ne true hjk] at hun; exact hun
      have hn0 : isLoad oi.op = true → ∀ w, nextS ops j S w → S0 w := fun hld w hw => by
        unfold nextS at hw
        rw [if_neg (by rw [hlast hld]; simp)] at hw
        exact h0 hld w hw
      have hnS : ∀ w', (lastB ops j = false → S w') → nextS ops j S w' := fun w' hw' => by
        unfold nextS
        split
        · trivial
        · rename_i hn; exact hw' (by simpa using hn)
      refine wpOp_mono (fun a' w' h3 => ⟨h3.2.1, ih (nextS ops j S) (listed.setIfInBounds j true) a' w' hn0 hfree' (ready_mono hr (Ne.symm hji)) h3.1 (hnS w' h3.2.1) ?_⟩) h2
      rw [Array.setIfInBounds_comm _ _ hji]
      exact h3.2.2

theorem wpAnyL_take {ops : Array Oper} {Q : Exit → Act → World → Prop} {S S0 : World → Prop} {i : Nat} {oi : Oper} {v : Value} {fuel : Nat} {listed : Array Bool} {a : Act} {w : World} (hi : ops[i]? = some oi)
    (h00 : isLoad oi.op = false → ∀ w, S0 w) (h0 : isLoad oi.op = true → ∀ w, S w → S0 w)
    (hs : Region.noSelect ops = true) (hf : Region.free .any ops listed i = true) (hr : (Region.ready .any ops listed).contains i = true)
    (hQ : ∀ c a w, Q (.panic c) (a.put oi.dst v) w → Q (.panic c) a w) (hy : YieldsIf P ops S0 oi v a) (hS : S w)
    (h : wpAnyL P ops Q fuel S (listed.setIfInBounds i true) (a.put oi.dst v) w) : wpAnyL P ops Q (fuel + 1) S listed a w :=
  wpAnyL_first hi h00 (Region.noSelect_spec hs) hQ fuel S listed a w h0 (Region.free_spec hi hf) (by simpa using hr) hy hS h

theorem wpAnyL_all {ops : Array Oper} {Q : Exit → Act → World → Prop} {S : World → Prop} {rs : List Nat} {fuel : Nat} {listed : Array Bool} {a : Act} {w : World} (hr : Region.ready .any ops listed = rs) (hne : rs ≠ [])
    (h : ∀ i ∈ rs, wpOp P ops Q i (fun a' w' => (lastB ops i = false → S w') ∧ wpAnyL P ops Q fuel (nextS ops i S) (listed.setIfInBounds i true) a' w') a w) : wpAnyL P ops Q (fuel + 1) S listed a w :=
  ⟨fun h0 => absurd (hr ▸ h0) hne, hr ▸ h⟩

theorem wpAnyL_done {ops : Array Oper} {Q : Exit → Act → World → Prop} {S : World → Prop} {listed : Array Bool} {a : Act} {w : World} (hr : Region.ready .any ops listed = []) (h : Q .normal a w) : ∀ fuel, wpAnyL P ops Q fuel S listed a w
  | 0 => ⟨hr, h⟩
  | _ + 1 => ⟨fun _ => h, by rw [hr]; simp⟩

theorem wp_region_L {ops : Array Oper} {Q : Exit → Act → World → Prop} {S : World → Prop} {id : Nat} {a : Act} {w : World} (hm : P.follows .mixedOrders = true)
    (h : wpAnyL P ops Q ops.size S (Array.replicate ops.size false) a { w with drawn := w.drawn + 1 }) : (Code.region id ops true).wp P Q a w :=
  wp_region_any hm (wpAny_of_L _ _ _ _ _ h)

theorem heldA_strip {H : List Nat} {x : AV} (h : heldA H x) : allP (fun L => memN H L = true) (names (strip x)) := by
  cases x <;> exact h

theorem quietC_plain {os : List AO} {s d : TK} {et : TI} {x : AV} (h : quietC x) (hk : convOk os s d et x) : ∃ u, x = .sc u ∧ ((∃ k n, u = .int k n) ∨ ∃ s, u = .string s) := by
  unfold quietC at h
  split at h
  · exact ⟨_, rfl, .inl ⟨_, _, rfl⟩⟩
  · exact ⟨_, rfl, .inr ⟨_, rfl⟩⟩
  · obtain ⟨_, _, _, _, h5, _⟩ := hk; exact h5.elim
  · obtain ⟨_, _, _, _, h5, _⟩ := hk; exact h5.elim
  · obtain ⟨_, _, _, _, h5, _⟩ := hk; exact h5.elim
  · exact h.elim

theorem quietC_strip {x : AV} (h : quietC x) (hs : stripOk true x) : ∃ u, strip x = .sc u ∧ ((∃ k n, u = .int k n) ∨ ∃ s, u = .string s) := by
  unfold quietC at h
  split at h
  · exact ⟨_, rfl, .inl ⟨_, _, rfl⟩⟩
  · exact ⟨_, rfl, .inr ⟨_, rfl⟩⟩
  · exact ⟨_, rfl, .inl ⟨_, _, rfl⟩⟩
  · exact ⟨_, rfl, .inr ⟨_, rfl⟩⟩
  · simp [stripOk] at hs
  · exact h.elim

/-- What a load looks at stays. -/
theorem load_fix {H : List Nat} {os : List AO} {g : Nat → List Nat} {w : World} (hs : SRel X os g w) {x : AV} {b o n : Nat} (hx : RepV (rdF X os g w) os g w x (.pointer (some ⟨b, o, none⟩))) (hk : isAddr os x = true)
    (hn : 0 < n) (hl : n ≤ (rowAt os x).length) (hh : allP (fun L => memN H L = true) (names x)) : Fix H os g w b := by
  have hrd : ∀ {b' o' : Nat} {v : Value}, rdF X os g w b' o' = some v → Fix H os g w b' := fun hr => by
    rw [rdF_some] at hr
    exact ⟨cell_lt hr.2.2, fun L hL e => absurd ⟨L, hL, e⟩ hr.2.1⟩
  cases x with
  | fp s xs i k =>
    obtain ⟨b', o', e, hr⟩ := hx
    simp only [Value.pointer.injEq, Option.some.injEq, Addr.mk.injEq, and_true] at e
    obtain ⟨rfl, rfl⟩ := e
    simp only [rowAt] at hl
    have hk0 : k < (xs.getD i []).length := by simp only [List.length_drop] at hl; omega
    cases hxi : xs[i]? with
    | none => simp [List.getD, hxi] at hk0
    | some x0 =>
      have e0 : xs.getD i [] = x0 := by simp [List.getD, hxi]
      rw [e0] at hk0
      obtain ⟨v, hv, _⟩ := hr.2 i k x0 _ hxi (List.getElem?_eq_getElem hk0)
      exact hrd hv
  | pa L i k =>
    simp only [isAddr] at hk
    split at hk
    · rename_i ow s xs hL
      have hx' : RepC (rdF X os g w) os g w (.pa L i k) (.pointer (some ⟨b, o, none⟩)) := hx
      simp only [RepC, hL] at hx'
      obtain ⟨b1, hb1, hx'⟩ := hx'
      simp only [Value.pointer.injEq, Option.some.injEq, Addr.mk.injEq, and_true] at hx'
      obtain ⟨rfl, rfl⟩ := hx'
      cases ow with
      | true =>
        have how : own os L := by unfold own; rw [hL]; trivial
        exact ⟨hs.bnd L how _ (List.mem_of_mem_head? hb1), fun M hM e => hs.inj M L hM how _ e (List.mem_of_mem_head? hb1) ▸ hh.1⟩
      | false =>
        have ho := hs.obj L
        rw [hL] at ho
        simp only [rowAt, hL] at hl
        have hk0 : k < (xs.getD i []).length := by simp only [List.length_drop] at hl; omega
        cases hxi : xs[i]? with
        | none => simp [List.getD, hxi] at hk0
        | some x0 =>
          have e0 : xs.getD i [] = x0 := by simp [List.getD, hxi]
          rw [e0] at hk0
          obtain ⟨v, hv, _⟩ := (show Row _ _ _ _ _ from ho _ hb1).2 i k x0 _ hxi (List.getElem?_eq_getElem hk0)
          exact hrd hv
    · rename_i s xs op hL
      have hx' : RepC (rdF X os g w) os g w (.pa L i k) (.pointer (some ⟨b, o, none⟩)) := hx
      simp only [RepC, hL] at hx'
      obtain ⟨b1, hb1, hx'⟩ := hx'
      simp only [Value.pointer.injEq, Option.some.injEq, Addr.mk.injEq, and_true] at hx'
      obtain ⟨rfl, rfl⟩ := hx'
      have how : own os L := by unfold own; rw [hL]; trivial
      exact ⟨hs.bnd L how _ (List.mem_of_mem_head? hb1), fun M hM e => hs.inj M L hM how _ e (List.mem_of_mem_head? hb1) ▸ hh.1⟩
    · cases hk
  | clo n ps => simp [isAddr] at hk
  | pt L k =>
    simp only [isAddr] at hk
    split at hk
    · rename_i cs hL
      have hx' : RepC (rdF X os g w) os g w (.pt L k) (.pointer (some ⟨b, o, none⟩)) := hx
      simp only [RepC, hL] at hx'
      obtain ⟨b1, hb1, hx'⟩ := hx'
      simp only [Value.pointer.injEq, Option.some.injEq, Addr.mk.injEq, and_true] at hx'
      obtain ⟨rfl, rfl⟩ := hx'
      have how : own os L := by unfold own; rw [hL]; trivial
      exact ⟨hs.bnd L how _ (List.mem_of_mem_head? hb1), fun M hM e => hs.inj M L hM how _ e (List.mem_of_mem_head? hb1) ▸ hh.1⟩
    · cases hk
  | _ => cases hk

theorem zero_len (hP : PrOk P c) {t : Nat} (h : 0 < (c.T t).sz) : (c.T t).zero.length = (c.T t).sz := by
  obtain ⟨i, d, z, _, q2, _, _, _, _, q7, _, _, _, q11⟩ := (hP.ty t h).ex
  rw [← q7, List.length_map, Array.length_toList, q11, q2]

/-- A quiet operation may be taken first. -/
theorem take_ok (hP : PrOk P c) (hX : X.Ok) {st : St} {g : Nat → List Nat} {a : Act} {w : World} (h : Rel X c st g a w) {H : List Nat} {ops : Array Oper} {o : Oper} (hd : ∀ d, o.dst = some d → d < X.nt) (hp : isPure o.op = true) {K : St → Prop}
    (hh : heldOk H c st.env o.op) (hk : stepA c (Con P c) H ops o st K) :
    ∃ v st', YieldsIf P ops (fun w1 => isLoad o.op = true → SameFix H st.os g w w1) o v a ∧ K st' ∧ Rel X c st' g (a.put o.dst v) w ∧ st'.os = st.os := by
  have hpure : ∀ rA, (∀ x ∈ o.op.operands, RepV (rdF X st.os g w) st.os g w (rA x) (a.eval x)) → (∀ t x, o.op = .load t x → allP (fun L => memN H L = true) (names (rA x))) → (∀ t d x, o.op = .convert t d x → ∃ u, rA x = .sc u ∧ ((∃ k n, u = .int k n) ∨ ∃ s, u = .string s)) → pureOk c st.os rA o.op →
      ∃ v, RepV (rdF X st.os g w) st.os g w (pureA c st.os rA o.op) v ∧ ∀ w1, (isLoad o.op = true → SameFix H st.os g w w1) → (execOp a.eval o).run P w1 = .ok (.value v) w1 := by
    intro rA hr hheld hcv hk
    obtain ⟨v, hv, hrun⟩ := pure_ok hP h.srel o rA a.eval hr hp hk
    refine ⟨v, hv, fun w1 hw1 => hrun w1 fun b hb => ?_⟩
    cases hop : o.op with
    | load t x =>
      refine hw1 (by rw [hop]; rfl) b ?_
      rw [hop] at hb hk hr
      obtain ⟨off, hb⟩ := hb
      obtain ⟨q1, q2, q3⟩ := hk
      have hx := hr x (by simp [Op.operands])
      rw [hb] at hx
      exact load_fix h.srel hx q1 q2 (loadV_eq (zero_len hP q2) q2 q3).2 (hheld t x hop)
    | convert t d x =>
      rw [hop] at hb hr
      obtain ⟨off, l, cp, hb⟩ := hb
      have hx := hr x (by simp [Op.operands])
      obtain ⟨u, e1, e2⟩ := hcv t d x hop
      rw [hb, e1] at hx
      have hx : _ = u := hx
      rcases e2 with ⟨k, n, rfl⟩ | ⟨s, rfl⟩ <;> cases hx
    | _ => rw [hop] at hb; exact hb.elim
  have hheld : ∀ t x, o.op = .load t x → heldA H (ev c st.env x) := fun t x e => by rw [e] at hh; exact hh
  unfold stepA at hk
  cases hg : o.guard with
  | none =>
    rw [hg] at hk
    have hw : Region.wanted o (yielded ops a.tmps) = true := by simp [Region.wanted, hg]
    simp only [hp, if_true] at hk
    obtain ⟨k1, k2⟩ := hk
    have hl : ∀ t x, o.op = .load t x → allP (fun L => memN H L = true) (names (ev c st.env x)) := fun t x e => by
      have h1 := hheld t x e
      rw [e] at k1
      have h2 : isAddr st.os (ev c st.env x) = true := k1.1
      revert h1 h2
      cases ev c st.env x <;> intro h1 h2 <;> first | exact h1 | cases h2
    have hcv : ∀ t d x, o.op = .convert t d x → ∃ u, ev c st.env x = .sc u ∧ ((∃ k n, u = .int k n) ∨ ∃ s, u = .string s) := fun t d x e => by
      rw [e] at hh k1
      have hh : quietC (ev c st.env x) := hh
      exact quietC_plain hh k1.2.2
    obtain ⟨v, hv, hrun⟩ := hpure _ (fun x _ => h.ev x) hl hcv k1
    exact ⟨v, _, .inl ⟨hw, hrun⟩, k2, h.put o.dst hd hv, rfl⟩
  | some jw =>
    obtain ⟨j, want⟩ := jw
    rw [hg] at hk
    simp only at hk
    split at hk
    · exact hk.elim
    · rename_i gb hgb
      have hw := guardA_ok h hg hgb
      simp only [hp, if_true] at hk
      obtain ⟨k1, k2⟩ := hk
      cases gb with
      | true =>
        obtain ⟨k1, k3, k4⟩ := k1 rfl
        have hcv : ∀ t d x, o.op = .convert t d x → ∃ u, gev c st.env o.op x = .sc u ∧ ((∃ k n, u = .int k n) ∨ ∃ s, u = .string s) := fun t d x e => by
          rw [e] at hh k1 ⊢
          have : stripOk true (ev c st.env x) := by have := allP_mem k1 x (by simp [Op.operands]); exact this
          have hh : quietC (ev c st.env x) := hh
          exact quietC_strip hh this
        obtain ⟨v, hv, hrun⟩ := hpure _ (gev_ok h k1) (fun t x e => by rw [e]; exact heldA_strip (hheld t x e)) hcv k3
        exact ⟨v, _, .inl ⟨hw, hrun⟩, k2, h.put o.dst hd ⟨fun _ => hv.ofPlain k4, fun h => (by cases h)⟩, rfl⟩
      | false =>
        exact ⟨undef, _, .inr ⟨hw, rfl⟩, k2, h.put o.dst hd ⟨fun h => (by cases h), fun _ => rfl⟩, rfl⟩

theorem plan_ok (hP : PrOk P c) (hX : X.Ok) {ops : Array Oper} (hd : ∀ (i : Nat) o, ops[i]? = some o → ∀ d, o.dst = some d → d < X.nt) (hns : Region.noSelect ops = true) {H : List Nat} {Q : Exit → Act → World → Prop} (hQp : ∀ ch a w, ¬ Q (.panic ch) a w) {K : St → Prop} (hQ : ∀ st' g' a' w', K st' → Rel X c st' g' a' w' → Q .normal a' w') :
    ∀ (p : Plan) (n : Nat) (listed : Array Bool) (st : St) (g : Nat → List Nat) (a : Act) (w : World) (S : World → Prop), planOkA ops p n listed = true → planA c (Con P c) ops H p st K → Rel X c st g a w → (∀ w1, SameFix H st.os g w w1 → S w1) →
      wpAnyL P ops Q n S listed a w
  | .done, n, listed, st, g, a, w, S, hp, hk, h, hS => by
    have hr : Region.ready .any ops listed = [] := by cases n <;> simpa [planOkA] using hp
    exact wpAnyL_done hr (hQ st g a w hk h) n
  | .take i p, 0, listed, st, g, a, w, S, hp, hk, h, hS => by simp [planOkA] at hp
  | .one i p, 0, listed, st, g, a, w, S, hp, hk, h, hS => by simp [planOkA] at hp
  | .last i p, 0, listed, st, g, a, w, S, hp, hk, h, hS => by simp [planOkA] at hp
  | .two i j p q, 0, listed, st, g, a, w, S, hp, hk, h, hS => by simp [planOkA] at hp
  | .take i p, n + 1, listed, st, g, a, w, S, hp, hk, h, hS => by
    simp only [planOkA, Bool.and_eq_true] at hp
    obtain ⟨⟨⟨p1, p2⟩, p3⟩, p4⟩ := hp
    simp only [planA] at hk
    cases hi : ops[i]? with
    | none => rw [hi] at hk; exact hk.elim
    | some o =>
      rw [hi] at hk p1
      obtain ⟨k1, k2⟩ := hk
      obtain ⟨v, st', hy, hK', h', hos⟩ := take_ok hP hX h (hd i o hi) p1 k1 k2
      have ih := plan_ok hP hX hd hns hQp hQ p n (listed.setIfInBounds i true) st' g (a.put o.dst v) w (fun w1 => S w1 ∧ SameFix H st.os g w w1) p4 hK' h' (fun w1 hw1 => by rw [hos] at hw1; exact ⟨hS w1 hw1, hw1⟩)
      have hsw : S w ∧ SameFix H st.os g w w := ⟨hS w (fun _ _ => rfl), fun _ _ => rfl⟩
      have := wpAnyL_take (S := fun w1 => S w1 ∧ SameFix H st.os g w w1) (S0 := fun w1 => isLoad o.op = true → SameFix H st.os g w w1) (a := a) (w := w) hi (fun hl w1 hl' => absurd hl' (by rw [hl]; simp)) (fun _ w1 hw1 _ => hw1.2) hns p2 p3 (fun ch a w hq => absurd hq (hQp _ _ _)) hy hsw ih
      exact wpAnyL_mono _ _ _ _ _ _ (fun w1 h1 => h1.1) this
  | .one i p, n + 1, listed, st, g, a, w, S, hp, hk, h, hS => by
    simp only [planOkA, Bool.and_eq_true, beq_iff_eq] at hp
    obtain ⟨p1, p2⟩ := hp
    refine wpAnyL_all p1 (by simp) fun i' hi' => ?_
    simp only [List.mem_cons, List.not_mem_nil, or_false] at hi'
    subst hi'
    simp only [planA] at hk
    cases hi : ops[i']? with
    | none => rw [hi] at hk; exact hk.elim
    | some o =>
      rw [hi] at hk
      have := step_ok hP hX h (hd i' o hi) hk (Q := Q) (next := fun a' w' => (lastB ops i' = false → S w') ∧ wpAnyL P ops Q n (nextS ops i' S) (listed.setIfInBounds i' true) a' w') fun st' g' a' w' hk' h' hl =>
        ⟨fun _ => hS _ hl.same, plan_ok hP hX hd hns hQp hQ p n (listed.setIfInBounds i' true) st' g' a' w' (nextS ops i' S) p2 hk' h' (fun w1 hw1 => nextS_up w1 (hS w1 (SameFix.trans hl hw1)))⟩
      simp only [wpOp, hi]
      split at this
      · rename_i hw; rw [if_pos hw]; exact .inl this
      · rename_i hw; rw [if_neg hw]; exact this
  | .last i p, n + 1, listed, st, g, a, w, S, hp, hk, h, hS => by
    simp only [planOkA, Bool.and_eq_true, beq_iff_eq] at hp
    obtain ⟨⟨p1, pl⟩, p2⟩ := hp
    refine wpAnyL_all p1 (by simp) fun i' hi' => ?_
    simp only [List.mem_cons, List.not_mem_nil, or_false] at hi'
    subst hi'
    simp only [planA] at hk
    cases hi : ops[i']? with
    | none => rw [hi] at hk; exact hk.elim
    | some o =>
      rw [hi] at hk
      have := step_ok hP hX h (hd i' o hi) hk (Q := Q) (next := fun a' w' => (lastB ops i' = false → S w') ∧ wpAnyL P ops Q n (nextS ops i' S) (listed.setIfInBounds i' true) a' w') fun st' g' a' w' hk' h' hl =>
        ⟨fun hf => absurd pl (by rw [hf]; simp), plan_ok hP hX hd hns hQp hQ p n (listed.setIfInBounds i' true) st' g' a' w' (nextS ops i' S) p2 hk' h' (fun w1 hw1 => by unfold nextS; rw [if_pos pl]; trivial)⟩
      simp only [wpOp, hi]
      split at this
      · rename_i hw; rw [if_pos hw]; exact .inl this
      · rename_i hw; rw [if_neg hw]; exact this
  | .two i j p q, n + 1, listed, st, g, a, w, S, hp, hk, h, hS => by
    simp only [planOkA, Bool.and_eq_true, beq_iff_eq] at hp
    obtain ⟨⟨p1, p2⟩, p3⟩ := hp
    simp only [planA] at hk
    cases hi : ops[i]? with
    | none => rw [hi] at hk; exact hk.elim
    | some o =>
      cases hj : ops[j]? with
      | none => rw [hi, hj] at hk; exact hk.elim
      | some u =>
        rw [hi, hj] at hk
        obtain ⟨k1, k2⟩ := hk
        refine wpAnyL_all p1 (by simp) fun i' hi' => ?_
        simp only [List.mem_cons, List.not_mem_nil, or_false] at hi'
        rcases hi' with rfl | rfl
        · have := step_ok hP hX h (hd i' o hi) k1 (Q := Q) (next := fun a' w' => (lastB ops i' = false → S w') ∧ wpAnyL P ops Q n (nextS ops i' S) (listed.setIfInBounds i' true) a' w') fun st' g' a' w' hk' h' hl =>
            ⟨fun _ => hS _ hl.same, plan_ok hP hX hd hns hQp hQ p n (listed.setIfInBounds i' true) st' g' a' w' (nextS ops i' S) p2 hk' h' (fun w1 hw1 => nextS_up w1 (hS w1 (SameFix.trans hl hw1)))⟩
          simp only [wpOp, hi]
          split at this
          · rename_i hw; rw [if_pos hw]; exact .inl this
          · rename_i hw; rw [if_neg hw]; exact this
        · have := step_ok hP hX h (hd i' u hj) k2 (Q := Q) (next := fun a' w' => (lastB ops i' = false → S w') ∧ wpAnyL P ops Q n (nextS ops i' S) (listed.setIfInBounds i' true) a' w') fun st' g' a' w' hk' h' hl =>
            ⟨fun _ => hS _ hl.same, plan_ok hP hX hd hns hQp hQ q n (listed.setIfInBounds i' true) st' g' a' w' (nextS ops i' S) p3 hk' h' (fun w1 hw1 => nextS_up w1 (hS w1 (SameFix.trans hl hw1)))⟩
          simp only [wpOp, hj]
          split at this
          · rename_i hw; rw [if_pos hw]; exact .inl this
          · rename_i hw; rw [if_neg hw]; exact this

/-- The same memory, other names. -/
theorem SRel.regroup {os os' : List AO} {g g' : Nat → List Nat} {w : World} (h : SRel X os g w) (hlen : os.length ≤ os'.length) (C : Nat → Prop)
    (hC : ∀ M, ¬ C M → os'[M]? = os[M]? ∧ (os[M]? ≠ none → g' M = g M))
    (hA : ∀ M o, C M → os[M]? = some o → (∃ a, o.al = some a) ∧ (os'[M]? = some .dead ∨ ∃ o', os'[M]? = some o' ∧ o'.al = o.al ∧ (g' M).head? = (g M).head?))
    (hsub : ∀ M, own os' M → ∀ b ∈ g' M, ownB os g b) (hinj : ∀ M N, own os' M → own os' N → ∀ b, b ∈ g' M → b ∈ g' N → M = N)
    (hobj : Step X os g w os' g' w → ∀ M, C M → OOk X os' g' w M os'[M]?) : SRel X os' g' w ∧ Step X os g w os' g' w := by
  have hrd : ∀ b u v, rdF X os g w b u = some v → rdF X os' g' w b u = some v := by
    intro b u v hb
    rw [rdF_some] at hb ⊢
    exact ⟨hb.1, fun ⟨M, hM, e⟩ => hb.2.1 (hsub M hM b e), hb.2.2⟩
  have st : Step X os g w os' g' w := by
    refine ⟨hlen, ?_, ?_, ?_, ?_, ?_, hrd, fun _ => Nat.le_refl _⟩
    · intro M o1 o2 a1 a2 h1 h2 e1 e2
      rcases Classical.em (C M) with hc | hc
      · obtain ⟨_, h3 | ⟨o', h3, h4, h5⟩⟩ := hA M o1 hc h1
        · rw [h2] at h3; cases h3; cases e2
        · rw [h2] at h3; cases h3; rw [e1, e2] at h4; cases h4; exact ⟨rfl, Nat.le_refl _, h5⟩
      · obtain ⟨h3, h4⟩ := hC M hc
        rw [h1] at h3; rw [h2] at h3; cases h3; rw [e1] at e2; cases e2
        exact ⟨rfl, Nat.le_refl _, by rw [h4 (by rw [h1]; simp)]⟩
    · intro M c1 c2 h1 h2
      rcases Classical.em (C M) with hc | hc
      · obtain ⟨⟨a, ha⟩, _⟩ := hA M _ hc h1; cases ha
      · exact (hC M hc).2 (by rw [h1]; simp)
    · intro M o1 a1 c2 h1 e1 h2
      rcases Classical.em (C M) with hc | hc
      · obtain ⟨_, h3 | ⟨o', h3, h4, h5⟩⟩ := hA M o1 hc h1
        · rw [h2] at h3; cases h3
        · rw [h2] at h3; cases h3; rw [e1] at h4; cases h4
      · obtain ⟨h3, h4⟩ := hC M hc
        rw [h1] at h3; rw [h2] at h3; cases h3; cases e1
    · intro M c1 o2 a2 h1 h2 e2
      rcases Classical.em (C M) with hc | hc
      · obtain ⟨⟨a, ha⟩, _⟩ := hA M _ hc h1; cases ha
      · obtain ⟨h3, h4⟩ := hC M hc
        rw [h1] at h3; rw [h2] at h3; cases h3; cases e2
    · intro M h1
      rcases Classical.em (C M) with hc | hc
      · obtain ⟨⟨a, ha⟩, _⟩ := hA M _ hc h1; cases ha
      · rw [(hC M hc).1]; exact h1
  refine ⟨h.next st rfl rfl rfl (Nat.le_refl _) (fun _ _ _ => rfl) C (fun M hM => ⟨(hC M hM).1, (hC M hM).2, fun _ _ _ => rfl⟩) (hobj st) ?_ hinj, st⟩
  intro M hM b hb
  obtain ⟨N, hN, e⟩ := hsub M hM b hb
  exact h.bnd N hN b e

theorem RepP.toC {rd : Nat → Nat → Option Value} {os : List AO} {g : Nat → List Nat} {w : World} {y : AV} {v : Value} (h : RepP rd y v) : RepC rd os g w y v := by
  cases h with
  | sc hv => rfl
  | nil => exact RepP.nil
  | fz f hc hs h1 h2 => exact RepP.fz f hc hs h1 h2

theorem CellN.toC {rd : Nat → Nat → Option Value} {os : List AO} {g : Nat → List Nat} {w : World} {l : List Nat} {y : AV} {v : Value} (h : CellN rd X w l y v) : RepC rd os g w y v := by
  cases y with
  | own s ys => trivial
  | _ => exact RepP.toC h

theorem RepC.toP {rd : Nat → Nat → Option Value} {os : List AO} {g : Nat → List Nat} {w : World} {y : AV} {v : Value} (h : RepC rd os g w y v) (hc : cellP y) : RepP rd y v := by
  cases y with
  | sc u => obtain rfl : v = u := h; exact .sc hc
  | fz s xs => exact h
  | _ => exact hc.elim

theorem CellN.ofP {rd : Nat → Nat → Option Value} {w : World} {l : List Nat} {y : AV} {v : Value} (h : RepP rd y v) : CellN rd X w l y v := by
  cases y with
  | own s ys => cases h
  | _ => exact h

theorem ns_ok {os os' : List AO} {g : Nat → List Nat} {w : World} (h : SRel X os g w) (hn : NS1 os os') : ∃ g', SRel X os' g' w ∧ Step X os g w os' g' w := by
  cases hn with
  | mk L k s hL hs =>
    rename_i z xs
    have hown : own os L := by unfold own; rw [hL]; trivial
    have how : ∀ M, own (os.set L (.nst z (xs.map (mkRow k s)) none)) M → own os M := by
      intro M hM
      by_cases e : L = M
      · subst e; exact hown
      · unfold own at hM ⊢; rw [set_other e] at hM; exact hM
    refine ⟨g, h.regroup (by simp) (fun M => M = L) (fun M hM => ⟨set_other (Ne.symm hM), fun _ => rfl⟩) ?_ (fun M hM b hb => ⟨M, how M hM, hb⟩) (fun M N hM hN b e f => h.inj M N (how M hM) (how N hN) b e f) ?_⟩
    · rintro M o rfl e
      rw [hL] at e; cases e
      exact ⟨⟨_, rfl⟩, .inr ⟨_, set_same hL, by simp [AO.al], rfl⟩⟩
    · rintro st M rfl
      rw [set_same hL]
      have ho := h.obj M
      rw [hL] at ho
      obtain ⟨p2, ⟨p0, p1⟩ | ⟨b, p0, p1, c, t, p3, p4, p5, p6⟩⟩ := ho
      · exact ⟨p2, .inl ⟨p0, by rw [p1]; rfl, rfl⟩⟩
      refine ⟨p2, .inr ⟨b, [], fun _ _ => [], p0, p1, c, t, p3, by simpa using p4, fun x hx => ?_, fun i q x y hx hy _ => ?_, (fun j row e => by cases e), (fun i q b' hb => hb), (fun _ _ _ _ _ hb => by cases hb), by simp, (fun _ hb => by cases hb)⟩⟩
      · obtain ⟨x0, h0, rfl⟩ := List.mem_map.1 hx
        unfold mkRow
        split
        · rw [List.length_set]; exact p5 x0 h0
        · exact p5 x0 h0
      · rw [List.getElem?_map] at hx
        cases e : xs[i]? with
        | none => rw [e] at hx; cases hx
        | some x0 =>
          rw [e] at hx; cases hx
          unfold mkRow at hy
          split at hy
          · rename_i hnil
            rw [List.getElem?_set] at hy
            by_cases e2 : k = q
            · subst e2
              rw [if_pos rfl] at hy
              split at hy
              · rename_i hk
                cases hy
                have hx0 : x0[k]? = some (x0.getD k .junk) := by rw [List.getD, List.getElem?_eq_getElem hk]; rfl
                obtain ⟨v, hv, hr⟩ := p6 i k x0 _ e hx0
                rw [nil_of hnil] at hr
                cases hr
                exact ⟨_, hv, hs, .inl ⟨rfl, rfl, none, rfl⟩⟩
              · cases hy
            · rw [if_neg e2] at hy
              obtain ⟨v, hv, hr⟩ := p6 i q x0 y e hy
              exact ⟨v, hv, .ofP (hr.mono st.rd)⟩
          · obtain ⟨v, hv, hr⟩ := p6 i q x0 y e hy
            exact ⟨v, hv, .ofP (hr.mono st.rd)⟩
  | opn L i k hL hx hk =>
    rename_i z s xs ys x
    have hown : own os L := by unfold own; rw [hL]; trivial
    have hLt := lt_of_get hL
    have ho := h.obj L
    rw [hL] at ho
    obtain ⟨p2, ⟨p0, p1, _⟩ | ⟨b, nb, F, p0, p1, c, t, p3, p4, p5, p6, p7, p8, p9, p10⟩⟩ := ho
    · rw [p1] at hx; simp at hx
    have hN : (os.set L (.nst z xs (some (i, x.set k (.sl os.length 0 ys.length)))) ++ [.arr true s ys])[os.length]? = some (.arr true s ys) := by
      rw [push_get]; simp
    have hL' : (os.set L (.nst z xs (some (i, x.set k (.sl os.length 0 ys.length)))) ++ [.arr true s ys])[L]? = some (.nst z xs (some (i, x.set k (.sl os.length 0 ys.length)))) := by
      rw [push_get, if_pos (by simpa using hLt), set_same hL]
    have hM' : ∀ M, M ≠ L → M ≠ os.length → (os.set L (.nst z xs (some (i, x.set k (.sl os.length 0 ys.length)))) ++ [.arr true s ys])[M]? = os[M]? := by
      intro M h1 h2
      rw [push_get]
      by_cases e : M < os.length
      · rw [if_pos (by simpa using e), set_other (Ne.symm h1)]
      · rw [if_neg (by simpa using e), if_neg (by simpa using h2), List.getElem?_eq_none (by omega)]
    generalize hos : (os.set L (.nst z xs (some (i, x.set k (.sl os.length 0 ys.length)))) ++ [.arr true s ys]) = os' at *
    obtain ⟨v0, hv0, hcell⟩ := p6 i k x _ hx hk id
    have hne : L ≠ os.length := by omega
    have how : ∀ M, own os' M → M = L ∨ M = os.length ∨ (M ≠ L ∧ M ≠ os.length ∧ own os M) := by
      intro M hM
      by_cases e1 : M = L
      · exact .inl e1
      · by_cases e2 : M = os.length
        · exact .inr (.inl e2)
        · refine .inr (.inr ⟨e1, e2, ?_⟩)
          unfold own at hM ⊢; rw [hM' M e1 e2] at hM; exact hM
    refine ⟨updG (updG g L (b :: nb.filter fun b' => decide (b' ∉ F i k))) os.length (F i k), h.regroup (by rw [← hos]; simp) (fun M => M = L ∨ M = os.length) (fun M hM => ?_) ?_ (fun M hM b' hb' => ?_) (fun M N hM hN b' e f => ?_) ?_⟩
    · simp only [not_or] at hM
      exact ⟨hM' M hM.1 hM.2, fun _ => by rw [updG_other _ hM.2, updG_other _ hM.1]⟩
    · rintro M o (rfl | rfl) e
      · rw [hL] at e; cases e
        exact ⟨⟨_, rfl⟩, .inr ⟨_, hL', rfl, by rw [updG_other _ hne, updG_same, p0]; rfl⟩⟩
      · rw [List.getElem?_eq_none (Nat.le_refl _)] at e; cases e
    · rcases how M hM with rfl | rfl | ⟨h1, h2, h3⟩
      · rw [updG_other _ hne, updG_same] at hb'
        refine ⟨M, hown, ?_⟩
        rw [p0]
        rcases List.mem_cons.1 hb' with rfl | hb'
        · exact .head _
        · exact .tail _ (List.mem_filter.1 hb').1
      · rw [updG_same] at hb'
        exact ⟨L, hown, by rw [p0]; exact .tail _ (p8 i k b' hb')⟩
      · rw [updG_other _ h2, updG_other _ h1] at hb'
        exact ⟨M, h3, hb'⟩
    · have hsubL : ∀ b', b' ∈ updG (updG g L (b :: nb.filter fun b' => decide (b' ∉ F i k))) os.length (F i k) L → b' ∈ g L ∧ b' ∉ F i k := by
        intro b' hb'
        rw [updG_other _ hne, updG_same] at hb'
        rw [p0]
        rcases List.mem_cons.1 hb' with rfl | hb'
        · exact ⟨.head _, fun e => p10.1 (p8 i k _ e)⟩
        · have := List.mem_filter.1 hb'
          exact ⟨.tail _ this.1, by simpa using this.2⟩
      have hsubN : ∀ b', b' ∈ updG (updG g L (b :: nb.filter fun b' => decide (b' ∉ F i k))) os.length (F i k) os.length → b' ∈ g L ∧ b' ∈ F i k := by
        intro b' hb'
        rw [updG_same] at hb'
        exact ⟨by rw [p0]; exact .tail _ (p8 i k b' hb'), hb'⟩
      have hoth : ∀ M, M ≠ L → M ≠ os.length → updG (updG g L (b :: nb.filter fun b' => decide (b' ∉ F i k))) os.length (F i k) M = g M := fun M h1 h2 => by rw [updG_other _ h2, updG_other _ h1]
      rcases how M hM with rfl | rfl | ⟨h1, h2, h3⟩ <;> rcases how N hN with rfl | rfl | ⟨k1, k2, k3⟩
      · rfl
      · exact absurd (hsubN b' f).2 (hsubL b' e).2
      · rw [hoth N k1 k2] at f; exact h.inj M N hown k3 b' (hsubL b' e).1 f
      · exact absurd (hsubN b' e).2 (hsubL b' f).2
      · rfl
      · rw [hoth N k1 k2] at f; exact absurd (h.inj L N hown k3 b' (hsubN b' e).1 f).symm k1
      · rw [hoth M h1 h2] at e; exact h.inj M N h3 hown b' e (hsubL b' f).1
      · rw [hoth M h1 h2] at e; exact absurd (h.inj M L h3 hown b' e (hsubN b' f).1) h1
      · rw [hoth M h1 h2] at e; rw [hoth N k1 k2] at f; exact h.inj M N h3 k3 b' e f
    · rintro st M (rfl | rfl)
      · rw [hL']
        have hxl : x.length = z := p5 x (List.mem_of_getElem? hx)
        have hkl : k < x.length := lt_of_get hk
        refine ⟨p2, .inr ⟨b, nb.filter (fun b' => decide (b' ∉ F i k)), fun i' k' => if i' = i then [] else F i' k', by rw [updG_other _ hne, updG_same], p1, c, t, p3, p4, p5, fun i' k' x' y hx' hy' hno => ?_, fun j row e => ?_, fun i' k' b' hb' => ?_, fun i1 k1 i2 k2 b' e1 e2 => ?_, fun e => p10.1 (List.mem_filter.1 e).1, fun b' hb' => p10.2 b' (List.mem_filter.1 hb').1⟩⟩
        · obtain ⟨v, hv, hr⟩ := p6 i' k' x' y hx' hy' id
          refine ⟨v, hv, ?_⟩
          dsimp only
          rw [if_neg (show ¬ i' = i from hno)]
          exact hr.to st.rd (fun _ _ => rfl) fun _ _ => id
        · cases e
          refine ⟨lt_of_get hx, by rw [List.length_set]; exact hxl, fun q y hy => ?_⟩
          rw [List.getElem?_set] at hy
          by_cases e : k = q
          · subst e
            rw [if_pos rfl, if_pos hkl] at hy
            cases hy
            refine ⟨v0, hv0, ?_⟩
            simp only [RepC, hN, updG_same]
            obtain ⟨h0, ⟨q1, rfl, a, rfl⟩ | ⟨b', cap, q0, q1, rfl, q3, c', t', q4, q5, q6, q7⟩⟩ := hcell
            · exact ⟨0, Nat.le_refl _, Nat.le_refl _, .inr ⟨rfl, a, rfl⟩⟩
            · refine ⟨cap, q3, by simp, .inl ⟨b', by rw [q0]; rfl, by simp, ?_⟩⟩
              simp only [room, q4, Nat.zero_add]; exact q5
          · rw [if_neg e] at hy
            obtain ⟨v, hv, hr⟩ := p6 i q x y hx hy id
            exact ⟨v, hv, st.repC hr.toC⟩
        · dsimp only at hb'
          by_cases e : i' = i
          · rw [if_pos e] at hb'; cases hb'
          · rw [if_neg e] at hb'
            exact List.mem_filter.2 ⟨p8 _ _ _ hb', by simpa using fun h2 => e (p9 _ _ _ _ _ hb' h2).1⟩
        · dsimp only at e1 e2
          by_cases a1 : i1 = i
          · rw [if_pos a1] at e1; cases e1
          · by_cases a2 : i2 = i
            · rw [if_pos a2] at e2; cases e2
            · rw [if_neg a1] at e1; rw [if_neg a2] at e2; exact p9 _ _ _ _ _ e1 e2
      · rw [hN]
        obtain ⟨h0, ⟨q1, rfl, a, _⟩ | ⟨b', cap, q0, q1, _, q3, c', t', q4, q5, q6, q7⟩⟩ := hcell
        · exact ⟨h0, .inl ⟨by rw [updG_same]; exact q1, rfl⟩⟩
        · refine ⟨h0, .inr ⟨b', by rw [updG_same]; exact q0, q1, c', t', q4, Nat.le_trans (Nat.mul_le_mul_right s q3) q5, q6, fun i' k' x' y hx' hy' => ?_⟩⟩
          obtain ⟨v, hv, hr⟩ := q7 i' k' x' y hx' hy'
          exact ⟨v, hv, hr.mono st.rd⟩
  | cls L k hL hk hN hcp =>
    rename_i z s i N xs ys row
    have hown : own os L := by unfold own; rw [hL]; trivial
    have hownN : own os N := by unfold own; rw [hN]; trivial
    have hLN : L ≠ N := by rintro rfl; rw [hL] at hN; cases hN
    have ho := h.obj L
    rw [hL] at ho
    obtain ⟨p2, ⟨_, _, p1⟩ | ⟨b, nb, F, p0, p1, c, t, p3, p4, p5, p6, p7, p8, p9, p10⟩⟩ := ho
    · cases p1
    obtain ⟨r1, r2, r3⟩ := p7 i row rfl
    have hN' : ((os.set L (.nst z (xs.set i (row.set k (.own s ys))) none)).set N .dead)[N]? = some .dead := set_same (o := .arr true s ys) (by rw [set_other hLN]; exact hN)
    have hL' : ((os.set L (.nst z (xs.set i (row.set k (.own s ys))) none)).set N .dead)[L]? = some (.nst z (xs.set i (row.set k (.own s ys))) none) := by
      rw [set_other (Ne.symm hLN), set_same hL]
    have hM' : ∀ M, M ≠ L → M ≠ N → ((os.set L (.nst z (xs.set i (row.set k (.own s ys))) none)).set N .dead)[M]? = os[M]? := fun M h1 h2 => by
      rw [set_other (Ne.symm h2), set_other (Ne.symm h1)]
    have hlen : os.length ≤ ((os.set L (.nst z (xs.set i (row.set k (.own s ys))) none)).set N .dead).length := by simp
    generalize ((os.set L (.nst z (xs.set i (row.set k (.own s ys))) none)).set N .dead) = os' at *
    have how : ∀ M, own os' M → M = L ∨ (M ≠ L ∧ M ≠ N ∧ own os M) := by
      intro M hM
      by_cases e1 : M = L
      · exact .inl e1
      · by_cases e2 : M = N
        · subst e2; unfold own at hM; rw [hN'] at hM; exact hM.elim
        · refine .inr ⟨e1, e2, ?_⟩
          unfold own at hM ⊢; rw [hM' M e1 e2] at hM; exact hM
    -- the slice that is put away
    obtain ⟨v0, hv0, hr0⟩ := r3 k _ hk
    have hsl : ∃ l, (∀ b' ∈ l, b' ∈ g N) ∧ OwnA (rdF X os g w) X w l s ys v0 := by
      have hoN := h.obj N
      rw [hN] at hoN
      simp only [RepC, hN] at hr0
      obtain ⟨cap, hc, _, hv⟩ := hr0
      obtain ⟨q2, hq⟩ := hoN
      rcases hv with ⟨b', hb', rfl, hroom⟩ | ⟨rfl, a, rfl⟩
      · rcases hq with ⟨q0, _⟩ | ⟨b2, q0, q1, c', t', q3, q4, q5, q6⟩
        · rw [q0] at hb'; cases hb'
        · obtain rfl : b2 = b' := by rw [q0] at hb'; simpa using hb'
          refine ⟨[b2], by simp [q0], q2, .inr ⟨b2, cap, rfl, q1, by simp, hc, c', t', q3, ?_, q5, q6⟩⟩
          simpa [room, q3] using hroom
      · have hy : ys = [] := List.eq_nil_of_length_eq_zero (by omega)
        subst hy
        exact ⟨[], (fun _ hb => by cases hb), q2, .inl ⟨rfl, rfl, a, rfl⟩⟩
    obtain ⟨l, hl, hsl⟩ := hsl
    have hlnb : ∀ b' ∈ l, b' ∉ g L := fun b' hb' e => hLN (h.inj L N hown hownN b' e (hl b' hb'))
    have hgL : updG g L (b :: (nb ++ l)) L = b :: (nb ++ l) := updG_same _ _ _
    refine ⟨updG g L (b :: (nb ++ l)), h.regroup hlen (fun M => M = L ∨ M = N) (fun M hM => ?_) ?_ (fun M hM b' hb' => ?_) (fun M M2 hM hM2 b' e f => ?_) ?_⟩
    · simp only [not_or] at hM
      exact ⟨hM' M hM.1 hM.2, fun _ => updG_other _ hM.1⟩
    · rintro M o (rfl | rfl) e
      · rw [hL] at e; cases e
        exact ⟨⟨_, rfl⟩, .inr ⟨_, hL', by simp [AO.al], by rw [hgL, p0]; rfl⟩⟩
      · rw [hN] at e; cases e
        exact ⟨⟨_, rfl⟩, .inl hN'⟩
    · rcases how M hM with rfl | ⟨h1, h2, h3⟩
      · rw [hgL] at hb'
        rcases List.mem_cons.1 hb' with rfl | hb'
        · exact ⟨M, hown, by rw [p0]; exact .head _⟩
        · rcases List.mem_append.1 hb' with hb' | hb'
          · exact ⟨M, hown, by rw [p0]; exact .tail _ hb'⟩
          · exact ⟨N, hownN, hl b' hb'⟩
      · rw [updG_other _ h1] at hb'; exact ⟨M, h3, hb'⟩
    · have hkey : ∀ M, M ≠ L → M ≠ N → own os M → b' ∈ g M → b' ∈ b :: (nb ++ l) → False := by
        intro M h1 h2 h3 e5 f5
        rcases List.mem_cons.1 f5 with f5 | f5
        · exact h1 (h.inj M L h3 hown _ e5 (by rw [p0, f5]; exact .head _))
        · rcases List.mem_append.1 f5 with f5 | f5
          · exact h1 (h.inj M L h3 hown _ e5 (by rw [p0]; exact .tail _ f5))
          · exact h2 (h.inj M N h3 hownN _ e5 (hl b' f5))
      rcases how M hM with rfl | ⟨h1, h2, h3⟩ <;> rcases how M2 hM2 with rfl | ⟨k1, k2, k3⟩
      · rfl
      · rw [updG_other _ k1] at f; rw [hgL] at e; exact (hkey M2 k1 k2 k3 f e).elim
      · rw [updG_other _ h1] at e; rw [hgL] at f; exact (hkey M h1 h2 h3 e f).elim
      · rw [updG_other _ h1] at e; rw [updG_other _ k1] at f; exact h.inj M M2 h3 k3 b' e f
    · rintro st M (rfl | rfl)
      · rw [hL']
        have hkl : k < row.length := lt_of_get hk
        refine ⟨p2, .inr ⟨b, nb ++ l, fun i' k' => if i' = i then (if k' = k then l else []) else F i' k', hgL, p1, c, t, p3, by simpa using p4, fun x hx => ?_, fun i' k' x' y hx' hy' _ => ?_, (fun j row e => by cases e), fun i' k' b' hb' => ?_, fun i1 k1 i2 k2 b' e1 e2 => ?_, fun e => ?_, fun b' hb' => ?_⟩⟩
        · rcases List.mem_or_eq_of_mem_set hx with hx | rfl
          · exact p5 x hx
          · rw [List.length_set]; exact r2
        · rw [List.getElem?_set] at hx'
          by_cases e : i = i'
          · subst e
            rw [if_pos rfl, if_pos r1] at hx'
            cases hx'
            rw [List.getElem?_set] at hy'
            by_cases e2 : k = k'
            · subst e2
              rw [if_pos rfl, if_pos hkl] at hy'
              cases hy'
              refine ⟨v0, hv0, ?_⟩
              simp only [if_true]
              exact OwnA.to st.rd (fun _ _ => rfl) (fun _ _ => id) hsl
            · rw [if_neg e2] at hy'
              obtain ⟨v, hv, hr⟩ := r3 k' y hy'
              exact ⟨v, hv, .ofP ((hr.toP (hcp k' y (Ne.symm e2) hy')).mono st.rd)⟩
          · rw [if_neg e] at hx'
            obtain ⟨v, hv, hr⟩ := p6 i' k' x' y hx' hy' (fun q => e q.symm)
            refine ⟨v, hv, ?_⟩
            dsimp only
            rw [if_neg (Ne.symm e)]
            exact hr.to st.rd (fun _ _ => rfl) fun _ _ => id
        · dsimp only at hb'
          by_cases e : i' = i
          · rw [if_pos e] at hb'
            split at hb'
            · exact List.mem_append.2 (.inr hb')
            · cases hb'
          · rw [if_neg e] at hb'
            exact List.mem_append.2 (.inl (p8 _ _ _ hb'))
        · have hx : ∀ {i' k'}, b' ∈ F i' k' → b' ∈ l → False := fun h1 h2 => hlnb b' h2 (by rw [p0]; exact .tail _ (p8 _ _ _ h1))
          dsimp only at e1 e2
          by_cases a1 : i1 = i
          · rw [if_pos a1] at e1
            split at e1
            · rename_i c1
              by_cases a2 : i2 = i
              · rw [if_pos a2] at e2
                split at e2
                · rename_i c2; exact ⟨a1.trans a2.symm, c1.trans c2.symm⟩
                · cases e2
              · rw [if_neg a2] at e2; exact (hx e2 e1).elim
            · cases e1
          · rw [if_neg a1] at e1
            by_cases a2 : i2 = i
            · rw [if_pos a2] at e2
              split at e2
              · exact (hx e1 e2).elim
              · cases e2
            · rw [if_neg a2] at e2; exact p9 _ _ _ _ _ e1 e2
        · rcases List.mem_append.1 e with e | e
          · exact p10.1 e
          · exact hlnb b e (by rw [p0]; exact .head _)
        · rcases List.mem_append.1 hb' with e | e
          · exact p10.2 _ e
          · exact own_wr h hownN _ (hl _ e)
      · rw [hN']; trivial

/-- What holds behind code. -/
def CQ (X : Ctx) (c : Cx) (Q : Ex → St → Prop) : Exit → Act → World → Prop
  | .normal, a, w => ∃ st g, Q .normal st ∧ Rel X c st g a w
  | .exit id, a, w => ∃ st g, Q (.exit id) st ∧ Rel X c st g a w
  | .ret, a, w => ∃ st g, Q .ret st ∧ Rel X c st g a w
  | _, _, _ => False

theorem wp_loop_n {Q : Exit → Act → World → Prop} {b0 : Code} (I : Nat → Act → World → Prop) (round : ∀ n a w, I n a w → b0.wp P (Exit.then (fun a' w' => ∃ m, m < n ∧ I m a' w') Q) a w) : ∀ n a w, I n a w → (Code.loop b0).wp P Q a w := by
  intro n a w h b k cs
  have key : ∀ n a w, I n a w → ∃ e a' w', Q e a' w' ∧ Arrives P (lone (b.at a (.code b0 :: .inLoop b0 :: k)) cs w) b k cs e a' w' := by
    intro n
    induction n using Nat.strongRecOn with
    | _ n ih =>
      intro a w hI
      obtain ⟨e, a₁, w₁, hq, harr⟩ := round n a w hI b (.inLoop b0 :: k) cs
      cases e with
      | normal =>
        obtain ⟨m, hlt, hI₁⟩ := hq
        obtain ⟨e₂, a₂, w₂, hq₂, harr₂⟩ := ih m hlt a₁ w₁ hI₁
        exact ⟨e₂, a₂, w₂, hq₂, .of_steps (Steps.trans harr (.one step_inLoop)) harr₂⟩
      | exit id => exact ⟨_, a₁, w₁, hq, .pass (x := .inLoop b0) rfl (fun _ _ => .inl (by simp)) harr⟩
      | goto l => exact ⟨_, a₁, w₁, hq, .pass (x := .inLoop b0) rfl (fun _ _ => .inl (by simp)) harr⟩
      | ret => exact ⟨_, a₁, w₁, hq, .pass (x := .inLoop b0) rfl (fun _ _ => .inl (by simp)) harr⟩
      | panic ch => exact ⟨_, a₁, w₁, hq, .pass (x := .inLoop b0) rfl (fun _ _ => .inl (by simp)) harr⟩
      | outgrown => exact ⟨_, a₁, w₁, hq, .pass (x := .inLoop b0) rfl (fun _ _ => .inl (by simp)) harr⟩
  obtain ⟨e, a', w', hq, harr⟩ := key n a w h
  exact ⟨e, a', w', hq, .of_steps (.one step_loop) harr⟩

theorem dsts_ops {nt id : Nat} {ops : Array Oper} {dr : Bool} (h : dstsOk nt (.region id ops dr) = true) (i : Nat) (o : Oper) (ho : ops[i]? = some o) (d : Nat) (hd : o.dst = some d) : d < nt := by
  simp only [dstsOk, List.all_eq_true] at h
  have := h o (Array.mem_toList_iff.2 (Array.mem_of_getElem? ho))
  rw [hd] at this
  simpa using this

theorem aw_ok (hP : PrOk P c) (hX : X.Ok) {lv : List Nat} : ∀ (d : Code) (Q : Ex → St → Prop) (st : St) (g : Nat → List Nat) (a : Act) (w : World), dstsOk X.nt d = true → aw c (Con P c) X.os0.length lv d Q st → Rel X c st g a w → d.wp P (CQ X c Q) a w
  | .skip, Q, st, g, a, w, _, hk, h => wp_skip ⟨st, g, hk, h⟩
  | .region id ops false, Q, st, g, a, w, hd, hk, h => by
    refine wp_region ?_
    rw [List.range_eq_range']
    exact ops_ok hP hX (dsts_ops hd) ops.size 0 st g a w _ (by omega) hk h fun st' g' a' w' hk' h' => ⟨_, g', hk', h'.keep lv⟩
  | .region id ops true, Q, st, g, a, w, hd, hk, h => by
    obtain ⟨p, H, hp, hk⟩ := hk
    simp only [planOk, Bool.and_eq_true] at hp
    refine wp_region_L hP.mixed (S := fun _ => True) ?_
    obtain ⟨h1, h2⟩ := h.srel.drew (w' := { w with drawn := w.drawn + 1 }) rfl rfl rfl rfl
    exact plan_ok hP hX (dsts_ops hd) hp.1 (fun _ _ _ hq => hq) (fun st' g' a' w' hk' h' => ⟨_, g', hk', h'.keep lv⟩) p ops.size _ st g a _ _ hp.2 hk (h.to h1 h2) (fun _ _ => trivial)
  | .seq x y, Q, st, g, a, w, hd, hk, h => by
    simp only [dstsOk, Bool.and_eq_true] at hd
    refine wp_seq (wp_mono (aw_ok hP hX x _ st g a w hd.1 hk h) fun e a' w' hq => ?_)
    cases e with
    | normal =>
      obtain ⟨st', g', hk', h'⟩ := hq
      rcases hk' with hk' | ⟨ts, ks, t, h1, h2, h3⟩ | ⟨os1, h1, h2⟩
      · exact aw_ok hP hX y Q st' g' a' w' hd.2 hk' h'
      · exact aw_ok hP hX y Q t _ a' w' hd.2 h3 ((h'.view h1).wk h2)
      · obtain ⟨g1, h3, h4⟩ := ns_ok h'.srel h1
        exact aw_ok hP hX y Q _ g1 a' w' hd.2 h2 (h'.to h3 h4)
    | exit id => exact hq
    | ret => exact hq
    | _ => exact hq
  | .cond x t f, Q, st, g, a, w, hd, hk, h => by
    simp only [dstsOk, Bool.and_eq_true] at hd
    simp only [aw] at hk
    split at hk
    · rename_i b hb
      have he := h.ev x
      rw [hb] at he
      exact wp_cond_split (t := b) he (fun e => aw_ok hP hX t Q st g a w hd.1 (hk.1 e) h) (fun e => aw_ok hP hX f Q st g a w hd.2 (hk.2 e) h)
    · exact hk.elim
  | .block id b, Q, st, g, a, w, hd, hk, h => by
    refine wp_block (wp_mono (aw_ok hP hX b _ st g a w hd hk h) fun e a' w' hq => ?_)
    cases e with
    | normal => exact hq
    | exit j =>
      obtain ⟨st', g', hk', h'⟩ := hq
      simp only [inBlockA] at hk'
      simp only [Exit.inBlock]
      split at hk'
      · rename_i e; rw [if_pos e]; exact ⟨st', g', hk', h'⟩
      · rename_i e; rw [if_neg e]; exact ⟨st', g', hk', h'⟩
    | ret => exact hq
    | _ => exact hq
  | .loop b, Q, st, g, a, w, hd, hk, h => by
    obtain ⟨ts, I, ⟨n0, ks, s0, hks, hw0, hI⟩, hround⟩ := hk
    refine wp_loop_n (fun n a w => ∃ st g, I n st ∧ Rel X c st g a w) ?_ n0 a w ⟨s0, _, hI, (h.view hks).wk hw0⟩
    rintro n a w ⟨st, g, hI, h⟩
    refine wp_mono (aw_ok hP hX b _ st g a w hd (hround n st hI) h) fun e a' w' hq => ?_
    cases e with
    | normal =>
      obtain ⟨st', g', ⟨m, ks', t, hm, hks', hw', hI'⟩, h'⟩ := hq
      exact ⟨m, hm, _, _, hI', (h'.view hks').wk hw'⟩
    | exit id => exact hq
    | ret => exact hq
    | _ => exact hq
  | .exit id, Q, st, g, a, w, _, hk, h => wp_exit ⟨st, g, hk, h⟩
  | .ret, Q, st, g, a, w, _, hk, h => wp_ret ⟨st, g, hk, h⟩
  | .rangeFunc .., Q, st, g, a, w, _, hk, h => hk.elim
  | .scope .., Q, st, g, a, w, _, hk, h => hk.elim
  | .label .., Q, st, g, a, w, _, hk, h => hk.elim
  | .goto .., Q, st, g, a, w, _, hk, h => hk.elim
  | .refuse .., Q, st, g, a, w, _, hk, h => hk.elim

theorem enter_lk : ∀ (vs : List AV) (n t : Nat), lk (enterE n vs) t = if n ≤ t then vs.getD (t - n) .junk else .junk
  | [], n, t => by simp [enterE, lk]
  | x :: r, n, t => by
    simp only [enterE, lk, enter_lk r (n + 1) t]
    by_cases h : n = t
    · subst h; simp
    · rw [if_neg h]
      by_cases h2 : n ≤ t
      · rw [if_pos (by omega), if_pos h2]
        have : t - n = (t - (n + 1)) + 1 := by omega
        rw [this]; rfl
      · rw [if_neg (by omega), if_neg h2]

theorem viewA_V {rd rd' : Nat → Nat → Option Value} {os : List AO} {g g' : Nat → List Nat} {w : World} {ks : List Nat} {x : AV} {v : Value} (hm : ∀ b o v, rd b o = some v → rd' b o = some v) (hg : ∀ j L o, ks[j]? = some L → os[L]? = some o → g' j = g L)
    (hsh : ∀ L ∈ shownV ks x, ∀ o s xs, os[L]? = some o → o.fzr = some (s, xs) → ∀ b, (g L).head? = some b → Row rd' b 0 s xs) (h : RepV rd os g w x v) : RepA rd' (viewS ks os) g' w (viewA ks os x) v := by
  cases x with
  | tup cs => trivial
  | opt b x => trivial
  | agg cs => exact viewA_ok hm hg (x := .agg cs) hsh h
  | sc => exact (viewC_ok hm hg (x := .sc _) hsh h).toA
  | fz => exact (viewC_ok hm hg (x := .fz _ _) hsh h).toA
  | fp => exact (viewC_ok hm hg (x := .fp _ _ _ _) hsh h).toA
  | sl => exact (viewC_ok hm hg (x := .sl _ _ _) hsh h).toA
  | pa => exact (viewC_ok hm hg (x := .pa _ _ _) hsh h).toA
  | pt => exact (viewC_ok hm hg (x := .pt _ _) hsh h).toA
  | clo => exact (viewC_ok hm hg (x := .clo _ _) hsh h).toA
  | own => trivial
  | junk => trivial

def resS (tmps : Array Value) : ResultVar → Sem Value
  | .tmp t => pure (tmps.getD t undef)
  | .cell a t => do loadVar t (← asAddr (tmps.getD a undef))

theorem results_run {fn : Func} {rs : List ResultVar} (h : fn.results = rs.toArray) (tmps : Array Value) (w : World) (val : ResultVar → Value)
    (hv : ∀ r ∈ rs, (resS tmps r).run P w = .ok (val r) w) :
    (results fn tmps).run P w = .ok (if h : (rs.map val).length = 1 then (rs.map val)[0] else .tuple (rs.map val).toArray) w := by
  have hm : ∀ (f : ResultVar → Sem Value) (l : List ResultVar), (∀ r ∈ l, (f r).run P w = .ok (val r) w) → (l.mapM f).run P w = .ok (l.map val) w := by
    intro f l
    induction l with
    | nil => intro _; rfl
    | cons r l ih =>
      intro hl
      simp only [List.mapM_cons, Sem.run_bind, hl r (.head _), Result.andThen_ok, ih fun q hq => hl q (.tail _ hq), Sem.run_pure, List.map_cons]
  unfold results
  rw [h, List.mapM_toArray]
  simp only [Sem.run_bind, Sem.run_map]
  rw [hm _ rs ?_]
  · simp
  · intro r hr
    have := hv r hr
    cases r <;> exact this

theorem cell_run (hP : PrOk P c) {st : St} {g : Nat → List Nat} {a : Act} {w : World} (h : Rel X c st g a w) (r : ResultVar) (hk : resOk c st.os st.env r) :
    ∃ v, RepV (rdF X st.os g w) st.os g w (resV c st.os st.env r) v ∧ (resS a.tmps r).run P w = .ok v w := by
  cases r with
  | tmp t => exact ⟨_, h.env t, rfl⟩
  | cell x t =>
    obtain ⟨h1, h2, h3⟩ := hk
    have hx := h.env x
    obtain ⟨b, o, e⟩ := Rep_addr hx h1
    obtain ⟨h6, h7⟩ := loadV_eq (zero_len hP h2) h2 h3
    simp only [resV, h6]
    rw [e] at hx
    obtain ⟨v, h4, h5⟩ := Rep_load hP h.srel hx h1 h2 h7
    refine ⟨v, h4, ?_⟩
    have := h5 w rfl
    simp only [resS, e]
    simpa [Instr.loadAt, Instr.sureAddr, asAddr] using this

end Go.AM
