/- A function's contract from its code; the code, walked step by step. Conditions: none. -/
import Derived.Test.YtcnlhdaeeeolbaaAmP
set_option linter.unusedSimpArgs false
set_option linter.unusedVariables false
namespace Go.AM
open Go

section con
variable {P : Program} {c : Cx}

theorem resA_map (c : Cx) (ks : List Nat) (os : List AO) (e : Env) : ∀ rs, resA c ks os e rs = rs.map fun r => viewA ks os (resV c os e r)
  | [] => rfl
  | t :: r => by simp only [resA, List.map_cons, resA_map c ks os e r]

theorem con_of_aw (hP : PrOk P c) {f : Nat} {fn : Func} {body : Code} {vs : List AV} {σ : List AO} {post : AV → List AO → Prop} {lv : List Nat} {rs : List ResultVar} (hf : P.funcs[f]? = some fn) (hb : fn.body = some body)
    (hname : (fn.name == "runtime.NumGoroutine") = false) (hd : dstsOk fn.ntmps body = true) (hn : vs.length ≤ fn.ntmps) (hres : fn.results = rs.toArray)
    (h : aw c (Con P c) σ.length lv body (endQ c σ.length rs post) ⟨enterE 0 vs, σ⟩) : Con P c f vs σ post := by
  refine ⟨⟨fn, hf⟩, fun X vals hX h0 hnt hs hgl hsz hrep => ⟨fn, hf, hname, .inl ⟨by simp [hb], ?_⟩⟩⟩
  have hrel : Rel X c ⟨enterE 0 vs, σ⟩ X.g0 { tmps := vals ++ Array.replicate (fn.ntmps - vals.size) undef, defers := [] } X.W := by
    refine ⟨hs, fun t => ?_, ?_, rfl, hgl, by rw [h0]; exact Keeps.refl _ _ _⟩
    · simp only [enter_lk]
      rw [if_pos (Nat.zero_le _), Nat.sub_zero]
      cases hv : vs[t]? with
      | none => simp only [List.getD, hv, Option.getD_none]; trivial
      | some y =>
        obtain ⟨u, hu, hr⟩ := hrep t y hv
        simp only [List.getD, hv, Option.getD_some]
        have hlt := lt_of_heap hu
        rw [Array.getD_eq_getD_getElem?, Array.getElem?_append_left hlt, hu]
        exact hr
    · rw [hnt fn hf]; simp; omega
  have hwp := aw_ok hP hX body _ _ X.g0 _ X.W (by rw [hnt fn hf]; exact hd) (by rw [h0]; exact h) hrel
  refine calls_of_wp hf hb (wp_mono hwp ?_)
  have hend : ∀ (a : Act) (w : World), (∃ st g, (allP (resOk c st.os st.env) rs ∧ ∃ ks x σ', keepP σ.length ks st.os ∧ wkV (oneA (resA c ks st.os st.env rs)) x ∧ wkS (viewS ks st.os) σ' ∧ post x σ') ∧ Rel X c st g a w) →
      a.defers = [] ∧ ∃ v, (results fn a.tmps).run P w = .ok v w ∧ ∃ v' x σ' g', Ending.returned v = .returned v' ∧ post x σ' ∧ SRel X σ' g' w ∧ Keeps σ X.g0 X.W σ' g' w ∧ RepV (rdF X σ' g' w) σ' g' w x v' := by
    rintro a w ⟨st, g, ⟨hok, ks, x0, σ0, hk, hwx, hws, hp⟩, hr⟩
    have hnd : ks.Nodup := nodupN_spec (by have := hk.1; simp only [keepOk, Bool.and_eq_true] at this; exact this.2)
    obtain ⟨h1, h2, h3⟩ := hr.srel.view hnd
    have hal := hws.alike
    have hrd : rdF X σ0 (viewG ks st.os g) w = rdF X (viewS ks st.os) (viewG ks st.os g) w := by funext b o; exact hal.rd b o
    have hval : ∀ r ∈ rs, ∃ v, RepV (rdF X st.os g w) st.os g w (resV c st.os st.env r) v ∧ (resS a.tmps r).run P w = .ok v w := fun r hm => cell_run hP hr r (allP_mem hok r hm)
    classical
    let val : ResultVar → Value := fun r => if hm : r ∈ rs then (hval r hm).choose else undef
    have hvr : ∀ r ∈ rs, RepV (rdF X st.os g w) st.os g w (resV c st.os st.env r) (val r) ∧ (resS a.tmps r).run P w = .ok (val r) w := by
      intro r hm
      have : val r = (hval r hm).choose := by simp only [val, dif_pos hm]
      rw [this]; exact (hval r hm).choose_spec
    refine ⟨hr.defs, _, results_run hres a.tmps w val (fun r hm => (hvr r hm).2), _, _, _, _, rfl, hp, h1.wk hws, ?_, ?_⟩
    · have := hr.keeps.view (ks := ks) (by rw [h0]; exact hk)
      rw [h0] at this
      exact this.wk hws
    · rw [hrd]
      refine hal.repV (RepV.wk ?_ hwx)
      have hA : ∀ r ∈ rs, RepA (rdF X (viewS ks st.os) (viewG ks st.os g) w) (viewS ks st.os) (viewG ks st.os g) w (viewA ks st.os (resV c st.os st.env r)) (val r) := fun r hm =>
        viewA_V (g := g) h2 (fun j L o => viewG_get) (fun L hL => h3 L (shownV_not hL)) (hvr r hm).1
      rw [resA_map]
      clear_value val
      match rs, hA with
      | [], _ => exact ⟨#[], by simp, rfl, fun i y hy => by simp at hy⟩
      | [t], hA => simpa [oneA] using (hA t (.head _)).toV
      | t :: u :: r, hA =>
        refine ⟨((t :: u :: r).map val).toArray, by simp, by simp, fun i y hy => ?_⟩
        rw [← List.map_cons (f := fun t => viewA ks st.os (resV c st.os st.env t)), List.getElem?_map] at hy
        cases hi : (t :: u :: r)[i]? with
        | none => rw [hi] at hy; cases hy
        | some q =>
          rw [hi] at hy; cases hy
          refine ⟨val q, ?_, hA q (List.mem_of_getElem? hi)⟩
          rw [List.getElem?_toArray, List.getElem?_map, hi]; rfl
  intro e a w hq
  cases e with
  | normal => exact hend a w hq
  | ret => exact hend a w hq
  | exit id => obtain ⟨st, g, hq, _⟩ := hq; exact hq.elim
  | _ => exact hq.elim

/-- A function without a body, of values that stand in one cell, that leaves memory as it is. -/
theorem con_ext {f : Nat} {fn : Func} {ent : Array Value → Sem Value} (hf : P.funcs[f]? = some fn) (hname : (fn.name == "runtime.NumGoroutine") = false) (hb : fn.body.isNone = true) (hn : Extern.findNext fn = none) (he : Extern.find fn = some ent)
    (vs : List Value) (v : Value) (σ : List AO) (hrun : ∀ w, (ent vs.toArray).run P w = .ok v w) : Con P c f (vs.map AV.sc) σ (fun x σ' => x = .sc v ∧ σ' = σ) := by
  refine ⟨⟨fn, hf⟩, fun X vals hX h0 hnt hs hgl hsz hrep => ⟨fn, hf, hname, .inr ⟨hb, hn, ent, v, X.W, he, ?_, v, .sc v, σ, X.g0, rfl, ⟨rfl, rfl⟩, hs, by first | exact Keeps.refl _ _ _ | (rw [← h0]; exact Keeps.refl _ _ _), rfl⟩⟩⟩
  have : vals = vs.toArray := by
    apply Array.ext'
    apply List.ext_getElem?
    intro i
    rw [Array.getElem?_toList]
    cases hi : vs[i]? with
    | none =>
      have h1 : vs.length ≤ i := by simpa using hi
      simp at hsz
      simp [hi]; omega
    | some y =>
      obtain ⟨u, hu, hr⟩ := hrep i (.sc y) (by rw [List.getElem?_map, hi]; rfl)
      have : u = y := hr
      simp [hu, hi, this]
  rw [this]; exact hrun _

theorem Con.mono {f : Nat} {vs : List AV} {σ : List AO} {post post' : AV → List AO → Prop} (h : Con P c f vs σ post) (hp : ∀ x σ', post x σ' → post' x σ') : Con P c f vs σ post' :=
  ⟨h.1, fun X vals a1 a2 a3 a4 a5 a6 a7 => CallsX.mono (h.2 X vals a1 a2 a3 a4 a5 a6 a7) fun _ _ ⟨v, x, σ', g', he, hp', r⟩ => ⟨v, x, σ', g', he, hp x σ' hp', r⟩⟩
end con

/-- What is still to be done. -/
inductive It where
  | code (d : Code)
  | ops (all : Array Oper) (l : List Oper)
  | op (H : List Nat) (all : Array Oper) (o : Oper)
  | plan (ops : Array Oper) (H : List Nat) (p : Plan)
  | tak (H : List Nat) (all : Array Oper) (l : List Oper)
  | blk (id : Nat)
  | back (B : St → Prop)
  | join

/-- Quiet operations of a region that draws its order, one behind the other. -/
def takesA (c : Cx) (CT : CTab) (ops : Array Oper) (H : List Nat) : List Oper → St → (St → Prop) → Prop
  | [], st, K => K st
  | o :: r, st, K => heldOk H c st.env o.op ∧ stepA c CT H ops o st fun st' => takesA c CT ops H r st' K

/-- What must hold here, so that what is still to be done ends well. -/
def sem (c : Cx) (CT : CTab) (nl : Nat) (lv : List Nat) (Q : Ex → St → Prop) : List It → Ex → St → Prop
  | [], e, s => Q e s
  | .code d :: k, .normal, s => aw c CT nl lv d (sem c CT nl lv Q k) s
  | .ops all l :: k, .normal, s => opsA c CT all l s fun s' => sem c CT nl lv Q k .normal ⟨keepE lv s'.env, s'.os⟩
  | .op H all o :: k, .normal, s => stepA c CT H all o s fun s' => sem c CT nl lv Q k .normal s'
  | .plan ops H p :: k, .normal, s => planA c CT ops H p s fun s' => sem c CT nl lv Q k .normal ⟨keepE lv s'.env, s'.os⟩
  | .tak H all l :: k, .normal, s => takesA c CT all H l s fun s' => sem c CT nl lv Q k .normal ⟨keepE lv s'.env, s'.os⟩
  | .blk _ :: k, .normal, s => sem c CT nl lv Q k .normal s
  | .blk id :: k, .exit j, s => if j = id then sem c CT nl lv Q k .normal s else sem c CT nl lv Q k (.exit j) s
  | .back B :: _, .normal, s => B s
  | .join :: k, .normal, s => upA nl (sem c CT nl lv Q k .normal) s
  | _ :: k, e, s => sem c CT nl lv Q k e s

theorem con_of_sem {P : Program} {c : Cx} (hP : PrOk P c) {f : Nat} {fn : Func} {body : Code} {vs : List AV} {σ : List AO} {post : AV → List AO → Prop} (lv : List Nat) (rs : List ResultVar) (hf : P.funcs[f]? = some fn) (hb : fn.body = some body)
    (hname : (fn.name == "runtime.NumGoroutine") = false) (hd : dstsOk fn.ntmps body = true) (hn : vs.length ≤ fn.ntmps) (hres : fn.results = rs.toArray)
    (h : sem c (Con P c) σ.length lv (endQ c σ.length rs post) [.code body] .normal ⟨enterE 0 vs, σ⟩) : Con P c f vs σ post :=
  con_of_aw hP hf hb hname hd hn hres h

theorem effA_mono {c : Cx} {CT : CTab} {H : List Nat} {os : List AO} {r : Operand → AV} {o : Op} {K K' : AV → List AO → Prop} (h : effA c CT H os r o K) (hk : ∀ x s, K x s → K' x s) : effA c CT H os r o K' := by
  cases o <;> try exact h.elim
  case binOp op t x y t' =>
    obtain ⟨a0, a1, a, b, d, e, f, g⟩ := h
    exact ⟨a0, a1, a, b, d, e, f, fun v hv => hk _ _ (g v hv)⟩
  case alloc t => exact ⟨h.1, hk _ _ h.2⟩
  case box t x => exact ⟨h.1, h.2.1, hk _ _ h.2.2⟩
  case store t a x => exact ⟨h.1, h.2.1, h.2.2.1, h.2.2.2.1, hk _ _ h.2.2.2.2⟩
  case buildSlice t n ps => obtain ⟨a, b, d, e, f, g⟩ := h; exact ⟨a, b, d, e, f, hk _ _ g⟩
  case makeSlice t l m => obtain ⟨a, b, d, e, f, g, i, j, l, m⟩ := h; exact ⟨a, b, d, e, f, g, i, j, l, hk _ _ m⟩
  case call cl =>
    obtain ⟨callee, args, tys⟩ := cl
    cases callee with
    | invoke rv nm => exact h.elim
    | builtin b =>
      cases b <;> try exact h.elim
      case append =>
        simp only [effA] at h ⊢
        split at h
        · split at h
          · rename_i hi
            rw [if_pos hi]
            obtain ⟨k0, k1, k2, k3, k4, k5, k6, k7, k8, K1, K2⟩ := h
            exact ⟨k0, k1, k2, k3, k4, k5, k6, k7, k8, fun a => hk _ _ (K1 a), fun a => hk _ _ (K2 a)⟩
          · rename_i hi
            rw [if_neg hi]
            obtain ⟨k0, k1, k2, k3, k4, k5, k6, k7, k8, k9, K1, K2⟩ := h
            exact ⟨k0, k1, k2, k3, k4, k5, k6, k7, k8, k9, fun a b => hk _ _ (K1 a b), fun a => hk _ _ (K2 a)⟩
        · exact h.elim
    | value f =>
      simp only [effA] at h ⊢
      split at h
      · obtain ⟨lend, esc, post, con, hn, hl, hp⟩ := h
        exact ⟨lend, esc, post, con, hn, hl, fun x σ hx => ⟨(hp x σ hx).1, hk _ _ (hp x σ hx).2⟩⟩
      · exact h.elim

theorem stepA_mono {c : Cx} {CT : CTab} {H : List Nat} {ops : Array Oper} {o : Oper} {s : St} {K K' : St → Prop} (h : stepA c CT H ops o s K) (hk : ∀ s, K s → K' s) : stepA c CT H ops o s K' := by
  unfold stepA at h ⊢
  split
  · rename_i hg
    rw [hg] at h
    simp only at h
    split at h
    · rename_i hp; rw [if_pos hp]; exact ⟨h.1, hk _ h.2⟩
    · rename_i hp; rw [if_neg hp]; exact effA_mono h fun _ _ => hk _
  · rename_i j want hg
    rw [hg] at h
    simp only at h
    split at h
    · exact h.elim
    · split at h
      · rename_i hp; rw [if_pos hp]; exact ⟨h.1, hk _ h.2⟩
      · rename_i hp; rw [if_neg hp]; exact ⟨fun hg => ⟨(h.1 hg).1, effA_mono (h.1 hg).2 fun _ _ => hk _⟩, fun hg => hk _ (h.2 hg)⟩

/-- A call that is to be told. -/
def callR (c : Cx) (CT : CTab) (nl : Nat) (lv : List Nat) (Q : Ex → St → Prop) (H : List Nat) (n : Nat) (vs : List AV) (e : Env) (os : List AO) (dst : Option Nat) (k : List It) : Prop :=
  ∃ (lend : List Nat) (esc : Bool) (post : AV → List AO → Prop), CT n (vs.map (viewV lend os)) (viewS lend os) post ∧ nodupN lend = true ∧ allP (fun L => own os L ∧ memN H L = false) lend ∧
    ∀ x σ', post x σ' → (esc = false → noFzV x ∧ allP noFzO σ') ∧
      sem c CT nl lv Q k .normal ⟨put e dst (renV (backN lend os.length) x), merge lend (if esc = true then unownN os (shownAll lend os vs) else os) σ'⟩

/-- A choice that is to be made. -/
def condR (c : Cx) (CT : CTab) (nl : Nat) (lv : List Nat) (Q : Ex → St → Prop) (x : AV) (t f : Code) (k : List It) (s : St) : Prop := match x with
  | .sc (.bool b) => (b = true → sem c CT nl lv Q (.code t :: k) .normal s) ∧ (b = false → sem c CT nl lv Q (.code f :: k) .normal s)
  | _ => False

section
variable (c : Cx) (CT : CTab) (nl : Nat) (lv : List Nat) (Q : Ex → St → Prop) (k : List It) (s : St)

theorem sem_seq (a b : Code) : sem c CT nl lv Q (.code (.seq a b) :: k) .normal s = sem c CT nl lv Q (.code a :: .join :: .code b :: k) .normal s := by
  show aw c CT nl lv (.seq a b) (sem c CT nl lv Q k) s = aw c CT nl lv a (sem c CT nl lv Q (.join :: .code b :: k)) s
  show aw c CT nl lv a (thenA (upA nl (aw c CT nl lv b (sem c CT nl lv Q k))) (sem c CT nl lv Q k)) s = _
  congr 1
  funext e s'
  cases e <;> rfl
theorem sem_skip : sem c CT nl lv Q (.code .skip :: k) .normal s = sem c CT nl lv Q k .normal s := rfl
theorem sem_region (id : Nat) (ops : Array Oper) : sem c CT nl lv Q (.code (.region id ops false) :: k) .normal s = sem c CT nl lv Q (.ops ops ops.toList :: k) .normal s := rfl
theorem sem_draw (id : Nat) (ops : Array Oper) (p : Plan) (H : List Nat) (hp : planOk ops p = true) (h : sem c CT nl lv Q (.plan ops H p :: k) .normal s) : sem c CT nl lv Q (.code (.region id ops true) :: k) .normal s := ⟨p, H, hp, h⟩
theorem sem_block (id : Nat) (b : Code) : sem c CT nl lv Q (.code (.block id b) :: k) .normal s = sem c CT nl lv Q (.code b :: .blk id :: k) .normal s := by
  show aw c CT nl lv b (inBlockA id (sem c CT nl lv Q k)) s = aw c CT nl lv b (sem c CT nl lv Q (.blk id :: k)) s
  congr 1
  funext e s'
  cases e <;> rfl
theorem sem_exit (id : Nat) : sem c CT nl lv Q (.code (.exit id) :: k) .normal s = sem c CT nl lv Q k (.exit id) s := rfl
theorem sem_ret : sem c CT nl lv Q (.code .ret :: k) .normal s = sem c CT nl lv Q k .ret s := rfl
theorem sem_cond (x : Operand) (t f : Code) (e : Env) (os : List AO) : sem c CT nl lv Q (.code (.cond x t f) :: k) .normal ⟨e, os⟩ = condR c CT nl lv Q (ev c e x) t f k ⟨e, os⟩ := by
  show aw c CT nl lv (.cond x t f) (sem c CT nl lv Q k) _ = _
  simp only [aw, condR]
  cases ev c e x <;> try rfl
theorem condR_bool (b : Bool) (t f : Code) : condR c CT nl lv Q (.sc (.bool b)) t f k s = ((b = true → sem c CT nl lv Q (.code t :: k) .normal s) ∧ (b = false → sem c CT nl lv Q (.code f :: k) .normal s)) := rfl
theorem condR_true (t f : Code) : condR c CT nl lv Q (.sc (.bool true)) t f k s = sem c CT nl lv Q (.code t :: k) .normal s := by simp [condR]
theorem condR_false (t f : Code) : condR c CT nl lv Q (.sc (.bool false)) t f k s = sem c CT nl lv Q (.code f :: k) .normal s := by simp [condR]
theorem sem_blk_n (id : Nat) : sem c CT nl lv Q (.blk id :: k) .normal s = sem c CT nl lv Q k .normal s := rfl
theorem sem_blk_e (id j : Nat) : sem c CT nl lv Q (.blk id :: k) (.exit j) s = if j = id then sem c CT nl lv Q k .normal s else sem c CT nl lv Q k (.exit j) s := rfl
theorem sem_blk_r (id : Nat) : sem c CT nl lv Q (.blk id :: k) .ret s = sem c CT nl lv Q k .ret s := rfl
theorem sem_code_e (d : Code) (j : Nat) : sem c CT nl lv Q (.code d :: k) (.exit j) s = sem c CT nl lv Q k (.exit j) s := rfl
theorem sem_code_r (d : Code) : sem c CT nl lv Q (.code d :: k) .ret s = sem c CT nl lv Q k .ret s := rfl
theorem sem_back_n (B : St → Prop) : sem c CT nl lv Q (.back B :: k) .normal s = B s := rfl
theorem sem_back_e (B : St → Prop) (j : Nat) : sem c CT nl lv Q (.back B :: k) (.exit j) s = sem c CT nl lv Q k (.exit j) s := rfl
theorem sem_back_r (B : St → Prop) : sem c CT nl lv Q (.back B :: k) .ret s = sem c CT nl lv Q k .ret s := rfl
theorem sem_nil (e : Ex) : sem c CT nl lv Q [] e s = Q e s := rfl

/-- A loop: by a family of states. -/
theorem sem_loop {α : Type} (b : Code) (ts ks : List Nat) (F : α → St) (φ : α → Prop) (μ : α → Nat) (a0 : α) (hk : keepP nl ks s.os) (h0 : wkSt (viewSt ts ks s) (F a0)) (hφ : φ a0)
    (hr : ∀ a, φ a → sem c CT nl lv Q (.code b :: .back (fun s' => ∃ ks a', keepP nl ks s'.os ∧ wkSt (viewSt ts ks s') (F a') ∧ φ a' ∧ μ a' < μ a) :: k) .normal (F a)) : sem c CT nl lv Q (.code (.loop b) :: k) .normal s := by
  refine ⟨ts, fun n s => ∃ a, s = F a ∧ φ a ∧ μ a = n, ⟨_, ks, F a0, hk, h0, a0, rfl, hφ, rfl⟩, ?_⟩
  rintro n s ⟨a, rfl, ha, rfl⟩
  have := hr a ha
  have e : (thenA (fun s' => ∃ m ks t, m < μ a ∧ keepP nl ks s'.os ∧ wkSt (viewSt ts ks s') t ∧ ∃ a_1, t = F a_1 ∧ φ a_1 ∧ μ a_1 = m) (sem c CT nl lv Q k)) = sem c CT nl lv Q (.back (fun s' => ∃ ks a', keepP nl ks s'.os ∧ wkSt (viewSt ts ks s') (F a') ∧ φ a' ∧ μ a' < μ a) :: k) := by
    funext ex s'
    cases ex with
    | normal =>
      apply propext
      constructor
      · rintro ⟨m, ks, t, h1, h2, h3, a', rfl, h4, rfl⟩; exact ⟨ks, a', h2, h3, h4, h1⟩
      · rintro ⟨ks, a', h2, h3, h4, h5⟩; exact ⟨μ a', ks, F a', h5, h2, h3, a', rfl, h4, rfl⟩
    | exit j => rfl
    | ret => rfl
  show aw c CT nl lv b (thenA _ (sem c CT nl lv Q k)) (F a)
  rw [e]; exact this

variable (all : Array Oper) (r : List Oper) (dst : Option Nat) (ty : Nat) (pos : String) (af : Array Edge) (e : Env) (os : List AO) (H : List Nat)

theorem sem_ops_nil : sem c CT nl lv Q (.ops all [] :: k) .normal ⟨e, os⟩ = sem c CT nl lv Q k .normal ⟨keepE lv e, os⟩ := rfl
theorem sem_ops_cons (o : Oper) : sem c CT nl lv Q (.ops all (o :: r) :: k) .normal ⟨e, os⟩ = sem c CT nl lv Q (.op [] all o :: .ops all r :: k) .normal ⟨e, os⟩ := rfl
theorem sem_plan_done : sem c CT nl lv Q (.plan all H .done :: k) .normal ⟨e, os⟩ = sem c CT nl lv Q k .normal ⟨keepE lv e, os⟩ := rfl
/-- One operation of a plan. -/
def planR (held : Bool) (p : Plan) : Option Oper → Prop
  | some o => (held = true → heldOk H c e o.op) ∧ sem c CT nl lv Q (.op H all o :: .plan all H p :: k) .normal ⟨e, os⟩
  | none => False
theorem planR_take (p : Plan) (o : Oper) : planR c CT nl lv Q k all e os H true p (some o) = (heldOk H c e o.op ∧ sem c CT nl lv Q (.op H all o :: .plan all H p :: k) .normal ⟨e, os⟩) := by simp [planR]
theorem planR_one (p : Plan) (o : Oper) : planR c CT nl lv Q k all e os H false p (some o) = sem c CT nl lv Q (.op H all o :: .plan all H p :: k) .normal ⟨e, os⟩ := by simp [planR]
theorem sem_plan_take (i : Nat) (p : Plan) : sem c CT nl lv Q (.plan all H (.take i p) :: k) .normal ⟨e, os⟩ = planR c CT nl lv Q k all e os H true p all[i]? := by
  cases h : all[i]? with
  | none => simp only [sem, planA, h, planR]
  | some o => simp only [sem, planA, h, planR, true_imp_iff]
theorem sem_plan_one (i : Nat) (p : Plan) : sem c CT nl lv Q (.plan all H (.one i p) :: k) .normal ⟨e, os⟩ = planR c CT nl lv Q k all e os H false p all[i]? := by
  cases h : all[i]? with
  | none => simp only [sem, planA, h, planR]
  | some o => simp only [sem, planA, h, planR, Bool.false_eq_true, false_imp_iff, true_and]
theorem sem_plan_two (i j : Nat) (p q : Plan) (h1 : planR c CT nl lv Q k all e os H false p all[i]?) (h2 : planR c CT nl lv Q k all e os H false q all[j]?) : sem c CT nl lv Q (.plan all H (.two i j p q) :: k) .normal ⟨e, os⟩ := by
  cases h : all[i]? with
  | none => rw [h] at h1; exact h1.elim
  | some o =>
    cases h' : all[j]? with
    | none => rw [h'] at h2; exact h2.elim
    | some u =>
      rw [h] at h1; rw [h'] at h2
      simp only [sem, planA, h, h']
      exact ⟨h1.2, h2.2⟩
theorem sem_tak_nil : sem c CT nl lv Q (.tak H all [] :: k) .normal ⟨e, os⟩ = sem c CT nl lv Q k .normal ⟨keepE lv e, os⟩ := rfl
theorem sem_tak_cons (o : Oper) : sem c CT nl lv Q (.tak H all (o :: r) :: k) .normal ⟨e, os⟩ = (heldOk H c e o.op ∧ sem c CT nl lv Q (.op H all o :: .tak H all r :: k) .normal ⟨e, os⟩) := rfl

theorem sem_move (x : Operand) : sem c CT nl lv Q (.op H all ⟨dst, .move x, ty, pos, af, none⟩ :: k) .normal ⟨e, os⟩ = sem c CT nl lv Q k .normal ⟨put e dst (ev c e x), os⟩ := by
  simp [sem, stepA, isPure, pureOk, pureA]
theorem sem_assign (x : Operand) : sem c CT nl lv Q (.op H all ⟨dst, .assign x, ty, pos, af, none⟩ :: k) .normal ⟨e, os⟩ = sem c CT nl lv Q k .normal ⟨put e dst (ev c e x), os⟩ := by
  simp [sem, stepA, isPure, pureOk, pureA]
theorem sem_pure (op : Op) (hp : isPure op = true) : sem c CT nl lv Q (.op H all ⟨dst, op, ty, pos, af, none⟩ :: k) .normal ⟨e, os⟩ = (pureOk c os (ev c e) op ∧ sem c CT nl lv Q k .normal ⟨put e dst (pureA c os (ev c e) op), os⟩) := by
  simp [sem, stepA, hp]
theorem sem_pick (a b d : Operand) : sem c CT nl lv Q (.op H all ⟨dst, .pick a b d, ty, pos, af, none⟩ :: k) .normal ⟨e, os⟩ = (selOk (ev c e a) (ev c e b) (ev c e d) ∧ sem c CT nl lv Q k .normal ⟨put e dst (selA (ev c e a) (ev c e b) (ev c e d)), os⟩) := sem_pure c CT nl lv Q k all dst ty pos af e os H _ rfl
theorem sem_build (t : Nat) (ps : Array (Nat × Operand)) : sem c CT nl lv Q (.op H all ⟨dst, .build t ps, ty, pos, af, none⟩ :: k) .normal ⟨e, os⟩ = (pureOk c os (ev c e) (.build t ps) ∧ sem c CT nl lv Q k .normal ⟨put e dst (pureA c os (ev c e) (.build t ps)), os⟩) := sem_pure c CT nl lv Q k all dst ty pos af e os H _ rfl
theorem sem_load (t : Nat) (a : Operand) : sem c CT nl lv Q (.op H all ⟨dst, .load t a, ty, pos, af, none⟩ :: k) .normal ⟨e, os⟩ =
    ((isAddr os (ev c e a) = true ∧ 0 < (c.T t).sz ∧ likeAll (c.T t).zero (rowAt os (ev c e a))) ∧ sem c CT nl lv Q k .normal ⟨put e dst (loadV (c.T t) (rowAt os (ev c e a))), os⟩) := sem_pure c CT nl lv Q k all dst ty pos af e os H _ rfl
theorem sem_nilCheck (x : Operand) : sem c CT nl lv Q (.op H all ⟨dst, .nilCheck x, ty, pos, af, none⟩ :: k) .normal ⟨e, os⟩ = (isAddr os (ev c e x) = true ∧ sem c CT nl lv Q k .normal ⟨put e dst (ev c e x), os⟩) := sem_pure c CT nl lv Q k all dst ty pos af e os H _ rfl
theorem sem_binOp (op : BinOp) (t t' : Nat) (x y : Operand) (hy : isPure (.binOp op t x y t') = true) : sem c CT nl lv Q (.op H all ⟨dst, .binOp op t x y t', ty, pos, af, none⟩ :: k) .normal ⟨e, os⟩ = (binOk (c.T t) op (ev c e x) (ev c e y) ∧ sem c CT nl lv Q k .normal ⟨put e dst (binA op (ev c e x) (ev c e y)), os⟩) := sem_pure c CT nl lv Q k all dst ty pos af e os H _ hy
theorem sem_unOp (op : UnOp) (t : Nat) (x : Operand) : sem c CT nl lv Q (.op H all ⟨dst, .unOp op t x, ty, pos, af, none⟩ :: k) .normal ⟨e, os⟩ = (unOk op (ev c e x) ∧ sem c CT nl lv Q k .normal ⟨put e dst (unA op (ev c e x)), os⟩) := sem_pure c CT nl lv Q k all dst ty pos af e os H _ rfl
theorem sem_convert (t d : Nat) (x : Operand) : sem c CT nl lv Q (.op H all ⟨dst, .convert t d x, ty, pos, af, none⟩ :: k) .normal ⟨e, os⟩ =
    ((0 < (c.T t).sz ∧ 0 < (c.T d).sz ∧ convOk os (c.T t).kind (c.T d).kind (c.T (elemOf c t)) (ev c e x)) ∧ sem c CT nl lv Q k .normal ⟨put e dst (convA os (c.T t).kind (c.T d).kind (ev c e x)), os⟩) := sem_pure c CT nl lv Q k all dst ty pos af e os H _ rfl
theorem sem_slice (t : Nat) (x : Operand) (lo hi mx : Option Operand) : sem c CT nl lv Q (.op H all ⟨dst, .slice t x lo hi mx, ty, pos, af, none⟩ :: k) .normal ⟨e, os⟩ =
    ((0 < (c.T t).sz ∧ cutTy c os t (ev c e x) ∧ numOk (lo.map (ev c e)) ∧ numOk (hi.map (ev c e)) ∧ mxOk (ev c e) (ev c e x) lo hi mx ∧ 0 ≤ loOf (ev c e) lo ∧ loOf (ev c e) lo ≤ hiOf (ev c e) (ev c e x) hi ∧ hiOf (ev c e) (ev c e x) hi ≤ lenA (ev c e x)) ∧
      sem c CT nl lv Q k .normal ⟨put e dst (cutA (ev c e x) (loOf (ev c e) lo) (hiOf (ev c e) (ev c e x) hi)), os⟩) := sem_pure c CT nl lv Q k all dst ty pos af e os H _ rfl
theorem sem_fieldAddr (t : Nat) (x : Operand) (f : Nat) : sem c CT nl lv Q (.op H all ⟨dst, .fieldAddr t x f, ty, pos, af, none⟩ :: k) .normal ⟨e, os⟩ =
    ((0 < (c.T t).sz ∧ isAddr os (ev c e x) = true ∧ 0 < (fieldOff (c.T t) f).2) ∧ sem c CT nl lv Q k .normal ⟨put e dst (addOff (ev c e x) (fieldOff (c.T t) f).1), os⟩) := sem_pure c CT nl lv Q k all dst ty pos af e os H _ rfl
theorem sem_indexAddr (t : Nat) (x i : Operand) : sem c CT nl lv Q (.op H all ⟨dst, .indexAddr t x i, ty, pos, af, none⟩ :: k) .normal ⟨e, os⟩ =
    ((0 < (c.T t).sz ∧ 0 < (c.T (elemOf c t)).sz ∧ isSliceT c t ∧ esz os (ev c e x) = (c.T (elemOf c t)).sz ∧ lenOk os (ev c e x) ∧ isNum (ev c e i) ∧ 0 ≤ numA (ev c e i) ∧ numA (ev c e i) < lenA (ev c e x)) ∧
      sem c CT nl lv Q k .normal ⟨put e dst (idxA (ev c e x) (numA (ev c e i))), os⟩) := sem_pure c CT nl lv Q k all dst ty pos af e os H _ rfl
theorem sem_index (t : Nat) (x i : Operand) : sem c CT nl lv Q (.op H all ⟨dst, .index t x i, ty, pos, af, none⟩ :: k) .normal ⟨e, os⟩ = (pureOk c os (ev c e) (.index t x i) ∧ sem c CT nl lv Q k .normal ⟨put e dst (pureA c os (ev c e) (.index t x i)), os⟩) := sem_pure c CT nl lv Q k all dst ty pos af e os H _ rfl
theorem sem_extract (x : Operand) (i : Nat) : sem c CT nl lv Q (.op H all ⟨dst, .extract x i, ty, pos, af, none⟩ :: k) .normal ⟨e, os⟩ = (pureOk c os (ev c e) (.extract x i) ∧ sem c CT nl lv Q k .normal ⟨put e dst (pureA c os (ev c e) (.extract x i)), os⟩) := sem_pure c CT nl lv Q k all dst ty pos af e os H _ rfl
theorem sem_len (x : Operand) (t : Nat) : sem c CT nl lv Q (.op H all ⟨dst, .call ⟨.builtin .len, #[x], #[t]⟩, ty, pos, af, none⟩ :: k) .normal ⟨e, os⟩ =
    ((0 < (c.T t).sz ∧ lenOk os (ev c e x) ∧ lenTy c t (ev c e x)) ∧ sem c CT nl lv Q k .normal ⟨put e dst (.sc (.int .i64 (lenA (ev c e x)))), os⟩) := sem_pure c CT nl lv Q k all dst ty pos af e os H _ rfl
theorem sem_cap (x : Operand) (t : Nat) : sem c CT nl lv Q (.op H all ⟨dst, .call ⟨.builtin .cap, #[x], #[t]⟩, ty, pos, af, none⟩ :: k) .normal ⟨e, os⟩ =
    ((0 < (c.T t).sz ∧ isSliceT c t ∧ ev c e x = .sc (.slice none 0 0)) ∧ sem c CT nl lv Q k .normal ⟨put e dst (.sc (.int .i64 0)), os⟩) := sem_pure c CT nl lv Q k all dst ty pos af e os H _ rfl
theorem sem_alloc (t : Nat) : sem c CT nl lv Q (.op H all ⟨dst, .alloc t, ty, pos, af, none⟩ :: k) .normal ⟨e, os⟩ = (0 < (c.T t).sz ∧ sem c CT nl lv Q k .normal ⟨put e dst (.pt os.length 0), os ++ [.rc (c.T t).zero]⟩) := by
  simp [sem, stepA, isPure, effA]
theorem sem_box (t : Nat) (x : Operand) : sem c CT nl lv Q (.op H all ⟨dst, .box t x, ty, pos, af, none⟩ :: k) .normal ⟨e, os⟩ =
    (0 < (c.T t).sz ∧ allP (recOk os) (cellsOf (ev c e x)) ∧ sem c CT nl lv Q k .normal ⟨put e dst (.pt os.length 0), os ++ [.rc (cellsOf (ev c e x))]⟩) := by
  simp [sem, stepA, isPure, effA]
theorem sem_store (t : Nat) (a x : Operand) : sem c CT nl lv Q (.op H all ⟨dst, .store t a x, ty, pos, af, none⟩ :: k) .normal ⟨e, os⟩ =
    (0 < (c.T t).sz ∧ (cellsOf (ev c e x)).length = (c.T t).sz ∧ storeOk os (ev c e a) (cellsOf (ev c e x)) ∧ allP (fun L => memN H L = false) (names (ev c e a)) ∧ sem c CT nl lv Q k .normal ⟨put e dst .junk, storeA os (ev c e a) (cellsOf (ev c e x))⟩) := by
  simp [sem, stepA, isPure, effA]
theorem sem_buildSlice (t n : Nat) (ps : Array (Nat × Operand)) : sem c CT nl lv Q (.op H all ⟨dst, .buildSlice t n ps, ty, pos, af, none⟩ :: k) .normal ⟨e, os⟩ =
    (0 < (c.T t).sz ∧ isSliceT c t ∧ 0 < (c.T (elemOf c t)).sz ∧ n * (c.T (elemOf c t)).sz ≤ 16777216 ∧ litOk os (c.T (elemOf c t)) n (ps.toList.map fun p => (p.1, ev c e p.2)) ∧
    sem c CT nl lv Q k .normal ⟨put e dst (.sl os.length 0 n), unownAll os ((ps.toList.map fun p => (p.1, ev c e p.2)).flatMap fun p => cellsOf p.2) ++
      [.arr true (c.T (elemOf c t)).sz ((litElems (c.T (elemOf c t)) n (ps.toList.map fun p => (p.1, ev c e p.2))).map fun x => x.map (frz os))]⟩) := by
  simp [sem, stepA, isPure, effA]
theorem sem_makeSlice (t : Nat) (l m : Operand) : sem c CT nl lv Q (.op H all ⟨dst, .makeSlice t l m, ty, pos, af, none⟩ :: k) .normal ⟨e, os⟩ =
    (0 < (c.T t).sz ∧ isSliceT c t ∧ 0 < (c.T (elemOf c t)).sz ∧ isNum (ev c e l) ∧ isNum (ev c e m) ∧ 0 ≤ numA (ev c e l) ∧ numA (ev c e l) ≤ numA (ev c e m) ∧ (c.T (elemOf c t)).bytes * numA (ev c e m) ≤ 281474976710656 ∧ numA (ev c e m) ≤ 9223372036854775807 ∧
    sem c CT nl lv Q k .normal ⟨put e dst (.sl os.length 0 (numA (ev c e l)).toNat), os ++ [.arr true (c.T (elemOf c t)).sz (List.replicate (numA (ev c e l)).toNat (c.T (elemOf c t)).zero)]⟩) := by
  simp [sem, stepA, isPure, effA]
theorem sem_append (s x : Operand) (t u : Nat) : sem c CT nl lv Q (.op H all ⟨dst, .call ⟨.builtin .append, #[s, x], #[t, u]⟩, ty, pos, af, none⟩ :: k) .normal ⟨e, os⟩ =
    (if isIntK (c.T u).kind = true then
      0 < (c.T t).sz ∧ isSliceT c t ∧ 0 < (c.T (elemOf c t)).sz ∧ 0 < (c.T u).sz ∧ ev c e s = .sc (.slice none 0 0) ∧ isNum (ev c e x) ∧ 0 ≤ numA (ev c e x) ∧ numA (ev c e x) * ((c.T (elemOf c t)).bytes : Int) ≤ 140737488355328 ∧ numA (ev c e x) ≤ 140737488355328 ∧
      (numA (ev c e x) = 0 → sem c CT nl lv Q k .normal ⟨put e dst (.sc (.slice none 0 0)), os⟩) ∧
      (¬ numA (ev c e x) = 0 → sem c CT nl lv Q k .normal ⟨put e dst (.sl os.length 0 (numA (ev c e x)).toNat), os ++ [.arr true (c.T (elemOf c t)).sz (List.replicate (numA (ev c e x)).toNat (c.T (elemOf c t)).zero)]⟩)
      else
      0 < (c.T t).sz ∧ isSliceT c t ∧ 0 < (c.T (elemOf c t)).sz ∧ seqT c (some u) ∧ appBase os (ev c e s) ∧ appNewOk os (c.T (elemOf c t)).sz (ev c e x) ∧ (isNil (ev c e s) = false → esz os (ev c e s) = (c.T (elemOf c t)).sz) ∧
      ((elems os (ev c e s) ++ appNew os (ev c e x)).length * (c.T (elemOf c t)).bytes ≤ appBound) ∧ (elems os (ev c e s) ++ appNew os (ev c e x)).length ≤ appBound ∧ allP (fun L => memN H L = false) (names (ev c e s)) ∧
      (isNil (ev c e s) = true → elems os (ev c e s) ++ appNew os (ev c e x) = [] → sem c CT nl lv Q k .normal ⟨put e dst (.sc (.slice none 0 0)), os⟩) ∧
      ((isNil (ev c e s) = true → elems os (ev c e s) ++ appNew os (ev c e x) ≠ []) →
        sem c CT nl lv Q k .normal ⟨put e dst (.sl os.length 0 (elems os (ev c e s) ++ appNew os (ev c e x)).length), kill os (ev c e s) ++ [.arr true (c.T (elemOf c t)).sz (elems os (ev c e s) ++ appNew os (ev c e x))]⟩)) := by
  simp [sem, stepA, isPure, effA]
theorem sem_call (n : Nat) (args : Array Operand) (tys : Array Nat) : sem c CT nl lv Q (.op H all ⟨dst, .call ⟨.value (.func n), args, tys⟩, ty, pos, af, none⟩ :: k) .normal ⟨e, os⟩ =
    callR c CT nl lv Q H n (args.toList.map (ev c e)) e os dst k := by
  simp only [sem, stepA, isPure, effA, callR, ev, fnC_func, List.append_nil, Bool.false_eq_true, if_false]
theorem sem_guard (op : Op) (j : Nat) (want : Bool) : sem c CT nl lv Q (.op H all ⟨dst, op, ty, pos, af, some (j, want)⟩ :: k) .normal ⟨e, os⟩ = match guardA all e j want with
    | none => False
    | some g =>
      if isPure op then (g = true → operOk c e g op ∧ pureOk c os (gev c e op) op ∧ plain (pureA c os (gev c e op) op)) ∧
        sem c CT nl lv Q k .normal ⟨put e dst (.opt g (pureA c os (gev c e op) op)), os⟩
      else (g = true → operOk c e g op ∧ effA c CT H os (gev c e op) op fun v os => sem c CT nl lv Q k .normal ⟨put e dst v, os⟩) ∧
        (g = false → sem c CT nl lv Q k .normal ⟨put e dst offA, os⟩) := rfl

/-- A call by its contract. -/
theorem callR_use {n : Nat} {vs vs' : List AV} {σ : List AO} {post : AV → List AO → Prop} (lend : List Nat) (esc : Bool) (con : CT n vs' σ post) (h1 : vs.map (viewV lend os) = vs') (h2 : viewS lend os = σ) (hn : nodupN lend = true) (hl : allP (fun L => own os L ∧ memN H L = false) lend)
    (h : ∀ x σ', post x σ' → (esc = false → noFzV x ∧ allP noFzO σ') ∧ sem c CT nl lv Q k .normal ⟨put e dst (renV (backN lend os.length) x), merge lend (if esc = true then unownN os (shownAll lend os vs) else os) σ'⟩) :
    callR c CT nl lv Q H n vs e os dst k := ⟨lend, esc, post, by rw [h1, h2]; exact con, hn, hl, h⟩
end
end Go.AM
namespace Go.AM
open Go
section
variable {c : Cx} {CT : CTab} {nl : Nat} {lv : List Nat} {Q : Ex → St → Prop} {k : List It} {s : St} {e : Env} {os : List AO}

/-- What comes later is put aside. -/
theorem sem_cut {a b : Code} (h : ∀ k', k' = .join :: .code b :: k → sem c CT nl lv Q (.code a :: k') .normal s) : sem c CT nl lv Q (.code (.seq a b) :: k) .normal s := by
  rw [sem_seq]; exact h _ rfl

theorem sem_blk {id : Nat} {b : Code} (h : ∀ k', k' = .blk id :: k → sem c CT nl lv Q (.code b :: k') .normal s) : sem c CT nl lv Q (.code (.block id b) :: k) .normal s := by
  rw [sem_block]; exact h _ rfl

theorem sem_if {x : Operand} {t f : Code} {b : Bool} (hb : ev c e x = .sc (.bool b)) (ht : b = true → sem c CT nl lv Q (.code t :: k) .normal ⟨e, os⟩) (hf : b = false → sem c CT nl lv Q (.code f :: k) .normal ⟨e, os⟩) :
    sem c CT nl lv Q (.code (.cond x t f) :: k) .normal ⟨e, os⟩ := by
  rw [sem_cond, hb]; exact ⟨ht, hf⟩

theorem sem_plan {id : Nat} {ops : Array Oper} (p : Plan) (H : List Nat) (hp : planOk ops p = true) (h : sem c CT nl lv Q (.plan ops H p :: k) .normal s) : sem c CT nl lv Q (.code (.region id ops true) :: k) .normal s := sem_draw c CT nl lv Q k s id ops p H hp h

/-- All quiet, one behind the other. -/
def takes : Nat → Nat → Plan
  | _, 0 => .done
  | i, n + 1 => .take i (takes (i + 1) n)

theorem takes_ok {ops : Array Oper} {H : List Nat} {K : St → Prop} : ∀ (m n : Nat) (s : St), n + m = ops.size → takesA c CT ops H (ops.toList.drop n) s K → planA c CT ops H (takes n m) s K
  | 0, n, s, hn, h => by
    have : ops.toList.drop n = [] := List.drop_eq_nil_of_le (by simp; omega)
    rw [this] at h; exact h
  | m + 1, n, s, hn, h => by
    have hlt : n < ops.size := by omega
    have hget : ops[n]? = some ops[n] := Array.getElem?_eq_getElem hlt
    have hdrop : ops.toList.drop n = ops[n] :: ops.toList.drop (n + 1) := by
      rw [List.drop_eq_getElem_cons (by simpa using hlt)]; simp
    rw [hdrop] at h
    simp only [takes, planA, hget]
    have e : (fun s' => takesA c CT ops H (ops.toList.drop (n + 1)) s' K) = fun s' => takesA c CT ops H (ops.toList.drop (n + 1)) s' K := rfl
    refine ⟨h.1, stepA_mono h.2 fun s' h' => takes_ok m (n + 1) s' (by omega) h'⟩

theorem sem_quiet {id : Nat} {ops : Array Oper} (H : List Nat) (hp : planOk ops (takes 0 ops.size) = true) (h : sem c CT nl lv Q (.tak H ops ops.toList :: k) .normal s) : sem c CT nl lv Q (.code (.region id ops true) :: k) .normal s :=
  ⟨takes 0 ops.size, H, hp, takes_ok ops.size 0 s (by omega) h⟩
end
end Go.AM
