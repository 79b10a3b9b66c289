/- What is known of types; quiet operations do in memory what the abstract machine does. Conditions: none. -/
import Derived.Test.YtcnlhdaeeeolbaaAmD
import Derived.Laws.BytesString
import Derived.Laws.StructEq
import Derived.Laws.Tables
import Derived.DataReads
set_option linter.unusedSimpArgs false
set_option linter.unusedVariables false
namespace Go.AM
open Go

def KOk (P : Program) (T : Nat → TI) (k : TK) (d : TypeDesc) : Prop := match k with
  | .int k => d = .int k
  | .bool => d = .bool
  | .str => d = .string
  | .flt k => d = .float k
  | .slice e => d = .slice e
  | .struct fs => ∃ fields, d = .struct fields ∧ fields.toList.mapM (fun f => (P.info? f.type).map fun i => (f.offset, i.size)) = some fs
  | .array n e => d = .array n e ∧ ∃ i, P.info? e = some i ∧ i.size = (T e).sz
  | .other => True

/-- A struct of whole numbers and bools, one cell each. -/
def SortOk (P : Program) (t : Nat) : Option AV → Prop
  | some (.sc (.int _ _)) => ∃ k, P.underlying t = some (.int k)
  | some (.sc (.bool _)) => P.underlying t = some .bool
  | _ => False

def EqOk (P : Program) (zs : List AV) (t : Nat) (d : TypeDesc) : Prop :=
  P.stoodInHeld t = false ∧ P.eqGuardType P.depth t = false ∧ ∃ fields, d = .struct fields ∧ fields.size = zs.length ∧
    ∀ (i : Nat) (f : Field), fields[i]? = some f → f.offset = i ∧ (f.name == "_") = false ∧ SortOk P f.type zs[i]?

structure TyOk (P : Program) (T : Nat → TI) (t : Nat) : Prop where
  ex : ∃ i d z, P.info? t = some i ∧ i.size = (T t).sz ∧ i.bytes = (T t).bytes ∧ P.underlying t = some d ∧
    (match d with | .struct _ | .array _ _ => true | _ => false) = (T t).agg ∧ i.zero = some z ∧ z.cells.toList.map AV.sc = (T t).zero ∧ KOk P T (T t).kind d ∧ (∀ v ∈ z.cells.toList, v.oneCell' = true) ∧ ((T t).eq = true → EqOk P (T t).zero t d) ∧ z.cells.size = i.size
  ft : (T t).ftys ≠ [] → ∃ fields : Array Field, P.underlying t = some (.struct fields) ∧ fields.toList.map (·.type) = (T t).ftys

/-- What is known of the program. -/
structure PrOk (P : Program) (c : Cx) : Prop where
  ty : ∀ t, 0 < (c.T t).sz → TyOk P c.T t
  mixed : P.follows .mixedOrders = true

def GOk (rd : Nat → Nat → Option Value) (x : AV) (n : Nat) : Prop := match x with
  | .fp s xs 0 0 => Row rd n 0 s xs
  | .junk => True
  | _ => False

/-- An activation's state. -/
structure Rel (X : Ctx) (c : Cx) (st : St) (g : Nat → List Nat) (a : Act) (w : World) : Prop where
  srel : SRel X st.os g w
  env : ∀ t, RepV (rdF X st.os g w) st.os g w (lk st.env t) (a.tmps.getD t undef)
  nt : a.tmps.size = X.nt
  defs : a.defers = []
  glob : ∀ n, GOk (rdF X st.os g w) (c.G n) n
  keeps : Keeps X.os0 X.g0 X.W st.os g w

theorem GOk.rep {rd : Nat → Nat → Option Value} {os : List AO} {g : Nat → List Nat} {w : World} {x : AV} {n : Nat} (h : GOk rd x n) : RepC rd os g w x (.pointer (some ⟨n, 0, none⟩)) := by
  unfold GOk at h
  split at h
  · rename_i s xs; exact ⟨n, 0, by simp, h⟩
  · trivial
  · exact h.elim

theorem GOk.mono {rd rd' : Nat → Nat → Option Value} (hm : ∀ b o v, rd b o = some v → rd' b o = some v) {x : AV} {n : Nat} (h : GOk rd x n) : GOk rd' x n := by
  unfold GOk at h ⊢
  split at h
  · exact h.mono hm
  · trivial
  · exact h.elim

theorem RepC.toV {rd : Nat → Nat → Option Value} {os : List AO} {g : Nat → List Nat} {w : World} {x : AV} {v : Value} (h : RepC rd os g w x v) : RepV rd os g w x v := by
  cases x <;> first | exact h | exact h.elim

theorem RepC.toA {rd : Nat → Nat → Option Value} {os : List AO} {g : Nat → List Nat} {w : World} {x : AV} {v : Value} (h : RepC rd os g w x v) : RepA rd os g w x v := by
  cases x <;> first | exact h | exact h.elim

theorem RepA.toV {rd : Nat → Nat → Option Value} {os : List AO} {g : Nat → List Nat} {w : World} {x : AV} {v : Value} (h : RepA rd os g w x v) : RepV rd os g w x v := by
  cases x <;> first | exact h | exact h.elim

theorem Rel.ev {X : Ctx} {c : Cx} {st : St} {g : Nat → List Nat} {a : Act} {w : World} (h : Rel X c st g a w) (x : Operand) : RepV (rdF X st.os g w) st.os g w (ev c st.env x) (a.eval x) := by
  cases x with
  | tmp t => exact h.env t
  | const v => exact rfl
  | global n => exact (h.glob n).rep.toV
  | func f => exact rfl

end Go.AM
namespace Go.AM
open Go

section
variable {P : Program} {c : Cx} {rd : Nat → Nat → Option Value} {os : List AO} {g : Nat → List Nat} {w : World}

theorem RepV.sc {u v : Value} (h : RepV rd os g w (.sc u) v) : v = u := h

theorem RepV.strip {x : AV} {v : Value} (h : RepV rd os g w x v) (hs : stripOk true x) : RepV rd os g w (strip x) v := by
  cases x with
  | opt b y => exact (h.1 (hs rfl)).toV
  | _ => exact h

theorem selA_ok {a x y : AV} {va vx vy : Value} (ha : RepV rd os g w a va) (hx : RepV rd os g w x vx) (hy : RepV rd os g w y vy) (hk : selOk a x y) :
    ∃ t : Bool, va = .bool t ∧ RepV rd os g w (selA a x y) (if t then vx else vy) := by
  unfold selOk at hk
  split at hk
  · rename_i t e1
    obtain ⟨k1, k2, k3⟩ := hk
    have ha' := ha.strip k1
    rw [e1] at ha'
    refine ⟨t, RepV.sc ha', ?_⟩
    unfold selA
    rw [e1]
    simp only [selB_eq]
    cases t
    · exact hy.strip (k3 rfl)
    · exact hx.strip (k2 rfl)
  · exact hk.elim


theorem eqOk_cons {z x y : AV} {zs xs ys : List AV} (h : eqOk (z :: zs) (x :: xs) (y :: ys)) :
    ((∃ k0 a0 k a b, z = .sc (.int k0 a0) ∧ x = .sc (.int k a) ∧ y = .sc (.int k b)) ∨ ∃ a0 a b, z = .sc (.bool a0) ∧ x = .sc (.bool a) ∧ y = .sc (.bool b)) ∧ eqOk zs xs ys := by
  unfold eqOk at h
  split at h
  · rename_i h1 _; cases h1
  · rename_i h1 h2 h3
    cases h1; cases h2; cases h3
    obtain ⟨rfl, h⟩ := h
    exact ⟨.inl ⟨_, _, _, _, _, rfl, rfl, rfl⟩, h⟩
  · rename_i h1 h2 h3; cases h1; cases h2; cases h3; exact ⟨.inr ⟨_, _, _, rfl, rfl, rfl⟩, h⟩
  · exact h.elim

theorem eqOk_len : ∀ {zs xs ys : List AV}, eqOk zs xs ys → xs.length = zs.length ∧ ys.length = zs.length
  | [], [], [], _ => ⟨rfl, rfl⟩
  | z :: zs, x :: xs, y :: ys, h => by have := eqOk_len (eqOk_cons h).2; simp [this]
  | [], [], _ :: _, h => by simp [eqOk] at h
  | [], _ :: _, _, h => by simp [eqOk] at h
  | _ :: _, [], _, h => by simp [eqOk] at h
  | _ :: _, _ :: _, [], h => by simp [eqOk] at h

theorem run_part_flat {t : TypeId} (hu : (∃ k, P.underlying t = some (.int k)) ∨ P.underlying t = some .bool) (vs : Array Value) (n : Nat) (u : Value) (hn : vs[n]? = some u) (w' : World) :
    (part t vs n).run P w' = .ok u w' := by
  rcases hu with ⟨k, hu⟩ | hu <;> simp [part, isAgg, run_underlying hu, hn]

theorem eqFields_ok : ∀ (fs : List Field) (zs xs ys : List AV) (n : Nat) (vs us : Array Value), zs.length = fs.length →
    (∀ (i : Nat) (f : Field), fs[i]? = some f → f.offset = n + i ∧ (f.name == "_") = false ∧ SortOk P f.type zs[i]?) →
    (∀ (i : Nat) y, xs[i]? = some y → ∃ u, vs[n + i]? = some u ∧ RepC rd os g w y u) → (∀ (i : Nat) y, ys[i]? = some y → ∃ u, us[n + i]? = some u ∧ RepC rd os g w y u) → eqOk zs xs ys →
    ∀ (d : Nat) (w' : World), (Op.eqFields (d + 1) vs us fs).run P w' = .ok (eqCells xs ys) w'
  | [], [], [], [], _, _, _, _, _, _, _, _, d, w' => by simp [Op.eqFields, eqCells]
  | [], [], [], _ :: _, _, _, _, _, _, _, _, h, _, _ => by simp [eqOk] at h
  | [], [], _ :: _, _, _, _, _, _, _, _, _, h, _, _ => by simp [eqOk] at h
  | [], _ :: _, _, _, _, _, _, h, _, _, _, _, _, _ => by simp at h
  | _ :: _, [], _, _, _, _, _, h, _, _, _, _, _, _ => by simp at h
  | _ :: _, _ :: _, [], _, _, _, _, _, _, _, _, h, _, _ => by simp [eqOk] at h
  | _ :: _, _ :: _, _ :: _, [], _, _, _, _, _, _, _, h, _, _ => by simp [eqOk] at h
  | f :: fs, z :: zs, x :: xs, y :: ys, n, vs, us, hl, hf, hx, hy, hok, d, w' => by
    obtain ⟨hxy, hok'⟩ := eqOk_cons hok
    obtain ⟨ho, hn, hu⟩ := hf 0 f rfl
    obtain ⟨u, hu1, hu2⟩ := hx 0 x rfl
    obtain ⟨v, hv1, hv2⟩ := hy 0 y rfl
    have ih := eqFields_ok fs zs xs ys (n + 1) vs us (by simpa using hl) (fun i f' hf' => by have := hf (i + 1) f' (by simpa using hf'); rw [show n + 1 + i = n + (i + 1) by omega]; exact this)
      (fun i y hy' => by have := hx (i + 1) y (by simpa using hy'); rw [show n + 1 + i = n + (i + 1) by omega]; exact this) (fun i y hy' => by have := hy (i + 1) y (by simpa using hy'); rw [show n + 1 + i = n + (i + 1) by omega]; exact this) hok' d w'
    have hn' : f.name ≠ "_" := by simpa using hn
    rw [Op.eqFields, if_pos hn']
    rcases hxy with ⟨k0, a0, k, a, b, rfl, rfl, rfl⟩ | ⟨a0, a, b, rfl, rfl, rfl⟩
    · obtain rfl : u = .int k a := hu2
      obtain rfl : v = .int k b := hv2
      have hsu : ∃ k, P.underlying f.type = some (.int k) := hu
      simp only [Sem.run_bind, run_part_flat (w' := w') (.inl hsu) vs f.offset _ (by rw [ho]; exact hu1), run_part_flat (w' := w') (.inl hsu) us f.offset _ (by rw [ho]; exact hv1), Result.andThen_ok]
      obtain ⟨k2, hk2⟩ := hsu
      simp only [run_equalIn_int w' d f.type k k2 a b hk2, Result.andThen_ok, eqCells, eqCell]
      cases hab : a == b <;> simp [ih]
    · obtain rfl : u = .bool a := hu2
      obtain rfl : v = .bool b := hv2
      have hsu : P.underlying f.type = some .bool := hu
      simp only [Sem.run_bind, run_part_flat (w' := w') (.inr hsu) vs f.offset _ (by rw [ho]; exact hu1), run_part_flat (w' := w') (.inr hsu) us f.offset _ (by rw [ho]; exact hv1), Result.andThen_ok]
      simp only [run_equalIn_bool' w' d f.type a b hsu, Result.andThen_ok, eqCells, eqCell]
      cases hab : a == b <;> simp [ih]

theorem binA_ok (hP : PrOk P c) {op : BinOp} {t : TypeId} {x y : AV} {vx vy : Value} (o1 o2 : Operand) (hx : RepV rd os g w x vx) (hy : RepV rd os g w y vy) (hk : binOk (c.T t) op x y) :
    ∃ v, RepV rd os g w (binA op x y) v ∧ ∀ w', (do eqGuard op t o1 o2 vx vy; binOp op t vx vy : Sem Value).run P w' = .ok v w' := by
  unfold binOk at hk
  split at hk
  · rename_i k a k' b
    obtain rfl := RepV.sc hx
    obtain rfl := RepV.sc hy
    refine ⟨intOp op k a b, rfl, fun w' => ?_⟩
    cases op <;> simp only [intOk] at hk <;> simp [eqGuard, binOp, Op.shift, Op.intArith, Op.intDiv, Op.intBits, Op.intCmp, intOp, hk] <;> first | (intro h; omega) | rfl | skip
  · rename_i a b
    obtain rfl := RepV.sc hx
    obtain rfl := RepV.sc hy
    have hm : IntKind.i64.max = 9223372036854775807 := by decide
    refine ⟨strOp op a b, rfl, fun w' => ?_⟩
    cases op <;> simp only [strOk] at hk <;> simp [eqGuard, binOp, Op.stringOp, strOp, hm] <;> first | omega | skip
  · rename_i a b
    obtain rfl := RepV.sc hx
    obtain rfl := RepV.sc hy
    obtain ⟨hz, hkd, hop⟩ := hk
    obtain ⟨i, d, z, h1, h2, h3, h4, h5, h6, h7, h8, h9, h10, _⟩ := (hP.ty t hz).ex
    rw [hkd] at h8
    obtain rfl : d = .bool := h8
    have he : ∀ w', (Op.equal t (.bool a) (.bool b)).run P w' = .ok (a == b) w' := fun w' => run_equalIn_bool' w' 9999 t a b h4
    rcases hop with rfl | rfl
    · exact ⟨.bool (a == b), rfl, fun w' => by simp [eqGuard, binOp, he]⟩
    · exact ⟨.bool (!(a == b)), rfl, fun w' => by simp [eqGuard, binOp, he]⟩
  · rename_i xs ys
    obtain ⟨vs, rfl, hvs, hv⟩ := hx
    obtain ⟨us, rfl, hus, hu⟩ := hy
    obtain ⟨hz, heq, hok, hop⟩ := hk
    obtain ⟨i, d, z, h1, h2, h3, h4, h5, h6, h7, h8, h9, h10, _⟩ := (hP.ty t hz).ex
    obtain ⟨e1, e2, fields, rfl, e3, e4⟩ := h10 heq
    have hf : P.fieldsOf t = fields := by simp [Program.fieldsOf, h4]
    have he : ∀ w', (Op.equalIn 10000 t (.agg vs) (.agg us)).run P w' = .ok (eqCells xs ys) w' := fun w' => by
      rw [run_equalIn_struct w' 9999 t vs us (by rw [hf]; exact h4) e1, hf]
      exact eqFields_ok fields.toList _ xs ys 0 vs us (by simp [e3]) (fun j f hj => by simpa using e4 j f (by simpa using hj)) (fun j y hj => by simpa using hv j y hj) (fun j y hj => by simpa using hu j y hj) hok 9998 w'
    rcases hop with rfl | rfl
    · exact ⟨.bool (eqCells xs ys), rfl, fun w' => by simp [run_eqGuard_agg, run_eql_struct, he, e2]⟩
    · exact ⟨.bool (!(eqCells xs ys)), rfl, fun w' => by simp [run_eqGuard_agg, run_neq_struct, he, e2]⟩
  · exact hk.elim
end
end Go.AM
