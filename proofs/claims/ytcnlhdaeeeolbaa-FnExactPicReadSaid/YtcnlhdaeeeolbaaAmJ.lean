/- append, make, literals, stores: whole operations. Conditions: none. -/
import Derived.Test.YtcnlhdaeeeolbaaAmI
set_option linter.unusedSimpArgs false
set_option linter.unusedVariables false
namespace Go.AM
open Go

variable {P : Program} {c : Cx} {X : Ctx} {os : List AO} {g : Nat → List Nat} {w : World}

/-- Nothing but the blocks of these names has turned. -/
def Loc (os : List AO) (g : Nat → List Nat) (w : World) (os' : List AO) (g' : Nat → List Nat) (w' : World) (ns : List Nat) : Prop :=
  (∀ b : Nat, b < w.heap.size → (∀ L ∈ ns, b ∉ g L) → w'.heap[b]? = w.heap[b]?) ∧
    ∀ L, own os' L → ∀ b ∈ g' L, b < w.heap.size → (own os L ∧ b ∈ g L) ∨ ∃ M ∈ ns, b ∈ g M

theorem Loc.push {o : AO} {w' : World} {ns : List Nat} (h : ∀ b : Nat, b < w.heap.size → w'.heap[b]? = w.heap[b]?) : Loc os g w (os ++ [o]) (updG g os.length [w.heap.size]) w' ns :=
  ⟨fun b hb _ => h b hb, fun L hL b hm hb => by
    rcases own_push hL with h1 | ⟨h1, _⟩
    · rw [updG_other _ (Nat.ne_of_lt (own_lt h1))] at hm; exact .inl ⟨h1, hm⟩
    · rw [h1, updG_same] at hm; simp at hm; omega⟩

theorem own_kill {s : AV} {L : Nat} (h : own (kill os s) L) : own os L := by
  unfold kill at h
  split at h
  · rename_i M _ _
    unfold own at h ⊢
    rw [set_get] at h
    split at h
    · split at h <;> exact h.elim
    · exact h
  · exact h

theorem RepE.of_nil_or {rd : Nat → Nat → Option Value} {s : Nat} {xs : List (List AV)} {vs : List Value} (h : (xs = [] ∧ vs = []) ∨ RepE rd s xs vs) : RepE rd s xs vs := by
  rcases h with ⟨rfl, rfl⟩ | h
  · exact ⟨by simp, by simp, by simp⟩
  · exact h

theorem room_cells {b : Nat} {cur : Array Value} {t : TypeId} {fr : Nat × Nat} (h : w.heap[b]? = some (.cells cur t fr)) : room w b = cur.size := by
  unfold room; rw [h]

/-- A row that has grown into a new block. -/
theorem SRel.grown (h : SRel X os g w) {s : Nat} {xs : List (List AV)} {vs rest : List Value} (hs : 0 < s) (hr : RepE (rdF X os g w) s xs vs) (t : TypeId) (cap : Nat) (hcap : xs.length ≤ cap) (hrest : rest.length = (cap - xs.length) * s) {w0 : World}
    (hw0 : w0.heap = w.heap) (e1 : w0.os = w.os) (e2 : w0.tape = w.tape) (e3 : w0.output = w.output) (arr : Array Value) (harr : arr.toList = vs ++ rest) :
    SRel X (os ++ [.arr true s xs]) (updG g os.length [w.heap.size]) (w0.alloc (.cells arr t)) ∧ Step X os g w (os ++ [.arr true s xs]) (updG g os.length [w.heap.size]) (w0.alloc (.cells arr t)) ∧
      RepC (rdF X (os ++ [.arr true s xs]) (updG g os.length [w.heap.size]) (w0.alloc (.cells arr t))) (os ++ [.arr true s xs]) (updG g os.length [w.heap.size]) (w0.alloc (.cells arr t)) (.sl os.length 0 xs.length) (.slice (some ⟨w.heap.size, 0, none⟩) xs.length cap) ∧
      Loc os g w (os ++ [.arr true s xs]) (updG g os.length [w.heap.size]) (w0.alloc (.cells arr t)) [] := by
  have hsz : w0.heap.size = w.heap.size := by rw [hw0]
  have hal : arr.size = cap * s := by
    rw [← Array.length_toList, harr, List.length_append, hr.1, hrest, ← Nat.add_mul]
    congr 1; omega
  have hp := h.pushArr (vs := arr) (t := t) hs hr.2.1 (by rw [hal]; exact Nat.mul_le_mul_right s hcap) (fun i k x y hx hy => by
    obtain ⟨v, hv, hr2⟩ := hr.2.2 i k x y hx hy
    refine ⟨v, ?_, hr2⟩
    rw [← Array.getElem?_toList, harr, List.getElem?_append_left (lt_of_get hv)]
    exact hv) hw0 e1 e2 e3
  refine ⟨hp.1, hp.2, ?_, Loc.push fun b hb => by rw [heap_alloc_old w0 _ (by omega), hw0]⟩
  simp only [RepC]
  rw [push_get, if_neg (by omega), if_pos rfl]
  refine ⟨cap, hcap, by omega, .inl ⟨w.heap.size, by rw [updG_same]; rfl, by simp, ?_⟩⟩
  rw [← hsz, room_cells (heap_alloc_new w0 _), hal]
  simp

theorem app_ok (hP : PrOk P c) (hX : X.Ok) (h : SRel X os g w) {t u : TypeId} (ty : TypeId) {s x : AV} {vs vx : Value} (hs : RepV (rdF X os g w) os g w s vs) (hx : RepV (rdF X os g w) os g w x vx)
    (k0 : 0 < (c.T t).sz) (k1 : isSliceT c t) (k2 : 0 < (c.T (elemOf c t)).sz) (k3 : seqT c (some u)) (k4 : appBase os s) (k5 : appNewOk os (c.T (elemOf c t)).sz x) (k6 : isNil s = false → esz os s = (c.T (elemOf c t)).sz)
    (k7 : (elems os s ++ appNew os x).length * (c.T (elemOf c t)).bytes ≤ appBound) (k8 : (elems os s ++ appNew os x).length ≤ appBound) :
    (isNil s = true ∧ elems os s ++ appNew os x = [] ∧ (Builtin.append_ #[t, u] ty #[vs, vx]).run P w = .ok (.slice none 0 0) w) ∨
    ((isNil s = true → elems os s ++ appNew os x ≠ []) ∧ ∃ v g' w', (Builtin.append_ #[t, u] ty #[vs, vx]).run P w = .ok v w' ∧
      SRel X (kill os s ++ [.arr true (c.T (elemOf c t)).sz (elems os s ++ appNew os x)]) g' w' ∧ Step X os g w (kill os s ++ [.arr true (c.T (elemOf c t)).sz (elems os s ++ appNew os x)]) g' w' ∧
      RepC (rdF X (kill os s ++ [.arr true (c.T (elemOf c t)).sz (elems os s ++ appNew os x)]) g' w') (kill os s ++ [.arr true (c.T (elemOf c t)).sz (elems os s ++ appNew os x)]) g' w' (.sl os.length 0 (elems os s ++ appNew os x).length) v ∧
      Loc os g w (kill os s ++ [.arr true (c.T (elemOf c t)).sz (elems os s ++ appNew os x)]) g' w' (names s)) := by
  obtain ⟨_, d, _, i1, _, _, i4, _, _, _, i8, _⟩ := (hP.ty t k0).ex
  obtain ⟨e, hk⟩ : ∃ e, (c.T t).kind = .slice e := by
    unfold isSliceT at k1; split at k1
    · exact ⟨_, by assumption⟩
    · exact k1.elim
  rw [hk] at i8
  obtain rfl : d = .slice e := i8
  have hel : elemOf c t = e := by simp [elemOf, hk]
  rw [hel] at k2 k5 k6 k7 ⊢
  obtain ⟨j, dj, z, j1, j2, j3, j4, j5, j6, j7, j8, j9, _, hzl⟩ := (hP.ty e k2).ex
  have hu : (∃ e, P.underlying u = some (.slice e)) ∨ P.underlying u = some .string := by
    obtain ⟨q1, q2⟩ := k3
    obtain ⟨_, du, _, _, _, _, q4, _, _, _, q8, _⟩ := (hP.ty u q1).ex
    cases hku : (c.T u).kind with
    | slice e' => rw [hku] at q8; obtain rfl : du = .slice e' := q8; exact .inl ⟨_, q4⟩
    | str => rw [hku] at q8; obtain rfl : du = .string := q8; exact .inr q4
    | _ => rw [hku] at q2; exact q2.elim
  obtain ⟨news, n1, n2, n3⟩ := Rep_new h hx k5
  unfold appBase at k4
  split at k4
  · -- nil
    obtain rfl : vs = .slice none 0 0 := hs
    have he : elems os (.sc (.slice none 0 0)) = [] := rfl
    simp only [he, List.nil_append] at k7 k8 ⊢
    by_cases hnil : appNew os x = []
    · refine .inl ⟨rfl, hnil, ?_⟩
      rw [hnil] at n1 n3
      have hn0 : news = [] := by
        rcases n2 with ⟨_, e⟩ | n2
        · exact e
        · have := n2.1; rw [hnil] at this; exact List.eq_nil_of_length_eq_zero (by simpa using this)
      subst hn0
      have := run_app_room (w := w) t u ty e j i4 j1 hu none 0 0 0 vx [] (by simpa using n1) (by rw [j2]; simpa using n3 w rfl) (by omega) w (by simp)
      simpa using this
    · refine .inr ⟨fun _ => hnil, ?_⟩
      have hr := RepE.of_nil_or n2
      have hpos : 0 < (appNew os x).length := List.length_pos_iff.2 hnil
      have hrun := run_app_grow (w := w) t u ty e j z i4 j1 j6 hu none 0 0 (appNew os x).length vx [] news (by simp [Builtin.firstCells]) n1 (by rw [j2]; exact n3 w.drew rfl) (by omega) (by simp only [appBound] at k8; omega) (by
        rw [j3]
        refine growslice_fits (by omega) ?_
        simpa [appBound] using k7)
      obtain ⟨g1, g2, g3, g4⟩ := h.grown (w0 := w.drew) k2 hr e (grownCap w (0 + (appNew os x).length) 0 e) (by have := grownCap_ge w (0 + (appNew os x).length) 0 e; omega) (rest := (Builtin.zeroCells z.cells (grownCap w (0 + (appNew os x).length) 0 e - (0 + (appNew os x).length))).toList)
        (by rw [Array.length_toList, size_zeroCells, hzl, j2, Nat.zero_add]) rfl rfl rfl rfl ([].toArray ++ news.toArray ++ Builtin.zeroCells z.cells (grownCap w (0 + (appNew os x).length) 0 e - (0 + (appNew os x).length))) (by simp)
      refine ⟨_, _, _, hrun, g1, g2, ?_, g4⟩
      simpa [kill] using g3
  · -- one of ours
    rename_i L off n
    obtain ⟨rfl, k4⟩ := k4
    split at k4
    · rename_i s0 xs hL
      have hez : s0 = (c.T e).sz := by have := k6 rfl; simpa [esz, hL] using this
      subst hez
      refine .inr ⟨fun h => by simp [isNil] at h, ?_⟩
      obtain ⟨ea, ecap, olds, hva, _, o3, o4, o5⟩ := Rep_elems h hs (by simp [lenOk, hL]) (fun s e => by cases e) (fun L' off' n' s' xs' op e hL' => by cases e; rw [hL] at hL'; cases hL')
      have hro := RepE.of_nil_or (s := (c.T e).sz) (o4.imp id (fun o4 => by simpa [esz, hL] using o4))
      have hrn := RepE.of_nil_or n2
      have hall := hro.app hrn
      simp only [lenA] at o3
      have hs' : RepC (rdF X os g w) os g w (.sl L 0 n) vs := hs
      simp only [RepC, hL] at hs'
      obtain ⟨cap, q1, q2, q3⟩ := hs'
      have hlt := lt_of_get hL
      have hklen : (kill os (.sl L 0 n)).length = os.length := by simp [kill]
      have hlen : (elems os (.sl L 0 n) ++ appNew os x).length = n + (appNew os x).length := by simp [o3]
      have hoL := h.obj L
      rw [hL] at hoL
      have hmoved : ∀ (q : List Nat), (∀ b ∈ q, b ∈ g L) → ∀ M, own (kill os (.sl L 0 n) ++ [.arr true (c.T e).sz (elems os (.sl L 0 n) ++ appNew os x)]) M → ∀ b ∈ updG g os.length q M, b < w.heap.size →
          (own os M ∧ b ∈ g M) ∨ ∃ K ∈ names (.sl L 0 n), b ∈ g K := by
        intro q hq M hM b hb _
        rcases own_push hM with h1 | ⟨h1, _⟩
        · have h2 := own_kill h1
          rw [updG_other _ (Nat.ne_of_lt (own_lt h2))] at hb; exact .inl ⟨h2, hb⟩
        · rw [h1, hklen, updG_same] at hb; exact .inr ⟨L, by simp [names], hq b hb⟩
      -- what it holds as it grows
      have hgrow : ∀ base, cap < n + (appNew os x).length → (Builtin.firstCells j.size n (.slice base n cap)).run P w.drew = .ok olds.toArray w.drew → vs = .slice base n cap →
          ∃ v g' w', (Builtin.append_ #[t, u] ty #[vs, vx]).run P w = .ok v w' ∧
      SRel X (kill os (.sl L 0 n) ++ [.arr true (c.T e).sz (elems os (.sl L 0 n) ++ appNew os x)]) g' w' ∧ Step X os g w (kill os (.sl L 0 n) ++ [.arr true (c.T e).sz (elems os (.sl L 0 n) ++ appNew os x)]) g' w' ∧
      RepC (rdF X (kill os (.sl L 0 n) ++ [.arr true (c.T e).sz (elems os (.sl L 0 n) ++ appNew os x)]) g' w') (kill os (.sl L 0 n) ++ [.arr true (c.T e).sz (elems os (.sl L 0 n) ++ appNew os x)]) g' w' (.sl os.length 0 (elems os (.sl L 0 n) ++ appNew os x).length) v ∧
      Loc os g w (kill os (.sl L 0 n) ++ [.arr true (c.T e).sz (elems os (.sl L 0 n) ++ appNew os x)]) g' w' (names (.sl L 0 n)) := by
        intro base hg hfo hvs
        subst hvs
        have hrun := run_app_grow (w := w) t u ty e j z i4 j1 j6 hu base n cap (appNew os x).length vx olds news hfo n1 (by rw [j2]; exact n3 w.drew rfl) hg (by simp only [appBound] at k8; rw [hlen] at k8; omega) (by
          rw [j3]
          refine growslice_fits hg ?_
          rw [hlen] at k7
          exact k7)
        obtain ⟨kk1, kk2⟩ := h.kill1 hL
        obtain ⟨g1, g2, g3, g4⟩ := kk1.grown (w0 := w.drew) k2 (hall.mono kk2.rd) e (grownCap w (n + (appNew os x).length) cap e) (by rw [hlen]; exact grownCap_ge w _ _ e) (rest := (Builtin.zeroCells z.cells (grownCap w (n + (appNew os x).length) cap e - (n + (appNew os x).length))).toList)
          (by rw [Array.length_toList, size_zeroCells, hzl, j2, hlen]) rfl rfl rfl rfl (olds.toArray ++ news.toArray ++ Builtin.zeroCells z.cells (grownCap w (n + (appNew os x).length) cap e - (n + (appNew os x).length))) (by simp)
        rw [List.length_set] at g1 g2 g3
        refine ⟨_, _, _, hrun, g1, kk2.trans g2, ?_, fun b hb _ => g4.1 b hb (fun _ hm => by cases hm), fun M hM b hm hb => ?_⟩
        rotate_left
        · have g5 := g4.2 M hM
          rw [List.length_set] at g5
          rcases g5 b hm hb with ⟨h1, h2⟩ | ⟨_, hm, _⟩
          · exact .inl ⟨own_kill (s := .sl L 0 n) h1, h2⟩
          · cases hm
        rw [hlen] at g3
        rw [hlen]
        exact g3
      rcases q3 with ⟨b1, hb1, rfl, q3⟩ | ⟨rfl, a, rfl⟩
      · obtain ⟨p2, ⟨p0, p1⟩ | ⟨b2, p0, p1, cur, tt, p3, p4, p5, p6⟩⟩ := hoL
        · rw [p0] at hb1; cases hb1
        obtain rfl : b2 = b1 := by rw [p0] at hb1; simpa using hb1
        rw [room_cells p3, Nat.zero_add] at q3
        by_cases hroom : n + (appNew os x).length ≤ cap
        · have hnl : news.length = (appNew os x).length * (c.T e).sz := hrn.1
          have hfit : n * (c.T e).sz + news.length ≤ cur.size := by
            rw [hnl, ← Nat.add_mul]; exact Nat.le_trans (Nat.mul_le_mul_right _ hroom) q3
          have hone : ∀ v ∈ news, v.oneCell' = true := by
            intro v hv
            obtain ⟨m, hm, e1⟩ := List.mem_iff_getElem.1 hv
            have hs0 : 0 < (c.T e).sz := k2
            have hlt2 : m / (c.T e).sz < (appNew os x).length := (Nat.div_lt_iff_lt_mul hs0).2 (by omega)
            have h1 : (appNew os x)[m / (c.T e).sz]? = some _ := List.getElem?_eq_getElem hlt2
            have h2 := hrn.2.1 _ (List.getElem_mem hlt2)
            have h3 : m % (c.T e).sz < ((appNew os x)[m / (c.T e).sz]).length := by rw [h2]; exact Nat.mod_lt _ hs0
            obtain ⟨v', hv', hr'⟩ := hrn.2.2 _ _ _ _ h1 (List.getElem?_eq_getElem h3)
            rw [Nat.div_add_mod', List.getElem?_eq_getElem hm] at hv'
            simp only [Option.some.injEq] at hv'
            rw [← e1, hv']; exact hr'.one
          have hst := run_storeCells_at P b2 (n * (c.T e).sz) tt news 0 cur w p3 (by omega) hone
          simp only [Nat.add_zero] at hst
          have hrun := run_app_room (w := w) t u ty e j i4 j1 hu (some ⟨b2, 0 * (c.T e).sz, none⟩) n cap (appNew os x).length vx news n1 (by rw [j2]; exact n3 w rfl) hroom _ (by simp only [addr_add, Nat.zero_mul, Nat.zero_add, j2]; exact hst)
          have hmv := h.move (ys := elems os (.sl L 0 n) ++ appNew os x) p0 hL (cur.toList.take (n * (c.T e).sz) ++ news ++ cur.toList.drop (n * (c.T e).sz + news.length)).toArray cur tt p3 (by simp; omega) fun hrd => by
            refine ⟨p2, .inr ⟨b2, by rw [updG_same]; exact p0, p1, _, tt, setRow_heap w b2 cur _ tt _ p3, ?_, hall.2.1, fun i k y y2 hy hy2 => ?_⟩⟩
            · rw [hlen, Nat.add_mul]; simp; omega
            · obtain ⟨v, hv, hr⟩ := hall.2.2 i k y y2 hy hy2
              refine ⟨v, ?_, hr.mono hrd⟩
              simp only [List.getElem?_toArray]
              rw [splice_get _ _ _ _ (by simpa using hfit)]
              rw [List.getElem?_append] at hv
              have hol : olds.length = n * (c.T e).sz := by rw [hro.1, o3]
              rw [hol] at hv
              by_cases c1 : i * (c.T e).sz + k < n * (c.T e).sz
              · rw [if_pos c1] at hv
                rw [if_neg (by omega)]
                rcases o5 with rfl | ⟨b, o, e1, o5⟩
                · simp at hv
                · simp only [Value.slice.injEq] at hva
                  rw [← hva.1] at e1
                  simp only [Option.some.injEq, Addr.mk.injEq, Nat.zero_mul, and_true] at e1
                  have h5 := o5 _ _ hv
                  rw [← e1.1, ← e1.2, Nat.zero_add, cell_of_row w b2 _ cur tt (0, 0) p3] at h5
                  simpa using h5
              · rw [if_neg c1] at hv
                have := lt_of_get hv
                rw [if_pos ⟨by omega, by omega⟩]
                exact hv
          refine ⟨_, _, _, hrun, hmv.1, hmv.2, ?_, fun b hb hne => setRow_other w b2 b _ (fun e => hne L (by simp [names]) (by rw [p0]; simp [e])), hmoved _ (fun b hb => hb)⟩
          have hgetn : (kill os (.sl L 0 n) ++ [AO.arr true (c.T e).sz (elems os (.sl L 0 n) ++ appNew os x)])[os.length]? = some (.arr true (c.T e).sz (elems os (.sl L 0 n) ++ appNew os x)) := by
            rw [push_get, if_neg (by rw [hklen]; omega), if_pos hklen.symm]
          simp only [RepC, hgetn]
          refine ⟨cap, by rw [hlen]; exact hroom, by omega, .inl ⟨b2, by rw [updG_same, p0]; rfl, by rw [hlen], ?_⟩⟩
          rw [room_cells (setRow_heap w b2 cur _ tt _ p3)]
          simp; omega
        · refine hgrow _ (by omega) ?_ rfl
          have hol : olds.length = n * j.size := by rw [hro.1, o3, j2]
          refine run_firstCells_some w.drew j.size n _ n cap olds hol fun m v hv => ?_
          rcases o5 with rfl | ⟨b, o, e1, o5⟩
          · simp at hv
          · simp only [Value.slice.injEq] at hva
            rw [← hva.1] at e1
            simp only [Option.some.injEq, Addr.mk.injEq, and_true] at e1
            rw [addr_add, e1.1, e1.2]
            exact o5 m v hv
      · obtain rfl : n = 0 := by omega
        have he0 : elems os (.sl L 0 0) = [] := List.eq_nil_of_length_eq_zero o3
        have hol : olds = [] := List.eq_nil_of_length_eq_zero (by rw [hro.1, o3]; simp)
        by_cases hz : appNew os x = []
        · have hn0 : news = [] := List.eq_nil_of_length_eq_zero (by rw [hrn.1, hz]; simp)
          subst hn0
          have hrun := run_app_room (w := w) t u ty e j i4 j1 hu a 0 0 0 vx [] (by simpa [hz] using n1) (by rw [j2]; simpa [hz] using n3 w rfl) (by omega) w (by cases a <;> simp [storeCells])
          obtain ⟨kk1, kk2⟩ := h.kill1 hL
          have hmv := kk1.push [] (.arr true (c.T e).sz (elems os (.sl L 0 0) ++ appNew os x)) rfl rfl rfl (Nat.le_refl _) (fun _ _ => rfl) (fun _ _ hk => by cases hk) (fun _ _ hk => by cases hk) fun _ _ => by
            exact ⟨k2, .inl ⟨updG_same _ _ _, by simp [he0, hz]⟩⟩
          rw [List.length_set] at hmv
          refine ⟨_, _, _, hrun, hmv.1, kk2.trans hmv.2, ?_, fun b _ _ => rfl, hmoved [] (fun _ hb => by cases hb)⟩
          have hgetn : (kill os (.sl L 0 0) ++ [AO.arr true (c.T e).sz (elems os (.sl L 0 0) ++ appNew os x)])[os.length]? = some (.arr true (c.T e).sz (elems os (.sl L 0 0) ++ appNew os x)) := by
            rw [push_get, if_neg (by rw [hklen]; omega), if_pos hklen.symm]
          simp only [RepC, hgetn]
          exact ⟨0, by simp [he0, hz], by simp [he0, hz], .inr ⟨rfl, a, by simp⟩⟩
        · have hpos : 0 < (appNew os x).length := List.length_pos_iff.2 hz
          refine hgrow a (by omega) ?_ rfl
          rw [hol]
          cases a <;> simp [Builtin.firstCells, loadCells, loadCellsFrom]
    · exact k4.elim
  · exact k4.elim

end Go.AM
