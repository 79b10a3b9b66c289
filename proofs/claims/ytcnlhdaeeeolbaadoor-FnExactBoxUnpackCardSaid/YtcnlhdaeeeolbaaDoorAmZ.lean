/- Steps of walks, told in few words. Conditions: none. -/
import Derived.Test.YtcnlhdaeeeolbaaDoorAmQa0
set_option linter.unusedSimpArgs false
set_option linter.unusedVariables false
namespace Go.AM
open Go

/-- A goal that is kept for the end of a step. -/
structure ZHd (p : Prop) : Prop where
  out : p
/-- A call's contract with what is lent; 'ZLF': of one whose results hold no slice. -/
def ZLC (CT : CTab) (ps : List (List Nat)) (n : Nat) (vs : List AV) (σ : List AO) (post : AV → List AO → Prop) : Prop := CT n vs σ post
def ZLF (CT : CTab) (ps : List (List Nat)) (n : Nat) (vs : List AV) (σ : List AO) (post : AV → List AO → Prop) : Prop := CT n vs σ post
def ZPL (p : Plan) (H : List Nat) (g : Prop) : Prop := g
theorem lC {CT : CTab} (ps : List (List Nat)) {n : Nat} {vs : List AV} {σ : List AO} {post : AV → List AO → Prop} (h : CT n vs σ post) : ZLC CT ps n vs σ post := h
theorem lF {CT : CTab} (ps : List (List Nat)) {n : Nat} {vs : List AV} {σ : List AO} {post : AV → List AO → Prop} (h : CT n vs σ post) : ZLF CT ps n vs σ post := h
theorem a2 {p q : Prop} (x : p) (y : q) : p ∧ q := ⟨x, y⟩
theorem a3 {p q r : Prop} (x : p) (y : q) (z : r) : p ∧ q ∧ r := ⟨x, y, z⟩
theorem a4 {p q r s : Prop} (x : p) (y : q) (z : r) (w : s) : p ∧ q ∧ r ∧ s := ⟨x, y, z, w⟩
theorem wkVs_nil : wkVs [] [] := trivial
theorem wkVs_cons {x y : AV} {xs ys : List AV} (h1 : wkV x y) (h2 : wkVs xs ys) : wkVs (x :: xs) (y :: ys) := ⟨h1, h2⟩
theorem aXw {p : Prop} (h : p := by
    repeat' (first | exact wkE_nil | exact wkVs_nil | (with_reducible apply wkVs_cons) | (with_reducible apply wkE_cons) | exact wkC_nil _ | exact wkV_nil _ | exact wkA_nil _ | (with_reducible apply wkV_agg) | (with_reducible apply wkV_tup) | (with_reducible apply wkA_agg) | exact wkA_refl _ | exact wkV_refl _ | exact wkS_nil | (with_reducible apply wkS_cons) | (with_reducible apply wkO_rc) | (with_reducible apply wkO_arr) | exact wkO_refl _ | exact wkL_nil | (with_reducible apply wkL_cons) | exact wkC_refl _ | exact wkT_nil | (with_reducible apply wkT_cons) | (with_reducible apply wkR_appR) | (with_reducible apply wkR_consR) | exact wkR_nilR _ | exact wkM_nil | (with_reducible apply wkM_cons) | exact wkD_refl _ | exact wkD_nil _ | exact wkD_sl _ | exact wkA_sl _ | exact wkV_sl _ | exact wkR_refl _)
    done) : p := h
theorem aVw {x y : List AV} (h : wkVs x y := by exact aXw) : wkVs x y := h
theorem aWw {x y : AV} (h : wkV x y := by exact aXw) : wkV x y := h
theorem aOw {x y : List AO} (h : wkS x y := by exact aXw) : wkS x y := h
theorem aSw {e e' : Env} {os os' : List AO} (h1 : wkE e e' := by exact aXw) (h2 : wkS os os' := by exact aXw) : wkSt ⟨e, os⟩ ⟨e', os'⟩ := ⟨h1, h2⟩
theorem aXd {p : Prop} (h : p := by
    repeat' (first | exact wkE_nil | exact wkVs_nil | (with_reducible apply wkVs_cons) | (with_reducible apply wkE_cons) | exact wkC_nil _ | exact wkV_nil _ | exact wkA_nil _ | (with_reducible apply wkV_agg) | (with_reducible apply wkV_tup) | (with_reducible apply wkA_agg) | exact wkA_refl _ | exact wkV_refl _ | exact wkS_nil | (with_reducible apply wkS_cons) | (with_reducible apply wkO_rc) | (with_reducible apply wkO_arr) | exact wkO_refl _ | exact wkL_nil | (with_reducible apply wkL_cons) | exact wkC_refl _ | exact wkT_nil | (with_reducible apply wkT_cons) | (with_reducible apply wkR_appR) | (with_reducible apply wkR_consR) | exact wkR_nilR _ | exact wkM_nil | (with_reducible apply wkM_cons) | exact wkD_refl _ | exact wkD_nil _ | exact wkD_sl _ | exact wkA_sl _ | exact wkV_sl _ | exact wkR_refl _ | (refine wkR_repR ?_ _) | apply wkL_cons | (simp only [R_len, List.length_append, List.length_cons, List.length_nil, List.length_replicate]; exact wkV_refl _) | (simp only [R_len, List.length_append, List.length_cons, List.length_nil]; exact wkC_refl _) | (with_reducible apply wkV_fz) | (with_reducible apply wkA_fz) | (with_reducible apply wkC_fz) | (with_reducible apply wkR0_consR) | exact wkR0_nilR _ | exact wkL0_nil | apply wkL0_cons | exact wkC0_nil _ | exact wkC0_refl _ | (with_reducible apply wkD_fz))
    done) : p := h
theorem aVd {x y : List AV} (h : wkVs x y := by exact aXd) : wkVs x y := h
theorem aWd {x y : AV} (h : wkV x y := by exact aXd) : wkV x y := h
theorem aOd {x y : List AO} (h : wkS x y := by exact aXd) : wkS x y := h
theorem aSd {e e' : Env} {os os' : List AO} (h1 : wkE e e' := by exact aXd) (h2 : wkS os os' := by exact aXd) : wkSt ⟨e, os⟩ ⟨e', os'⟩ := ⟨h1, h2⟩
theorem bE (b : Bool) : b = true ∨ b = false := Bool.eq_false_or_eq_true b
theorem zSa {p : Prop} (h : p := by
    first | exact wkSt_same rfl | (simp (decide := true) only [go_sem, reduceIte, Nat.reduceAdd, Int.reduceToNat, Nat.reduceSub, Nat.reduceMul, Nat.reduceMod]; exact wkSt_same rfl)) : p := h
theorem zSd {p : Prop} (h : p := by
    simp (decide := true) only [go_sem, reduceIte, Nat.reduceAdd, Int.reduceToNat, Nat.reduceSub, Nat.reduceMul, Nat.reduceMod]
    exact aSd) : p := h
theorem zSs {p : Prop} (h : p := by
    simp (decide := true) only [go_sem, reduceIte, Nat.reduceAdd, Int.reduceToNat, Nat.reduceSub, Nat.reduceMul, Nat.reduceMod]) : p := h

section
variable {c : Cx} {CT : CTab} {nl : Nat} {lv : List Nat} {Q : Ex → St → Prop} {k : List It} {s s' : St}
section
variable {e : Env} {os : List AO} {H : List Nat} {dst : Option Nat} {n : Nat} {vs : List AV} {ps : List (List Nat)} {vs' : List AV} {σ' : List AO} {post : AV → List AO → Prop}
theorem openL (_ : ZLC CT ps n vs' σ' post) (h : nodupN (lendOf os vs ps) = true ∧ allP (fun L => own os L ∧ memN H L = false) (lendOf os vs ps) ∧
    callW CT n (vs.map (viewV (lendOf os vs ps) os)) (viewS (lendOf os vs ps) os) (behind c CT nl lv Q k e dst (lendOf os vs ps) os.length (unownN os (shownAll (lendOf os vs ps) os vs)))) : callR c CT nl lv Q H n vs e os dst k := call_open ps h
theorem openLF (_ : ZLF CT ps n vs' σ' post) (h : nodupN (lendOf os vs ps) = true ∧ allP (fun L => own os L ∧ memN H L = false) (lendOf os vs ps) ∧
    callW CT n (vs.map (viewV (lendOf os vs ps) os)) (viewS (lendOf os vs ps) os) (fun x σ' => (noFzV x ∧ allP noFzO σ') ∧ behind c CT nl lv Q k e dst (lendOf os vs ps) os.length os x σ')) : callR c CT nl lv Q H n vs e os dst k := call_openF ps h
theorem useL {K : AV → List AO → Prop} (con : ZLC CT ps n vs σ' post) (h : ∀ x σ, post x σ → K x σ) : callW CT n vs σ' K := callW_use con h
theorem useLF {K : AV → List AO → Prop} (con : ZLF CT ps n vs σ' post) (h : ∀ x σ, post x σ → K x σ) : callW CT n vs σ' K := callW_use con h
theorem useLW {P : Program} {K : AV → List AO → Prop} (con : ZLC (Con P c) ps n vs' σ' post) (hw : wkVs vs vs') (h : ∀ x σ, post x σ → K x σ) : callW (Con P c) n vs σ' K := callW_use (Con.wk con hw) h
theorem useLFW {P : Program} {K : AV → List AO → Prop} (con : ZLF (Con P c) ps n vs' σ' post) (hw : wkVs vs vs') (h : ∀ x σ, post x σ → K x σ) : callW (Con P c) n vs σ' K := callW_use (Con.wk con hw) h
theorem sem_planL {id : Nat} {ops : Array Oper} {p : Plan} {H : List Nat} (hp : planOk ops p = true) (h : sem c CT nl lv Q (.plan ops H p :: k) .normal s) : ZPL p H (sem c CT nl lv Q (.code (.region id ops true) :: k) .normal s) := sem_plan p H hp h
end
/-- One region, and what comes behind. -/
theorem zS {a b : Code} (h : ∀ k', ZHd (sem c CT nl lv Q k' .normal s') → sem c CT nl lv Q (.code a :: k') .normal s) (n : sem c CT nl lv Q (.code b :: k) .normal s') : sem c CT nl lv Q (.code (.seq a b) :: k) .normal s := by
  rw [sem_seq]; exact h _ ⟨r_join n⟩
theorem zU {a : Code} (h : ∀ k', ZHd (sem c CT nl lv Q k' .normal s') → sem c CT nl lv Q (.code a :: k') .normal s) (n : sem c CT nl lv Q k .normal s') : sem c CT nl lv Q (.code a :: k) .normal s := h _ ⟨n⟩
/-- A quiet region. -/
theorem z0 {a : Code} (t : ∀ k', ZHd (sem c CT nl lv Q k' .normal s') → sem c CT nl lv Q (.code a :: k') .normal s := by
    intro k' hn
    simp (decide := true) only [go_sem, reduceIte, Nat.reduceAdd, Int.reduceToNat, Nat.reduceSub, Nat.reduceMul, Nat.reduceMod]
    exact hn.out) : ∀ k', ZHd (sem c CT nl lv Q k' .normal s') → sem c CT nl lv Q (.code a :: k') .normal s := t
theorem zR {a : Code} (t : ∀ k', ZHd (sem c CT nl lv Q k' .normal s') → sem c CT nl lv Q (.code a :: k') .normal s := by
    intro k' hn
    first | (with_reducible refine sem_quiet [0, 1, 2, 3, 4, 5, 6, 7, 8, 9] ?_ ?_; focus kernel_rfl) | skip
    repeat' (first | with_reducible refine And.intro ?_ ?_ | exact True.intro | with_reducible assumption | exact fun hf => False.elim hf | (intro hg; first | (simp +contextual [hg]; done) | grind) | omega | simp (decide := true) only [go_sem, reduceIte, Nat.reduceAdd, Int.reduceToNat, Nat.reduceSub, Nat.reduceMul, Nat.reduceMod] | exact hn.out)) : ∀ k', ZHd (sem c CT nl lv Q k' .normal s') → sem c CT nl lv Q (.code a :: k') .normal s := fun k' hn => t k' hn
theorem zRF {a : Code} {F : Prop} (f : F) (t : ∀ k', ZHd (sem c CT nl lv Q k' .normal s') → F → sem c CT nl lv Q (.code a :: k') .normal s := by
    intro k' hn f
    first | (with_reducible refine sem_quiet [0, 1, 2, 3, 4, 5, 6, 7, 8, 9] ?_ ?_; focus kernel_rfl) | skip
    repeat' (first | with_reducible refine And.intro ?_ ?_ | exact True.intro | with_reducible assumption | exact fun hf => False.elim hf | (intro hg; first | (simp +contextual [hg]; done) | grind) | omega | simp (decide := true) only [go_sem, reduceIte, Nat.reduceAdd, Int.reduceToNat, Nat.reduceSub, Nat.reduceMul, Nat.reduceMod, f] | exact hn.out)) : ∀ k', ZHd (sem c CT nl lv Q k' .normal s') → sem c CT nl lv Q (.code a :: k') .normal s := fun k' hn => t k' hn f
theorem zRFn {a : Code} {F : Prop} (f : F) (t : ∀ k', ZHd (sem c CT nl lv Q k' .normal s') → F → sem c CT nl lv Q (.code a :: k') .normal s := by
    intro k' hn f
    first | (with_reducible refine sem_quiet [0, 1, 2, 3, 4, 5, 6, 7, 8, 9] ?_ ?_; focus kernel_rfl) | skip
    repeat' (first | with_reducible refine And.intro ?_ ?_ | (simp only [List.length_append, List.length_cons, List.length_nil, R_len] at *; omega) | exact True.intro | with_reducible assumption | exact fun hf => False.elim hf | (intro hg; first | (simp +contextual [hg]; done) | grind) | omega | simp (decide := true) only [go_sem, reduceIte, Nat.reduceAdd, Int.reduceToNat, Nat.reduceSub, Nat.reduceMul, Nat.reduceMod, f] | exact hn.out)) : ∀ k', ZHd (sem c CT nl lv Q k' .normal s') → sem c CT nl lv Q (.code a :: k') .normal s := fun k' hn => t k' hn f
theorem zC1 {a : Code} {C1 : Prop} (c1 : C1) (t : ∀ k', ZHd (sem c CT nl lv Q k' .normal s') → C1 → sem c CT nl lv Q (.code a :: k') .normal s := by
    intro k' hn c1
    first | (with_reducible refine sem_quiet [0, 1, 2, 3, 4, 5, 6, 7, 8, 9] ?_ ?_; focus kernel_rfl) | skip
    repeat' (first | with_reducible refine And.intro ?_ ?_ | (with_reducible refine openL c1 ?_) | (with_reducible refine openLF c1 ?_) | (refine useL c1 ?_; rintro x σ' ⟨rfl, rfl⟩; with_reducible refine behind_go ?_) | (refine useLF c1 ?_; rintro x σ' ⟨rfl, rfl⟩; refine ⟨zSs, ?_⟩; with_reducible refine behind_go ?_) | exact True.intro | with_reducible assumption | exact fun hf => False.elim hf | (intro hg; first | (simp +contextual [hg]; done) | grind) | omega | simp (decide := true) only [go_sem, reduceIte, Nat.reduceAdd, Int.reduceToNat, Nat.reduceSub, Nat.reduceMul, Nat.reduceMod] | exact hn.out)) : ∀ k', ZHd (sem c CT nl lv Q k' .normal s') → sem c CT nl lv Q (.code a :: k') .normal s := fun k' hn => t k' hn c1
theorem zC1F {a : Code} {C1 : Prop} (c1 : C1) {F : Prop} (f : F) (t : ∀ k', ZHd (sem c CT nl lv Q k' .normal s') → C1 → F → sem c CT nl lv Q (.code a :: k') .normal s := by
    intro k' hn c1 f
    first | (with_reducible refine sem_quiet [0, 1, 2, 3, 4, 5, 6, 7, 8, 9] ?_ ?_; focus kernel_rfl) | skip
    repeat' (first | with_reducible refine And.intro ?_ ?_ | (with_reducible refine openL c1 ?_) | (with_reducible refine openLF c1 ?_) | (refine useL c1 ?_; rintro x σ' ⟨rfl, rfl⟩; with_reducible refine behind_go ?_) | (refine useLF c1 ?_; rintro x σ' ⟨rfl, rfl⟩; refine ⟨zSs, ?_⟩; with_reducible refine behind_go ?_) | exact True.intro | with_reducible assumption | exact fun hf => False.elim hf | (intro hg; first | (simp +contextual [hg]; done) | grind) | omega | simp (decide := true) only [go_sem, reduceIte, Nat.reduceAdd, Int.reduceToNat, Nat.reduceSub, Nat.reduceMul, Nat.reduceMod, f] | exact hn.out)) : ∀ k', ZHd (sem c CT nl lv Q k' .normal s') → sem c CT nl lv Q (.code a :: k') .normal s := fun k' hn => t k' hn c1 f
theorem zC2 {a : Code} {C1 : Prop} (c1 : C1) {C2 : Prop} (c2 : C2) (t : ∀ k', ZHd (sem c CT nl lv Q k' .normal s') → C1 → C2 → sem c CT nl lv Q (.code a :: k') .normal s := by
    intro k' hn c1 c2
    first | (with_reducible refine sem_quiet [0, 1, 2, 3, 4, 5, 6, 7, 8, 9] ?_ ?_; focus kernel_rfl) | skip
    repeat' (first | with_reducible refine And.intro ?_ ?_ | (with_reducible refine openL c1 ?_) | (with_reducible refine openLF c1 ?_) | (with_reducible refine openL c2 ?_) | (with_reducible refine openLF c2 ?_) | (refine useL c1 ?_; rintro x σ' ⟨rfl, rfl⟩; with_reducible refine behind_go ?_) | (refine useLF c1 ?_; rintro x σ' ⟨rfl, rfl⟩; refine ⟨zSs, ?_⟩; with_reducible refine behind_go ?_) | (refine useL c2 ?_; rintro x σ' ⟨rfl, rfl⟩; with_reducible refine behind_go ?_) | (refine useLF c2 ?_; rintro x σ' ⟨rfl, rfl⟩; refine ⟨zSs, ?_⟩; with_reducible refine behind_go ?_) | exact True.intro | with_reducible assumption | exact fun hf => False.elim hf | (intro hg; first | (simp +contextual [hg]; done) | grind) | omega | simp (decide := true) only [go_sem, reduceIte, Nat.reduceAdd, Int.reduceToNat, Nat.reduceSub, Nat.reduceMul, Nat.reduceMod] | exact hn.out)) : ∀ k', ZHd (sem c CT nl lv Q k' .normal s') → sem c CT nl lv Q (.code a :: k') .normal s := fun k' hn => t k' hn c1 c2
theorem zC2F {a : Code} {C1 : Prop} (c1 : C1) {C2 : Prop} (c2 : C2) {F : Prop} (f : F) (t : ∀ k', ZHd (sem c CT nl lv Q k' .normal s') → C1 → C2 → F → sem c CT nl lv Q (.code a :: k') .normal s := by
    intro k' hn c1 c2 f
    first | (with_reducible refine sem_quiet [0, 1, 2, 3, 4, 5, 6, 7, 8, 9] ?_ ?_; focus kernel_rfl) | skip
    repeat' (first | with_reducible refine And.intro ?_ ?_ | (with_reducible refine openL c1 ?_) | (with_reducible refine openLF c1 ?_) | (with_reducible refine openL c2 ?_) | (with_reducible refine openLF c2 ?_) | (refine useL c1 ?_; rintro x σ' ⟨rfl, rfl⟩; with_reducible refine behind_go ?_) | (refine useLF c1 ?_; rintro x σ' ⟨rfl, rfl⟩; refine ⟨zSs, ?_⟩; with_reducible refine behind_go ?_) | (refine useL c2 ?_; rintro x σ' ⟨rfl, rfl⟩; with_reducible refine behind_go ?_) | (refine useLF c2 ?_; rintro x σ' ⟨rfl, rfl⟩; refine ⟨zSs, ?_⟩; with_reducible refine behind_go ?_) | exact True.intro | with_reducible assumption | exact fun hf => False.elim hf | (intro hg; first | (simp +contextual [hg]; done) | grind) | omega | simp (decide := true) only [go_sem, reduceIte, Nat.reduceAdd, Int.reduceToNat, Nat.reduceSub, Nat.reduceMul, Nat.reduceMod, f] | exact hn.out)) : ∀ k', ZHd (sem c CT nl lv Q k' .normal s') → sem c CT nl lv Q (.code a :: k') .normal s := fun k' hn => t k' hn c1 c2 f
theorem zC3F {a : Code} {C1 : Prop} (c1 : C1) {C2 : Prop} (c2 : C2) {C3 : Prop} (c3 : C3) {F : Prop} (f : F) (t : ∀ k', ZHd (sem c CT nl lv Q k' .normal s') → C1 → C2 → C3 → F → sem c CT nl lv Q (.code a :: k') .normal s := by
    intro k' hn c1 c2 c3 f
    first | (with_reducible refine sem_quiet [0, 1, 2, 3, 4, 5, 6, 7, 8, 9] ?_ ?_; focus kernel_rfl) | skip
    repeat' (first | with_reducible refine And.intro ?_ ?_ | (with_reducible refine openL c1 ?_) | (with_reducible refine openLF c1 ?_) | (with_reducible refine openL c2 ?_) | (with_reducible refine openLF c2 ?_) | (with_reducible refine openL c3 ?_) | (with_reducible refine openLF c3 ?_) | (refine useL c1 ?_; rintro x σ' ⟨rfl, rfl⟩; with_reducible refine behind_go ?_) | (refine useLF c1 ?_; rintro x σ' ⟨rfl, rfl⟩; refine ⟨zSs, ?_⟩; with_reducible refine behind_go ?_) | (refine useL c2 ?_; rintro x σ' ⟨rfl, rfl⟩; with_reducible refine behind_go ?_) | (refine useLF c2 ?_; rintro x σ' ⟨rfl, rfl⟩; refine ⟨zSs, ?_⟩; with_reducible refine behind_go ?_) | (refine useL c3 ?_; rintro x σ' ⟨rfl, rfl⟩; with_reducible refine behind_go ?_) | (refine useLF c3 ?_; rintro x σ' ⟨rfl, rfl⟩; refine ⟨zSs, ?_⟩; with_reducible refine behind_go ?_) | exact True.intro | with_reducible assumption | exact fun hf => False.elim hf | (intro hg; first | (simp +contextual [hg]; done) | grind) | omega | simp (decide := true) only [go_sem, reduceIte, Nat.reduceAdd, Int.reduceToNat, Nat.reduceSub, Nat.reduceMul, Nat.reduceMod, f] | exact hn.out)) : ∀ k', ZHd (sem c CT nl lv Q k' .normal s') → sem c CT nl lv Q (.code a :: k') .normal s := fun k' hn => t k' hn c1 c2 c3 f
theorem zC4F {a : Code} {C1 : Prop} (c1 : C1) {C2 : Prop} (c2 : C2) {C3 : Prop} (c3 : C3) {C4 : Prop} (c4 : C4) {F : Prop} (f : F) (t : ∀ k', ZHd (sem c CT nl lv Q k' .normal s') → C1 → C2 → C3 → C4 → F → sem c CT nl lv Q (.code a :: k') .normal s := by
    intro k' hn c1 c2 c3 c4 f
    first | (with_reducible refine sem_quiet [0, 1, 2, 3, 4, 5, 6, 7, 8, 9] ?_ ?_; focus kernel_rfl) | skip
    repeat' (first | with_reducible refine And.intro ?_ ?_ | (with_reducible refine openL c1 ?_) | (with_reducible refine openLF c1 ?_) | (with_reducible refine openL c2 ?_) | (with_reducible refine openLF c2 ?_) | (with_reducible refine openL c3 ?_) | (with_reducible refine openLF c3 ?_) | (with_reducible refine openL c4 ?_) | (with_reducible refine openLF c4 ?_) | (refine useL c1 ?_; rintro x σ' ⟨rfl, rfl⟩; with_reducible refine behind_go ?_) | (refine useLF c1 ?_; rintro x σ' ⟨rfl, rfl⟩; refine ⟨zSs, ?_⟩; with_reducible refine behind_go ?_) | (refine useL c2 ?_; rintro x σ' ⟨rfl, rfl⟩; with_reducible refine behind_go ?_) | (refine useLF c2 ?_; rintro x σ' ⟨rfl, rfl⟩; refine ⟨zSs, ?_⟩; with_reducible refine behind_go ?_) | (refine useL c3 ?_; rintro x σ' ⟨rfl, rfl⟩; with_reducible refine behind_go ?_) | (refine useLF c3 ?_; rintro x σ' ⟨rfl, rfl⟩; refine ⟨zSs, ?_⟩; with_reducible refine behind_go ?_) | (refine useL c4 ?_; rintro x σ' ⟨rfl, rfl⟩; with_reducible refine behind_go ?_) | (refine useLF c4 ?_; rintro x σ' ⟨rfl, rfl⟩; refine ⟨zSs, ?_⟩; with_reducible refine behind_go ?_) | exact True.intro | with_reducible assumption | exact fun hf => False.elim hf | (intro hg; first | (simp +contextual [hg]; done) | grind) | omega | simp (decide := true) only [go_sem, reduceIte, Nat.reduceAdd, Int.reduceToNat, Nat.reduceSub, Nat.reduceMul, Nat.reduceMod, f] | exact hn.out)) : ∀ k', ZHd (sem c CT nl lv Q k' .normal s') → sem c CT nl lv Q (.code a :: k') .normal s := fun k' hn => t k' hn c1 c2 c3 c4 f
theorem zPR {a : Code} (p : Plan) (H : List Nat) (t : ∀ k', ZHd (sem c CT nl lv Q k' .normal s') → ZPL p H (sem c CT nl lv Q (.code a :: k') .normal s) := by
    intro k' hn
    refine sem_planL ?_ ?_
    focus kernel_rfl
    repeat' (first | with_reducible refine And.intro ?_ ?_ | exact True.intro | with_reducible assumption | exact fun hf => False.elim hf | (intro hg; first | (simp +contextual [hg]; done) | grind) | omega | simp (decide := true) only [go_sem, reduceIte, Nat.reduceAdd, Int.reduceToNat, Nat.reduceSub, Nat.reduceMul, Nat.reduceMod] | exact hn.out)) : ∀ k', ZHd (sem c CT nl lv Q k' .normal s') → sem c CT nl lv Q (.code a :: k') .normal s := fun k' hn => t k' hn
theorem zPRF {a : Code} (p : Plan) (H : List Nat) {F : Prop} (f : F) (t : ∀ k', ZHd (sem c CT nl lv Q k' .normal s') → F → ZPL p H (sem c CT nl lv Q (.code a :: k') .normal s) := by
    intro k' hn f
    refine sem_planL ?_ ?_
    focus kernel_rfl
    repeat' (first | with_reducible refine And.intro ?_ ?_ | exact True.intro | with_reducible assumption | exact fun hf => False.elim hf | (intro hg; first | (simp +contextual [hg]; done) | grind) | omega | simp (decide := true) only [go_sem, reduceIte, Nat.reduceAdd, Int.reduceToNat, Nat.reduceSub, Nat.reduceMul, Nat.reduceMod, f] | exact hn.out)) : ∀ k', ZHd (sem c CT nl lv Q k' .normal s') → sem c CT nl lv Q (.code a :: k') .normal s := fun k' hn => t k' hn f
theorem zPC1 {a : Code} (p : Plan) (H : List Nat) {C1 : Prop} (c1 : C1) (t : ∀ k', ZHd (sem c CT nl lv Q k' .normal s') → C1 → ZPL p H (sem c CT nl lv Q (.code a :: k') .normal s) := by
    intro k' hn c1
    refine sem_planL ?_ ?_
    focus kernel_rfl
    repeat' (first | with_reducible refine And.intro ?_ ?_ | (with_reducible refine openL c1 ?_) | (with_reducible refine openLF c1 ?_) | (refine useL c1 ?_; rintro x σ' ⟨rfl, rfl⟩; with_reducible refine behind_go ?_) | (refine useLF c1 ?_; rintro x σ' ⟨rfl, rfl⟩; refine ⟨zSs, ?_⟩; with_reducible refine behind_go ?_) | exact True.intro | with_reducible assumption | exact fun hf => False.elim hf | (intro hg; first | (simp +contextual [hg]; done) | grind) | omega | simp (decide := true) only [go_sem, reduceIte, Nat.reduceAdd, Int.reduceToNat, Nat.reduceSub, Nat.reduceMul, Nat.reduceMod] | exact hn.out)) : ∀ k', ZHd (sem c CT nl lv Q k' .normal s') → sem c CT nl lv Q (.code a :: k') .normal s := fun k' hn => t k' hn c1
theorem zPC1F {a : Code} (p : Plan) (H : List Nat) {C1 : Prop} (c1 : C1) {F : Prop} (f : F) (t : ∀ k', ZHd (sem c CT nl lv Q k' .normal s') → C1 → F → ZPL p H (sem c CT nl lv Q (.code a :: k') .normal s) := by
    intro k' hn c1 f
    refine sem_planL ?_ ?_
    focus kernel_rfl
    repeat' (first | with_reducible refine And.intro ?_ ?_ | (with_reducible refine openL c1 ?_) | (with_reducible refine openLF c1 ?_) | (refine useL c1 ?_; rintro x σ' ⟨rfl, rfl⟩; with_reducible refine behind_go ?_) | (refine useLF c1 ?_; rintro x σ' ⟨rfl, rfl⟩; refine ⟨zSs, ?_⟩; with_reducible refine behind_go ?_) | exact True.intro | with_reducible assumption | exact fun hf => False.elim hf | (intro hg; first | (simp +contextual [hg]; done) | grind) | omega | simp (decide := true) only [go_sem, reduceIte, Nat.reduceAdd, Int.reduceToNat, Nat.reduceSub, Nat.reduceMul, Nat.reduceMod, f] | exact hn.out)) : ∀ k', ZHd (sem c CT nl lv Q k' .normal s') → sem c CT nl lv Q (.code a :: k') .normal s := fun k' hn => t k' hn c1 f
theorem zPC2F {a : Code} (p : Plan) (H : List Nat) {C1 : Prop} (c1 : C1) {C2 : Prop} (c2 : C2) {F : Prop} (f : F) (t : ∀ k', ZHd (sem c CT nl lv Q k' .normal s') → C1 → C2 → F → ZPL p H (sem c CT nl lv Q (.code a :: k') .normal s) := by
    intro k' hn c1 c2 f
    refine sem_planL ?_ ?_
    focus kernel_rfl
    repeat' (first | with_reducible refine And.intro ?_ ?_ | (with_reducible refine openL c1 ?_) | (with_reducible refine openLF c1 ?_) | (with_reducible refine openL c2 ?_) | (with_reducible refine openLF c2 ?_) | (refine useL c1 ?_; rintro x σ' ⟨rfl, rfl⟩; with_reducible refine behind_go ?_) | (refine useLF c1 ?_; rintro x σ' ⟨rfl, rfl⟩; refine ⟨zSs, ?_⟩; with_reducible refine behind_go ?_) | (refine useL c2 ?_; rintro x σ' ⟨rfl, rfl⟩; with_reducible refine behind_go ?_) | (refine useLF c2 ?_; rintro x σ' ⟨rfl, rfl⟩; refine ⟨zSs, ?_⟩; with_reducible refine behind_go ?_) | exact True.intro | with_reducible assumption | exact fun hf => False.elim hf | (intro hg; first | (simp +contextual [hg]; done) | grind) | omega | simp (decide := true) only [go_sem, reduceIte, Nat.reduceAdd, Int.reduceToNat, Nat.reduceSub, Nat.reduceMul, Nat.reduceMod, f] | exact hn.out)) : ∀ k', ZHd (sem c CT nl lv Q k' .normal s') → sem c CT nl lv Q (.code a :: k') .normal s := fun k' hn => t k' hn c1 c2 f
/-! ### Places where ways meet, loops, ends -/
section
variable {ι α β : Type}
theorem zCut {ρ : Type} {a b : Code} (T : α → St) (p : α → Option ρ) (r : ρ) (hJ : ∀ (_ : Unit) x, p x = some r → sem c CT nl lv Q (.code b :: k) .normal (T x))
    (h : ∀ k', k' = .code b :: k → (∀ (_ : Unit) x, p x = some r → sem c CT nl lv Q k' .normal (T x)) → sem c CT nl lv Q (.code a :: .join :: k') .normal s) : sem c CT nl lv Q (.code (.seq a b) :: k) .normal s :=
  sem_cutJ (fun (_ : Unit) x => T x) (fun (_ : Unit) x => p x = some r) hJ h
theorem zJ {T : ι → α → St} {φ : ι → α → Prop} (J : ∀ i x, φ i x → sem c CT nl lv Q k .normal (T i x)) (ts : List Nat) (i : ι) (x : α) (hx : φ i x) (hk : keepOk nl (autoE nl ts s) = true := by rfl) (hb : Nat.ble s.os.length 1000000 = true := by rfl)
    (h : wkSt (viewSt ts (autoE nl ts s) s) (T i x) := by
    first | exact wkSt_same rfl | (simp (decide := true) only [go_sem, reduceIte, Nat.reduceAdd, Int.reduceToNat, Nat.reduceSub, Nat.reduceMul, Nat.reduceMod]; exact wkSt_same rfl)) : sem c CT nl lv Q (.join :: k) .normal s := r_joinU J ts i x hk hb ⟨h, hx⟩
theorem zB {ts : List Nat} {F : ι → α → St} {φ : ι → α → Prop} {f : α → Option (α ⊕ β)} {o : β} {n : Nat} {i0 : ι} {a0 a' : α} {y : α ⊕ β} {k0 : List It} (hk0 : k = .back (backP nl ts F φ f o n i0 a0) :: k0) (hy : some (Sum.inl a') = some y) (hi : ∀ a', y = .inl a' → iterN f n a' = some o) (i : ι) (hx : φ i a') (hk : keepOk nl (autoE nl ts s) = true := by rfl) (hb : Nat.ble s.os.length 1000000 = true := by rfl)
    (h : wkSt (viewSt ts (autoE nl ts s) s) (F i a') := by
    first | exact wkSt_same rfl | (simp (decide := true) only [go_sem, reduceIte, Nat.reduceAdd, Int.reduceToNat, Nat.reduceSub, Nat.reduceMul, Nat.reduceMod]; exact wkSt_same rfl)) : sem c CT nl lv Q k .normal s := by
  subst hk0; exact r_backP i a' hk hb ⟨h, hx⟩ (hi _ (Option.some.inj hy).symm)
theorem zJw {T : ι → α → St} {φ : ι → α → Prop} (J : ∀ i x, φ i x → sem c CT nl lv Q k .normal (T i x)) (ts : List Nat) (i : ι) (x : α) (hx : φ i x) (hk : keepOk nl (autoE nl ts s) = true := by rfl) (hb : Nat.ble s.os.length 1000000 = true := by rfl)
    (h : wkSt (viewSt ts (autoE nl ts s) s) (T i x) := by
    simp (decide := true) only [go_sem, reduceIte, Nat.reduceAdd, Int.reduceToNat, Nat.reduceSub, Nat.reduceMul, Nat.reduceMod]
    exact aSw) : sem c CT nl lv Q (.join :: k) .normal s := r_joinU J ts i x hk hb ⟨h, hx⟩
theorem zBw {ts : List Nat} {F : ι → α → St} {φ : ι → α → Prop} {f : α → Option (α ⊕ β)} {o : β} {n : Nat} {i0 : ι} {a0 a' : α} {y : α ⊕ β} {k0 : List It} (hk0 : k = .back (backP nl ts F φ f o n i0 a0) :: k0) (hy : some (Sum.inl a') = some y) (hi : ∀ a', y = .inl a' → iterN f n a' = some o) (i : ι) (hx : φ i a') (hk : keepOk nl (autoE nl ts s) = true := by rfl) (hb : Nat.ble s.os.length 1000000 = true := by rfl)
    (h : wkSt (viewSt ts (autoE nl ts s) s) (F i a') := by
    simp (decide := true) only [go_sem, reduceIte, Nat.reduceAdd, Int.reduceToNat, Nat.reduceSub, Nat.reduceMul, Nat.reduceMod]
    exact aSw) : sem c CT nl lv Q k .normal s := by
  subst hk0; exact r_backP i a' hk hb ⟨h, hx⟩ (hi _ (Option.some.inj hy).symm)
theorem zJvw {T : ι → α → St} {φ : ι → α → Prop} (J : ∀ i x, φ i x → sem c CT nl lv Q k .normal (T i x)) (ts ks : List Nat) (i : ι) (x : α) (hx : φ i x) (hk : keepOk nl ks = true := by rfl) (hb : Nat.ble s.os.length 1000000 = true := by rfl)
    (h : wkSt (viewSt ts ks s) (T i x) := by
    simp (decide := true) only [go_sem, reduceIte, Nat.reduceAdd, Int.reduceToNat, Nat.reduceSub, Nat.reduceMul, Nat.reduceMod]
    exact aSw) : sem c CT nl lv Q (.join :: k) .normal s := r_joinV J ts ks i x hk hb ⟨h, hx⟩
theorem zBvw {ts : List Nat} {F : ι → α → St} {φ : ι → α → Prop} {f : α → Option (α ⊕ β)} {o : β} {n : Nat} {i0 : ι} {a0 a' : α} {y : α ⊕ β} {k0 : List It} (hk0 : k = .back (backP nl ts F φ f o n i0 a0) :: k0) (hy : some (Sum.inl a') = some y) (hi : ∀ a', y = .inl a' → iterN f n a' = some o) (ks : List Nat) (i : ι) (hx : φ i a') (hk : keepOk nl ks = true := by rfl) (hb : Nat.ble s.os.length 1000000 = true := by rfl)
    (h : wkSt (viewSt ts ks s) (F i a') := by
    simp (decide := true) only [go_sem, reduceIte, Nat.reduceAdd, Int.reduceToNat, Nat.reduceSub, Nat.reduceMul, Nat.reduceMod]
    exact aSw) : sem c CT nl lv Q k .normal s := by
  subst hk0; exact r_backV ks i a' hk hb ⟨h, hx⟩ (hi _ (Option.some.inj hy).symm)
theorem zJd {T : ι → α → St} {φ : ι → α → Prop} (J : ∀ i x, φ i x → sem c CT nl lv Q k .normal (T i x)) (ts : List Nat) (i : ι) (x : α) (hx : φ i x) (hk : keepOk nl (autoE nl ts s) = true := by rfl) (hb : Nat.ble s.os.length 1000000 = true := by rfl)
    (h : wkSt (viewSt ts (autoE nl ts s) s) (T i x) := by
    simp (decide := true) only [go_sem, reduceIte, Nat.reduceAdd, Int.reduceToNat, Nat.reduceSub, Nat.reduceMul, Nat.reduceMod]
    exact aSd) : sem c CT nl lv Q (.join :: k) .normal s := r_joinU J ts i x hk hb ⟨h, hx⟩
theorem zBd {ts : List Nat} {F : ι → α → St} {φ : ι → α → Prop} {f : α → Option (α ⊕ β)} {o : β} {n : Nat} {i0 : ι} {a0 a' : α} {y : α ⊕ β} {k0 : List It} (hk0 : k = .back (backP nl ts F φ f o n i0 a0) :: k0) (hy : some (Sum.inl a') = some y) (hi : ∀ a', y = .inl a' → iterN f n a' = some o) (i : ι) (hx : φ i a') (hk : keepOk nl (autoE nl ts s) = true := by rfl) (hb : Nat.ble s.os.length 1000000 = true := by rfl)
    (h : wkSt (viewSt ts (autoE nl ts s) s) (F i a') := by
    simp (decide := true) only [go_sem, reduceIte, Nat.reduceAdd, Int.reduceToNat, Nat.reduceSub, Nat.reduceMul, Nat.reduceMod]
    exact aSd) : sem c CT nl lv Q k .normal s := by
  subst hk0; exact r_backP i a' hk hb ⟨h, hx⟩ (hi _ (Option.some.inj hy).symm)
theorem zJvd {T : ι → α → St} {φ : ι → α → Prop} (J : ∀ i x, φ i x → sem c CT nl lv Q k .normal (T i x)) (ts ks : List Nat) (i : ι) (x : α) (hx : φ i x) (hk : keepOk nl ks = true := by rfl) (hb : Nat.ble s.os.length 1000000 = true := by rfl)
    (h : wkSt (viewSt ts ks s) (T i x) := by
    simp (decide := true) only [go_sem, reduceIte, Nat.reduceAdd, Int.reduceToNat, Nat.reduceSub, Nat.reduceMul, Nat.reduceMod]
    exact aSd) : sem c CT nl lv Q (.join :: k) .normal s := r_joinV J ts ks i x hk hb ⟨h, hx⟩
theorem zBvd {ts : List Nat} {F : ι → α → St} {φ : ι → α → Prop} {f : α → Option (α ⊕ β)} {o : β} {n : Nat} {i0 : ι} {a0 a' : α} {y : α ⊕ β} {k0 : List It} (hk0 : k = .back (backP nl ts F φ f o n i0 a0) :: k0) (hy : some (Sum.inl a') = some y) (hi : ∀ a', y = .inl a' → iterN f n a' = some o) (ks : List Nat) (i : ι) (hx : φ i a') (hk : keepOk nl ks = true := by rfl) (hb : Nat.ble s.os.length 1000000 = true := by rfl)
    (h : wkSt (viewSt ts ks s) (F i a') := by
    simp (decide := true) only [go_sem, reduceIte, Nat.reduceAdd, Int.reduceToNat, Nat.reduceSub, Nat.reduceMul, Nat.reduceMod]
    exact aSd) : sem c CT nl lv Q k .normal s := by
  subst hk0; exact r_backV ks i a' hk hb ⟨h, hx⟩ (hi _ (Option.some.inj hy).symm)
theorem zX {ρ : Type} {q o : β} {y : α ⊕ β} {K : β → Option ρ} {r : ρ} (h : some (Sum.inr q) = some y) (hE : ∀ q, y = .inr q → q = o) (hK : K o = some r) : K q = some r := by
  rw [hE q (Option.some.inj h).symm]; exact hK
end
section
variable {ρ : Type} {e : Env} {os : List AO} {rs : List ResultVar} {post : AV → List AO → Prop}
theorem zAR (hQ : endQ c nl rs post = Q) (hk : keepOk nl (autoK nl os []) = true := by rfl) (hb : Nat.ble os.length 1000000 = true := by rfl) (h : allP (resOk c os e) rs ∧ wkEnd (oneA (resA c (autoK nl os []) os e rs)) (viewS (autoK nl os []) os) post := by
    simp (decide := true) only [go_sem, reduceIte, Nat.reduceAdd, Int.reduceToNat, Nat.reduceSub, Nat.reduceMul, Nat.reduceMod]
    repeat' (with_reducible refine And.intro ?_ ?_)
    all_goals first | exact wkEnd_same ⟨rfl, rfl⟩ | exact True.intro) : sem c CT nl lv Q [] .ret ⟨e, os⟩ := by
  exact r_eAR hQ hk hb h
theorem zARw (hQ : endQ c nl rs post = Q) (hk : keepOk nl (autoK nl os []) = true := by rfl) (hb : Nat.ble os.length 1000000 = true := by rfl) (h : allP (resOk c os e) rs ∧ wkEnd (oneA (resA c (autoK nl os []) os e rs)) (viewS (autoK nl os []) os) post := by
    simp (decide := true) only [go_sem, reduceIte, Nat.reduceAdd, Int.reduceToNat, Nat.reduceSub, Nat.reduceMul, Nat.reduceMod]
    repeat' (with_reducible refine And.intro ?_ ?_)
    all_goals first | exact True.intro | exact wkEnd_mk aWw aOw ⟨rfl, rfl⟩) : sem c CT nl lv Q [] .ret ⟨e, os⟩ := by
  exact r_eAR hQ hk hb h
theorem zARd (hQ : endQ c nl rs post = Q) (hk : keepOk nl (autoK nl os []) = true := by rfl) (hb : Nat.ble os.length 1000000 = true := by rfl) (h : allP (resOk c os e) rs ∧ wkEnd (oneA (resA c (autoK nl os []) os e rs)) (viewS (autoK nl os []) os) post := by
    simp (decide := true) only [go_sem, reduceIte, Nat.reduceAdd, Int.reduceToNat, Nat.reduceSub, Nat.reduceMul, Nat.reduceMod]
    repeat' (with_reducible refine And.intro ?_ ?_)
    all_goals first | exact True.intro | exact wkEnd_mk aWd aOd ⟨rfl, rfl⟩) : sem c CT nl lv Q [] .ret ⟨e, os⟩ := by
  exact r_eAR hQ hk hb h
theorem zAN (hQ : endQ c nl rs post = Q) (hk : keepOk nl (autoK nl os []) = true := by rfl) (hb : Nat.ble os.length 1000000 = true := by rfl) (h : allP (resOk c os e) rs ∧ wkEnd (oneA (resA c (autoK nl os []) os e rs)) (viewS (autoK nl os []) os) post := by
    simp (decide := true) only [go_sem, reduceIte, Nat.reduceAdd, Int.reduceToNat, Nat.reduceSub, Nat.reduceMul, Nat.reduceMod]
    repeat' (with_reducible refine And.intro ?_ ?_)
    all_goals first | exact wkEnd_same ⟨rfl, rfl⟩ | exact True.intro) : sem c CT nl lv Q [] .normal ⟨e, os⟩ := by
  exact r_eAN hQ hk hb h
theorem zANw (hQ : endQ c nl rs post = Q) (hk : keepOk nl (autoK nl os []) = true := by rfl) (hb : Nat.ble os.length 1000000 = true := by rfl) (h : allP (resOk c os e) rs ∧ wkEnd (oneA (resA c (autoK nl os []) os e rs)) (viewS (autoK nl os []) os) post := by
    simp (decide := true) only [go_sem, reduceIte, Nat.reduceAdd, Int.reduceToNat, Nat.reduceSub, Nat.reduceMul, Nat.reduceMod]
    repeat' (with_reducible refine And.intro ?_ ?_)
    all_goals first | exact True.intro | exact wkEnd_mk aWw aOw ⟨rfl, rfl⟩) : sem c CT nl lv Q [] .normal ⟨e, os⟩ := by
  exact r_eAN hQ hk hb h
theorem zANd (hQ : endQ c nl rs post = Q) (hk : keepOk nl (autoK nl os []) = true := by rfl) (hb : Nat.ble os.length 1000000 = true := by rfl) (h : allP (resOk c os e) rs ∧ wkEnd (oneA (resA c (autoK nl os []) os e rs)) (viewS (autoK nl os []) os) post := by
    simp (decide := true) only [go_sem, reduceIte, Nat.reduceAdd, Int.reduceToNat, Nat.reduceSub, Nat.reduceMul, Nat.reduceMod]
    repeat' (with_reducible refine And.intro ?_ ?_)
    all_goals first | exact True.intro | exact wkEnd_mk aWd aOd ⟨rfl, rfl⟩) : sem c CT nl lv Q [] .normal ⟨e, os⟩ := by
  exact r_eAN hQ hk hb h
theorem zOR (hQ : endQ c nl rs post = Q) (hk : keepOk nl (autoK nl os (resN c os e rs)) = true := by rfl) (hb : Nat.ble os.length 1000000 = true := by rfl) (h : allP (resOk c os e) rs ∧ wkEnd (oneA (resA c (autoK nl os (resN c os e rs)) os e rs)) (viewS (autoK nl os (resN c os e rs)) os) post := by
    simp (decide := true) only [go_sem, reduceIte, Nat.reduceAdd, Int.reduceToNat, Nat.reduceSub, Nat.reduceMul, Nat.reduceMod]
    repeat' (with_reducible refine And.intro ?_ ?_)
    all_goals first | exact wkEnd_same ⟨rfl, rfl⟩ | exact True.intro) : sem c CT nl lv Q [] .ret ⟨e, os⟩ := by
  exact r_eOR hQ hk hb h
theorem zORw (hQ : endQ c nl rs post = Q) (hk : keepOk nl (autoK nl os (resN c os e rs)) = true := by rfl) (hb : Nat.ble os.length 1000000 = true := by rfl) (h : allP (resOk c os e) rs ∧ wkEnd (oneA (resA c (autoK nl os (resN c os e rs)) os e rs)) (viewS (autoK nl os (resN c os e rs)) os) post := by
    simp (decide := true) only [go_sem, reduceIte, Nat.reduceAdd, Int.reduceToNat, Nat.reduceSub, Nat.reduceMul, Nat.reduceMod]
    repeat' (with_reducible refine And.intro ?_ ?_)
    all_goals first | exact True.intro | exact wkEnd_mk aWw aOw ⟨rfl, rfl⟩) : sem c CT nl lv Q [] .ret ⟨e, os⟩ := by
  exact r_eOR hQ hk hb h
theorem zORd (hQ : endQ c nl rs post = Q) (hk : keepOk nl (autoK nl os (resN c os e rs)) = true := by rfl) (hb : Nat.ble os.length 1000000 = true := by rfl) (h : allP (resOk c os e) rs ∧ wkEnd (oneA (resA c (autoK nl os (resN c os e rs)) os e rs)) (viewS (autoK nl os (resN c os e rs)) os) post := by
    simp (decide := true) only [go_sem, reduceIte, Nat.reduceAdd, Int.reduceToNat, Nat.reduceSub, Nat.reduceMul, Nat.reduceMod]
    repeat' (with_reducible refine And.intro ?_ ?_)
    all_goals first | exact True.intro | exact wkEnd_mk aWd aOd ⟨rfl, rfl⟩) : sem c CT nl lv Q [] .ret ⟨e, os⟩ := by
  exact r_eOR hQ hk hb h
theorem zON (hQ : endQ c nl rs post = Q) (hk : keepOk nl (autoK nl os (resN c os e rs)) = true := by rfl) (hb : Nat.ble os.length 1000000 = true := by rfl) (h : allP (resOk c os e) rs ∧ wkEnd (oneA (resA c (autoK nl os (resN c os e rs)) os e rs)) (viewS (autoK nl os (resN c os e rs)) os) post := by
    simp (decide := true) only [go_sem, reduceIte, Nat.reduceAdd, Int.reduceToNat, Nat.reduceSub, Nat.reduceMul, Nat.reduceMod]
    repeat' (with_reducible refine And.intro ?_ ?_)
    all_goals first | exact wkEnd_same ⟨rfl, rfl⟩ | exact True.intro) : sem c CT nl lv Q [] .normal ⟨e, os⟩ := by
  exact r_eON hQ hk hb h
theorem zONw (hQ : endQ c nl rs post = Q) (hk : keepOk nl (autoK nl os (resN c os e rs)) = true := by rfl) (hb : Nat.ble os.length 1000000 = true := by rfl) (h : allP (resOk c os e) rs ∧ wkEnd (oneA (resA c (autoK nl os (resN c os e rs)) os e rs)) (viewS (autoK nl os (resN c os e rs)) os) post := by
    simp (decide := true) only [go_sem, reduceIte, Nat.reduceAdd, Int.reduceToNat, Nat.reduceSub, Nat.reduceMul, Nat.reduceMod]
    repeat' (with_reducible refine And.intro ?_ ?_)
    all_goals first | exact True.intro | exact wkEnd_mk aWw aOw ⟨rfl, rfl⟩) : sem c CT nl lv Q [] .normal ⟨e, os⟩ := by
  exact r_eON hQ hk hb h
theorem zONd (hQ : endQ c nl rs post = Q) (hk : keepOk nl (autoK nl os (resN c os e rs)) = true := by rfl) (hb : Nat.ble os.length 1000000 = true := by rfl) (h : allP (resOk c os e) rs ∧ wkEnd (oneA (resA c (autoK nl os (resN c os e rs)) os e rs)) (viewS (autoK nl os (resN c os e rs)) os) post := by
    simp (decide := true) only [go_sem, reduceIte, Nat.reduceAdd, Int.reduceToNat, Nat.reduceSub, Nat.reduceMul, Nat.reduceMod]
    repeat' (with_reducible refine And.intro ?_ ?_)
    all_goals first | exact True.intro | exact wkEnd_mk aWd aOd ⟨rfl, rfl⟩) : sem c CT nl lv Q [] .normal ⟨e, os⟩ := by
  exact r_eON hQ hk hb h
theorem zVRw (ks : List Nat) (hQ : endQ c nl rs post = Q) (hk : keepOk nl ks = true := by rfl) (hb : Nat.ble os.length 1000000 = true := by rfl) (h : allP (resOk c os e) rs ∧ wkEnd (oneA (resA c ks os e rs)) (viewS ks os) post := by
    simp (decide := true) only [go_sem, reduceIte, Nat.reduceAdd, Int.reduceToNat, Nat.reduceSub, Nat.reduceMul, Nat.reduceMod]
    repeat' (with_reducible refine And.intro ?_ ?_)
    all_goals first | exact True.intro | exact wkEnd_mk aWw aOw ⟨rfl, rfl⟩) : sem c CT nl lv Q [] .ret ⟨e, os⟩ := by
  exact r_eVR ks hQ hk hb h
theorem zVRd (ks : List Nat) (hQ : endQ c nl rs post = Q) (hk : keepOk nl ks = true := by rfl) (hb : Nat.ble os.length 1000000 = true := by rfl) (h : allP (resOk c os e) rs ∧ wkEnd (oneA (resA c ks os e rs)) (viewS ks os) post := by
    simp (decide := true) only [go_sem, reduceIte, Nat.reduceAdd, Int.reduceToNat, Nat.reduceSub, Nat.reduceMul, Nat.reduceMod]
    repeat' (with_reducible refine And.intro ?_ ?_)
    all_goals first | exact True.intro | exact wkEnd_mk aWd aOd ⟨rfl, rfl⟩) : sem c CT nl lv Q [] .ret ⟨e, os⟩ := by
  exact r_eVR ks hQ hk hb h
theorem zVNw (ks : List Nat) (hQ : endQ c nl rs post = Q) (hk : keepOk nl ks = true := by rfl) (hb : Nat.ble os.length 1000000 = true := by rfl) (h : allP (resOk c os e) rs ∧ wkEnd (oneA (resA c ks os e rs)) (viewS ks os) post := by
    simp (decide := true) only [go_sem, reduceIte, Nat.reduceAdd, Int.reduceToNat, Nat.reduceSub, Nat.reduceMul, Nat.reduceMod]
    repeat' (with_reducible refine And.intro ?_ ?_)
    all_goals first | exact True.intro | exact wkEnd_mk aWw aOw ⟨rfl, rfl⟩) : sem c CT nl lv Q [] .normal ⟨e, os⟩ := by
  exact r_eVN ks hQ hk hb h
theorem zVNd (ks : List Nat) (hQ : endQ c nl rs post = Q) (hk : keepOk nl ks = true := by rfl) (hb : Nat.ble os.length 1000000 = true := by rfl) (h : allP (resOk c os e) rs ∧ wkEnd (oneA (resA c ks os e rs)) (viewS ks os) post := by
    simp (decide := true) only [go_sem, reduceIte, Nat.reduceAdd, Int.reduceToNat, Nat.reduceSub, Nat.reduceMul, Nat.reduceMod]
    repeat' (with_reducible refine And.intro ?_ ?_)
    all_goals first | exact True.intro | exact wkEnd_mk aWd aOd ⟨rfl, rfl⟩) : sem c CT nl lv Q [] .normal ⟨e, os⟩ := by
  exact r_eVN ks hQ hk hb h
end
/-- A function's contract, by a walk through its code. -/
theorem zCon {P : Program} {c : Cx} (hP : PrOk P c) {f : Nat} {fn : Func} {body : Code} {vs : List AV} {σ : List AO} {post : AV → List AO → Prop} (nl : Nat) (lv : List Nat) (rs : List ResultVar) (fn' : P.funcs[f]? = some fn) (hb : fn.body = some body) {e0 : Env}
    (h : ∀ Q, endQ c nl rs post = Q → sem c (Con P c) nl lv Q [.code body] .normal ⟨e0, σ⟩)
    (hname : (fn.name == "runtime.NumGoroutine") = false := by rfl) (hd : dstsOk fn.ntmps body = true := by rfl) (hn : Nat.ble vs.length fn.ntmps = true := by rfl) (hres : fn.results = rs.toArray := by rfl) (hl : σ.length = nl := by rfl) (he : enterE 0 vs = e0 := by
    first | (simp only [enter_cons, enter_nil, List.length_cons, List.length_nil, Nat.reduceAdd]; done) | (simp only [enter_cons, enter_nil, List.length_cons, List.length_nil, Nat.reduceAdd]; exact rfl)) : Con P c f vs σ post := by
  subst he hl
  exact con_of_sem hP lv rs fn' hb hname hd (Nat.le_of_ble_eq_true hn) hres (h _ rfl)
section
variable {c : Cx} {CT : CTab} {nl : Nat} {lv : List Nat} {Q : Ex → St → Prop} {k : List It}
theorem zI {x : Operand} {t f : Code} {e : Env} {os : List AO} {b : Bool} {α : Type} {u v r : α} (hb : ev c e x = .sc (.bool b)) (ht : u = r → sem c CT nl lv Q (.code t :: k) .normal ⟨e, os⟩)
    (hf : v = r → sem c CT nl lv Q (.code f :: k) .normal ⟨e, os⟩) (h : cond b u v = r) : sem c CT nl lv Q (.code (.cond x t f) :: k) .normal ⟨e, os⟩ := sem_ifh hb h ht hf
end
/-! ### Guards -/
section
variable {α β γ : Type} {b : Bool} {q : Option α} {r : α}
theorem gNe {x y : Int} (h : gd (x != y) q = some r) : ¬ x = y ∧ q = some r := ⟨ne_of_bne (gd_some h).1, (gd_some h).2⟩
theorem gDec {p : Prop} [Decidable p] (h : gd (decide p) q = some r) : p ∧ q = some r := ⟨of_decide_eq_true (gd_some h).1, (gd_some h).2⟩
theorem gD2 {p p2 : Prop} [Decidable p] [Decidable p2] (h : gd (decide p && decide p2) q = some r) : (p ∧ p2) ∧ q = some r := ⟨dec_and (gd_some h).1, (gd_some h).2⟩
theorem gD3 {p p2 p3 : Prop} [Decidable p] [Decidable p2] [Decidable p3] (h : gd (decide p && decide p2 && decide p3) q = some r) : (p ∧ p2 ∧ p3) ∧ q = some r := ⟨dec_and3 (gd_some h).1, (gd_some h).2⟩
theorem gAp {n m : Nat} (h : gd (apOk n m) q = some r) : (n * m ≤ 140737488355328 ∧ n ≤ 140737488355328) ∧ q = some r := ⟨⟨apOk_1 (gd_some h).1, apOk_2 (gd_some h).1⟩, (gd_some h).2⟩
theorem gMk {l m : Int} {n : Nat} (h : gd (mkOk l m n) q = some r) : (0 ≤ l ∧ l ≤ m ∧ n * m ≤ 281474976710656 ∧ m ≤ 9223372036854775807) ∧ q = some r := ⟨mkOk_some (gd_some h).1, (gd_some h).2⟩
theorem gZa {n : Int} {m : Nat} (h : gd (zaOk n m) q = some r) : (0 ≤ n ∧ n * (m : Int) ≤ 140737488355328 ∧ n ≤ 140737488355328) ∧ q = some r := ⟨zaOk_some (gd_some h).1, (gd_some h).2⟩
theorem bI [Inhabited β] {l : List β} {i : Int} {K : β → Option α} (h : (idx l i).bind K = some r) : ∃ x, K x = some r ∧ 0 ≤ i ∧ i < l.length ∧ ∀ f : β → List AV, (R f l).getD i.toNat [] = f x := by
  obtain ⟨x, h1, h2⟩ := bind_some' h
  obtain ⟨h3, h4, h5, -⟩ := idx_some h1
  exact ⟨x, h2, h3, h4, h5⟩
theorem bP [Inhabited β] {l : List β} {n : Nat} {i : Int} {K : β → Option α} (h : (idx (l.take n) i).bind K = some r) : ∃ x, K x = some r ∧ 0 ≤ i ∧ i < n ∧ i < l.length ∧ ∀ f : β → List AV, (R f l).getD i.toNat [] = f x := by
  obtain ⟨x, h1, h2, h3, h4⟩ := bI h
  rw [List.length_take] at h3
  refine ⟨x, h1, h2, by omega, by omega, fun f => ?_⟩
  rw [← h4 f, ← R_take, List.getD_eq_getElem?_getD, List.getD_eq_getElem?_getD, List.getElem?_take, if_pos (by omega)]
theorem bPN [Inhabited β] {l : List β} {n : Nat} {i : Int} {K : β → Option α} (m : Nat) (h : (idx (l.take n) i).bind K = some r) (e : i.toNat = m := by rfl) : ∃ x, K x = some r ∧ 0 ≤ i ∧ i < n ∧ i < l.length ∧ ∀ f : β → List AV, (R f l).getD m [] = f x := by
  subst e; exact bP h
theorem bN [Inhabited β] {l : List β} {i : Int} {K : β → Option α} (m : Nat) (h : (idx l i).bind K = some r) (e : i.toNat = m := by rfl) : ∃ x, K x = some r ∧ 0 ≤ i ∧ i < l.length ∧ ∀ f : β → List AV, (R f l).getD m [] = f x := by
  subst e; exact bI h
end
end
end Go.AM
