/- The law FnBoxPack holds: whatever the input, the call returns true and each argument reads as it did; and its tied card. Conditions: none. -/
import Derived.Test.YthcdhlglaeaieaaGreatDoorRows
import Derived.Test.YthcdhlglaeaieaaGreatDoorCards
import Derived.Test.YthcdhlglaeaieaaGreatDoorTie
import Derived.Test.YthcdhlglaeaieaaGreatDoorAmU3
import Derived.Test.YthcdhlglaeaieaaGreatDoorAmB4
import Derived.WalkKit
import Derived.ProofKit
import Derived.OpenShut
import Derived.ShutString
import Derived.ChangeOld
import Derived.Below
import Derived.SizedLaws
import Derived.LaidMore
import Derived.LaidLaws
import Derived.Stop.Joined
import Derived.SevenTiedAt
set_option linter.unusedSimpArgs false
set_option linter.unusedVariables false
namespace Go.Proofs.YthcdhlglaeaieaaGreatDoor.fnBoxPack
open Go.ChangeShapes Go.WideShapes Go.ChangeAt Go.RowKit Go.AM
open Go.ChangeMaps (open_string shut_string)
theorem own : ownKnob Tryz.prog.godebug = none := by kernel_rfl
theorem laidOut : laidOutB Tryz.prog = true := by kernel_rfl
def L : List (String × DataW Unit) := [("loop.example/stile/impl.devSizes", Rows.laid_loop_example_stile_impl_devSizes), ("loop.example/stile/impl.devWords", Rows.laid_loop_example_stile_impl_devWords)]
theorem gl0 : Tryz.prog.globalNamed "loop.example/stile/impl.devSizes" = some 1 := by kernel_rfl
theorem gt0 : (Tryz.prog.globals[1]?).map (·.type) = some 97 := by kernel_rfl
theorem gl1 : Tryz.prog.globalNamed "loop.example/stile/impl.devWords" = some 2 := by kernel_rfl
theorem gt1 : (Tryz.prog.globals[2]?).map (·.type) = some 266 := by kernel_rfl
/-- The package variables stand as the contracts take them. -/
theorem globals_ok {W : World} (h : laidMetH Tryz.prog L W) : ∀ n, GOk (fun b o => W.cell? ⟨b, o, none⟩) (C0.G n) n := by
  rw [MakeChecks.laidMetH_plain _ _ _ (by kernel_rfl)] at h
  obtain ⟨ps, ⟨g0, t0, cs0, f0, p0, q0, hg0, ht0, hv0, hd0, ⟨g1, t1, cs1, f1, p1, q1, hg1, ht1, hv1, hd1, _, _⟩, _⟩, _, _⟩ := h
  obtain rfl := Option.some.inj (gl0.symm.trans hg0)
  obtain rfl := Option.some.inj (gt0.symm.trans ht0)
  obtain ⟨v0, hc0, r0⟩ := laid_ints Tryz.underlying97 Tryz.underlying3 (by kernel_rfl) hd0 [0, 32, 32, 64, 16, 32, 5, 16, 16, 32, 16] rfl
  have k0 := gok_one hg0 hv0 hc0 r0
  obtain rfl := Option.some.inj (gl1.symm.trans hg1)
  obtain rfl := Option.some.inj (gt1.symm.trans ht1)
  obtain ⟨v1, hc1, r1⟩ := laid_strs Tryz.underlying266 Tryz.underlying9 (by kernel_rfl) hd1 [⟨#[110, 97, 110]⟩, ⟨#[105, 110, 102]⟩, ⟨#[45, 105, 110, 102]⟩, ⟨#[45, 48, 46, 48]⟩] rfl
  have k1 := gok_one hg1 hv1 hc1 r1
  intro n
  show GOk _ (if n = 1 then .fp 1 [[.fz 1 gl_devSizes]] 0 0 else if n = 2 then .fp 1 [[.fz 1 gl_devWords]] 0 0 else .junk) n
  split
  · subst_vars; exact k0
  split
  · subst_vars; exact k1
  · trivial
theorem door_met (os : Os) (args : Array Value) : laidMetH Tryz.prog L ((World.doorLaid Tryz.prog 400 os).forCall (fun _ _ => 0) ⟨#[], args, []⟩).memory :=
  laidMetH_of_parts3 (fuel := 8) (laidMet_of_run' 8 (by kernel_rfl) (by kernel_rfl)) (by kernel_rfl) (by kernel_rfl)
set_option maxRecDepth 100000 in
theorem lifted (os : Os) (started : os.Started) (H : Type) (enc : TypeId × Value → H) :
    ReturnsInHanded {} Tryz.checked os 3 .any (fun w args => (Rows.fnBoxPackSpec.pre enc Tryz.prog Tryz.f3 [] false w args ∧ laidMetH Tryz.prog L w) ∧ sizedMet enc Tryz.prog Tryz.f3 (OpenSpec.ofChange Rows.fnBoxPackSpec) false w args) (Rows.fnBoxPackSpec.post enc Tryz.prog Tryz.f3 false true false false) := by
  refine returnsInHanded_of_change_and (C := Tryz.checked) (X := fun w _ => laidMetH Tryz.prog L w) (fun _ _ _ hh h => h.of_heap hh) own started (by kernel_rfl) Tryz.func3
    (ChangeSpec.witness_shaped (enc := enc) (C := Tryz.checked) (os := os) (X := fun w _ => laidMetH Tryz.prog L w) false (World.doorLaid Tryz.prog 400 os) #[.slice none 0 0, .slice none 0 0] 8 rfl (World.shaped_of_RefB (by kernel_rfl) (by kernel_rfl)) (by kernel_rfl) (by kernel_rfl) (by kernel_rfl) (door_met os _)) ?_
  intro W base args ds gs before hval0 hW hcnd hsz0 hL _
  have hsz : (DataW.weightsEach Tryz.prog (Tryz.f3.params.toList ++ Rows.fnBoxPackSpec.plain.varTypes Tryz.prog) (ds ++ gs)).all (· ≤ reachBytes) = true := hsz0
  have hval : ∀ (j : Nat) t v, Tryz.f3.params[j]? = some t → args[j]? = some v → Value.okWide Tryz.prog W .any base t v := hval0
  have hW' := hW
  obtain ⟨p, q, hA0, hV0, rfl, hfz, hnd⟩ := hW
  have hA : DataW.TrodAll enc Tryz.prog W 0 (fun _ => true) true Tryz.f3.params.toList args.toList ds p := hA0
  have hV : DataW.TrodVars enc Tryz.prog W (fun _ => true) ["loop.example/stile/impl.devWords", "loop.example/stile/impl.devSizes"] gs q := hV0
  rw [Tryz.params3] at hA hval hsz
  obtain ⟨v0, vs0, d0, ds0, p0, q0, hargs, rfl, rfl, h0, r0⟩ := trodAll_cons hA
  obtain ⟨v1, vs1, d1, ds1, p1, q1, rfl, rfl, rfl, h1, r1⟩ := trodAll_cons r0
  obtain ⟨rfl, rfl, rfl⟩ := trodAll_nil r1
  obtain rfl : args = #[v0, v1] := by cases args; simp_all
  obtain ⟨dg0, gs0, rfl⟩ : ∃ d ds, gs = d :: ds := by
    cases gs with
    | nil => simp [DataW.TrodVars] at hV
    | cons d ds => exact ⟨d, ds, rfl⟩
  obtain ⟨vg0, vt0, vc0, vf0, pg0, qg0, hvg0, hvt0, hvv0, hvd0, hV1, rfl⟩ := hV
  obtain ⟨dg1, gs1, rfl⟩ : ∃ d ds, gs0 = d :: ds := by
    cases gs0 with
    | nil => simp [DataW.TrodVars] at hV1
    | cons d ds => exact ⟨d, ds, rfl⟩
  obtain ⟨vg1, vt1, vc1, vf1, pg1, qg1, hvg1, hvt1, hvv1, hvd1, hV2, rfl⟩ := hV1
  obtain ⟨rfl, rfl⟩ := trodVars_none hV2
  obtain rfl := Option.some.inj (gl1.symm.trans hvg0)
  obtain rfl := Option.some.inj (gt1.symm.trans hvt0)
  obtain rfl := Option.some.inj (gl0.symm.trans hvg1)
  obtain rfl := Option.some.inj (gt0.symm.trans hvt1)
  obtain ⟨a0, len0, cap0, rfl⟩ := okWide_slice Tryz.underlying22 (hval 0 22 v0 rfl rfl)
  have k0 := h0
  have lt0 : ∀ x ∈ p0, x.block < W.heap.size := by obtain ⟨m, hm⟩ := k0; exact DataW.trod_lt m _ _ _ hm
  obtain ⟨z0, w0⟩ : ∃ zs, IsRow8 W a0 len0 cap0 zs := by
    obtain ⟨fuel, hf⟩ := h0
    rcases open_ints Tryz.underlying22 Tryz.underlying5 (by kernel_rfl) hf with ⟨hcs, _⟩ | ⟨x, l, c, zs, hcs, _, hl, hm, hz, _, hcell, hwz⟩
    · simp [Value.cells] at hcs
      obtain ⟨rfl, rfl, rfl⟩ := hcs
      exact ⟨[], .inl ⟨rfl, rfl, rfl, rfl⟩⟩
    · simp [Value.cells] at hcs
      obtain ⟨rfl, rfl, rfl⟩ := hcs
      exact ⟨zs, .inr ⟨_, rfl, hl, hm, by simpa using hz, hcell, hwz⟩⟩
  have y0 : len0 ≤ 140737488351232 := sized8 hsz (j := 0) (t := 22) rfl rfl Tryz.underlying22 Tryz.underlying5 (by kernel_rfl) (by kernel_rfl) h0
  obtain ⟨e0, l0, b0⟩ := w0.rep
  obtain ⟨a1, len1, cap1, rfl⟩ := okWide_slice Tryz.underlying22 (hval 1 22 v1 rfl rfl)
  have k1 := h1
  have lt1 : ∀ x ∈ p1, x.block < W.heap.size := by obtain ⟨m, hm⟩ := k1; exact DataW.trod_lt m _ _ _ hm
  obtain ⟨z1, w1⟩ : ∃ zs, IsRow8 W a1 len1 cap1 zs := by
    obtain ⟨fuel, hf⟩ := h1
    rcases open_ints Tryz.underlying22 Tryz.underlying5 (by kernel_rfl) hf with ⟨hcs, _⟩ | ⟨x, l, c, zs, hcs, _, hl, hm, hz, _, hcell, hwz⟩
    · simp [Value.cells] at hcs
      obtain ⟨rfl, rfl, rfl⟩ := hcs
      exact ⟨[], .inl ⟨rfl, rfl, rfl, rfl⟩⟩
    · simp [Value.cells] at hcs
      obtain ⟨rfl, rfl, rfl⟩ := hcs
      exact ⟨zs, .inr ⟨_, rfl, hl, hm, by simpa using hz, hcell, hwz⟩⟩
  have y1 : len1 ≤ 140737488351232 := sized8 hsz (j := 1) (t := 22) rfl rfl Tryz.underlying22 Tryz.underlying5 (by kernel_rfl) (by kernel_rfl) h1
  obtain ⟨e1, l1, b1⟩ := w1.rep
  clear hA0 hval0 hsz0 hsz
  refine (calls_lawG (con_FnBoxPack (z0.take len0) (z1.take len1) b0 b1) W (globals_ok hL) #[.slice a0 len0 cap0, .slice a1 len1 cap1] rfl (fun fn hf => by rw [Tryz.func3] at hf; cases hf; rfl) ?_).mono fun e W' ⟨he, bel⟩ => ?_
  · intro i y hy
    match i, hy with
    | 0, hy => simp only [List.getElem?_cons_succ, List.getElem?_cons_zero, Option.some.injEq] at hy; subst hy; exact ⟨⟨_, _, rfl⟩, _, rfl, e0⟩
    | 1, hy => simp only [List.getElem?_cons_succ, List.getElem?_cons_zero, Option.some.injEq] at hy; subst hy; exact ⟨⟨_, _, rfl⟩, _, rfl, e1⟩
    | i + 2, hy => simp at hy
  · subst he
    obtain ⟨bv0, bf0, bd0⟩ := var_stays laidOut bel hvg0 hvv0 Tryz.underlying266 (by kernel_rfl) (of_decide_eq_true (by kernel_rfl)) hvd0
    obtain ⟨bv1, bf1, bd1⟩ := var_stays laidOut bel hvg1 hvv1 Tryz.underlying97 (by kernel_rfl) (of_decide_eq_true (by kernel_rfl)) hvd1
    exact ⟨_, rfl, _, _, _, [], _, _, hW', trodAll_mk1 (shut_bool Tryz.underlying4 _), (trodAll_cons_mk (Below.trod laidOut (by kernel_rfl) (of_decide_eq_true (by kernel_rfl)) k0 bel lt0) (trodAll_cons_mk (Below.trod laidOut (by kernel_rfl) (of_decide_eq_true (by kernel_rfl)) k1 bel lt1) trodAll_mk0)), ⟨_, _, _, bf0, _, _, hvg0, hvt0, bv0, bd0, ⟨_, _, _, bf1, _, _, hvg1, hvt1, bv1, bd1, rfl, rfl⟩, rfl⟩, bel.frame _, fun h => by cases h⟩
theorem over : Rows.fnBoxPackRow.holds Tryz.pinned (OpenSpec.ofChange Rows.fnBoxPackSpec) :=
  OpenClaim.holds_of_wide 3 Tryz.f3 rfl rfl rfl rfl rfl rfl rfl ⟨rfl, rfl, rfl, rfl, rfl⟩ rfl rfl rfl rfl rfl (by kernel_rfl) Tryz.func3 (by kernel_rfl)
    (of_decide_eq_true (by kernel_rfl)) (by unfold Func.isWrapper; first | (rw [if_pos (by decide +kernel)]; kernel_rfl) | (rw [if_neg (by decide +kernel)]; exact ⟨rfl, rfl⟩))
    (fun os started H enc _ => lifted os started H enc)
theorem proved : Rows.FnBoxPackSaid := over
/-- The tied card. -/
theorem card : Rows.FnBoxPackCardSaid :=
  Claim7.holds_tied_plain_at .later [] [.data, .widerDeep] true (true, "5e4fed9224631f9603d6934988f4b90f6b32cbb3a74d2157b052190484342fad") false
    proved (fun _ h => by cases h) (by kernel_rfl) (fun _ h => by cases h) fnBoxPack_row_tie rfl ⟨rfl, rfl⟩ (by kernel_rfl) rfl
    (fun f fn hf hfn => by
      obtain rfl : f = 3 := Option.some.inj ((show Tryz.prog.funcNamed "loop.example/stile/laws.FnBoxPack" = some 3 by kernel_rfl).symm.trans hf) |>.symm
      obtain rfl : fn = Tryz.f3 := (Option.some.inj (Tryz.func3.symm.trans hfn)).symm
      exact ⟨by kernel_rfl, fun j t ht => by
        rw [Tryz.params3] at ht
        have hm : t ∈ [22, 22] := by simpa using Array.mem_of_getElem? ht
        have hall : ([22, 22].all fun u => !Tryz.prog.wantsStandIn u) = true := by kernel_rfl
        exact (show Tryz.prog.wantsStandIn t = false by simpa using List.all_eq_true.1 hall t hm)⟩)
    (by kernel_rfl)
#print axioms card
end Go.Proofs.YthcdhlglaeaieaaGreatDoor.fnBoxPack
namespace Go.Proofs.YthcdhlglaeaieaaGreatDoor
/-- The card, under a short name, for the claim. -/
theorem fnBoxPack_card_holds : Rows.FnBoxPackCardSaid := fnBoxPack.card
end Go.Proofs.YthcdhlglaeaieaaGreatDoor
