/- The law FnExactBoxUnpack holds: whatever the input, the call returns true and each argument reads as it did; and its tied card. Conditions: none. -/
import Derived.Test.YtcnlhdaeeeolbaaDoorRows
import Derived.Test.YtcnlhdaeeeolbaaDoorCards
import Derived.Test.YtcnlhdaeeeolbaaDoorTie
import Derived.Test.YtcnlhdaeeeolbaaDoorAmU1
import Derived.Test.YtcnlhdaeeeolbaaDoorAmB6
import Derived.WalkKit
import Derived.ProofKit
import Derived.OpenShut
import Derived.ShutString
import Derived.ChangeOld
import Derived.Below
import Derived.SizedLaws
import Derived.LaidMore
import Derived.LaidLaws
import Derived.Stop.Joined
import Derived.SevenTiedAt
set_option linter.unusedSimpArgs false
set_option linter.unusedVariables false
namespace Go.Proofs.YtcnlhdaeeeolbaaDoor.fnExactBoxUnpack
open Go.ChangeShapes Go.WideShapes Go.ChangeAt Go.RowKit Go.AM
open Go.ChangeMaps (open_string shut_string)
theorem own : ownKnob Tryd.prog.godebug = none := by kernel_rfl
theorem laidOut : laidOutB Tryd.prog = true := by kernel_rfl
def L : List (String × DataW Unit) := [("loop.example/stile/impl.devSizes", Rows.laid_loop_example_stile_impl_devSizes), ("loop.example/stile/impl.devWords", Rows.laid_loop_example_stile_impl_devWords)]
theorem gl0 : Tryd.prog.globalNamed "loop.example/stile/impl.devSizes" = some 1 := by kernel_rfl
theorem gt0 : (Tryd.prog.globals[1]?).map (·.type) = some 96 := by kernel_rfl
theorem gl1 : Tryd.prog.globalNamed "loop.example/stile/impl.devWords" = some 0 := by kernel_rfl
theorem gt1 : (Tryd.prog.globals[0]?).map (·.type) = some 98 := by kernel_rfl
/-- The package variables stand as the contracts take them. -/
theorem globals_ok {W : World} (h : laidMetH Tryd.prog L W) : ∀ n, GOk (fun b o => W.cell? ⟨b, o, none⟩) (C0.G n) n := by
  rw [MakeChecks.laidMetH_plain _ _ _ (by kernel_rfl)] at h
  obtain ⟨ps, ⟨g0, t0, cs0, f0, p0, q0, hg0, ht0, hv0, hd0, ⟨g1, t1, cs1, f1, p1, q1, hg1, ht1, hv1, hd1, _, _⟩, _⟩, _, _⟩ := h
  obtain rfl := Option.some.inj (gl0.symm.trans hg0)
  obtain rfl := Option.some.inj (gt0.symm.trans ht0)
  obtain ⟨v0, hc0, r0⟩ := laid_ints Tryd.underlying96 Tryd.underlying3 (by kernel_rfl) hd0 [0, 32, 32, 64, 16, 32, 5, 16, 16, 32, 16] rfl
  have k0 := gok_one hg0 hv0 hc0 r0
  obtain rfl := Option.some.inj (gl1.symm.trans hg1)
  obtain rfl := Option.some.inj (gt1.symm.trans ht1)
  obtain ⟨v1, hc1, r1⟩ := laid_strs Tryd.underlying98 Tryd.underlying9 (by kernel_rfl) hd1 [⟨#[110, 97, 110]⟩, ⟨#[105, 110, 102]⟩, ⟨#[45, 105, 110, 102]⟩, ⟨#[45, 48, 46, 48]⟩] rfl
  have k1 := gok_one hg1 hv1 hc1 r1
  intro n
  show GOk _ (if n = 0 then .fp 1 [[.fz 1 gl_devWords]] 0 0 else if n = 1 then .fp 1 [[.fz 1 gl_devSizes]] 0 0 else .junk) n
  split
  · subst_vars; exact k1
  split
  · subst_vars; exact k0
  · trivial
theorem door_met (os : Os) (args : Array Value) : laidMetH Tryd.prog L ((World.doorLaid Tryd.prog 400 os).forCall (fun _ _ => 0) ⟨#[], args, []⟩).memory :=
  laidMetH_of_parts3 (fuel := 8) (laidMet_of_run' 8 (by kernel_rfl) (by kernel_rfl)) (by kernel_rfl) (by kernel_rfl)
set_option maxRecDepth 100000 in
theorem lifted (os : Os) (started : os.Started) (H : Type) (enc : TypeId × Value → H) :
    ReturnsInHanded {} Tryd.checked os 3 .any (fun w args => (Rows.fnExactBoxUnpackSpec.pre enc Tryd.prog Tryd.f3 [] false w args ∧ laidMetH Tryd.prog L w) ∧ sizedMet enc Tryd.prog Tryd.f3 (OpenSpec.ofChange Rows.fnExactBoxUnpackSpec) false w args) (Rows.fnExactBoxUnpackSpec.post enc Tryd.prog Tryd.f3 false true false false) := by
  refine returnsInHanded_of_change_and (C := Tryd.checked) (X := fun w _ => laidMetH Tryd.prog L w) (fun _ _ _ hh h => h.of_heap hh) own started (by kernel_rfl) Tryd.func3
    (ChangeSpec.witness_shaped (enc := enc) (C := Tryd.checked) (os := os) (X := fun w _ => laidMetH Tryd.prog L w) false (World.doorLaid Tryd.prog 400 os) #[.slice none 0 0] 8 rfl (World.shaped_of_RefB (by kernel_rfl) (by kernel_rfl)) (by kernel_rfl) (by kernel_rfl) (by kernel_rfl) (door_met os _)) ?_
  intro W base args ds gs before hval0 hW hcnd hsz0 hL _
  have hsz : (DataW.weightsEach Tryd.prog (Tryd.f3.params.toList ++ Rows.fnExactBoxUnpackSpec.plain.varTypes Tryd.prog) (ds ++ gs)).all (· ≤ reachBytes) = true := hsz0
  have hval : ∀ (j : Nat) t v, Tryd.f3.params[j]? = some t → args[j]? = some v → Value.okWide Tryd.prog W .any base t v := hval0
  have hW' := hW
  obtain ⟨p, q, hA0, hV0, rfl, hfz, hnd⟩ := hW
  have hA : DataW.TrodAll enc Tryd.prog W 0 (fun _ => true) true Tryd.f3.params.toList args.toList ds p := hA0
  have hV : DataW.TrodVars enc Tryd.prog W (fun _ => true) ["loop.example/stile/impl.devWords", "loop.example/stile/impl.devSizes"] gs q := hV0
  rw [Tryd.params3] at hA hval hsz
  obtain ⟨v0, vs0, d0, ds0, p0, q0, hargs, rfl, rfl, h0, r0⟩ := trodAll_cons hA
  obtain ⟨rfl, rfl, rfl⟩ := trodAll_nil r0
  obtain rfl : args = #[v0] := by cases args; simp_all
  obtain ⟨dg0, gs0, rfl⟩ : ∃ d ds, gs = d :: ds := by
    cases gs with
    | nil => simp [DataW.TrodVars] at hV
    | cons d ds => exact ⟨d, ds, rfl⟩
  obtain ⟨vg0, vt0, vc0, vf0, pg0, qg0, hvg0, hvt0, hvv0, hvd0, hV1, rfl⟩ := hV
  obtain ⟨dg1, gs1, rfl⟩ : ∃ d ds, gs0 = d :: ds := by
    cases gs0 with
    | nil => simp [DataW.TrodVars] at hV1
    | cons d ds => exact ⟨d, ds, rfl⟩
  obtain ⟨vg1, vt1, vc1, vf1, pg1, qg1, hvg1, hvt1, hvv1, hvd1, hV2, rfl⟩ := hV1
  obtain ⟨rfl, rfl⟩ := trodVars_none hV2
  obtain rfl := Option.some.inj (gl1.symm.trans hvg0)
  obtain rfl := Option.some.inj (gt1.symm.trans hvt0)
  obtain rfl := Option.some.inj (gl0.symm.trans hvg1)
  obtain rfl := Option.some.inj (gt0.symm.trans hvt1)
  obtain ⟨a0, len0, cap0, rfl⟩ := okWide_slice Tryd.underlying22 (hval 0 22 v0 rfl rfl)
  have k0 := h0
  have lt0 : ∀ x ∈ p0, x.block < W.heap.size := by obtain ⟨m, hm⟩ := k0; exact DataW.trod_lt m _ _ _ hm
  obtain ⟨z0, w0⟩ : ∃ zs, IsRow8 W a0 len0 cap0 zs := by
    obtain ⟨fuel, hf⟩ := h0
    rcases open_ints Tryd.underlying22 Tryd.underlying5 (by kernel_rfl) hf with ⟨hcs, _⟩ | ⟨x, l, c, zs, hcs, _, hl, hm, hz, _, hcell, hwz⟩
    · simp [Value.cells] at hcs
      obtain ⟨rfl, rfl, rfl⟩ := hcs
      exact ⟨[], .inl ⟨rfl, rfl, rfl, rfl⟩⟩
    · simp [Value.cells] at hcs
      obtain ⟨rfl, rfl, rfl⟩ := hcs
      exact ⟨zs, .inr ⟨_, rfl, hl, hm, by simpa using hz, hcell, hwz⟩⟩
  have y0 : len0 ≤ 140737488351232 := sized8 hsz (j := 0) (t := 22) rfl rfl Tryd.underlying22 Tryd.underlying5 (by kernel_rfl) (by kernel_rfl) h0
  obtain ⟨e0, l0, b0⟩ := w0.rep
  clear hA0 hval0 hsz0 hsz
  refine (calls_lawG (con_FnExactBoxUnpack (z0.take len0) b0) W (globals_ok hL) #[.slice a0 len0 cap0] rfl (fun fn hf => by rw [Tryd.func3] at hf; cases hf; rfl) ?_).mono fun e W' ⟨he, bel⟩ => ?_
  · intro i y hy
    match i, hy with
    | 0, hy => simp only [List.getElem?_cons_succ, List.getElem?_cons_zero, Option.some.injEq] at hy; subst hy; exact ⟨⟨_, _, rfl⟩, _, rfl, e0⟩
    | i + 1, hy => simp at hy
  · subst he
    obtain ⟨bv0, bf0, bd0⟩ := var_stays laidOut bel hvg0 hvv0 Tryd.underlying98 (by kernel_rfl) (of_decide_eq_true (by kernel_rfl)) hvd0
    obtain ⟨bv1, bf1, bd1⟩ := var_stays laidOut bel hvg1 hvv1 Tryd.underlying96 (by kernel_rfl) (of_decide_eq_true (by kernel_rfl)) hvd1
    exact ⟨_, rfl, _, _, _, [], _, _, hW', trodAll_mk1 (shut_bool Tryd.underlying4 _), (trodAll_cons_mk (Below.trod laidOut (by kernel_rfl) (of_decide_eq_true (by kernel_rfl)) k0 bel lt0) trodAll_mk0), ⟨_, _, _, bf0, _, _, hvg0, hvt0, bv0, bd0, ⟨_, _, _, bf1, _, _, hvg1, hvt1, bv1, bd1, rfl, rfl⟩, rfl⟩, bel.frame _, fun h => by cases h⟩
theorem over : Rows.fnExactBoxUnpackRow.holds Tryd.pinned (OpenSpec.ofChange Rows.fnExactBoxUnpackSpec) :=
  OpenClaim.holds_of_wide 3 Tryd.f3 rfl rfl rfl rfl rfl rfl rfl ⟨rfl, rfl, rfl, rfl, rfl⟩ rfl rfl rfl rfl rfl (by kernel_rfl) Tryd.func3 (by kernel_rfl)
    (of_decide_eq_true (by kernel_rfl)) (by unfold Func.isWrapper; first | (rw [if_pos (by decide +kernel)]; kernel_rfl) | (rw [if_neg (by decide +kernel)]; exact ⟨rfl, rfl⟩))
    (fun os started H enc _ => lifted os started H enc)
theorem proved : Rows.FnExactBoxUnpackSaid := over
/-- The tied card. -/
theorem card : Rows.FnExactBoxUnpackCardSaid :=
  Claim7.holds_tied_plain_at .later [] [.data, .widerDeep] true (true, "d6678115b3ead04fdede1914ad75002cebb07549f2ad5a89d729bff1ce8aecf1") false
    proved (fun _ h => by cases h) (by kernel_rfl) (fun _ h => by cases h) fnExactBoxUnpack_row_tie rfl ⟨rfl, rfl⟩ (by kernel_rfl) rfl
    (fun f fn hf hfn => by
      obtain rfl : f = 3 := Option.some.inj ((show Tryd.prog.funcNamed "loop.example/stile/laws.FnExactBoxUnpack" = some 3 by kernel_rfl).symm.trans hf) |>.symm
      obtain rfl : fn = Tryd.f3 := (Option.some.inj (Tryd.func3.symm.trans hfn)).symm
      exact ⟨by kernel_rfl, fun j t ht => by
        rw [Tryd.params3] at ht
        have hm : t ∈ [22] := by simpa using Array.mem_of_getElem? ht
        have hall : ([22].all fun u => !Tryd.prog.wantsStandIn u) = true := by kernel_rfl
        exact (show Tryd.prog.wantsStandIn t = false by simpa using List.all_eq_true.1 hall t hm)⟩)
    (by kernel_rfl)
#print axioms card
end Go.Proofs.YtcnlhdaeeeolbaaDoor.fnExactBoxUnpack
namespace Go.Proofs.YtcnlhdaeeeolbaaDoor
/-- The card, under a short name, for the claim. -/
theorem fnExactBoxUnpack_card_holds : Rows.FnExactBoxUnpackCardSaid := fnExactBoxUnpack.card
end Go.Proofs.YtcnlhdaeeeolbaaDoor
