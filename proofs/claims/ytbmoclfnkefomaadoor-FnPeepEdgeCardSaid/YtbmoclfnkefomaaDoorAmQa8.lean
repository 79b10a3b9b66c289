/- Pure functions and their contracts. Conditions: none. -/
import Derived.Test.YtbmoclfnkefomaaDoorAmQa7
set_option linter.unusedSimpArgs false
set_option linter.unusedVariables false
set_option maxRecDepth 10000
set_option maxHeartbeats 4000000
namespace Go.AM
open Go Go.Proofs
noncomputable def impl_ListSame (v1 : (List Inst)) (v2 : (List Inst)) : Option Bool :=
  (Option.bind (slices_EqualFunc_impl_Inst_impl_Inst_impl_Inst_impl_Inst_fimpl_ListSame_1 v1 v2) fun v3 => (some v3))
theorem con_impl_ListSame (v1 : (List Inst)) (v2 : (List Inst)) (res_ : Bool) (h : impl_ListSame v1 v2 = some res_) : Con Tryd.prog C0 7 [.fz 3 (R e_Inst (v1)), .fz 3 (R e_Inst (v2))] []
    (fun x σ' => x = .sc (.bool (res_)) ∧ σ' = []) := by
  refine zCon hP 0 [0, 1, 4] [.tmp 4] Tryd.func7 (by unfold Tryd.f7; rfl) fun Q hQ => ?_
  unfold impl_ListSame at h
  refine zS z0 ?_
  obtain ⟨v3, c3H, h⟩ := bind_some' h
  refine zS (zC1 (lF [] (con_slices_EqualFunc_impl_Inst_impl_Inst_impl_Inst_impl_Inst_fimpl_ListSame_1 _ _ _ c3H))) (r_ret ?_)
  cases h
  refine zAR hQ
noncomputable def laws_FnPeepEdge (v1 : (List Int)) : Option Bool :=
  (cond (decide (((v1).length : Int) > 1048576)) (some true) (Option.bind (spec_DrawPeepAll v1) fun v2 => (Option.bind (impl_PeepAll v2) fun v3 => (Option.bind (spec_SureCheck v2) fun v4 => (cond (decide (v4.Code > 0)) (some (((v3).length : Int) == 0)) (Option.bind (laws_wpKeep v3) fun v5 => (Option.bind (laws_wpKeep v2) fun v6 => (Option.bind (impl_ListSame v5 v6) fun v7 => (some v7)))))))))
theorem con_laws_FnPeepEdge (v1 : (List Int)) (res_ : Bool) (h : laws_FnPeepEdge v1 = some res_) : Con Tryd.prog C0 3 [.fz 1 (R e_u8 (v1))] []
    (fun x σ' => x = .sc (.bool (res_)) ∧ σ' = []) := by
  refine zCon hP 0 [0, 2, 3, 4, 7, 15] [.tmp 2] Tryd.func3 (by unfold Tryd.f3; rfl) fun Q hQ => ?_
  unfold laws_FnPeepEdge at h
  refine zS z0 (sem_cut fun k2 hk2 => ?_)
  refine zS z0 ?_
  refine sem_ifh rfl h ?_ ?_ <;> clear h <;> intro h
  · refine zS z0 (r_ret ?_)
    refine r_cR hk2 ?_
    cases h
    refine zAR hQ
  · refine r_skip (r_cN hk2 ?_)
    obtain ⟨v2, c6H, h⟩ := bind_some' h
    refine zS (zC1 (lC [] (con_spec_DrawPeepAll _ _ c6H))) ?_
    obtain ⟨v3, c8H, h⟩ := bind_some' h
    refine zS (zC1 (lC [] (con_impl_PeepAll _ _ c8H))) (sem_cut fun k9 hk9 => ?_)
    obtain ⟨v4, c11H, h⟩ := bind_some' h
    refine zS (zC1 (lF [] (con_spec_SureCheck _ _ c11H))) ?_
    refine sem_ifh rfl h ?_ ?_ <;> clear h <;> intro h
    · refine zS z0 (r_ret ?_)
      refine r_cR hk9 ?_
      cases h
      refine zAR hQ
    · refine r_skip (r_cN hk9 ?_)
      obtain ⟨v5, c14H, h⟩ := bind_some' h
      obtain ⟨v6, c15H, h⟩ := bind_some' h
      obtain ⟨v7, c16H, h⟩ := bind_some' h
      refine zS (zC3 (lC [] (con_laws_wpKeep _ _ c14H)) (lC [] (con_laws_wpKeep _ _ c15H)) (lF [] (con_impl_ListSame _ _ _ c16H))) (r_ret ?_)
      cases h
      refine zAR hQ

end Go.AM
