/- Pure functions and their contracts. Conditions: none. -/
import Derived.Test.YtkafcijfljjlaabAmQa2
set_option linter.unusedSimpArgs false
set_option linter.unusedVariables false
set_option maxRecDepth 10000
set_option maxHeartbeats 4000000
namespace Go.AM
open Go Go.Proofs
noncomputable def slices_Equal_impl_DevArg_impl_DevArg_j11 : Unit → Option Bool
  | () => (some true)
noncomputable def slices_Equal_impl_DevArg_impl_DevArg_s15 (v1 : (List DevArg)) (v2 : (List DevArg)) : Int → Option (Int ⊕ (Unit ⊕ Unit))
  | v14 => (cond (decide (v14 < ((v1).length : Int))) (Option.bind (idx v1 (v14)) fun v19 => (Option.bind (idx v2 (v14)) fun v20 => (cond (!((v19.Kind == v20.Kind) && ((v19.N == v20.N) && (v19.P == v20.P)))) (some (.inr (.inl ()))) (some (.inl (IntKind.i64.wrap (v14 + 1))))))) (some (.inr (.inr ()))))
noncomputable def slices_Equal_impl_DevArg_impl_DevArg (v1 : (List DevArg)) (v2 : (List DevArg)) : Option Bool :=
  (cond (((v1).length : Int) != ((v2).length : Int)) (some false) ((loop (slices_Equal_impl_DevArg_impl_DevArg_s15 v1 v2) 0).bind (Sum.elim (fun v17 => (some false)) (fun v18 => (slices_Equal_impl_DevArg_impl_DevArg_j11 ())))))
theorem con_slices_Equal_impl_DevArg_impl_DevArg (v1 : (List DevArg)) (v2 : (List DevArg)) (res_ : Bool) (h : slices_Equal_impl_DevArg_impl_DevArg v1 v2 = some res_) : Con Try.prog C0 62 [.fz 3 (R e_DevArg (v1)), .fz 3 (R e_DevArg (v2))] []
    (fun x σ' => x = .sc (.bool (res_)) ∧ σ' = []) := by
  refine zCon hP 0 [0, 1, 4, 5, 10, 12, 13, 14, 24] [.tmp 4] Try.func62 (by unfold Try.f62; rfl) fun Q hQ => ?_
  unfold slices_Equal_impl_DevArg_impl_DevArg at h
  refine zS z0 (sem_cut fun k2 hk2 => ?_)
  refine zS z0 ?_
  refine sem_ifh rfl h ?_ ?_ <;> clear h <;> intro h
  · refine zS z0 (r_ret ?_)
    refine r_cR hk2 ?_
    cases h
    refine zAR hQ
  · refine r_skip (r_cN hk2 ?_)
    refine zCut (fun (x : Unit) => ⟨[], []⟩) slices_Equal_impl_DevArg_impl_DevArg_j11 res_ ?_ ?_
    · rintro _ _ h
      simp only [slices_Equal_impl_DevArg_impl_DevArg_j11] at h
      refine zS z0 (r_ret ?_)
      cases h
      refine zAR hQ
    · intro k37 hk37 J36
      refine zS z0 (sem_blk fun k39 hk39 => ?_)
      obtain ⟨oq58, hLq58, hKq58⟩ := bind_some' h
      clear h
      refine sem_loopP [0, 1, 12, 13] (fun (_ : Unit) (x : Int) => (⟨[(0, .fz 3 (R e_DevArg (v1))), (1, .fz 3 (R e_DevArg (v2))), (12, .sc (.int .i64 (((v1).length : Int)))), (13, .sc (.int .i64 (x)))], []⟩ : St)) (fun (_ : Unit) (x : Int) => True) (slices_Equal_impl_DevArg_impl_DevArg_s15 v1 v2) () 0 hLq58 (by rfl) (by rfl) ⟨?_, trivial⟩ ?_
      · first | exact wkSt_same rfl | (simp (decide := true) only [go_sem, reduceIte, Nat.reduceAdd, Int.reduceToNat, Nat.reduceSub, Nat.reduceMul]; exact wkSt_same rfl)
      · rintro nq58 _ v14 xq58 kq58 hkq58 - h hIq58 hEq58
        simp only [slices_Equal_impl_DevArg_impl_DevArg_s15] at h
        refine zS z0 (sem_cut fun k60 hk60 => ?_)
        refine sem_ifh rfl h ?_ ?_ <;> clear h <;> intro h
        · refine r_skip (r_cN hk60 ?_)
          refine sem_cut fun k61 hk61 => sem_blk fun k62 hk62 => zS z0 ?_
          obtain ⟨v19, h, c65⟩ := bI h
          obtain ⟨v20, h, c66⟩ := bI h
          refine zS (zRF (a2 c65 c66)) ?_
          refine sem_ifh rfl h ?_ ?_ <;> clear h <;> intro h
          · refine zS z0 (r_ret ?_)
            refine r_bR hk62 (r_cR hk61 ?_)
            replace h := zX h hEq58 hKq58
            simp only [Sum.elim_inl, Sum.elim_inr] at h
            refine r_kR hkq58 (r_bR hk39 ?_)
            refine r_jR hk37 ?_
            cases h
            refine zAR hQ
          · refine r_skip (r_bN hk62 ?_)
            refine r_cN hk61 (zU z0 ?_)
            refine zB hkq58 h hIq58 () trivial
        · refine r_exit (r_cE hk60 ?_)
          replace h := zX h hEq58 hKq58
          simp only [Sum.elim_inl, Sum.elim_inr] at h
          refine r_kE hkq58 (r_bE hk39 ?_)
          refine zJ J36 [] () _ h
noncomputable def impl_elemSame (v1 : Elem) (v2 : Elem) : Option Bool :=
  (cond (v1.Op == v2.Op) (Option.bind (slices_Equal_impl_DevArg_impl_DevArg v1.Args v2.Args) fun v3 => (some v3)) (some false))
theorem con_impl_elemSame (v1 : Elem) (v2 : Elem) (res_ : Bool) (h : impl_elemSame v1 v2 = some res_) : Con Try.prog C0 35 [.agg [.sc (.int .i64 (v1.Op)), .fz 3 (R e_DevArg (v1.Args))], .agg [.sc (.int .i64 (v2.Op)), .fz 3 (R e_DevArg (v2.Args))]] []
    (fun x σ' => x = .sc (.bool (res_)) ∧ σ' = []) := by
  refine zCon hP 0 [0, 1, 2, 3, 4] [.tmp 4] Try.func35 (by unfold Try.f35; rfl) fun Q hQ => ?_
  unfold impl_elemSame at h
  refine zS z0 (sem_cut fun k2 hk2 => ?_)
  rcases Bool.eq_false_or_eq_true (v1.Op == v2.Op) with g3 | g3
  · replace h := cond_t h g3
    obtain ⟨v3, c4H, h⟩ := bind_some' h
    refine zU (zC1F (lF [] (con_slices_Equal_impl_DevArg_impl_DevArg _ _ _ c4H)) g3) (r_cN hk2 ?_)
    refine r_ret ?_
    cases h
    refine zAR hQ
  · replace h := cond_f h g3
    refine zU (zRF g3) (r_cN hk2 ?_)
    refine r_ret ?_
    cases h
    refine zAR hQ
noncomputable def impl_ListSame_1 (v1 : Inst) (v2 : Inst) : Option Bool :=
  (cond (v1.Code == v2.Code) (Option.bind (impl_elemSame (⟨v1.One_Op, v1.One_Args⟩ : Elem) (⟨v2.One_Op, v2.One_Args⟩ : Elem)) fun v3 => (some v3)) (some false))
theorem con_impl_ListSame_1 (v1 : Inst) (v2 : Inst) (res_ : Bool) (h : impl_ListSame_1 v1 v2 = some res_) : Con Try.prog C0 34 [.agg [.sc (.int .i64 (v1.Code)), .sc (.int .i64 (v1.One_Op)), .fz 3 (R e_DevArg (v1.One_Args))], .agg [.sc (.int .i64 (v2.Code)), .sc (.int .i64 (v2.One_Op)), .fz 3 (R e_DevArg (v2.One_Args))]] []
    (fun x σ' => x = .sc (.bool (res_)) ∧ σ' = []) := by
  refine zCon hP 0 [0, 1, 2, 3, 4] [.tmp 4] Try.func34 (by unfold Try.f34; rfl) fun Q hQ => ?_
  unfold impl_ListSame_1 at h
  refine zS z0 (sem_cut fun k2 hk2 => ?_)
  rcases Bool.eq_false_or_eq_true (v1.Code == v2.Code) with g3 | g3
  · replace h := cond_t h g3
    obtain ⟨v3, c4H, h⟩ := bind_some' h
    refine zU (zC1F (lF [] (con_impl_elemSame _ _ _ c4H)) g3) (r_cN hk2 ?_)
    refine r_ret ?_
    cases h
    refine zAR hQ
  · replace h := cond_f h g3
    refine zU (zRF g3) (r_cN hk2 ?_)
    refine r_ret ?_
    cases h
    refine zAR hQ
noncomputable def slices_EqualFunc_impl_Inst_impl_Inst_impl_Inst_impl_Inst_fimpl_ListSame_1_j11 : Unit → Option Bool
  | () => (some true)
noncomputable def slices_EqualFunc_impl_Inst_impl_Inst_impl_Inst_impl_Inst_fimpl_ListSame_1_s15 (v1 : (List Inst)) (v2 : (List Inst)) : Int → Option (Int ⊕ (Unit ⊕ Unit))
  | v18 => (cond (decide (v18 < ((v1).length : Int))) (Option.bind (idx v1 (v18)) fun v24 => (Option.bind (idx v2 (v18)) fun v25 => (Option.bind (impl_ListSame_1 v24 v25) fun v26 => (cond (!v26) (some (.inr (.inl ()))) (some (.inl (IntKind.i64.wrap (v18 + 1)))))))) (some (.inr (.inr ()))))
noncomputable def slices_EqualFunc_impl_Inst_impl_Inst_impl_Inst_impl_Inst_fimpl_ListSame_1 (v1 : (List Inst)) (v2 : (List Inst)) : Option Bool :=
  (cond (((v1).length : Int) != ((v2).length : Int)) (some false) ((loop (slices_EqualFunc_impl_Inst_impl_Inst_impl_Inst_impl_Inst_fimpl_ListSame_1_s15 v1 v2) 0).bind (Sum.elim (fun v22 => (some false)) (fun v23 => (slices_EqualFunc_impl_Inst_impl_Inst_impl_Inst_impl_Inst_fimpl_ListSame_1_j11 ())))))
theorem con_slices_EqualFunc_impl_Inst_impl_Inst_impl_Inst_impl_Inst_fimpl_ListSame_1 (v1 : (List Inst)) (v2 : (List Inst)) (res_ : Bool) (h : slices_EqualFunc_impl_Inst_impl_Inst_impl_Inst_impl_Inst_fimpl_ListSame_1 v1 v2 = some res_) : Con Try.prog C0 33 [.fz 3 (R e_Inst (v1)), .fz 3 (R e_Inst (v2)), .sc (.func (.func 34) #[] #[])] []
    (fun x σ' => x = .sc (.bool (res_)) ∧ σ' = []) := by
  refine zCon hP 0 [0, 1, 2, 6, 7, 8, 9, 14, 15, 16, 17, 18, 30] [.tmp 6] Try.func33 (by unfold Try.f33; rfl) fun Q hQ => ?_
  unfold slices_EqualFunc_impl_Inst_impl_Inst_impl_Inst_impl_Inst_fimpl_ListSame_1 at h
  refine zS z0 (sem_cut fun k2 hk2 => ?_)
  refine zS z0 ?_
  refine sem_ifh rfl h ?_ ?_ <;> clear h <;> intro h
  · refine zS z0 (r_ret ?_)
    refine r_cR hk2 ?_
    cases h
    refine zAR hQ
  · refine r_skip (r_cN hk2 ?_)
    refine zCut (fun (x : Unit) => ⟨[], []⟩) slices_EqualFunc_impl_Inst_impl_Inst_impl_Inst_impl_Inst_fimpl_ListSame_1_j11 res_ ?_ ?_
    · rintro _ _ h
      simp only [slices_EqualFunc_impl_Inst_impl_Inst_impl_Inst_impl_Inst_fimpl_ListSame_1_j11] at h
      refine zS z0 (r_ret ?_)
      cases h
      refine zAR hQ
    · intro k43 hk43 J42
      refine zS z0 (sem_blk fun k45 hk45 => ?_)
      obtain ⟨oq68, hLq68, hKq68⟩ := bind_some' h
      clear h
      refine sem_loopP [1, 2, 15, 16, 17] (fun (_ : Unit) (x : Int) => (⟨[(1, .fz 3 (R e_Inst (v2))), (2, .sc (.func (.func 34) #[] #[])), (15, .fz 3 (R e_Inst (v1))), (16, .sc (.int .i64 (((v1).length : Int)))), (17, .sc (.int .i64 (x)))], []⟩ : St)) (fun (_ : Unit) (x : Int) => True) (slices_EqualFunc_impl_Inst_impl_Inst_impl_Inst_impl_Inst_fimpl_ListSame_1_s15 v1 v2) () 0 hLq68 (by rfl) (by rfl) ⟨?_, trivial⟩ ?_
      · first | exact wkSt_same rfl | (simp (decide := true) only [go_sem, reduceIte, Nat.reduceAdd, Int.reduceToNat, Nat.reduceSub, Nat.reduceMul]; exact wkSt_same rfl)
      · rintro nq68 _ v18 xq68 kq68 hkq68 - h hIq68 hEq68
        simp only [slices_EqualFunc_impl_Inst_impl_Inst_impl_Inst_impl_Inst_fimpl_ListSame_1_s15] at h
        refine zS z0 (sem_cut fun k70 hk70 => ?_)
        refine sem_ifh rfl h ?_ ?_ <;> clear h <;> intro h
        · refine r_skip (r_cN hk70 ?_)
          refine sem_cut fun k71 hk71 => sem_blk fun k72 hk72 => ?_
          obtain ⟨v24, h, c74⟩ := bI h
          refine zS (zRF c74) ?_
          obtain ⟨v25, h, c76⟩ := bI h
          refine zS (zRF c76) ?_
          obtain ⟨v26, c78H, h⟩ := bind_some' h
          refine zS (zC1 (lF [] (con_impl_ListSame_1 _ _ _ c78H))) ?_
          refine sem_ifh rfl h ?_ ?_ <;> clear h <;> intro h
          · refine zS z0 (r_ret ?_)
            refine r_bR hk72 (r_cR hk71 ?_)
            replace h := zX h hEq68 hKq68
            simp only [Sum.elim_inl, Sum.elim_inr] at h
            refine r_kR hkq68 (r_bR hk45 ?_)
            refine r_jR hk43 ?_
            cases h
            refine zAR hQ
          · refine r_skip (r_bN hk72 ?_)
            refine r_cN hk71 (zU z0 ?_)
            refine zB hkq68 h hIq68 () trivial
        · refine r_exit (r_cE hk70 ?_)
          replace h := zX h hEq68 hKq68
          simp only [Sum.elim_inl, Sum.elim_inr] at h
          refine r_kE hkq68 (r_bE hk45 ?_)
          refine zJ J42 [] () _ h
noncomputable def impl_ListSame (v1 : (List Inst)) (v2 : (List Inst)) : Option Bool :=
  (Option.bind (slices_EqualFunc_impl_Inst_impl_Inst_impl_Inst_impl_Inst_fimpl_ListSame_1 v1 v2) fun v3 => (some v3))
theorem con_impl_ListSame (v1 : (List Inst)) (v2 : (List Inst)) (res_ : Bool) (h : impl_ListSame v1 v2 = some res_) : Con Try.prog C0 11 [.fz 3 (R e_Inst (v1)), .fz 3 (R e_Inst (v2))] []
    (fun x σ' => x = .sc (.bool (res_)) ∧ σ' = []) := by
  refine zCon hP 0 [0, 1, 4] [.tmp 4] Try.func11 (by unfold Try.f11; rfl) fun Q hQ => ?_
  unfold impl_ListSame at h
  refine zS z0 ?_
  obtain ⟨v3, c3H, h⟩ := bind_some' h
  refine zS (zC1 (lF [] (con_slices_EqualFunc_impl_Inst_impl_Inst_impl_Inst_impl_Inst_fimpl_ListSame_1 _ _ _ c3H))) (r_ret ?_)
  cases h
  refine zAR hQ
noncomputable def spec_l17Image_j3 : ((List Int) × Int) → Option ((List Int) × l26Rd)
  | (v13, v14) => (Option.bind (spec_PicMake []) fun v15 => (some (v15.1, (⟨v13, v14⟩ : l26Rd))))
noncomputable def spec_l17Image_s7 : ((List Int) × Int × Int) → Option (((List Int) × Int × Int) ⊕ (((List Int) × Int × (List Int)) ⊕ ((List Int) × Int)))
  | (v18, v19, v20) => (cond (decide (v20 < 4)) (Option.bind (spec_l17List (⟨v18, v19⟩ : l26Rd)) fun v25 => (Option.bind (spec_PicMake v25.1) fun v26 => (cond (v26.2.Code == 0) (some (.inr (.inl (v25.2.b, v25.2.p, v26.1)))) (some (.inl (v25.2.b, v25.2.p, (IntKind.i64.wrap (v20 + 1)))))))) (some (.inr (.inr (v18, v19)))))
noncomputable def spec_l17Image (v1 : l26Rd) : Option ((List Int) × l26Rd) :=
  ((loop spec_l17Image_s7 (v1.b, v1.p, 0)).bind (Sum.elim (fun v23 => (some (v23.2.2, (⟨v23.1, v23.2.1⟩ : l26Rd)))) (fun v24 => (spec_l17Image_j3 (v24.1, v24.2)))))
theorem con_spec_l17Image (v1 : l26Rd) (res_ : ((List Int) × l26Rd)) (h : spec_l17Image v1 = some res_) : Con Try.prog C0 13 [.pt 0 0] [.rc [.fz 1 (R e_u8 (v1.b)), .sc (.int .i64 (v1.p))]]
    (fun x σ' => x = .fz 1 (R e_u8 (res_.1)) ∧ σ' = [.rc [.fz 1 (R e_u8 (res_.2.b)), .sc (.int .i64 (res_.2.p))]]) := by
  refine zCon hP 1 [0, 2, 3, 4, 5, 6, 9, 20] [.tmp 2] Try.func13 (by unfold Try.f13; rfl) fun Q hQ => ?_
  unfold spec_l17Image at h
  refine zS z0 (zCut (fun (x : ((List Int) × Int)) => ⟨[], [.rc [.fz 1 (R e_u8 (x.1)), .sc (.int .i64 (x.2))]]⟩) spec_l17Image_j3 res_ ?_ ?_)
  · rintro _ ⟨v13, v14⟩ h
    simp only [spec_l17Image_j3] at h
    obtain ⟨v15, c33H, h⟩ := bind_some' h
    refine zS (zC1w (lC [] (con_spec_PicMake _ _ c33H))) (zS z0 ?_)
    refine r_ret ?_
    cases h
    refine zAR hQ
  · intro k36 hk36 J35
    refine zS z0 (sem_blk fun k38 hk38 => ?_)
    obtain ⟨oq57, hLq57, hKq57⟩ := bind_some' h
    clear h
    refine sem_loopP [0, 3] (fun (_ : Unit) (x : ((List Int) × Int × Int)) => (⟨[(0, .pt 0 0), (3, .sc (.int .i64 (x.2.2)))], [.rc [.fz 1 (R e_u8 (x.1)), .sc (.int .i64 (x.2.1))]]⟩ : St)) (fun (_ : Unit) (x : ((List Int) × Int × Int)) => True) spec_l17Image_s7 () (v1.b, v1.p, 0) hLq57 (by rfl) (by rfl) ⟨?_, trivial⟩ ?_
    · first | exact wkSt_same rfl | (simp (decide := true) only [go_sem, reduceIte, Nat.reduceAdd, Int.reduceToNat, Nat.reduceSub, Nat.reduceMul]; exact wkSt_same rfl)
    · rintro nq57 _ ⟨v18, v19, v20⟩ xq57 kq57 hkq57 - h hIq57 hEq57
      simp only [spec_l17Image_s7] at h
      refine sem_cut fun k58 hk58 => zS z0 ?_
      refine sem_ifh rfl h ?_ ?_ <;> clear h <;> intro h
      · refine r_skip (r_cN hk58 ?_)
        refine sem_cut fun k60 hk60 => sem_blk fun k61 hk61 => ?_
        obtain ⟨v25, c63H, h⟩ := bind_some' h
        obtain ⟨v26, c64H, h⟩ := bind_some' h
        refine zS (zC2 (lC [[0]] (con_spec_l17List _ _ c63H)) (lC [] (con_spec_PicMake _ _ c64H))) (zS z0 ?_)
        refine sem_ifh rfl h ?_ ?_ <;> clear h <;> intro h
        · refine zS z0 (r_ret ?_)
          refine r_bR hk61 (r_cR hk60 ?_)
          replace h := zX h hEq57 hKq57
          simp only [Sum.elim_inl, Sum.elim_inr] at h
          refine r_kR hkq57 (r_bR hk38 ?_)
          refine r_jR hk36 ?_
          cases h
          refine zAR hQ
        · refine r_skip (r_bN hk61 ?_)
          refine r_cN hk60 (zU z0 ?_)
          refine zB hkq57 h hIq57 () trivial
      · refine r_exit (r_cE hk58 ?_)
        replace h := zX h hEq57 hKq57
        simp only [Sum.elim_inl, Sum.elim_inr] at h
        refine r_kE hkq57 (r_bE hk38 ?_)
        refine zJ J35 [] () _ h
noncomputable def spec_l17Mend (v1 : (List Int)) : Option (List Int) :=
  (cond (decide (((v1).length : Int) < 8)) (some v1) (Option.bind (spec_l17Num ((v1).length : Int) 2) fun v2 => (gd (apOk (([83, 116] ++ v2)).length 1) (Option.bind (prt v1 (4) ((IntKind.i64.wrap (((v1).length : Int) - 2)))) fun v3 => (gd (apOk ((([83, 116] ++ v2) ++ v3)).length 1) (Option.bind (spec_PicSum (([83, 116] ++ v2) ++ v3)) fun v4 => (Option.bind (spec_l17Num (IntKind.i64.wrap (v4)) 2) fun v5 => (gd (apOk (((([83, 116] ++ v2) ++ v3) ++ v5)).length 1) (some ((([83, 116] ++ v2) ++ v3) ++ v5))))))))))
theorem con_spec_l17Mend (v1 : (List Int)) (res_ : (List Int)) (h : spec_l17Mend v1 = some res_) : Con Try.prog C0 36 [.fz 1 (R e_u8 (v1))] []
    (fun x σ' => x = .fz 1 (R e_u8 (res_)) ∧ σ' = []) := by
  refine zCon hP 0 [0, 2, 3, 4, 8] [.tmp 2] Try.func36 (by unfold Try.f36; rfl) fun Q hQ => ?_
  unfold spec_l17Mend at h
  refine zS z0 (zS z0 ?_)
  refine sem_cut fun k3 hk3 => zS z0 ?_
  refine sem_ifh rfl h ?_ ?_ <;> clear h <;> intro h
  · refine zS z0 (r_ret ?_)
    refine r_cR hk3 ?_
    cases h
    refine zAR hQ
  · refine r_skip (r_cN hk3 ?_)
    obtain ⟨v2, c7H, h⟩ := bind_some' h
    obtain ⟨g8, h⟩ := gAp h
    refine zS (zC1Fn (lF [] (con_spec_l17Num _ _ _ c7H)) g8) ?_
    obtain ⟨v3, c10H, h⟩ := bind_some' h
    obtain ⟨c10A, c10B, c10C, c10D⟩ := prt_some c10H
    try simp only [Int.reduceToNat, Int.toNat_zero, Int.toNat_one, Int.toNat_natCast, List.take_length] at c10D
    obtain ⟨g11, h⟩ := gAp h
    refine zS (zRFn (a4 c10A c10B c10C (a2 c10D g11))) ?_
    obtain ⟨v4, c13H, h⟩ := bind_some' h
    obtain ⟨v5, c14H, h⟩ := bind_some' h
    obtain ⟨g15, h⟩ := gAp h
    refine zS (zC2Fn (lF [] (con_spec_PicSum _ _ c13H)) (lF [] (con_spec_l17Num _ _ _ c14H)) g15) (r_ret ?_)
    cases h
    refine zAR hQ
noncomputable def spec_l17Spoil_j7 : ((List Int) × Int × (List Int)) → Option ((List Int) × l26Rd)
  | (v15, v16, v17) => (Option.bind (spec_l17Mend v17) fun v18 => (some (v18, (⟨v15, v16⟩ : l26Rd))))
noncomputable def spec_l17Spoil (v1 : l26Rd) (v2 : (List Int)) : Option ((List Int) × l26Rd) :=
  (gd (apOk (v2).length 1) (Option.bind (spec_l26Rd_pick v1 (((v2).length : Nat) : Int)) fun v3 => (Option.bind (spec_l26Rd_pick v3.2 6) fun v19 => (cond (v19.1 == 0) (Option.bind (spec_l26Rd_pick v19.2 256) fun v20 => (Option.bind (idx v2 (v3.1)) fun v21 => (some (((v2).set (v3.1).toNat (IntKind.u8.wrap (v20.1))), v20.2)))) (cond (v19.1 == 1) (gd (decide (0 ≤ v3.1) && decide (v3.1 ≤ (((v2).length : Nat) : Int))) (some ((v2).take ((v3.1).toNat), v19.2))) (cond (v19.1 == 2) (Option.bind (spec_l26Rd_pick v19.2 16) fun v22 => (Option.bind (idx v2 (v3.1)) fun v23 => (spec_l17Spoil_j7 (v22.2.b, v22.2.p, ((v2).set (v3.1).toNat (IntKind.u8.wrap (v22.1))))))) (cond (v19.1 == 3) (gd (decide (0 ≤ v3.1) && decide (v3.1 ≤ (((v2).length : Nat) : Int))) (gd (decide (0 ≤ (IntKind.i64.wrap (v3.1 + 1))) && decide ((IntKind.i64.wrap (v3.1 + 1)) ≤ (((v2).length : Nat) : Int)) && decide ((((v2).length : Nat) : Int) ≤ (((v2).length : Nat) : Int))) (gd (apOk (((v2).take ((v3.1).toNat) ++ ((v2).drop (((IntKind.i64.wrap (v3.1 + 1))).toNat)).take ((((v2).length) - ((IntKind.i64.wrap (v3.1 + 1))).toNat)))).length 1) (spec_l17Spoil_j7 (v19.2.b, v19.2.p, ((v2).take ((v3.1).toNat) ++ ((v2).drop (((IntKind.i64.wrap (v3.1 + 1))).toNat)).take ((((v2).length) - ((IntKind.i64.wrap (v3.1 + 1))).toNat)))))))) (cond (v19.1 == 4) (gd (decide (0 ≤ v3.1) && decide (v3.1 ≤ (((v2).length : Nat) : Int))) (gd (decide (0 ≤ v3.1) && decide (v3.1 ≤ (((v2).length : Nat) : Int)) && decide ((((v2).length : Nat) : Int) ≤ (((v2).length : Nat) : Int))) (gd (apOk ((v2).take ((v3.1).toNat)).length 1) (Option.bind (spec_l26Rd_pick v19.2 40) fun v24 => (gd (apOk (((v2).take ((v3.1).toNat) ++ [(IntKind.u8.wrap (v24.1))])).length 1) (gd (apOk ((((v2).take ((v3.1).toNat) ++ [(IntKind.u8.wrap (v24.1))]) ++ ((v2).drop ((v3.1).toNat)).take ((((v2).length) - (v3.1).toNat)))).length 1) (spec_l17Spoil_j7 (v24.2.b, v24.2.p, (((v2).take ((v3.1).toNat) ++ [(IntKind.u8.wrap (v24.1))]) ++ ((v2).drop ((v3.1).toNat)).take ((((v2).length) - (v3.1).toNat))))))))))) (Option.bind (idx v2 (5)) fun v25 => (Option.bind (spec_l26Rd_pick v19.2 3) fun v26 => (Option.bind (spec_l26Rd_pick v26.2 3) fun v27 => (cond (v27.1 == 0) (Option.bind (spec_l26Rd_pick v27.2 256) fun v28 => (Option.bind (idx ((v2).set 5 (IntKind.u8.wrap ((IntKind.i64.wrap ((IntKind.i64.wrap ((IntKind.i64.wrap (v25)) + v26.1)) - 1))))) (4)) fun v29 => (spec_l17Spoil_j7 (v28.2.b, v28.2.p, ((((v2).set 5 (IntKind.u8.wrap ((IntKind.i64.wrap ((IntKind.i64.wrap ((IntKind.i64.wrap (v25)) + v26.1)) - 1)))))).set 4 (IntKind.u8.wrap (v28.1))))))) (spec_l17Spoil_j7 (v27.2.b, v27.2.p, ((v2).set 5 (IntKind.u8.wrap ((IntKind.i64.wrap ((IntKind.i64.wrap ((IntKind.i64.wrap (v25)) + v26.1)) - 1)))))))))))))))))))
theorem con_spec_l17Spoil (v1 : l26Rd) (v2 : (List Int)) (res_ : ((List Int) × l26Rd)) (h : spec_l17Spoil v1 v2 = some res_) : Con Try.prog C0 15 [.pt 0 0, .fz 1 (R e_u8 (v2))] [.rc [.fz 1 (R e_u8 (v1.b)), .sc (.int .i64 (v1.p))]]
    (fun x σ' => x = .fz 1 (R e_u8 (res_.1)) ∧ σ' = [.rc [.fz 1 (R e_u8 (res_.2.b)), .sc (.int .i64 (res_.2.p))]]) := by
  refine zCon hP 1 [0, 1, 4, 5, 6, 15, 29, 35, 44, 49, 57, 67] [.tmp 4] Try.func15 (by unfold Try.f15; rfl) fun Q hQ => ?_
  unfold spec_l17Spoil at h
  refine zS z0 ?_
  obtain ⟨g3, h⟩ := gAp h
  refine zS (zRF g3) ?_
  obtain ⟨v3, c5H, h⟩ := bind_some' h
  refine zS (zC1 (lC [[0]] (con_spec_l26Rd_pick _ _ _ c5H))) (zCut (fun (x : ((List Int) × Int × (List Int))) => ⟨[(5, .sl 1 0 ((x.2.2).length))], [.rc [.fz 1 (R e_u8 (x.1)), .sc (.int .i64 (x.2.1))], .arr true 1 (R e_u8 (x.2.2))]⟩) spec_l17Spoil_j7 res_ ?_ ?_)
  · rintro _ ⟨v15, v16, v17⟩ h
    simp only [spec_l17Spoil_j7] at h
    obtain ⟨v18, c39H, h⟩ := bind_some' h
    refine zS (zC1 (lC [] (con_spec_l17Mend _ _ c39H))) (r_ret ?_)
    cases h
    refine zAR hQ
  · intro k41 hk41 J40
    obtain ⟨v19, c43H, h⟩ := bind_some' h
    refine zS (zC1 (lC [[0]] (con_spec_l26Rd_pick _ _ _ c43H))) (sem_blk fun k44 hk44 => ?_)
    refine zS z0 ?_
    refine sem_ifh rfl h ?_ ?_ <;> clear h <;> intro h
    · obtain ⟨v20, c47H, h⟩ := bind_some' h
      obtain ⟨v21, h, c48⟩ := bI h
      refine zS (zC1F (lC [[0]] (con_spec_l26Rd_pick _ _ _ c47H)) c48) (zS z0 ?_)
      refine r_ret (r_bR hk44 ?_)
      refine r_jR hk41 ?_
      cases h
      refine zAR hQ
    · refine zS z0 ?_
      refine sem_ifh rfl h ?_ ?_ <;> clear h <;> intro h
      · obtain ⟨g52, h⟩ := gD2 h
        refine zS (zRF g52) (r_ret ?_)
        refine r_bR hk44 (r_jR hk41 ?_)
        cases h
        refine zAR hQ
      · refine zS z0 ?_
        refine sem_ifh rfl h ?_ ?_ <;> clear h <;> intro h
        · obtain ⟨v22, c54H, h⟩ := bind_some' h
          obtain ⟨v23, h, c55⟩ := bI h
          refine zU (zC1F (lC [[0]] (con_spec_l26Rd_pick _ _ _ c54H)) c55) (r_bN hk44 ?_)
          refine zJ J40 [5] () _ h
        · refine zS z0 ?_
          refine sem_ifh rfl h ?_ ?_ <;> clear h <;> intro h
          · obtain ⟨g57, h⟩ := gD2 h
            obtain ⟨g58, h⟩ := gD3 h
            obtain ⟨g59, h⟩ := gAp h
            refine zU (zPRF (.take 0 (.take 1 (.take 2 (.take 3 (.take 4 (.take 5 (.take 6 (.last 7 (.take 8 .done))))))))) [] (a3 g57 g58 g59)) (r_bN hk44 ?_)
            refine zJ J40 [5] () _ h
          · refine zS z0 ?_
            refine sem_ifh rfl h ?_ ?_ <;> clear h <;> intro h
            · obtain ⟨g61, h⟩ := gD2 h
              obtain ⟨g62, h⟩ := gD3 h
              obtain ⟨g63, h⟩ := gAp h
              obtain ⟨v24, c64H, h⟩ := bind_some' h
              obtain ⟨g65, h⟩ := gAp h
              obtain ⟨g66, h⟩ := gAp h
              refine zU (zPC1F (.take 1 (.take 2 (.take 3 (.take 5 (.take 10 (.take 11 (.take 12 (.last 0 (.last 4 (.last 6 (.take 7 (.last 8 (.last 9 (.last 13 (.take 14 .done))))))))))))))) [] (lC [[0]] (con_spec_l26Rd_pick _ _ _ c64H)) (a4 g61 g62 g63 (a2 g65 g66))) (r_bN hk44 ?_)
              refine zJ J40 [5] () _ h
            · obtain ⟨v25, h, c68⟩ := bN 5 h
              obtain ⟨v26, c69H, h⟩ := bind_some' h
              refine zS (zPC1F (.take 0 (.take 1 (.take 2 (.take 3 (.take 4 (.take 5 (.one 6 (.take 7 (.take 8 (.take 9 (.take 10 (.last 11 .done)))))))))))) [2] (lC [[0]] (con_spec_l26Rd_pick _ _ _ c69H)) c68) ?_
              obtain ⟨v27, c71H, h⟩ := bind_some' h
              refine zS (zC1 (lC [[0]] (con_spec_l26Rd_pick _ _ _ c71H))) ?_
              refine sem_ifh rfl h ?_ ?_ <;> clear h <;> intro h
              · obtain ⟨v28, c72H, h⟩ := bind_some' h
                obtain ⟨v29, h, c73⟩ := bN 4 h
                refine zU (zC1F (lC [[0]] (con_spec_l26Rd_pick _ _ _ c72H)) c73) (r_bN hk44 ?_)
                refine zJ J40 [5] () _ h
              · refine r_skip (r_bN hk44 ?_)
                refine zJ J40 [5] () _ h
noncomputable def spec_DrawPicRead (v1 : (List Int)) : Option (List Int) :=
  (Option.bind (spec_l26Open v1) fun v2 => (Option.bind (spec_l17Image v2) fun v3 => (Option.bind (spec_l26Rd_pick v3.2 2) fun v4 => (cond (v4.1 == 0) (Option.bind (spec_l17Spoil v4.2 v3.1) fun v5 => (some v5.1)) (some v3.1)))))
theorem con_spec_DrawPicRead (v1 : (List Int)) (res_ : (List Int)) (h : spec_DrawPicRead v1 = some res_) : Con Try.prog C0 5 [.fz 1 (R e_u8 (v1))] []
    (fun x σ' => x = .fz 1 (R e_u8 (res_)) ∧ σ' = []) := by
  refine zCon hP 0 [0, 2, 3, 4, 11] [.tmp 2] Try.func5 (by unfold Try.f5; rfl) fun Q hQ => ?_
  unfold spec_DrawPicRead at h
  refine zS z0 ?_
  obtain ⟨v2, c3H, h⟩ := bind_some' h
  refine zS (zC1 (lC [] (con_spec_l26Open _ _ c3H))) ?_
  obtain ⟨v3, c5H, h⟩ := bind_some' h
  refine zS (zC1 (lC [[0]] (con_spec_l17Image _ _ c5H))) (sem_cut fun k6 hk6 => ?_)
  obtain ⟨v4, c8H, h⟩ := bind_some' h
  refine zS (zC1 (lC [[0]] (con_spec_l26Rd_pick _ _ _ c8H))) ?_
  refine sem_ifh rfl h ?_ ?_ <;> clear h <;> intro h
  · obtain ⟨v5, c10H, h⟩ := bind_some' h
    refine zS (zC1 (lC [[0]] (con_spec_l17Spoil _ _ _ c10H))) (r_ret ?_)
    refine r_cR hk6 ?_
    cases h
    refine zAR hQ
  · refine r_skip (r_cN hk6 ?_)
    refine zS z0 (r_ret ?_)
    cases h
    refine zAR hQ
noncomputable def spec_l17Two (v1 : (List Int)) : Option Int :=
  (Option.bind (idx v1 (0)) fun v2 => (Option.bind (idx v1 (1)) fun v3 => (some (IntKind.i64.wrap ((IntKind.i64.wrap ((IntKind.i64.wrap (v2)) * 256)) + (IntKind.i64.wrap (v3)))))))
theorem con_spec_l17Two (v1 : (List Int)) (res_ : Int) (h : spec_l17Two v1 = some res_) : Con Try.prog C0 16 [.fz 1 (R e_u8 (v1))] []
    (fun x σ' => x = .sc (.int .i64 (res_)) ∧ σ' = []) := by
  refine zCon hP 0 [0, 2] [.tmp 2] Try.func16 (by unfold Try.f16; rfl) fun Q hQ => ?_
  unfold spec_l17Two at h
  refine zS z0 ?_
  obtain ⟨v2, h, c3⟩ := bN 0 h
  obtain ⟨v3, h, c4⟩ := bN 1 h
  refine zS (zRF (a2 c3 c4)) (r_ret ?_)
  cases h
  refine zAR hQ
noncomputable def spec_l17In_take (v1 : l17In) (v2 : Int) : Option ((List Int) × Bool × l17In) :=
  (cond (decide ((IntKind.i64.wrap (((v1.b).length : Int) - v1.at_)) < v2)) (some ([], false, v1)) (Option.bind (prt v1.b ((IntKind.i64.wrap ((IntKind.i64.wrap (v1.at_ + v2)) - v2))) ((IntKind.i64.wrap (v1.at_ + v2)))) fun v3 => (some (v3, true, (⟨v1.b, (IntKind.i64.wrap (v1.at_ + v2))⟩ : l17In)))))
theorem con_spec_l17In_take (v1 : l17In) (v2 : Int) (res_ : ((List Int) × Bool × l17In)) (h : spec_l17In_take v1 v2 = some res_) : Con Try.prog C0 39 [.pt 0 0, .sc (.int .i64 (v2))] [.rc [.fz 1 (R e_u8 (v1.b)), .sc (.int .i64 (v1.at_))]]
    (fun x σ' => x = .tup [.fz 1 (R e_u8 (res_.1)), .sc (.bool (res_.2.1))] ∧ σ' = [.rc [.fz 1 (R e_u8 (res_.2.2.b)), .sc (.int .i64 (res_.2.2.at_))]]) := by
  refine zCon hP 1 [0, 1, 4, 5, 17] [.tmp 4, .tmp 5] Try.func39 (by unfold Try.f39; rfl) fun Q hQ => ?_
  unfold spec_l17In_take at h
  refine zS z0 (sem_cut fun k2 hk2 => ?_)
  refine zS zR ?_
  refine sem_ifh rfl h ?_ ?_ <;> clear h <;> intro h
  · refine zS z0 (r_ret ?_)
    refine r_cR hk2 ?_
    cases h
    refine zARw hQ
  · refine r_skip (r_cN hk2 ?_)
    refine zS z0 ?_
    obtain ⟨v3, c7H, h⟩ := bind_some' h
    obtain ⟨c7A, c7B, c7C, c7D⟩ := prt_some c7H
    try simp only [Int.reduceToNat, Int.toNat_zero, Int.toNat_one, Int.toNat_natCast, List.take_length] at c7D
    refine zS (zRF (a4 c7A c7B c7C c7D)) (r_ret ?_)
    cases h
    refine zAR hQ
noncomputable def spec_l17Val_j24 : Int → Option Int
  | v12 => (some v12)
noncomputable def spec_l17Val_j7 (v1 : (List Int)) : (Int × Int) → Option Int
  | (v9, v10) => (cond (decide (((v1).length : Int) > 1)) (Option.bind (idx v1 (0)) fun v13 => (cond (decide (v13 ≥ 128)) (spec_l17Val_j24 (IntKind.i64.wrap (v9 - v10))) (spec_l17Val_j24 v9))) (spec_l17Val_j24 v9))
noncomputable def spec_l17Val_s11 (v1 : (List Int)) : (Int × Int × Int) → Option ((Int × Int × Int) ⊕ (Int × Int))
  | (v15, v16, v17) => (cond (decide (v17 < ((v1).length : Int))) (Option.bind (idx v1 (v17)) fun v20 => (some (.inl ((IntKind.i64.wrap ((IntKind.i64.wrap (v15 * 256)) + (IntKind.i64.wrap (v20)))), (IntKind.i64.wrap (v16 * 256)), (IntKind.i64.wrap (v17 + 1)))))) (some (.inr (v15, v16))))
noncomputable def spec_l17Val (v1 : (List Int)) : Option Int :=
  ((loop (spec_l17Val_s11 v1) (0, 1, 0)).bind (fun v19 => (spec_l17Val_j7 v1 (v19.1, v19.2))))
theorem con_spec_l17Val (v1 : (List Int)) (res_ : Int) (h : spec_l17Val v1 = some res_) : Con Try.prog C0 63 [.fz 1 (R e_u8 (v1))] []
    (fun x σ' => x = .sc (.int .i64 (res_)) ∧ σ' = []) := by
  refine zCon hP 0 [0, 2, 3, 4, 5, 9, 30] [.tmp 2] Try.func63 (by unfold Try.f63; rfl) fun Q hQ => ?_
  unfold spec_l17Val at h
  refine zS z0 (zS z0 ?_)
  refine zS z0 (zCut (fun (x : (Int × Int)) => ⟨[(0, .fz 1 (R e_u8 (v1))), (3, .sc (.int .i64 (x.1))), (4, .sc (.int .i64 (x.2)))], []⟩) (spec_l17Val_j7 v1) res_ ?_ ?_)
  · rintro _ ⟨v9, v10⟩ h
    simp only [spec_l17Val_j7] at h
    refine zCut (fun (x : Int) => ⟨[(3, .sc (.int .i64 (x)))], []⟩) spec_l17Val_j24 res_ ?_ ?_
    · rintro _ v12 h
      simp only [spec_l17Val_j24] at h
      refine zS z0 (r_ret ?_)
      cases h
      refine zAR hQ
    · intro k30 hk30 J29
      refine sem_cut fun k31 hk31 => ?_
      rcases Bool.eq_false_or_eq_true (decide (((v1).length : Int) > 1)) with g32 | g32
      · replace h := cond_t h g32
        obtain ⟨v13, h, c33⟩ := bN 0 h
        refine zU (zRF (a2 g32 c33)) (r_cN hk31 ?_)
        refine sem_ifh rfl h ?_ ?_ <;> clear h <;> intro h
        · refine zU z0 (zJ J29 [3] () _ h)
        · refine r_skip (zJ J29 [3] () _ h)
      · replace h := cond_f h g32
        refine zU (zRF g32) (r_cN hk31 ?_)
        refine sem_ifF rfl ?_
        try replace h := cond_f h rfl
        refine r_skip (zJ J29 [3] () _ h)
  · intro k35 hk35 J34
    refine zS z0 (sem_blk fun k37 hk37 => ?_)
    obtain ⟨oq50, hLq50, hKq50⟩ := bind_some' h
    clear h
    refine sem_loopP [0, 3, 4, 5] (fun (_ : Unit) (x : (Int × Int × Int)) => (⟨[(0, .fz 1 (R e_u8 (v1))), (3, .sc (.int .i64 (x.1))), (4, .sc (.int .i64 (x.2.1))), (5, .sc (.int .i64 (x.2.2)))], []⟩ : St)) (fun (_ : Unit) (x : (Int × Int × Int)) => True) (spec_l17Val_s11 v1) () (0, 1, 0) hLq50 (by rfl) (by rfl) ⟨?_, trivial⟩ ?_
    · first | exact wkSt_same rfl | (simp (decide := true) only [go_sem, reduceIte, Nat.reduceAdd, Int.reduceToNat, Nat.reduceSub, Nat.reduceMul]; exact wkSt_same rfl)
    · rintro nq50 _ ⟨v15, v16, v17⟩ xq50 kq50 hkq50 - h hIq50 hEq50
      simp only [spec_l17Val_s11] at h
      refine sem_cut fun k51 hk51 => zS z0 ?_
      refine sem_ifh rfl h ?_ ?_ <;> clear h <;> intro h
      · refine r_skip (r_cN hk51 ?_)
        refine sem_cut fun k53 hk53 => sem_blk fun k54 hk54 => ?_
        obtain ⟨v20, h, c56⟩ := bI h
        refine zS (zRF c56) (zU z0 ?_)
        refine r_bN hk54 (r_cN hk53 ?_)
        refine zU z0 (zB hkq50 h hIq50 () trivial)
      · refine r_exit (r_cE hk51 ?_)
        replace h := zX h hEq50 hKq50
        refine r_kE hkq50 (r_bE hk37 ?_)
        refine zJ J34 [0, 3, 4] () _ h
noncomputable def spec_l17In_arg_j37 (v3 : Int) (v6 : Int) : ((List Int) × Int × Int) → Option (DevArg × Int × l17In)
  | (v9, v10, v11) => (some ((⟨(IntKind.i64.wrap (v3)), v6, v11⟩ : DevArg), 0, (⟨v9, v10⟩ : l17In)))
noncomputable def spec_l17In_arg (v1 : l17In) : Option (DevArg × Int × l17In) :=
  (Option.bind (spec_l17In_take v1 1) fun v2 => (cond (!v2.2.1) (some ((⟨0, 0, 0⟩ : DevArg), 6, v2.2.2)) (Option.bind (idx v2.1 (0)) fun v3 => (cond ((decide ((IntKind.i64.wrap (v3)) < 1)) || (decide ((IntKind.i64.wrap (v3)) > 13))) (some ((⟨0, 0, 0⟩ : DevArg), 3, v2.2.2)) (Option.bind (spec_l17Wide (IntKind.i64.wrap (v3))) fun v4 => (Option.bind (spec_l17In_take v2.2.2 v4) fun v5 => (cond (!v5.2.1) (some ((⟨0, 0, 0⟩ : DevArg), 6, v5.2.2)) (Option.bind (spec_l17Val v5.1) fun v6 => (cond ((IntKind.i64.wrap (v3)) == 12) (Option.bind (spec_l17In_take v5.2.2 1) fun v12 => (cond (!v12.2.1) (some ((⟨0, 0, 0⟩ : DevArg), 6, v12.2.2)) (Option.bind (idx v12.1 (0)) fun v13 => (spec_l17In_arg_j37 v3 v6 (v12.2.2.b, v12.2.2.at_, (IntKind.i64.wrap (v13))))))) (spec_l17In_arg_j37 v3 v6 (v5.2.2.b, v5.2.2.at_, 0)))))))))))
theorem con_spec_l17In_arg (v1 : l17In) (res_ : (DevArg × Int × l17In)) (h : spec_l17In_arg v1 = some res_) : Con Try.prog C0 43 [.pt 0 0] [.rc [.fz 1 (R e_u8 (v1.b)), .sc (.int .i64 (v1.at_))]]
    (fun x σ' => x = .tup [.agg [.sc (.int .i64 (res_.1.Kind)), .sc (.int .i64 (res_.1.N)), .sc (.int .i64 (res_.1.P))], .sc (.int .i64 (res_.2.1))] ∧ σ' = [.rc [.fz 1 (R e_u8 (res_.2.2.b)), .sc (.int .i64 (res_.2.2.at_))]]) := by
  refine zCon hP 1 [0, 2, 3, 4, 5, 6, 7, 8, 9, 10, 11, 18, 32, 44, 51, 58] [.cell 2 77, .tmp 3] Try.func43 (by unfold Try.f43; rfl) fun Q hQ => ?_
  unfold spec_l17In_arg at h
  refine zS z0 ?_
  obtain ⟨v2, c3H, h⟩ := bind_some' h
  refine zS (zC1 (lC [[0]] (con_spec_l17In_take _ _ _ c3H))) (sem_cut fun k4 hk4 => ?_)
  refine zS z0 ?_
  refine sem_ifh rfl h ?_ ?_ <;> clear h <;> intro h
  · refine zS z0 (r_ret ?_)
    refine r_cR hk4 ?_
    cases h
    refine zAR hQ
  · refine r_skip (r_cN hk4 ?_)
    obtain ⟨v3, h, c8⟩ := bN 0 h
    refine zS (zRF c8) (sem_cut fun k9 hk9 => ?_)
    refine zS zR ?_
    refine sem_ifh rfl h ?_ ?_ <;> clear h <;> intro h
    · refine zS z0 (r_ret ?_)
      refine r_cR hk9 ?_
      cases h
      refine zAR hQ
    · refine r_skip (r_cN hk9 ?_)
      obtain ⟨v4, c13H, h⟩ := bind_some' h
      refine zS (zC1 (lF [] (con_spec_l17Wide _ _ c13H))) ?_
      obtain ⟨v5, c15H, h⟩ := bind_some' h
      refine zS (zC1 (lC [[0]] (con_spec_l17In_take _ _ _ c15H))) (sem_cut fun k16 hk16 => ?_)
      refine zS z0 ?_
      refine sem_ifh rfl h ?_ ?_ <;> clear h <;> intro h
      · refine zS z0 (r_ret ?_)
        refine r_cR hk16 ?_
        cases h
        refine zAR hQ
      · refine r_skip (r_cN hk16 ?_)
        obtain ⟨v6, c20H, h⟩ := bind_some' h
        refine zS (zC1 (lF [] (con_spec_l17Val _ _ c20H))) (zCut (fun (x : ((List Int) × Int × Int)) => ⟨[(2, .pt 1 0), (6, .pt 2 0)], [.rc [.fz 1 (R e_u8 (x.1)), .sc (.int .i64 (x.2.1))], .rc [.sc (.int .i64 (0)), .sc (.int .i64 (0)), .sc (.int .i64 (0))], .rc [.sc (.int .i64 ((IntKind.i64.wrap (v3)))), .sc (.int .i64 (v6)), .sc (.int .i64 (x.2.2))]]⟩) (spec_l17In_arg_j37 v3 v6) res_ ?_ ?_)
        · rintro _ ⟨v9, v10, v11⟩ h
          simp only [spec_l17In_arg_j37] at h
          refine zS z0 (r_ret ?_)
          cases h
          refine zAR hQ
        · intro k30 hk30 J29
          refine zS z0 ?_
          refine sem_ifh rfl h ?_ ?_ <;> clear h <;> intro h
          · obtain ⟨v12, c33H, h⟩ := bind_some' h
            refine zS (zC1 (lC [[0]] (con_spec_l17In_take _ _ _ c33H))) (sem_cut fun k34 hk34 => ?_)
            refine zS z0 ?_
            refine sem_ifh rfl h ?_ ?_ <;> clear h <;> intro h
            · refine zS z0 (r_ret ?_)
              refine r_cR hk34 (r_jR hk30 ?_)
              cases h
              refine zAR hQ
            · refine r_skip (r_cN hk34 ?_)
              obtain ⟨v13, h, c37⟩ := bN 0 h
              refine zU (zRF c37) (zJ J29 [2, 6] () _ h)
          · refine r_skip (zJ J29 [2, 6] () _ h)
noncomputable def spec_l17In_inst_j51 (v3 : Int) (v6 : Int) : ((List Int) × Int × (List DevArg)) → Option (Inst × Int × l17In)
  | (v24, v25, v26) => (some ((⟨(IntKind.i64.wrap (v3)), (IntKind.i64.wrap (v6)), v26⟩ : Inst), 0, (⟨v24, v25⟩ : l17In)))
noncomputable def spec_l17In_inst_s55 (v6 : Int) : ((List Int) × Int × (List DevArg) × Int) → Option (((List Int) × Int × (List DevArg) × Int) ⊕ (((List Int) × Int × Int) ⊕ ((List Int) × Int × (List DevArg))))
  | (v29, v30, v31, v32) => (Option.bind (spec_ElemArity (IntKind.i64.wrap (v6))) fun v39 => (cond (decide (v32 < v39)) (Option.bind (spec_l17In_arg (⟨v29, v30⟩ : l17In)) fun v40 => (cond (decide (v40.2.1 > 0)) (some (.inr (.inl (v40.2.2.b, v40.2.2.at_, v40.2.1)))) (gd (apOk ((v31 ++ [v40.1])).length 24) (some (.inl (v40.2.2.b, v40.2.2.at_, (v31 ++ [v40.1]), (IntKind.i64.wrap (v32 + 1)))))))) (some (.inr (.inr (v29, v30, v31))))))
noncomputable def spec_l17In_inst (v1 : l17In) : Option (Inst × Int × l17In) :=
  (Option.bind (spec_l17In_take v1 1) fun v2 => (cond (!v2.2.1) (some ((⟨0, 0, []⟩ : Inst), 6, v2.2.2)) (Option.bind (idx v2.1 (0)) fun v3 => (cond ((decide ((IntKind.i64.wrap (v3)) < 1)) || (decide ((IntKind.i64.wrap (v3)) > 11))) (some ((⟨0, 0, []⟩ : Inst), 2, v2.2.2)) (Option.bind (spec_l17Has (IntKind.i64.wrap (v3))) fun v4 => (cond (!v4) (some ((⟨(IntKind.i64.wrap (v3)), 0, []⟩ : Inst), 0, v2.2.2)) (Option.bind (spec_l17In_take v2.2.2 1) fun v5 => (cond (!v5.2.1) (some ((⟨0, 0, []⟩ : Inst), 6, v5.2.2)) (Option.bind (idx v5.1 (0)) fun v6 => (Option.bind (spec_l17Known (IntKind.i64.wrap (v3)) (IntKind.i64.wrap (v6))) fun v7 => (cond (!v7) (some ((⟨0, 0, []⟩ : Inst), 2, v5.2.2)) ((loop (spec_l17In_inst_s55 v6) (v5.2.2.b, v5.2.2.at_, [], 0)).bind (Sum.elim (fun v37 => (some ((⟨0, 0, []⟩ : Inst), v37.2.2, (⟨v37.1, v37.2.1⟩ : l17In)))) (fun v38 => (spec_l17In_inst_j51 v3 v6 (v38.1, v38.2.1, v38.2.2))))))))))))))))
theorem con_spec_l17In_inst (v1 : l17In) (res_ : (Inst × Int × l17In)) (h : spec_l17In_inst v1 = some res_) : Con Try.prog C0 18 [.pt 0 0] [.rc [.fz 1 (R e_u8 (v1.b)), .sc (.int .i64 (v1.at_))]]
    (fun x σ' => x = .tup [.agg [.sc (.int .i64 (res_.1.Code)), .sc (.int .i64 (res_.1.One_Op)), .fz 3 (R e_DevArg (res_.1.One_Args))], .sc (.int .i64 (res_.2.1))] ∧ σ' = [.rc [.fz 1 (R e_u8 (res_.2.2.b)), .sc (.int .i64 (res_.2.2.at_))]]) := by
  refine zCon hP 1 [0, 2, 3, 4, 5, 6, 7, 8, 9, 10, 11, 18, 32, 37, 45, 59, 66, 75] [.cell 2 49, .tmp 3] Try.func18 (by unfold Try.f18; rfl) fun Q hQ => ?_
  unfold spec_l17In_inst at h
  refine zS z0 ?_
  obtain ⟨v2, c3H, h⟩ := bind_some' h
  refine zS (zC1 (lC [[0]] (con_spec_l17In_take _ _ _ c3H))) (sem_cut fun k4 hk4 => ?_)
  refine zS z0 ?_
  refine sem_ifh rfl h ?_ ?_ <;> clear h <;> intro h
  · refine zS z0 (r_ret ?_)
    refine r_cR hk4 ?_
    cases h
    refine zARw hQ
  · refine r_skip (r_cN hk4 ?_)
    obtain ⟨v3, h, c8⟩ := bN 0 h
    refine zS (zRF c8) (sem_cut fun k9 hk9 => ?_)
    refine zS zR ?_
    refine sem_ifh rfl h ?_ ?_ <;> clear h <;> intro h
    · refine zS z0 (r_ret ?_)
      refine r_cR hk9 ?_
      cases h
      refine zARw hQ
    · refine r_skip (r_cN hk9 ?_)
      refine sem_cut fun k12 hk12 => ?_
      obtain ⟨v4, c14H, h⟩ := bind_some' h
      refine zS (zC1 (lF [] (con_spec_l17Has _ _ c14H))) ?_
      refine sem_ifh rfl h ?_ ?_ <;> clear h <;> intro h
      · refine zS z0 (r_ret ?_)
        refine r_cR hk12 ?_
        cases h
        refine zARw hQ
      · refine r_skip (r_cN hk12 ?_)
        obtain ⟨v5, c17H, h⟩ := bind_some' h
        refine zS (zC1 (lC [[0]] (con_spec_l17In_take _ _ _ c17H))) (sem_cut fun k18 hk18 => ?_)
        refine zS z0 ?_
        refine sem_ifh rfl h ?_ ?_ <;> clear h <;> intro h
        · refine zS z0 (r_ret ?_)
          refine r_cR hk18 ?_
          cases h
          refine zARw hQ
        · refine r_skip (r_cN hk18 ?_)
          obtain ⟨v6, h, c22⟩ := bN 0 h
          refine zS (zRF c22) (sem_cut fun k23 hk23 => ?_)
          obtain ⟨v7, c25H, h⟩ := bind_some' h
          refine zS (zC1 (lF [] (con_spec_l17Known _ _ _ c25H))) ?_
          refine sem_ifh rfl h ?_ ?_ <;> clear h <;> intro h
          · refine zS z0 (r_ret ?_)
            refine r_cR hk23 ?_
            cases h
            refine zARw hQ
          · refine r_skip (r_cN hk23 ?_)
            refine sem_cutJ (fun (i : P2) (x : ((List Int) × Int × (List DevArg))) => match i with | .a => (⟨[(2, .pt 1 0), (6, .pt 2 0)], [.rc [.fz 1 (R e_u8 (x.1)), .sc (.int .i64 (x.2.1))], .rc [.sc (.int .i64 (0)), .sc (.int .i64 (0)), .sc (.slice none 0 0)], .rc [.sc (.int .i64 ((IntKind.i64.wrap (v3)))), .sc (.int .i64 ((IntKind.i64.wrap (v6)))), .sl 3 0 ((x.2.2).length)], .arr true 3 (R e_DevArg (x.2.2))]⟩ : St) | .b => (⟨[(2, .pt 1 0), (6, .pt 2 0)], [.rc [.fz 1 (R e_u8 (x.1)), .sc (.int .i64 (x.2.1))], .rc [.sc (.int .i64 (0)), .sc (.int .i64 (0)), .sc (.slice none 0 0)], .rc [.sc (.int .i64 ((IntKind.i64.wrap (v3)))), .sc (.int .i64 ((IntKind.i64.wrap (v6)))), .sc (.slice none 0 0)]]⟩ : St)) (fun (i : P2) (x : ((List Int) × Int × (List DevArg))) => (match i with | .a => True | .b => x.2.2 = []) ∧ spec_l17In_inst_j51 v3 v6 x = some res_) ?_ ?_
            · rintro (_ | _) ⟨v24, v25, v26⟩ ⟨hp, h⟩
              · simp only [spec_l17In_inst_j51] at h
                refine zS z0 (r_ret ?_)
                cases h
                refine zAR hQ
              · replace hp : v26 = [] := hp
                subst hp
                simp only [spec_l17In_inst_j51] at h
                try simp only [List.nil_append, List.length_nil, Int.natCast_zero] at h
                refine zS z0 (r_ret ?_)
                cases h
                refine zARw hQ
            · intro k88 hk88 J87
              refine zS z0 (sem_blk fun k90 hk90 => ?_)
              obtain ⟨oq124, hLq124, hKq124⟩ := bind_some' h
              clear h
              refine sem_loopP [0, 2, 6, 9] (fun (i : P2) (x : ((List Int) × Int × (List DevArg) × Int)) => match i with | .a => (⟨[(0, .pt 0 0), (2, .pt 1 0), (6, .pt 2 0), (9, .sc (.int .i64 (x.2.2.2)))], [.rc [.fz 1 (R e_u8 (x.1)), .sc (.int .i64 (x.2.1))], .rc [.sc (.int .i64 (0)), .sc (.int .i64 (0)), .sc (.slice none 0 0)], .rc [.sc (.int .i64 ((IntKind.i64.wrap (v3)))), .sc (.int .i64 ((IntKind.i64.wrap (v6)))), .sl 3 0 ((x.2.2.1).length)], .arr true 3 (R e_DevArg (x.2.2.1))]⟩ : St) | .b => (⟨[(0, .pt 0 0), (2, .pt 1 0), (6, .pt 2 0), (9, .sc (.int .i64 (x.2.2.2)))], [.rc [.fz 1 (R e_u8 (x.1)), .sc (.int .i64 (x.2.1))], .rc [.sc (.int .i64 (0)), .sc (.int .i64 (0)), .sc (.slice none 0 0)], .rc [.sc (.int .i64 ((IntKind.i64.wrap (v3)))), .sc (.int .i64 ((IntKind.i64.wrap (v6)))), .sc (.slice none 0 0)]]⟩ : St)) (fun (i : P2) (x : ((List Int) × Int × (List DevArg) × Int)) => (match i with | .a => True | .b => x.2.2.1 = [])) (spec_l17In_inst_s55 v6) (.b) (v5.2.2.b, v5.2.2.at_, [], 0) hLq124 (by rfl) (by rfl) ⟨?_, rfl⟩ ?_
              · first | exact wkSt_same rfl | (simp (decide := true) only [go_sem, reduceIte, Nat.reduceAdd, Int.reduceToNat, Nat.reduceSub, Nat.reduceMul]; exact wkSt_same rfl)
              · rintro nq124 (_ | _) ⟨v29, v30, v31, v32⟩ xq124 kq124 hkq124 hp h hIq124 hEq124
                · simp only [spec_l17In_inst_s55] at h
                  refine sem_cut fun k125 hk125 => ?_
                  obtain ⟨v39, c127H, h⟩ := bind_some' h
                  refine zS (zC1 (lF [] (con_spec_ElemArity _ _ c127H))) ?_
                  refine sem_ifh rfl h ?_ ?_ <;> clear h <;> intro h
                  · refine r_skip (r_cN hk125 ?_)
                    refine sem_cut fun k128 hk128 => sem_blk fun k129 hk129 => ?_
                    obtain ⟨v40, c131H, h⟩ := bind_some' h
                    refine zS (zC1 (lC [[0]] (con_spec_l17In_arg _ _ c131H))) (sem_cut fun k132 hk132 => ?_)
                    refine zS z0 ?_
                    refine sem_ifh rfl h ?_ ?_ <;> clear h <;> intro h
                    · refine zS z0 (r_ret ?_)
                      refine r_cR hk132 (r_bR hk129 ?_)
                      refine r_cR hk128 ?_
                      replace h := zX h hEq124 hKq124
                      simp only [Sum.elim_inl, Sum.elim_inr] at h
                      refine r_kR hkq124 (r_bR hk90 ?_)
                      refine r_jR hk88 ?_
                      cases h
                      refine zARw hQ
                    · refine r_skip (r_cN hk132 ?_)
                      obtain ⟨g135, h⟩ := gAp h
                      refine zU (zRF g135) (r_bN hk129 ?_)
                      refine r_cN hk128 (zU z0 ?_)
                      refine zB hkq124 h hIq124 (.a) trivial
                  · refine r_exit (r_cE hk125 ?_)
                    replace h := zX h hEq124 hKq124
                    simp only [Sum.elim_inl, Sum.elim_inr] at h
                    refine r_kE hkq124 (r_bE hk90 ?_)
                    refine zJ J87 [2, 6] (.a) (v29, v30, v31) ⟨trivial, h⟩
                · replace hp : v31 = [] := hp
                  subst hp
                  simp only [spec_l17In_inst_s55] at h
                  try simp only [List.nil_append, List.length_nil, Int.natCast_zero] at h
                  refine sem_cut fun k136 hk136 => ?_
                  obtain ⟨v41, c138H, h⟩ := bind_some' h
                  refine zS (zC1 (lF [] (con_spec_ElemArity _ _ c138H))) ?_
                  refine sem_ifh rfl h ?_ ?_ <;> clear h <;> intro h
                  · refine r_skip (r_cN hk136 ?_)
                    refine sem_cut fun k139 hk139 => sem_blk fun k140 hk140 => ?_
                    obtain ⟨v42, c142H, h⟩ := bind_some' h
                    refine zS (zC1 (lC [[0]] (con_spec_l17In_arg _ _ c142H))) (sem_cut fun k143 hk143 => ?_)
                    refine zS z0 ?_
                    refine sem_ifh rfl h ?_ ?_ <;> clear h <;> intro h
                    · refine zS z0 (r_ret ?_)
                      refine r_cR hk143 (r_bR hk140 ?_)
                      refine r_cR hk139 ?_
                      replace h := zX h hEq124 hKq124
                      simp only [Sum.elim_inl, Sum.elim_inr] at h
                      refine r_kR hkq124 (r_bR hk90 ?_)
                      refine r_jR hk88 ?_
                      cases h
                      refine zARw hQ
                    · refine r_skip (r_cN hk143 ?_)
                      obtain ⟨g146, h⟩ := gAp h
                      refine zU (zRF g146) (r_bN hk140 ?_)
                      refine r_cN hk139 (zU z0 ?_)
                      refine zB hkq124 h hIq124 (.a) trivial
                  · refine r_exit (r_cE hk136 ?_)
                    replace h := zX h hEq124 hKq124
                    simp only [Sum.elim_inl, Sum.elim_inr] at h
                    refine r_kE hkq124 (r_bE hk90 ?_)
                    refine zJ J87 [2, 6] (.b) (v29, v30, []) ⟨rfl, h⟩
noncomputable def spec_PicRead_j35 (v11 : Int) : ((List Int) × Int × (List Inst)) → Option ((List Inst) × PicFault)
  | (v22, v23, v24) => (cond (decide (v23 < ((v22).length : Int))) (some ([], (⟨7, v11⟩ : PicFault))) (some (v24, (⟨0, 0⟩ : PicFault))))
noncomputable def spec_PicRead_s39 (v11 : Int) : ((List Int) × Int × (List Inst) × Int) → Option (((List Int) × Int × (List Inst) × Int) ⊕ ((Int × Int) ⊕ ((List Int) × Int × (List Inst))))
  | (v26, v27, v28, v29) => (cond (decide (v29 < v11)) (Option.bind (spec_l17In_inst (⟨v26, v27⟩ : l17In)) fun v33 => (cond (decide (v33.2.1 > 0)) (some (.inr (.inl (v33.2.1, v29)))) (gd (apOk ((v28 ++ [v33.1])).length 40) (some (.inl (v33.2.2.b, v33.2.2.at_, (v28 ++ [v33.1]), (IntKind.i64.wrap (v29 + 1)))))))) (some (.inr (.inr (v26, v27, v28)))))
noncomputable def spec_PicRead (v1 : (List Int)) : Option ((List Inst) × PicFault) :=
  (cond (decide (((v1).length : Int) < 8)) (some ([], (⟨4, 0⟩ : PicFault))) (cond (decide (((v1).length : Int) > 20008)) (some ([], (⟨4, 0⟩ : PicFault))) (Option.bind (idx v1 (0)) fun v2 => (cond (v2 != 83) (some ([], (⟨4, 0⟩ : PicFault))) (Option.bind (idx v1 (1)) fun v3 => (cond (v3 != 116) (some ([], (⟨4, 0⟩ : PicFault))) (Option.bind (prt v1 (2) (4)) fun v4 => (Option.bind (spec_l17Two v4) fun v5 => (cond (v5 != ((v1).length : Int)) (some ([], (⟨4, 0⟩ : PicFault))) (Option.bind (prtL v1 ((IntKind.i64.wrap (((v1).length : Int) - 2)))) fun v6 => (Option.bind (prtH v1 ((IntKind.i64.wrap (((v1).length : Int) - 2)))) fun v7 => (Option.bind (spec_l17Two v6) fun v8 => (Option.bind (spec_PicSum v7) fun v9 => (cond (v8 != (IntKind.i64.wrap (v9))) (some ([], (⟨5, 0⟩ : PicFault))) (Option.bind (prt v1 (4) (6)) fun v10 => (Option.bind (spec_l17Two v10) fun v11 => (cond (decide (v11 > 1000)) (some ([], (⟨1, 0⟩ : PicFault))) (Option.bind (prt v1 (6) ((IntKind.i64.wrap (((v1).length : Int) - 2)))) fun v12 => ((loop (spec_PicRead_s39 v11) (v12, 0, [], 0)).bind (Sum.elim (fun v31 => (some ([], (⟨v31.1, v31.2⟩ : PicFault)))) (fun v32 => (spec_PicRead_j35 v11 (v32.1, v32.2.1, v32.2.2)))))))))))))))))))))))
theorem con_spec_PicRead (v1 : (List Int)) (res_ : ((List Inst) × PicFault)) (h : spec_PicRead v1 = some res_) : Con Try.prog C0 6 [.fz 1 (R e_u8 (v1))] []
    (fun x σ' => x = .tup [.fz 3 (R e_Inst (res_.1)), .agg [.sc (.int .i64 (res_.2.Code)), .sc (.int .i64 (res_.2.At))]] ∧ σ' = []) := by
  refine zCon hP 0 [0, 2, 3, 4, 5, 6, 7, 8, 9, 10, 37, 50, 56, 67, 76, 93] [.tmp 2, .cell 3 26] Try.func6 (by unfold Try.f6; rfl) fun Q hQ => ?_
  unfold spec_PicRead at h
  refine zS z0 (zS z0 ?_)
  refine sem_cut fun k3 hk3 => sem_cut fun k4 hk4 => ?_
  rcases Bool.eq_false_or_eq_true (decide (((v1).length : Int) < 8)) with g5 | g5
  · replace h := cond_t h g5
    refine zU (zRF g5) (r_cN hk4 ?_)
    refine sem_ifT rfl ?_
    try replace h := cond_t h rfl
    refine zS z0 (r_ret ?_)
    refine r_cR hk3 ?_
    cases h
    refine zARw hQ
  · replace h := cond_f h g5
    rcases Bool.eq_false_or_eq_true (decide (((v1).length : Int) > 20008)) with g7 | g7
    · replace h := cond_t h g7
      refine zU (zRF (a2 g5 g7)) (r_cN hk4 ?_)
      refine sem_ifT rfl ?_
      try replace h := cond_t h rfl
      refine zS z0 (r_ret ?_)
      refine r_cR hk3 ?_
      cases h
      refine zARw hQ
    · replace h := cond_f h g7
      obtain ⟨v2, h, c9⟩ := bN 0 h
      rcases Bool.eq_false_or_eq_true (v2 != 83) with g10 | g10
      · replace h := cond_t h g10
        refine zU (zRF (a4 g5 g7 c9 g10)) (r_cN hk4 ?_)
        refine sem_ifT rfl ?_
        try replace h := cond_t h rfl
        refine zS z0 (r_ret ?_)
        refine r_cR hk3 ?_
        cases h
        refine zARw hQ
      · replace h := cond_f h g10
        obtain ⟨v3, h, c12⟩ := bN 1 h
        rcases Bool.eq_false_or_eq_true (v3 != 116) with g13 | g13
        · replace h := cond_t h g13
          refine zU (zRF (a4 g5 g7 c9 (a3 g10 c12 g13))) (r_cN hk4 ?_)
          refine sem_ifT rfl ?_
          try replace h := cond_t h rfl
          refine zS z0 (r_ret ?_)
          refine r_cR hk3 ?_
          cases h
          refine zARw hQ
        · replace h := cond_f h g13
          obtain ⟨v4, c15H, h⟩ := bind_some' h
          obtain ⟨c15A, c15B, c15C, c15D⟩ := prt_some c15H
          try simp only [Int.reduceToNat, Int.toNat_zero, Int.toNat_one, Int.toNat_natCast, List.take_length] at c15D
          obtain ⟨v5, c16H, h⟩ := bind_some' h
          refine zU (zC1F (lF [] (con_spec_l17Two _ _ c16H)) (a4 g5 g7 c9 (a4 g10 c12 g13 (a4 c15A c15B c15C c15D)))) (r_cN hk4 ?_)
          refine sem_ifh rfl h ?_ ?_ <;> clear h <;> intro h
          · refine zS z0 (r_ret ?_)
            refine r_cR hk3 ?_
            cases h
            refine zARw hQ
          · refine r_skip (r_cN hk3 ?_)
            refine sem_cut fun k18 hk18 => ?_
            obtain ⟨v6, c20H, h⟩ := bind_some' h
            obtain ⟨c20A, c20B, c20C⟩ := prtL_some c20H
            try simp only [Int.reduceToNat, Int.toNat_zero, Int.toNat_one, Int.toNat_natCast, List.take_length] at c20C
            obtain ⟨v7, c21H, h⟩ := bind_some' h
            obtain ⟨c21A, c21B, c21C⟩ := prtH_some c21H
            try simp only [Int.reduceToNat, Int.toNat_zero, Int.toNat_one, Int.toNat_natCast, List.take_length] at c21C
            obtain ⟨v8, c22H, h⟩ := bind_some' h
            obtain ⟨v9, c23H, h⟩ := bind_some' h
            refine zS (zPC2F (.take 0 (.take 1 (.take 2 (.take 3 (.take 5 (.take 6 (.take 7 (.take 8 (.last 4 (.last 9 (.take 10 (.take 11 .done)))))))))))) [] (lF [] (con_spec_l17Two _ _ c22H)) (lF [] (con_spec_PicSum _ _ c23H)) (a4 c20A c20B c20C (a3 c21A c21B c21C))) ?_
            refine sem_ifh rfl h ?_ ?_ <;> clear h <;> intro h
            · refine zS z0 (r_ret ?_)
              refine r_cR hk18 ?_
              cases h
              refine zARw hQ
            · refine r_skip (r_cN hk18 ?_)
              obtain ⟨v10, c26H, h⟩ := bind_some' h
              obtain ⟨c26A, c26B, c26C, c26D⟩ := prt_some c26H
              try simp only [Int.reduceToNat, Int.toNat_zero, Int.toNat_one, Int.toNat_natCast, List.take_length] at c26D
              obtain ⟨v11, c27H, h⟩ := bind_some' h
              refine zS (zC1F (lF [] (con_spec_l17Two _ _ c27H)) (a4 c26A c26B c26C c26D)) (sem_cut fun k28 hk28 => ?_)
              refine zS z0 ?_
              refine sem_ifh rfl h ?_ ?_ <;> clear h <;> intro h
              · refine zS z0 (r_ret ?_)
                refine r_cR hk28 ?_
                cases h
                refine zARw hQ
              · refine r_skip (r_cN hk28 ?_)
                obtain ⟨v12, c32H, h⟩ := bind_some' h
                obtain ⟨c32A, c32B, c32C, c32D⟩ := prt_some c32H
                try simp only [Int.reduceToNat, Int.toNat_zero, Int.toNat_one, Int.toNat_natCast, List.take_length] at c32D
                refine zS (zRF (a4 c32A c32B c32C c32D)) (zS z0 ?_)
                refine zCut (fun (x : ((List Int) × Int × (List Inst))) => ⟨[(3, .pt 0 0), (5, .sc (.int .i64 (v11))), (6, .pt 1 0), (7, .sl 2 0 ((x.2.2).length))], [.rc [.sc (.int .i64 (0)), .sc (.int .i64 (0))], .rc [.fz 1 (R e_u8 (x.1)), .sc (.int .i64 (x.2.1))], .arr true 3 (R e_Inst (x.2.2))]⟩) (spec_PicRead_j35 v11) res_ ?_ ?_
                · rintro _ ⟨v22, v23, v24⟩ h
                  simp only [spec_PicRead_j35] at h
                  refine sem_cut fun k67 hk67 => zS zR ?_
                  refine sem_ifh rfl h ?_ ?_ <;> clear h <;> intro h
                  · refine zS z0 (r_ret ?_)
                    refine r_cR hk67 ?_
                    cases h
                    refine zARw hQ
                  · refine r_skip (r_cN hk67 ?_)
                    refine zS z0 (r_ret ?_)
                    cases h
                    refine zAR hQ
                · intro k72 hk72 J71
                  refine zS z0 (sem_blk fun k74 hk74 => ?_)
                  obtain ⟨oq95, hLq95, hKq95⟩ := bind_some' h
                  clear h
                  refine sem_loopP [3, 5, 6, 7, 8] (fun (_ : Unit) (x : ((List Int) × Int × (List Inst) × Int)) => (⟨[(3, .pt 0 0), (5, .sc (.int .i64 (v11))), (6, .pt 1 0), (7, .sl 2 0 ((x.2.2.1).length)), (8, .sc (.int .i64 (x.2.2.2)))], [.rc [.sc (.int .i64 (0)), .sc (.int .i64 (0))], .rc [.fz 1 (R e_u8 (x.1)), .sc (.int .i64 (x.2.1))], .arr true 3 (R e_Inst (x.2.2.1))]⟩ : St)) (fun (_ : Unit) (x : ((List Int) × Int × (List Inst) × Int)) => True) (spec_PicRead_s39 v11) () (v12, 0, [], 0) hLq95 (by rfl) (by rfl) ⟨?_, trivial⟩ ?_
                  · first | exact wkSt_same rfl | (simp (decide := true) only [go_sem, reduceIte, Nat.reduceAdd, Int.reduceToNat, Nat.reduceSub, Nat.reduceMul]; exact wkSt_same rfl)
                  · rintro nq95 _ ⟨v26, v27, v28, v29⟩ xq95 kq95 hkq95 - h hIq95 hEq95
                    simp only [spec_PicRead_s39] at h
                    refine sem_cut fun k96 hk96 => zS z0 ?_
                    refine sem_ifh rfl h ?_ ?_ <;> clear h <;> intro h
                    · refine r_skip (r_cN hk96 ?_)
                      refine sem_cut fun k98 hk98 => sem_blk fun k99 hk99 => ?_
                      obtain ⟨v33, c101H, h⟩ := bind_some' h
                      refine zS (zC1 (lC [[0]] (con_spec_l17In_inst _ _ c101H))) (sem_cut fun k102 hk102 => ?_)
                      refine zS z0 ?_
                      refine sem_ifh rfl h ?_ ?_ <;> clear h <;> intro h
                      · refine zS z0 (r_ret ?_)
                        refine r_cR hk102 (r_bR hk99 ?_)
                        refine r_cR hk98 ?_
                        replace h := zX h hEq95 hKq95
                        simp only [Sum.elim_inl, Sum.elim_inr] at h
                        refine r_kR hkq95 (r_bR hk74 ?_)
                        refine r_jR hk72 ?_
                        cases h
                        refine zARw hQ
                      · refine r_skip (r_cN hk102 ?_)
                        obtain ⟨g105, h⟩ := gAp h
                        refine zU (zRF g105) (r_bN hk99 ?_)
                        refine r_cN hk98 (zU z0 ?_)
                        refine zB hkq95 h hIq95 () trivial
                    · refine r_exit (r_cE hk96 ?_)
                      replace h := zX h hEq95 hKq95
                      simp only [Sum.elim_inl, Sum.elim_inr] at h
                      refine r_kE hkq95 (r_bE hk74 ?_)
                      refine zJ J71 [3, 5, 6, 7] () _ h
noncomputable def laws_FnPicTop_j25 (v2 : (List Int)) : Unit → Option Bool
  | () => (Option.bind (spec_DrawPicRead v2) fun v8 => (Option.bind (impl_PicRead v8) fun v9 => (Option.bind (spec_PicRead v8) fun v10 => (cond (!((v9.2.Code == v10.2.Code) && (v9.2.At == v10.2.At))) (some false) (cond (decide (v9.2.Code > 0)) (some (((v9.1).length : Int) == 0)) (Option.bind (impl_PicMake v9.1) fun v11 => (some ((v11.2.Code == 0) && ((bstr v11.1).toList == (bstr v8).toList)))))))))
noncomputable def laws_FnPicTop (v1 : (List Int)) (v2 : (List Int)) : Option Bool :=
  (cond ((decide (((v1).length : Int) > 1048576)) || (decide (((v2).length : Int) > 1048576))) (some true) (Option.bind (spec_DrawPicMake v1) fun v3 => (Option.bind (impl_PicMake v3) fun v4 => (Option.bind (spec_PicMake v3) fun v5 => (cond (!((v4.2.Code == v5.2.Code) && (v4.2.At == v5.2.At))) (some false) (cond (v4.2.Code == 0) (Option.bind (impl_PicRead v4.1) fun v12 => (cond (v12.2.Code == 0) (cond (v12.2.At == 0) (Option.bind (impl_ListSame v12.1 v3) fun v13 => (cond ((!v13) || (decide (((v4.1).length : Int) > 20008))) (some false) (laws_FnPicTop_j25 v2 ()))) (some false)) (some false))) (cond (((decide (((v4.1).length : Int) > 0)) || (decide (v4.2.At < 0))) || (decide (v4.2.At ≥ ((v3).length : Int)))) (some false) (laws_FnPicTop_j25 v2 ()))))))))
theorem con_laws_FnPicTop (v1 : (List Int)) (v2 : (List Int)) (res_ : Bool) (h : laws_FnPicTop v1 v2 = some res_) : Con Try.prog C0 4 [.fz 1 (R e_u8 (v1)), .fz 1 (R e_u8 (v2))] []
    (fun x σ' => x = .sc (.bool (res_)) ∧ σ' = []) := by
  refine zCon hP 0 [0, 1, 4, 5, 6, 7, 9, 10, 11, 12, 13, 14, 16, 17, 18, 26, 41, 44, 63, 78, 93, 96] [.tmp 4] Try.func4 (by unfold Try.f4; rfl) fun Q hQ => ?_
  unfold laws_FnPicTop at h
  refine zS z0 (sem_cut fun k2 hk2 => ?_)
  refine zS zR ?_
  refine sem_ifh rfl h ?_ ?_ <;> clear h <;> intro h
  · refine zS z0 (r_ret ?_)
    refine r_cR hk2 ?_
    cases h
    refine zAR hQ
  · refine r_skip (r_cN hk2 ?_)
    obtain ⟨v3, c6H, h⟩ := bind_some' h
    refine zS (zC1 (lC [] (con_spec_DrawPicMake _ _ c6H))) ?_
    obtain ⟨v4, c8H, h⟩ := bind_some' h
    refine zS (zC1 (lC [] (con_impl_PicMake _ _ c8H))) ?_
    obtain ⟨v5, c10H, h⟩ := bind_some' h
    refine zS (zC1 (lC [] (con_spec_PicMake _ _ c10H))) (sem_cut fun k11 hk11 => ?_)
    refine zS z0 ?_
    refine sem_ifh rfl h ?_ ?_ <;> clear h <;> intro h
    · refine zS z0 (r_ret ?_)
      refine r_cR hk11 ?_
      cases h
      refine zAR hQ
    · refine r_skip (r_cN hk11 ?_)
      refine zCut (fun (x : Unit) => ⟨[(1, .fz 1 (R e_u8 (v2)))], []⟩) (laws_FnPicTop_j25 v2) res_ ?_ ?_
      · rintro _ _ h
        simp only [laws_FnPicTop_j25] at h
        obtain ⟨v8, c27H, h⟩ := bind_some' h
        refine zS (zC1 (lC [] (con_spec_DrawPicRead _ _ c27H))) ?_
        obtain ⟨v9, c29H, h⟩ := bind_some' h
        refine zS (zC1 (lC [] (con_impl_PicRead _ _ c29H))) ?_
        obtain ⟨v10, c31H, h⟩ := bind_some' h
        refine zS (zC1 (lC [] (con_spec_PicRead _ _ c31H))) (sem_cut fun k32 hk32 => ?_)
        refine zS z0 ?_
        refine sem_ifh rfl h ?_ ?_ <;> clear h <;> intro h
        · refine zS z0 (r_ret ?_)
          refine r_cR hk32 ?_
          cases h
          refine zAR hQ
        · refine r_skip (r_cN hk32 ?_)
          refine sem_cut fun k35 hk35 => zS z0 ?_
          refine sem_ifh rfl h ?_ ?_ <;> clear h <;> intro h
          · refine zS z0 (r_ret ?_)
            refine r_cR hk35 ?_
            cases h
            refine zAR hQ
          · refine r_skip (r_cN hk35 ?_)
            obtain ⟨v11, c39H, h⟩ := bind_some' h
            refine zS (zC1 (lC [] (con_impl_PicMake _ _ c39H))) (zS zR ?_)
            refine r_ret ?_
            cases h
            refine zAR hQ
      · intro k42 hk42 J41
        refine zS z0 ?_
        refine sem_ifh rfl h ?_ ?_ <;> clear h <;> intro h
        · obtain ⟨v12, c45H, h⟩ := bind_some' h
          refine zS (zC1 (lC [] (con_impl_PicRead _ _ c45H))) (sem_cut fun k46 hk46 => ?_)
          rcases Bool.eq_false_or_eq_true (v12.2.Code == 0) with g47 | g47
          · replace h := cond_t h g47
            rcases Bool.eq_false_or_eq_true (v12.2.At == 0) with g48 | g48
            · replace h := cond_t h g48
              obtain ⟨v13, c49H, h⟩ := bind_some' h
              refine zU (zC1F (lF [] (con_impl_ListSame _ _ _ c49H)) (a2 g47 g48)) (r_cN hk46 ?_)
              refine sem_ifh rfl h ?_ ?_ <;> clear h <;> intro h
              · refine zS z0 (r_ret ?_)
                refine r_jR hk42 ?_
                cases h
                refine zAR hQ
              · refine r_skip (zJ J41 [1] () _ h)
            · replace h := cond_f h g48
              refine zU (zRF (a2 g47 g48)) (r_cN hk46 ?_)
              refine sem_ifT rfl ?_
              try replace h := cond_t h rfl
              refine zS z0 (r_ret ?_)
              refine r_jR hk42 ?_
              cases h
              refine zAR hQ
          · replace h := cond_f h g47
            refine zU (zRF g47) (r_cN hk46 ?_)
            refine sem_ifT rfl ?_
            try replace h := cond_t h rfl
            refine zS z0 (r_ret ?_)
            refine r_jR hk42 ?_
            cases h
            refine zAR hQ
        · refine zS zR ?_
          refine sem_ifh rfl h ?_ ?_ <;> clear h <;> intro h
          · refine zS z0 (r_ret ?_)
            refine r_jR hk42 ?_
            cases h
            refine zAR hQ
          · refine r_skip (zJ J41 [1] () _ h)

end Go.AM
