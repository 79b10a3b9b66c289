/- Pure functions and their contracts. Conditions: none. -/
import Derived.Test.YtbmoclfnkefomaaDoorAmQa6
set_option linter.unusedSimpArgs false
set_option linter.unusedVariables false
set_option maxRecDepth 10000
set_option maxHeartbeats 4000000
namespace Go.AM
open Go Go.Proofs
noncomputable def impl_CmpFlip (v1 : Int) : Option Int :=
  (Option.bind (impl_isCmp v1) fun v2 => (cond (!v2) (some 0) (Option.bind (idx pt_cmpFlips (v1)) fun v3 => (some v3))))
theorem con_impl_CmpFlip (v1 : Int) (res_ : Int) (h : impl_CmpFlip v1 = some res_) : Con Tryd.prog C0 63 [.sc (.int .i64 (v1))] []
    (fun x σ' => x = .sc (.int .i64 (res_)) ∧ σ' = []) := by
  refine zCon hP 0 [0, 2, 5] [.tmp 2] Tryd.func63 (by unfold Tryd.f63; rfl) fun Q hQ => ?_
  unfold impl_CmpFlip at h
  refine zS z0 (sem_cut fun k2 hk2 => ?_)
  obtain ⟨v2, c4H, h⟩ := bind_some' h
  refine zS (zC1 (lF [] (con_impl_isCmp _ _ c4H))) ?_
  refine sem_ifh rfl h ?_ ?_ <;> clear h <;> intro h
  · refine zS z0 (r_ret ?_)
    refine r_cR hk2 ?_
    cases h
    refine zAR hQ
  · refine r_skip (r_cN hk2 ?_)
    obtain ⟨v3, h, c7⟩ := bI h
    refine zS (zRF c7) (r_ret ?_)
    cases h
    refine zAR hQ
noncomputable def impl_PeepTurn_j5 (v2 : Elem) : Int → Option (Elem × Bool)
  | v6 => (some ((⟨v6, v2.Args⟩ : Elem), true))
noncomputable def impl_PeepTurn (v1 : Elem) : Option (Elem × Bool) :=
  (Option.bind (impl_Elem_copyOf v1) fun v2 => (Option.bind (impl_ElemIsContact v1) fun v7 => (cond (!v7) (some ((⟨0, []⟩ : Elem), false)) (cond (v1.Op == 1) (impl_PeepTurn_j5 v2 2) (cond (v1.Op == 2) (impl_PeepTurn_j5 v2 1) (Option.bind (impl_Elem_wholes v1) fun v8 => (cond v8 (Option.bind (impl_CmpFlip (IntKind.i64.wrap ((IntKind.i64.wrap (v1.Op - 5)) + 1))) fun v9 => (impl_PeepTurn_j5 v2 (IntKind.i64.wrap ((IntKind.i64.wrap (v9 - 1)) + 5)))) (some ((⟨0, []⟩ : Elem), false)))))))))
theorem con_impl_PeepTurn (v1 : Elem) (res_ : (Elem × Bool)) (h : impl_PeepTurn v1 = some res_) : Con Tryd.prog C0 43 [.agg [.sc (.int .i64 (v1.Op)), .fz 3 (R e_DevArg (v1.Args))]] []
    (fun x σ' => x = .tup [.agg [.sc (.int .i64 (res_.1.Op)), .fz 3 (R e_DevArg (res_.1.Args))], .sc (.bool (res_.2))] ∧ σ' = []) := by
  refine zCon hP 0 [0, 1, 2, 3, 4, 8, 13, 18, 23] [.cell 2 42, .tmp 3] Tryd.func43 (by unfold Tryd.f43; rfl) fun Q hQ => ?_
  unfold impl_PeepTurn at h
  refine zS z0 ?_
  obtain ⟨v2, c3H, h⟩ := bind_some' h
  refine zS (zC1 (lC [] (con_impl_Elem_copyOf _ _ c3H))) (zCut (fun (x : Int) => ⟨[(2, .pt 0 0), (4, .pt 1 0)], [.rc [.sc (.int .i64 (0)), .sc (.slice none 0 0)], .rc [.sc (.int .i64 (x)), .fz 3 (R e_DevArg (v2.Args))]]⟩) (impl_PeepTurn_j5 v2) res_ ?_ ?_)
  · rintro _ v6 h
    simp only [impl_PeepTurn_j5] at h
    refine zS z0 (r_ret ?_)
    cases h
    refine zAR hQ
  · intro k16 hk16 J15
    refine sem_blk fun k17 hk17 => ?_
    obtain ⟨v7, c19H, h⟩ := bind_some' h
    refine zS (zC1 (lF [] (con_impl_ElemIsContact _ _ c19H))) ?_
    refine sem_ifh rfl h ?_ ?_ <;> clear h <;> intro h
    · refine zS z0 (r_ret ?_)
      refine r_bR hk17 (r_jR hk16 ?_)
      cases h
      refine zARw hQ
    · refine zS z0 ?_
      refine sem_ifh rfl h ?_ ?_ <;> clear h <;> intro h
      · refine zU z0 (r_bN hk17 ?_)
        refine zJ J15 [2, 4] () _ h
      · refine zS z0 ?_
        refine sem_ifh rfl h ?_ ?_ <;> clear h <;> intro h
        · refine zU z0 (r_bN hk17 ?_)
          refine zJ J15 [2, 4] () _ h
        · obtain ⟨v8, c24H, h⟩ := bind_some' h
          refine zS (zC1 (lF [] (con_impl_Elem_wholes _ _ c24H))) ?_
          refine sem_ifh rfl h ?_ ?_ <;> clear h <;> intro h
          · obtain ⟨v9, c25H, h⟩ := bind_some' h
            refine zU (zC1 (lF [] (con_impl_CmpFlip _ _ c25H))) (r_bN hk17 ?_)
            refine zJ J15 [2, 4] () _ h
          · refine zS z0 (r_ret ?_)
            refine r_bR hk17 (r_jR hk16 ?_)
            cases h
            refine zARw hQ
noncomputable def slices_Equal_impl_DevArg_impl_DevArg_j11 : Unit → Option Bool
  | () => (some true)
noncomputable def slices_Equal_impl_DevArg_impl_DevArg_s15 (v1 : (List DevArg)) (v2 : (List DevArg)) : Int → Option (Int ⊕ (Unit ⊕ Unit))
  | v14 => (cond (decide (v14 < ((v1).length : Int))) (Option.bind (idx v1 (v14)) fun v19 => (Option.bind (idx v2 (v14)) fun v20 => (cond (!((v19.Kind == v20.Kind) && ((v19.N == v20.N) && (v19.P == v20.P)))) (some (.inr (.inl ()))) (some (.inl (IntKind.i64.wrap (v14 + 1))))))) (some (.inr (.inr ()))))
noncomputable def slices_Equal_impl_DevArg_impl_DevArg (v1 : (List DevArg)) (v2 : (List DevArg)) : Option Bool :=
  (cond (((v1).length : Int) != ((v2).length : Int)) (some false) ((loop (slices_Equal_impl_DevArg_impl_DevArg_s15 v1 v2) 0).bind (Sum.elim (fun v17 => (some false)) (fun v18 => (slices_Equal_impl_DevArg_impl_DevArg_j11 ())))))
theorem con_slices_Equal_impl_DevArg_impl_DevArg (v1 : (List DevArg)) (v2 : (List DevArg)) (res_ : Bool) (h : slices_Equal_impl_DevArg_impl_DevArg v1 v2 = some res_) : Con Tryd.prog C0 29 [.fz 3 (R e_DevArg (v1)), .fz 3 (R e_DevArg (v2))] []
    (fun x σ' => x = .sc (.bool (res_)) ∧ σ' = []) := by
  refine zCon hP 0 [0, 1, 4, 5, 10, 12, 13, 14, 24] [.tmp 4] Tryd.func29 (by unfold Tryd.f29; rfl) fun Q hQ => ?_
  unfold slices_Equal_impl_DevArg_impl_DevArg at h
  refine zS z0 (sem_cut fun k2 hk2 => ?_)
  refine zS z0 ?_
  refine sem_ifh rfl h ?_ ?_ <;> clear h <;> intro h
  · refine zS z0 (r_ret ?_)
    refine r_cR hk2 ?_
    cases h
    refine zAR hQ
  · refine r_skip (r_cN hk2 ?_)
    refine zCut (fun (x : Unit) => ⟨[], []⟩) slices_Equal_impl_DevArg_impl_DevArg_j11 res_ ?_ ?_
    · rintro _ _ h
      simp only [slices_Equal_impl_DevArg_impl_DevArg_j11] at h
      refine zS z0 (r_ret ?_)
      cases h
      refine zAR hQ
    · intro k37 hk37 J36
      refine zS z0 (sem_blk fun k39 hk39 => ?_)
      obtain ⟨oq58, hLq58, hKq58⟩ := bind_some' h
      clear h
      refine sem_loopP [0, 1, 12, 13] (fun (_ : Unit) (x : Int) => (⟨[(0, .fz 3 (R e_DevArg (v1))), (1, .fz 3 (R e_DevArg (v2))), (12, .sc (.int .i64 (((v1).length : Int)))), (13, .sc (.int .i64 (x)))], []⟩ : St)) (fun (_ : Unit) (x : Int) => True) (slices_Equal_impl_DevArg_impl_DevArg_s15 v1 v2) () 0 hLq58 (by rfl) (by rfl) ⟨?_, trivial⟩ ?_
      · first | exact wkSt_same rfl | (simp (decide := true) only [go_sem, reduceIte, Nat.reduceAdd, Int.reduceToNat, Nat.reduceSub, Nat.reduceMul]; exact wkSt_same rfl)
      · rintro nq58 _ v14 xq58 kq58 hkq58 - h hIq58 hEq58
        simp only [slices_Equal_impl_DevArg_impl_DevArg_s15] at h
        refine zS z0 (sem_cut fun k60 hk60 => ?_)
        refine sem_ifh rfl h ?_ ?_ <;> clear h <;> intro h
        · refine r_skip (r_cN hk60 ?_)
          refine sem_cut fun k61 hk61 => sem_blk fun k62 hk62 => zS z0 ?_
          obtain ⟨v19, h, c65⟩ := bI h
          obtain ⟨v20, h, c66⟩ := bI h
          refine zS (zRF (a2 c65 c66)) ?_
          refine sem_ifh rfl h ?_ ?_ <;> clear h <;> intro h
          · refine zS z0 (r_ret ?_)
            refine r_bR hk62 (r_cR hk61 ?_)
            replace h := zX h hEq58 hKq58
            simp only [Sum.elim_inl, Sum.elim_inr] at h
            refine r_kR hkq58 (r_bR hk39 ?_)
            refine r_jR hk37 ?_
            cases h
            refine zAR hQ
          · refine r_skip (r_bN hk62 ?_)
            refine r_cN hk61 (zU z0 ?_)
            refine zB hkq58 h hIq58 () trivial
        · refine r_exit (r_cE hk60 ?_)
          replace h := zX h hEq58 hKq58
          simp only [Sum.elim_inl, Sum.elim_inr] at h
          refine r_kE hkq58 (r_bE hk39 ?_)
          refine zJ J36 [] () _ h
noncomputable def impl_elemSame (v1 : Elem) (v2 : Elem) : Option Bool :=
  (cond (v1.Op == v2.Op) (Option.bind (slices_Equal_impl_DevArg_impl_DevArg v1.Args v2.Args) fun v3 => (some v3)) (some false))
theorem con_impl_elemSame (v1 : Elem) (v2 : Elem) (res_ : Bool) (h : impl_elemSame v1 v2 = some res_) : Con Tryd.prog C0 18 [.agg [.sc (.int .i64 (v1.Op)), .fz 3 (R e_DevArg (v1.Args))], .agg [.sc (.int .i64 (v2.Op)), .fz 3 (R e_DevArg (v2.Args))]] []
    (fun x σ' => x = .sc (.bool (res_)) ∧ σ' = []) := by
  refine zCon hP 0 [0, 1, 2, 3, 4] [.tmp 4] Tryd.func18 (by unfold Tryd.f18; rfl) fun Q hQ => ?_
  unfold impl_elemSame at h
  refine zS z0 (sem_cut fun k2 hk2 => ?_)
  rcases Bool.eq_false_or_eq_true (v1.Op == v2.Op) with g3 | g3
  · replace h := cond_t h g3
    obtain ⟨v3, c4H, h⟩ := bind_some' h
    refine zU (zC1F (lF [] (con_slices_Equal_impl_DevArg_impl_DevArg _ _ _ c4H)) g3) (r_cN hk2 ?_)
    refine r_ret ?_
    cases h
    refine zAR hQ
  · replace h := cond_f h g3
    refine zU (zRF g3) (r_cN hk2 ?_)
    refine r_ret ?_
    cases h
    refine zAR hQ
noncomputable def impl_shorter_j108 (v2 : Inst) : Bool → Option ((List Inst) × Int)
  | v45 => (cond v45 (some ([v2], 2)) (some ([], (-1))))
noncomputable def impl_shorter_j102 (v2 : Inst) (v33 : Int) (v34 : Int) (v35 : (List DevArg)) : Bool → Option ((List Inst) × Int)
  | v42 => (cond v42 (some ([v2], 2)) (cond (v2.Code == 10) (cond (v33 == 10) (Option.bind (impl_elemSame (⟨v2.One_Op, v2.One_Args⟩ : Elem) (⟨v34, v35⟩ : Elem)) fun v46 => (cond v46 (Option.bind (slices_Contains_int_int pt_once v2.One_Op) fun v47 => (impl_shorter_j108 v2 v47)) (impl_shorter_j108 v2 false))) (impl_shorter_j108 v2 false)) (impl_shorter_j108 v2 false)))
noncomputable def impl_shorter_j96 (v2 : Inst) (v33 : Int) (v34 : Int) (v35 : (List DevArg)) : (Bool × Bool) → Option ((List Inst) × Int)
  | (v38, v39) => (cond v39 (some ([(⟨1, v34, v35⟩ : Inst)], 2)) (Option.bind (impl_in v2.Code 1 3) fun v48 => (cond v48 (cond v38 (Option.bind (impl_elemSame (⟨v2.One_Op, v2.One_Args⟩ : Elem) (⟨v34, v35⟩ : Elem)) fun v49 => (impl_shorter_j102 v2 v33 v34 v35 (((v49 && (v2.One_Op != 3)) && (v2.One_Op != 4)) && ((v2.Code == 1) || (v2.Code == v33))))) (impl_shorter_j102 v2 v33 v34 v35 false)) (impl_shorter_j102 v2 v33 v34 v35 false))))
noncomputable def impl_shorter_j80 (v2 : Inst) (v33 : Int) (v34 : Int) (v35 : (List DevArg)) : Unit → Option ((List Inst) × Int)
  | () => (cond (v2.Code == 1) (Option.bind (impl_PeepSure (⟨v2.One_Op, v2.One_Args⟩ : Elem)) fun v50 => (cond (v50 == 1) (cond (v33 == 2) (impl_shorter_j96 v2 v33 v34 v35 (true, true)) (impl_shorter_j96 v2 v33 v34 v35 ((v33 == 3), ((v50 == (-1)) && (v33 == 3))))) (impl_shorter_j96 v2 v33 v34 v35 (((v33 == 2) || (v33 == 3)), ((v50 == (-1)) && (v33 == 3)))))) (impl_shorter_j96 v2 v33 v34 v35 (((v33 == 2) || (v33 == 3)), false)))
noncomputable def impl_shorter_j51 (v2 : Inst) : (Int × Int × (List DevArg)) → Option ((List Inst) × Int)
  | (v33, v34, v35) => (cond ((v2.Code == 6) && (v33 == 6)) (some ([], 2)) (cond ((v2.Code == 1) && (v33 == 4)) (some ([(⟨2, v2.One_Op, v2.One_Args⟩ : Inst)], 2)) (cond ((v2.Code == 1) && (v33 == 5)) (some ([(⟨3, v2.One_Op, v2.One_Args⟩ : Inst)], 2)) (cond ((v2.Code == 1) && (v33 == 6)) (Option.bind (impl_PeepTurn (⟨v2.One_Op, v2.One_Args⟩ : Elem)) fun v51 => (cond v51.2 (some ([(⟨1, v51.1.Op, v51.1.Args⟩ : Inst)], 2)) (impl_shorter_j80 v2 v33 v34 v35 ()))) (impl_shorter_j80 v2 v33 v34 v35 ())))))
noncomputable def impl_shorter_j15 (v2 : Inst) : (List Inst) → Option ((List Inst) × Int)
  | v31 => (cond (decide (((v31).length : Int) > 1)) (Option.bind (idx v31 (1)) fun v52 => (impl_shorter_j51 v2 (v52.Code, v52.One_Op, v52.One_Args))) (impl_shorter_j51 v2 (0, 0, [])))
noncomputable def impl_shorter_j41 (v2 : Inst) (v60 : Int) (v61 : (List Inst)) : ((List Inst) × Bool) → Option ((List Inst) × Int)
  | (v67, v68) => (cond v68 (Option.bind (slices_Clone_impl_Inst_impl_Inst v61) fun v69 => (some (v69, (IntKind.i64.wrap (v60 + 1))))) (impl_shorter_j15 v2 v67))
noncomputable def impl_shorter_j35 (v2 : Inst) (v60 : Int) (v61 : (List Inst)) : ((List Inst) × Bool) → Option ((List Inst) × Int)
  | (v63, v64) => (cond v64 (Option.bind (slices_Clone_impl_Inst_impl_Inst v61) fun v65 => (gd (apOk ((v65 ++ [v2])).length 40) (gd (apOk ([v2]).length 40) (some ((v65 ++ [v2]), (IntKind.i64.wrap (v60 + 1))))))) (cond (decide (((v61).length : Int) > 0)) (Option.bind (impl_shorter_1 v60 v63) fun v70 => (impl_shorter_j41 v2 v60 v61 (v70.2, (v70.1 == 9)))) (impl_shorter_j41 v2 v60 v61 (v63, false))))
noncomputable def impl_shorter_j21 (v2 : Inst) : ((List Inst) × Int) → Option ((List Inst) × Int)
  | (v59, v60) => (Option.bind (prt v59 (1) (v60)) fun v61 => (cond (decide (((v61).length : Int) > 0)) (Option.bind (impl_shorter_1 v60 v59) fun v71 => (impl_shorter_j35 v2 v60 v61 (v71.2, (v71.1 == 8)))) (impl_shorter_j35 v2 v60 v61 (v59, false))))
noncomputable def impl_shorter_s23 : ((List Inst) × Int) → Option (((List Inst) × Int) ⊕ ((List Inst) × Int))
  | (v73, v74) => (Option.bind (impl_shorter_1 v74 v73) fun v77 => (cond (v77.1 == 10) (some (.inl (v77.2, (IntKind.i64.wrap (v74 + 1))))) (some (.inr (v77.2, v74)))))
noncomputable def impl_shorter_j8 (v1 : (List Inst)) (v2 : Inst) : Bool → Option ((List Inst) × Int)
  | v5 => (cond v5 (some ([], 1)) (cond (v2.Code == 7) ((loop impl_shorter_s23 (v1, 1)).bind (fun v76 => (impl_shorter_j21 v2 (v76.1, v76.2)))) (impl_shorter_j15 v2 v1)))
noncomputable def impl_shorter (v1 : (List Inst)) : Option ((List Inst) × Int) :=
  (Option.bind (idx v1 (0)) fun v2 => (cond (v2.Code == 2) (Option.bind (impl_PeepSure (⟨v2.One_Op, v2.One_Args⟩ : Elem)) fun v78 => (cond (v78 == 1) (impl_shorter_j8 v1 v2 true) (cond (v2.Code == 3) (impl_shorter_j8 v1 v2 (v78 == (-1))) (impl_shorter_j8 v1 v2 false)))) (cond (v2.Code == 3) (Option.bind (impl_PeepSure (⟨v2.One_Op, v2.One_Args⟩ : Elem)) fun v79 => (impl_shorter_j8 v1 v2 (v79 == (-1)))) (impl_shorter_j8 v1 v2 false))))
theorem con_impl_shorter (v1 : (List Inst)) (res_ : ((List Inst) × Int)) (h : impl_shorter v1 = some res_) : Con Tryd.prog C0 24 [.fz 3 (R e_Inst (v1))] []
    (fun x σ' => x = .tup [.fz 3 (R e_Inst (res_.1)), .sc (.int .i64 (res_.2))] ∧ σ' = []) := by
  refine zCon hP 0 [0, 1, 2, 3, 4, 5, 6, 7, 8, 9, 10, 11, 35, 38, 42, 48, 65, 82, 94, 103, 116, 136, 143, 147, 177, 217] [.tmp 2, .tmp 3] Tryd.func24 (by unfold Tryd.f24; rfl) fun Q hQ => ?_
  unfold impl_shorter at h
  refine zS z0 (zS z0 ?_)
  obtain ⟨v2, h, c4⟩ := bN 0 h
  refine zS (zRF c4) (sem_cut fun k5 hk5 => ?_)
  refine zCut (fun (x : Bool) => ⟨[(1, .pt 0 0), (4, .clo 40 [(0, 0)]), (5, .pt 1 0), (35, .sc (.bool (x)))], [.rc [.fz 3 (R e_Inst (v1))], .rc [.sc (.int .i64 (v2.Code)), .sc (.int .i64 (v2.One_Op)), .fz 3 (R e_DevArg (v2.One_Args))]]⟩) (impl_shorter_j8 v1 v2) res_ ?_ ?_
  · rintro _ v5 h
    simp only [impl_shorter_j8] at h
    refine sem_ifh rfl h ?_ ?_ <;> clear h <;> intro h
    · refine zS z0 (r_ret ?_)
      refine r_cR hk5 ?_
      cases h
      refine zARw hQ
    · refine r_skip (r_cN hk5 ?_)
      refine zCut (fun (x : (List Inst)) => ⟨[(1, .pt 0 0), (5, .pt 1 0)], [.rc [.fz 3 (R e_Inst (x))], .rc [.sc (.int .i64 (v2.Code)), .sc (.int .i64 (v2.One_Op)), .fz 3 (R e_DevArg (v2.One_Args))]]⟩) (impl_shorter_j15 v2) res_ ?_ ?_
      · rintro _ v31 h
        simp only [impl_shorter_j15] at h
        refine zS z0 (zCut (fun (x : (Int × Int × (List DevArg))) => ⟨[(5, .pt 0 0), (8, .pt 1 0)], [.rc [.sc (.int .i64 (v2.Code)), .sc (.int .i64 (v2.One_Op)), .fz 3 (R e_DevArg (v2.One_Args))], .rc [.sc (.int .i64 (x.1)), .sc (.int .i64 (x.2.1)), .fz 3 (R e_DevArg (x.2.2))]]⟩) (impl_shorter_j51 v2) res_ ?_ ?_)
        · rintro _ ⟨v33, v34, v35⟩ h
          simp only [impl_shorter_j51] at h
          refine zS zR (sem_cut fun k70 hk70 => ?_)
          refine sem_blk fun k71 hk71 => zS zR ?_
          refine sem_ifh rfl h ?_ ?_ <;> clear h <;> intro h
          · refine zS z0 (r_ret ?_)
            refine r_bR hk71 (r_cR hk70 ?_)
            cases h
            refine zARw hQ
          · refine zS zR ?_
            refine sem_ifh rfl h ?_ ?_ <;> clear h <;> intro h
            · refine zS z0 (r_ret ?_)
              refine r_bR hk71 (r_cR hk70 ?_)
              cases h
              refine zAR hQ
            · refine zS zR ?_
              refine sem_ifh rfl h ?_ ?_ <;> clear h <;> intro h
              · refine zS z0 (r_ret ?_)
                refine r_bR hk71 (r_cR hk70 ?_)
                cases h
                refine zAR hQ
              · refine r_skip (r_bN hk71 ?_)
                refine r_cN hk70 (zCut (fun (x : Unit) => ⟨[(5, .pt 0 0), (8, .pt 1 0), (9, .sc (.bool (((v33 == 2) || (v33 == 3)))))], [.rc [.sc (.int .i64 (v2.Code)), .sc (.int .i64 (v2.One_Op)), .fz 3 (R e_DevArg (v2.One_Args))], .rc [.sc (.int .i64 (v33)), .sc (.int .i64 (v34)), .fz 3 (R e_DevArg (v35))]]⟩) (impl_shorter_j80 v2 v33 v34 v35) res_ ?_ ?_)
                · rintro _ _ h
                  simp only [impl_shorter_j80] at h
                  refine sem_cut fun k83 hk83 => sem_blk fun k84 hk84 => zCut (fun (x : (Bool × Bool)) => ⟨[(5, .pt 0 0), (8, .pt 1 0), (9, .sc (.bool (x.1))), (147, .sc (.bool (x.2)))], [.rc [.sc (.int .i64 (v2.Code)), .sc (.int .i64 (v2.One_Op)), .fz 3 (R e_DevArg (v2.One_Args))], .rc [.sc (.int .i64 (v33)), .sc (.int .i64 (v34)), .fz 3 (R e_DevArg (v35))]]⟩) (impl_shorter_j96 v2 v33 v34 v35) res_ ?_ ?_
                  · rintro _ ⟨v38, v39⟩ h
                    simp only [impl_shorter_j96] at h
                    refine sem_ifh rfl h ?_ ?_ <;> clear h <;> intro h
                    · refine zS z0 (r_ret ?_)
                      refine r_bR hk84 (r_cR hk83 ?_)
                      cases h
                      refine zAR hQ
                    · refine zCut (fun (x : Bool) => ⟨[(5, .pt 0 0), (8, .pt 1 0), (177, .sc (.bool (x)))], [.rc [.sc (.int .i64 (v2.Code)), .sc (.int .i64 (v2.One_Op)), .fz 3 (R e_DevArg (v2.One_Args))], .rc [.sc (.int .i64 (v33)), .sc (.int .i64 (v34)), .fz 3 (R e_DevArg (v35))]]⟩) (impl_shorter_j102 v2 v33 v34 v35) res_ ?_ ?_
                      · rintro _ v42 h
                        simp only [impl_shorter_j102] at h
                        refine sem_ifh rfl h ?_ ?_ <;> clear h <;> intro h
                        · refine zS z0 (r_ret ?_)
                          refine r_bR hk84 (r_cR hk83 ?_)
                          cases h
                          refine zAR hQ
                        · refine zCut (fun (x : Bool) => ⟨[(5, .pt 0 0), (217, .sc (.bool (x)))], [.rc [.sc (.int .i64 (v2.Code)), .sc (.int .i64 (v2.One_Op)), .fz 3 (R e_DevArg (v2.One_Args))]]⟩) (impl_shorter_j108 v2) res_ ?_ ?_
                          · rintro _ v45 h
                            simp only [impl_shorter_j108] at h
                            refine sem_ifh rfl h ?_ ?_ <;> clear h <;> intro h
                            · refine zS z0 (r_ret ?_)
                              refine r_bR hk84 (r_cR hk83 ?_)
                              cases h
                              refine zAR hQ
                            · refine r_skip (r_bN hk84 ?_)
                              refine r_cN hk83 (zS z0 ?_)
                              refine r_ret ?_
                              cases h
                              refine zARw hQ
                          · intro k103 hk103 J102
                            rcases Bool.eq_false_or_eq_true (v2.Code == 10) with g104 | g104
                            · replace h := cond_t h g104
                              rcases Bool.eq_false_or_eq_true (v33 == 10) with g105 | g105
                              · replace h := cond_t h g105
                                obtain ⟨v46, c106H, h⟩ := bind_some' h
                                rcases Bool.eq_false_or_eq_true v46 with g107 | g107
                                · replace h := cond_t h g107
                                  obtain ⟨v47, c108H, h⟩ := bind_some' h
                                  refine zU (zC2F (lF [] (con_impl_elemSame _ _ _ c106H)) (lF [] (con_slices_Contains_int_int _ _ _ c108H)) (a3 g104 g105 g107)) (zJ J102 [5, 217] () _ h)
                                · replace h := cond_f h g107
                                  refine zU (zC1F (lF [] (con_impl_elemSame _ _ _ c106H)) (a3 g104 g105 g107)) (zJ J102 [5, 217] () _ h)
                              · replace h := cond_f h g105
                                refine zU (zRF (a2 g104 g105)) (zJ J102 [5, 217] () _ h)
                            · replace h := cond_f h g104
                              refine zU (zRF g104) (zJ J102 [5, 217] () _ h)
                      · intro k110 hk110 J109
                        obtain ⟨v48, c111H, h⟩ := bind_some' h
                        rcases Bool.eq_false_or_eq_true v48 with g112 | g112
                        · replace h := cond_t h g112
                          rcases Bool.eq_false_or_eq_true v38 with g113 | g113
                          · replace h := cond_t h g113
                            obtain ⟨v49, c114H, h⟩ := bind_some' h
                            refine zU (zC2F (lF [] (con_impl_in _ _ _ _ c111H)) (lF [] (con_impl_elemSame _ _ _ c114H)) (a2 g112 g113)) (zJ J109 [5, 8, 177] () _ h)
                          · replace h := cond_f h g113
                            refine zU (zC1F (lF [] (con_impl_in _ _ _ _ c111H)) (a2 g112 g113)) (zJ J109 [5, 8, 177] () _ h)
                        · replace h := cond_f h g112
                          refine zU (zC1F (lF [] (con_impl_in _ _ _ _ c111H)) g112) (zJ J109 [5, 8, 177] () _ h)
                  · intro k116 hk116 J115
                    rcases Bool.eq_false_or_eq_true (v2.Code == 1) with g117 | g117
                    · replace h := cond_t h g117
                      obtain ⟨v50, c118H, h⟩ := bind_some' h
                      rcases Bool.eq_false_or_eq_true (v50 == 1) with g119 | g119
                      · replace h := cond_t h g119
                        rcases Bool.eq_false_or_eq_true (v33 == 2) with g120 | g120
                        · replace h := cond_t h g120
                          refine zU (zC1F (lF [] (con_impl_PeepSure _ _ c118H)) (a3 g117 g119 g120)) (zJ J115 [5, 8, 9, 147] () _ h)
                        · replace h := cond_f h g120
                          refine zU (zC1F (lF [] (con_impl_PeepSure _ _ c118H)) (a3 g117 g119 g120)) (zJ J115 [5, 8, 9, 147] () _ h)
                      · replace h := cond_f h g119
                        refine zU (zC1F (lF [] (con_impl_PeepSure _ _ c118H)) (a2 g117 g119)) (zJ J115 [5, 8, 9, 147] () _ h)
                    · replace h := cond_f h g117
                      refine zU (zRF g117) (zJ J115 [5, 8, 9, 147] () _ h)
                · intro k122 hk122 J121
                  refine zS zR ?_
                  refine sem_ifh rfl h ?_ ?_ <;> clear h <;> intro h
                  · obtain ⟨v51, c125H, h⟩ := bind_some' h
                    refine zS (zC1 (lC [] (con_impl_PeepTurn _ _ c125H))) (zS z0 ?_)
                    refine sem_ifh rfl h ?_ ?_ <;> clear h <;> intro h
                    · refine zS z0 (r_ret ?_)
                      refine r_jR hk122 ?_
                      cases h
                      refine zAR hQ
                    · refine r_skip (zJ J121 [5, 8, 9] () _ h)
                  · refine r_skip (zJ J121 [5, 8, 9] () _ h)
        · intro k129 hk129 J128
          refine zS z0 ?_
          refine sem_ifh rfl h ?_ ?_ <;> clear h <;> intro h
          · obtain ⟨v52, h, c131⟩ := bN 1 h
            refine zU (zRF c131) (zJ J128 [5, 8] () _ h)
          · refine r_skip (zJw J128 [5, 8] () _ h)
      · intro k133 hk133 J132
        refine zS z0 ?_
        refine sem_ifh rfl h ?_ ?_ <;> clear h <;> intro h
        · refine zS z0 (zCut (fun (x : ((List Inst) × Int)) => ⟨[(1, .pt 0 0), (4, .clo 40 [(0, 0)]), (5, .pt 1 0), (6, .sc (.int .i64 (x.2)))], [.rc [.fz 3 (R e_Inst (x.1))], .rc [.sc (.int .i64 (v2.Code)), .sc (.int .i64 (v2.One_Op)), .fz 3 (R e_DevArg (v2.One_Args))]]⟩) (impl_shorter_j21 v2) res_ ?_ ?_)
          · rintro _ ⟨v59, v60⟩ h
            simp only [impl_shorter_j21] at h
            obtain ⟨v61, c151H, h⟩ := bind_some' h
            obtain ⟨c151A, c151B, c151C, c151D⟩ := prt_some c151H
            try simp only [Int.reduceToNat, Int.toNat_zero, Int.toNat_one, Int.toNat_natCast, List.take_length] at c151D
            refine zS (zRF (a4 c151A c151B c151C c151D)) (sem_blk fun k152 hk152 => ?_)
            refine zCut (fun (x : ((List Inst) × Bool)) => ⟨[(1, .pt 0 0), (4, .clo 40 [(0, 0)]), (5, .pt 1 0), (6, .sc (.int .i64 (v60))), (7, .fz 3 (R e_Inst (v61))), (48, .sc (.bool (x.2)))], [.rc [.fz 3 (R e_Inst (x.1))], .rc [.sc (.int .i64 (v2.Code)), .sc (.int .i64 (v2.One_Op)), .fz 3 (R e_DevArg (v2.One_Args))]]⟩) (impl_shorter_j35 v2 v60 v61) res_ ?_ ?_
            · rintro _ ⟨v63, v64⟩ h
              simp only [impl_shorter_j35] at h
              refine sem_ifh rfl h ?_ ?_ <;> clear h <;> intro h
              · refine sem_cut fun k155 hk155 => ?_
                obtain ⟨v65, c156H, h⟩ := bind_some' h
                obtain ⟨g157, h⟩ := gAp h
                obtain ⟨g158, h⟩ := gAp h
                with_reducible refine sem_plan (id := 11) (.take 0 (.take 2 (.take 5 (.take 6 (.two 1 3 (.last 3 (.one 4 (.take 7 (.take 8 .done)))) (.one 1 (.one 4 (.take 7 (.take 8 .done))))))))) [1] ?_ ?_
                focus kernel_rfl
                repeat' (first | with_reducible refine And.intro ?_ ?_ | ((with_reducible refine i_call (n := 42) ?_); refine call_open [] ?_) | ((with_reducible refine i_callW (n := 42) ?_); refine callW_use (con_slices_Clone_impl_Inst_impl_Inst v61 v65 c156H) ?_; rintro x σ' (⟨rfl, rfl⟩ | ⟨rfl, rfl, c156N1_0⟩) <;> ((with_reducible refine behind_go ?_))) | exact True.intro | with_reducible assumption | exact fun hf => False.elim hf | (intro hg; first | (simp +contextual [hg]; done) | grind) | omega | simp (decide := true) only [go_sem, reduceIte, Nat.reduceAdd, Int.reduceToNat, Nat.reduceSub, Nat.reduceMul, gl_once_R, g157, g158])
                · refine r_cN hk155 (r_ret ?_)
                  refine r_bR hk152 (r_jR hk133 ?_)
                  cases h
                  refine zAR hQ
                · try simp only [c156N1_0, List.take_nil, List.take_zero] at h
                  refine r_cN hk155 (r_ret ?_)
                  refine r_bR hk152 (r_jR hk133 ?_)
                  cases h
                  refine zAR hQ
                · refine r_cN hk155 (r_ret ?_)
                  refine r_bR hk152 (r_jR hk133 ?_)
                  cases h
                  refine zAR hQ
                · try simp only [c156N1_0, List.take_nil, List.take_zero] at h
                  refine r_cN hk155 (r_ret ?_)
                  refine r_bR hk152 (r_jR hk133 ?_)
                  cases h
                  refine zAR hQ
              · refine zCut (fun (x : ((List Inst) × Bool)) => ⟨[(1, .pt 0 0), (5, .pt 1 0), (6, .sc (.int .i64 (v60))), (7, .fz 3 (R e_Inst (v61))), (65, .sc (.bool (x.2)))], [.rc [.fz 3 (R e_Inst (x.1))], .rc [.sc (.int .i64 (v2.Code)), .sc (.int .i64 (v2.One_Op)), .fz 3 (R e_DevArg (v2.One_Args))]]⟩) (impl_shorter_j41 v2 v60 v61) res_ ?_ ?_
                · rintro _ ⟨v67, v68⟩ h
                  simp only [impl_shorter_j41] at h
                  refine sem_ifh rfl h ?_ ?_ <;> clear h <;> intro h
                  · refine sem_cut fun k161 hk161 => ?_
                    obtain ⟨v69, c162H, h⟩ := bind_some' h
                    repeat' (first | with_reducible refine And.intro ?_ ?_ | ((with_reducible refine i_call (n := 42) ?_); refine call_open [] ?_) | ((with_reducible refine i_callW (n := 42) ?_); refine callW_use (con_slices_Clone_impl_Inst_impl_Inst v61 v69 c162H) ?_; rintro x σ' (⟨rfl, rfl⟩ | ⟨rfl, rfl, c162N1_0⟩) <;> ((with_reducible refine behind_go ?_))) | exact True.intro | with_reducible assumption | exact fun hf => False.elim hf | (intro hg; first | (simp +contextual [hg]; done) | grind) | omega | simp (decide := true) only [go_sem, reduceIte, Nat.reduceAdd, Int.reduceToNat, Nat.reduceSub, Nat.reduceMul, gl_once_R])
                    · refine r_cN hk161 (r_ret ?_)
                      refine r_bR hk152 (r_jR hk133 ?_)
                      cases h
                      refine zAR hQ
                    · try simp only [c162N1_0, List.take_nil, List.take_zero] at h
                      refine r_cN hk161 (r_ret ?_)
                      refine r_bR hk152 (r_jR hk133 ?_)
                      cases h
                      refine zARw hQ
                  · refine r_skip (r_bN hk152 ?_)
                    refine zJ J132 [1, 5] () _ h
                · intro k164 hk164 J163
                  rcases Bool.eq_false_or_eq_true (decide (((v61).length : Int) > 0)) with g165 | g165
                  · replace h := cond_t h g165
                    obtain ⟨v70, c166H, h⟩ := bind_some' h
                    refine zU (zC1F (lC [[1]] (con_impl_shorter_1 _ _ _ c166H)) g165) (zJ J163 [1, 5, 6, 7, 65] () _ h)
                  · replace h := cond_f h g165
                    refine zU (zRF g165) (zJ J163 [1, 5, 6, 7, 65] () _ h)
            · intro k168 hk168 J167
              rcases Bool.eq_false_or_eq_true (decide (((v61).length : Int) > 0)) with g169 | g169
              · replace h := cond_t h g169
                obtain ⟨v71, c170H, h⟩ := bind_some' h
                refine zU (zC1F (lC [[1]] (con_impl_shorter_1 _ _ _ c170H)) g169) (zJ J167 [1, 4, 5, 6, 7, 48] () _ h)
              · replace h := cond_f h g169
                refine zU (zRF g169) (zJ J167 [1, 4, 5, 6, 7, 48] () _ h)
          · intro k172 hk172 J171
            refine sem_blk fun k173 hk173 => ?_
            obtain ⟨oq182, hLq182, hKq182⟩ := bind_some' h
            clear h
            refine sem_loopP [1, 4, 5, 6] (fun (_ : Unit) (x : ((List Inst) × Int)) => (⟨[(1, .pt 0 0), (4, .clo 40 [(0, 0)]), (5, .pt 1 0), (6, .sc (.int .i64 (x.2)))], [.rc [.fz 3 (R e_Inst (x.1))], .rc [.sc (.int .i64 (v2.Code)), .sc (.int .i64 (v2.One_Op)), .fz 3 (R e_DevArg (v2.One_Args))]]⟩ : St)) (fun (_ : Unit) (x : ((List Inst) × Int)) => True) impl_shorter_s23 () (v1, 1) hLq182 (by rfl) (by rfl) ⟨?_, trivial⟩ ?_
            · first | exact wkSt_same rfl | (simp (decide := true) only [go_sem, reduceIte, Nat.reduceAdd, Int.reduceToNat, Nat.reduceSub, Nat.reduceMul, gl_once_R]; exact wkSt_same rfl)
            · rintro nq182 _ ⟨v73, v74⟩ xq182 kq182 hkq182 - h hIq182 hEq182
              simp only [impl_shorter_s23] at h
              refine sem_cut fun k183 hk183 => ?_
              obtain ⟨v77, c185H, h⟩ := bind_some' h
              refine zS (zC1 (lC [[1]] (con_impl_shorter_1 _ _ _ c185H))) ?_
              refine sem_ifh rfl h ?_ ?_ <;> clear h <;> intro h
              · refine r_skip (r_cN hk183 ?_)
                refine sem_blk fun k186 hk186 => zU z0 (r_bN hk186 ?_)
                refine zB hkq182 h hIq182 () trivial
              · refine r_exit (r_cE hk183 ?_)
                replace h := zX h hEq182 hKq182
                refine r_kE hkq182 (r_bE hk173 ?_)
                refine zJ J171 [1, 4, 5, 6] () _ h
        · refine r_skip (zJ J132 [1, 5] () _ h)
  · intro k188 hk188 J187
    rcases Bool.eq_false_or_eq_true (v2.Code == 2) with g189 | g189
    · replace h := cond_t h g189
      obtain ⟨v78, c190H, h⟩ := bind_some' h
      rcases Bool.eq_false_or_eq_true (v78 == 1) with g191 | g191
      · replace h := cond_t h g191
        refine zU (zC1F (lF [] (con_impl_PeepSure _ _ c190H)) (a2 g189 g191)) (zJ J187 [1, 4, 5, 35] () _ h)
      · replace h := cond_f h g191
        rcases Bool.eq_false_or_eq_true (v2.Code == 3) with g192 | g192
        · replace h := cond_t h g192
          refine zU (zC1F (lF [] (con_impl_PeepSure _ _ c190H)) (a3 g189 g191 g192)) (zJ J187 [1, 4, 5, 35] () _ h)
        · replace h := cond_f h g192
          refine zU (zC1F (lF [] (con_impl_PeepSure _ _ c190H)) (a3 g189 g191 g192)) (zJ J187 [1, 4, 5, 35] () _ h)
    · replace h := cond_f h g189
      rcases Bool.eq_false_or_eq_true (v2.Code == 3) with g193 | g193
      · replace h := cond_t h g193
        obtain ⟨v79, c194H, h⟩ := bind_some' h
        refine zU (zC1F (lF [] (con_impl_PeepSure _ _ c194H)) (a2 g189 g193)) (zJ J187 [1, 4, 5, 35] () _ h)
      · replace h := cond_f h g193
        refine zU (zRF (a2 g189 g193)) (zJ J187 [1, 4, 5, 35] () _ h)
noncomputable def slices_Grow_impl_Inst_impl_Inst_nil_j9 (v1 : Int) : Unit → Option ((List Inst) × Nat)
  | () => (some ((List.replicate ((IntKind.i64.wrap (v1 - (IntKind.i64.wrap (0 - 0))))).toNat (⟨0, 0, []⟩ : Inst)), 0))
noncomputable def slices_Grow_impl_Inst_impl_Inst_nil (v1 : Int) : Option ((List Inst) × Nat) :=
  (cond (decide (v1 < 0)) none (cond (decide ((IntKind.i64.wrap (v1 - (IntKind.i64.wrap (0 - 0)))) > 0)) (cond (zq (IntKind.i64.wrap (v1 - (IntKind.i64.wrap (0 - 0))))) (gd (zaOk (IntKind.i64.wrap (v1 - (IntKind.i64.wrap (0 - 0)))) 40) none) (gd (zaOk (IntKind.i64.wrap (v1 - (IntKind.i64.wrap (0 - 0)))) 40) (gd (decide (0 ≤ 0) && decide (0 ≤ ((((IntKind.i64.wrap (v1 - (IntKind.i64.wrap (0 - 0))))).toNat : Nat) : Int))) (slices_Grow_impl_Inst_impl_Inst_nil_j9 v1 ())))) none))
theorem con_slices_Grow_impl_Inst_impl_Inst_nil (v1 : Int) (res_ : ((List Inst) × Nat)) (h : slices_Grow_impl_Inst_impl_Inst_nil v1 = some res_) : Con Tryd.prog C0 46 [.sc (.slice none 0 0), .sc (.int .i64 (v1))] []
    (fun x σ' => x = .sl 0 0 (res_.2) ∧ σ' = [.arr true 3 (R e_Inst (res_.1))]) := by
  refine zCon hP 0 [0, 1, 4, 6, 16] [.tmp 4] Tryd.func46 (by unfold Tryd.f46; rfl) fun Q hQ => ?_
  unfold slices_Grow_impl_Inst_impl_Inst_nil at h
  refine zS z0 (sem_cut fun k3 hk3 => ?_)
  refine zS z0 ?_
  refine sem_ifh rfl h ?_ ?_ <;> clear h <;> intro h
  · cases h
  · refine r_skip (r_cN hk3 ?_)
    refine zCut (fun (x : Unit) => ⟨[(0, .sl 0 0 (0))], [.arr true 3 (R e_Inst ((List.replicate ((IntKind.i64.wrap (v1 - (IntKind.i64.wrap (0 - 0))))).toNat (⟨0, 0, []⟩ : Inst))))]⟩) (slices_Grow_impl_Inst_impl_Inst_nil_j9 v1) res_ ?_ ?_
    · rintro _ _ h
      simp only [slices_Grow_impl_Inst_impl_Inst_nil_j9] at h
      refine zS z0 (r_ret ?_)
      cases h
      refine zORd hQ
    · intro k13 hk13 J12
      refine zS z0 (zS z0 ?_)
      refine sem_ifh rfl h ?_ ?_ <;> clear h <;> intro h
      · rcases Bool.eq_false_or_eq_true (zq (IntKind.i64.wrap (v1 - (IntKind.i64.wrap (0 - 0))))) with g16 | g16
        · replace h := cond_t h g16
          have g16E := zq_t g16
          obtain ⟨g17, h⟩ := gZa h
          refine zU (zRF (a2 g16E g17)) ?_
          cases h
        · replace h := cond_f h g16
          have g16E := zq_f g16
          obtain ⟨g18, h⟩ := gZa h
          obtain ⟨g19, h⟩ := gD2 h
          refine zU (zRF (a3 g16E g18 g19)) (zJd J12 [0] () _ h)
      · refine r_skip ?_
        cases h
noncomputable def slices_Grow_impl_Inst_impl_Inst_nil_w (v1 : Int) : Option (List Inst) :=
  (slices_Grow_impl_Inst_impl_Inst_nil v1).map fun r => r.1.take r.2
theorem con_slices_Grow_impl_Inst_impl_Inst_nil_w (v1 : Int) (res_ : (List Inst)) (h : slices_Grow_impl_Inst_impl_Inst_nil_w v1 = some res_) : Con Tryd.prog C0 46 [.sc (.slice none 0 0), .sc (.int .i64 (v1))] []
    (fun x σ' => x = .sl 0 0 ((res_).length) ∧ σ' = [.arr true 3 (R e_Inst (res_))]) := by
  unfold slices_Grow_impl_Inst_impl_Inst_nil_w at h
  obtain ⟨r, hr, rfl⟩ := Option.map_eq_some_iff.1 h
  refine Con.shrink (con_slices_Grow_impl_Inst_impl_Inst_nil v1 r hr) fun x σ' hp => ?_
  obtain ⟨rfl, rfl⟩ := hp
  refine .inr ⟨_, _, _, rfl, rfl, fun hn => ⟨?_, ?_⟩⟩
  · rw [R_len] at hn; rw [List.length_take, Nat.min_eq_left hn]
  · rw [R_take]
noncomputable def slices_Concat_impl_Inst_impl_Inst_j30 : (List Inst) → Option (List Inst)
  | v19 => (some v19)
noncomputable def slices_Concat_impl_Inst_impl_Inst_s34 (v1 : (List (List Inst))) : ((List Inst) × Int) → Option (((List Inst) × Int) ⊕ (List Inst))
  | (v21, v22) => (cond (decide (v22 < ((v1).length : Int))) (Option.bind (idx v1 (v22)) fun v25 => (gd (apOk ((v21 ++ v25)).length 40) (some (.inl ((v21 ++ v25), (IntKind.i64.wrap (v22 + 1))))))) (some (.inr v21)))
noncomputable def slices_Concat_impl_Inst_impl_Inst_j5 (v1 : (List (List Inst))) : Int → Option (List Inst)
  | v11 => (Option.bind (slices_Grow_impl_Inst_impl_Inst_nil_w v11) fun v12 => ((loop (slices_Concat_impl_Inst_impl_Inst_s34 v1) (v12, 0)).bind (fun v24 => (slices_Concat_impl_Inst_impl_Inst_j30 v24))))
noncomputable def slices_Concat_impl_Inst_impl_Inst_s9 (v1 : (List (List Inst))) : (Int × Int) → Option ((Int × Int) ⊕ Int)
  | (v28, v29) => (cond (decide (v29 < ((v1).length : Int))) (Option.bind (idx v1 (v29)) fun v34 => (cond (decide ((IntKind.i64.wrap (v28 + ((v34).length : Int))) < 0)) none (some (.inl ((IntKind.i64.wrap (v28 + ((v34).length : Int))), (IntKind.i64.wrap (v29 + 1))))))) (some (.inr v28)))
noncomputable def slices_Concat_impl_Inst_impl_Inst (v1 : (List (List Inst))) : Option (List Inst) :=
  ((loop (slices_Concat_impl_Inst_impl_Inst_s9 v1) (0, 0)).bind (fun v32 => (slices_Concat_impl_Inst_impl_Inst_j5 v1 v32)))
theorem con_slices_Concat_impl_Inst_impl_Inst (v1 : (List (List Inst))) (res_ : (List Inst)) (h : slices_Concat_impl_Inst_impl_Inst v1 = some res_) : Con Tryd.prog C0 25 [.fz 1 (R e_L_Inst (v1))] []
    (fun x σ' => x = .sl 0 0 ((res_).length) ∧ σ' = [.arr true 3 (R e_Inst (res_))]) := by
  refine zCon hP 0 [0, 2, 3, 5, 6, 8, 9, 10, 11, 12, 20, 25, 26, 27, 28] [.tmp 2] Tryd.func25 (by unfold Tryd.f25; rfl) fun Q hQ => ?_
  unfold slices_Concat_impl_Inst_impl_Inst at h
  refine zS z0 (zS z0 ?_)
  refine zCut (fun (x : Int) => ⟨[(0, .fz 1 (R e_L_Inst (v1))), (3, .sc (.int .i64 (x)))], []⟩) (slices_Concat_impl_Inst_impl_Inst_j5 v1) res_ ?_ ?_
  · rintro _ v11 h
    simp only [slices_Concat_impl_Inst_impl_Inst_j5] at h
    obtain ⟨v12, c46H, h⟩ := bind_some' h
    refine zS (zC1w (lC [] (con_slices_Grow_impl_Inst_impl_Inst_nil_w _ _ c46H))) (zCut (fun (x : (List Inst)) => ⟨[(6, .sl 0 0 ((x).length))], [.arr true 3 (R e_Inst (x))]⟩) slices_Concat_impl_Inst_impl_Inst_j30 res_ ?_ ?_)
    · rintro _ v19 h
      simp only [slices_Concat_impl_Inst_impl_Inst_j30] at h
      refine zS z0 (r_ret ?_)
      cases h
      refine zOR hQ
    · intro k73 hk73 J72
      refine zS z0 (sem_blk fun k75 hk75 => ?_)
      obtain ⟨oq90, hLq90, hKq90⟩ := bind_some' h
      clear h
      refine sem_loopP [6, 25, 26, 27] (fun (_ : Unit) (x : ((List Inst) × Int)) => (⟨[(6, .sl 0 0 ((x.1).length)), (25, .fz 1 (R e_L_Inst (v1))), (26, .sc (.int .i64 (((v1).length : Int)))), (27, .sc (.int .i64 (x.2)))], [.arr true 3 (R e_Inst (x.1))]⟩ : St)) (fun (_ : Unit) (x : ((List Inst) × Int)) => True) (slices_Concat_impl_Inst_impl_Inst_s34 v1) () (v12, 0) hLq90 (by rfl) (by rfl) ⟨?_, trivial⟩ ?_
      · first | exact wkSt_same rfl | (simp (decide := true) only [go_sem, reduceIte, Nat.reduceAdd, Int.reduceToNat, Nat.reduceSub, Nat.reduceMul]; exact wkSt_same rfl)
      · rintro nq90 _ ⟨v21, v22⟩ xq90 kq90 hkq90 - h hIq90 hEq90
        simp only [slices_Concat_impl_Inst_impl_Inst_s34] at h
        refine zS z0 (sem_cut fun k92 hk92 => ?_)
        refine sem_ifh rfl h ?_ ?_ <;> clear h <;> intro h
        · refine r_skip (r_cN hk92 ?_)
          refine sem_cut fun k93 hk93 => sem_blk fun k94 hk94 => ?_
          obtain ⟨v25, h, c96⟩ := bI h
          refine zS (zRF c96) ?_
          obtain ⟨g97, h⟩ := gAp h
          refine zU (zRF g97) (r_bN hk94 ?_)
          refine r_cN hk93 (zU z0 ?_)
          refine zB hkq90 h hIq90 () trivial
        · refine r_exit (r_cE hk92 ?_)
          replace h := zX h hEq90 hKq90
          refine r_kE hkq90 (r_bE hk75 ?_)
          refine zJ J72 [6] () _ h
  · intro k99 hk99 J98
    refine zS z0 (sem_blk fun k101 hk101 => ?_)
    obtain ⟨oq128, hLq128, hKq128⟩ := bind_some' h
    clear h
    refine sem_loopP [0, 3, 9, 10, 11] (fun (_ : Unit) (x : (Int × Int)) => (⟨[(0, .fz 1 (R e_L_Inst (v1))), (3, .sc (.int .i64 (x.1))), (9, .fz 1 (R e_L_Inst (v1))), (10, .sc (.int .i64 (((v1).length : Int)))), (11, .sc (.int .i64 (x.2)))], []⟩ : St)) (fun (_ : Unit) (x : (Int × Int)) => True) (slices_Concat_impl_Inst_impl_Inst_s9 v1) () (0, 0) hLq128 (by rfl) (by rfl) ⟨?_, trivial⟩ ?_
    · first | exact wkSt_same rfl | (simp (decide := true) only [go_sem, reduceIte, Nat.reduceAdd, Int.reduceToNat, Nat.reduceSub, Nat.reduceMul]; exact wkSt_same rfl)
    · rintro nq128 _ ⟨v28, v29⟩ xq128 kq128 hkq128 - h hIq128 hEq128
      simp only [slices_Concat_impl_Inst_impl_Inst_s9] at h
      refine zS z0 (sem_cut fun k130 hk130 => ?_)
      refine sem_ifh rfl h ?_ ?_ <;> clear h <;> intro h
      · refine r_skip (r_cN hk130 ?_)
        refine sem_cut fun k136 hk136 => sem_blk fun k137 hk137 => ?_
        obtain ⟨v34, h, c139⟩ := bI h
        refine zS (zRF c139) (zS z0 ?_)
        refine zS z0 ?_
        refine sem_ifh rfl h ?_ ?_ <;> clear h <;> intro h
        · cases h
        · refine r_skip (r_bN hk137 ?_)
          refine r_cN hk136 (zU z0 ?_)
          refine zB hkq128 h hIq128 () trivial
      · refine r_exit (r_cE hk130 ?_)
        replace h := zX h hEq128 hKq128
        refine r_kE hkq128 (r_bE hk101 ?_)
        refine zJ J98 [0, 3] () _ h
noncomputable def impl_peep_j3 (v1 : (List Inst)) : Unit → Option ((List Inst) × Bool)
  | () => (some (v1, false))
noncomputable def impl_peep_s7 (v1 : (List Inst)) : Int → Option (Int ⊕ ((List Inst) ⊕ Unit))
  | v25 => (cond (decide (v25 < ((v1).length : Int))) (Option.bind (prtL v1 (v25)) fun v33 => (Option.bind (impl_shorter v33) fun v34 => (cond (decide (v34.2 > 0)) (Option.bind (prtH v1 (v25)) fun v35 => (Option.bind (prtL v1 ((IntKind.i64.wrap (v25 + v34.2)))) fun v36 => (Option.bind (slices_Concat_impl_Inst_impl_Inst [v35, v34.1, v36]) fun v37 => (some (.inr (.inl v37)))))) (some (.inl (IntKind.i64.wrap (v25 + 1))))))) (some (.inr (.inr ()))))
noncomputable def impl_peep (v1 : (List Inst)) : Option ((List Inst) × Bool) :=
  ((loop (impl_peep_s7 v1) 0).bind (Sum.elim (fun v31 => (some (v31, true))) (fun v32 => (impl_peep_j3 v1 ()))))
theorem con_impl_peep (v1 : (List Inst)) (res_ : ((List Inst) × Bool)) (h : impl_peep v1 = some res_) : Con Tryd.prog C0 12 [.fz 3 (R e_Inst (v1))] []
    (fun x σ' => x = .tup [.fz 3 (R e_Inst (res_.1)), .sc (.bool (res_.2))] ∧ σ' = []) := by
  refine zCon hP 0 [0, 2, 3, 4, 5, 6, 8, 9, 10, 20] [.tmp 2, .tmp 3] Tryd.func12 (by unfold Tryd.f12; rfl) fun Q hQ => ?_
  unfold impl_peep at h
  refine zS z0 (zCut (fun (x : Unit) => ⟨[(0, .fz 3 (R e_Inst (v1)))], []⟩) (impl_peep_j3 v1) res_ ?_ ?_)
  · rintro _ _ h
    simp only [impl_peep_j3] at h
    refine zS z0 (r_ret ?_)
    cases h
    refine zAR hQ
  · intro k46 hk46 J45
    refine zS z0 (sem_blk fun k48 hk48 => ?_)
    obtain ⟨oq75, hLq75, hKq75⟩ := bind_some' h
    clear h
    refine sem_loopP [0, 8, 9] (fun (_ : Unit) (x : Int) => (⟨[(0, .fz 3 (R e_Inst (v1))), (8, .sc (.int .i64 (((v1).length : Int)))), (9, .sc (.int .i64 (x)))], []⟩ : St)) (fun (_ : Unit) (x : Int) => True) (impl_peep_s7 v1) () 0 hLq75 (by rfl) (by rfl) ⟨?_, trivial⟩ ?_
    · first | exact wkSt_same rfl | (simp (decide := true) only [go_sem, reduceIte, Nat.reduceAdd, Int.reduceToNat, Nat.reduceSub, Nat.reduceMul]; exact wkSt_same rfl)
    · rintro nq75 _ v25 xq75 kq75 hkq75 - h hIq75 hEq75
      simp only [impl_peep_s7] at h
      refine zS z0 (sem_cut fun k77 hk77 => ?_)
      refine sem_ifh rfl h ?_ ?_ <;> clear h <;> intro h
      · refine r_skip (r_cN hk77 ?_)
        refine sem_cut fun k78 hk78 => sem_blk fun k79 hk79 => zS z0 ?_
        obtain ⟨v33, c82H, h⟩ := bind_some' h
        obtain ⟨c82A, c82B, c82C⟩ := prtL_some c82H
        try simp only [Int.reduceToNat, Int.toNat_zero, Int.toNat_one, Int.toNat_natCast, List.take_length] at c82C
        obtain ⟨v34, c83H, h⟩ := bind_some' h
        refine zS (zC1F (lC [] (con_impl_shorter _ _ c83H)) (a3 c82A c82B c82C)) (zS z0 ?_)
        refine sem_ifh rfl h ?_ ?_ <;> clear h <;> intro h
        · obtain ⟨v35, c86H, h⟩ := bind_some' h
          obtain ⟨c86A, c86B, c86C⟩ := prtH_some c86H
          try simp only [Int.reduceToNat, Int.toNat_zero, Int.toNat_one, Int.toNat_natCast, List.take_length] at c86C
          obtain ⟨v36, c87H, h⟩ := bind_some' h
          obtain ⟨c87A, c87B, c87C⟩ := prtL_some c87H
          try simp only [Int.reduceToNat, Int.toNat_zero, Int.toNat_one, Int.toNat_natCast, List.take_length] at c87C
          obtain ⟨v37, c88H, h⟩ := bind_some' h
          refine zS (zPC1F (.take 0 (.take 1 (.take 2 (.take 3 (.take 4 (.take 5 (.take 6 (.take 7 (.take 8 (.last 9 (.last 10 (.take 11 (.take 12 .done))))))))))))) [] (lC [] (con_slices_Concat_impl_Inst_impl_Inst _ _ c88H)) (a4 c86A c86B c86C (a3 c87A c87B c87C))) (r_ret ?_)
          refine r_bR hk79 (r_cR hk78 ?_)
          replace h := zX h hEq75 hKq75
          simp only [Sum.elim_inl, Sum.elim_inr] at h
          refine r_kR hkq75 (r_bR hk48 ?_)
          refine r_jR hk46 ?_
          cases h
          refine zAR hQ
        · refine r_skip (r_bN hk79 ?_)
          refine r_cN hk78 (zU z0 ?_)
          refine zB hkq75 h hIq75 () trivial
      · refine r_exit (r_cE hk77 ?_)
        replace h := zX h hEq75 hKq75
        simp only [Sum.elim_inl, Sum.elim_inr] at h
        refine r_kE hkq75 (r_bE hk48 ?_)
        refine zJ J45 [0] () _ h
noncomputable def impl_copyList_j5 : (List Inst) → Option (List Inst)
  | v14 => (some v14)
noncomputable def impl_copyList_s9 (v1 : (List Inst)) : ((List Inst) × Int) → Option (((List Inst) × Int) ⊕ (List Inst))
  | (v18, v19) => (cond (decide (v19 < ((v1).length : Int))) (Option.bind (idx v1 (v19)) fun v24 => (Option.bind (impl_Elem_copyOf (⟨v24.One_Op, v24.One_Args⟩ : Elem)) fun v25 => (Option.bind (idx v18 (v19)) fun v26 => (some (.inl (((v18).set (v19).toNat (⟨v24.Code, v25.Op, v25.Args⟩ : Inst)), (IntKind.i64.wrap (v19 + 1)))))))) (some (.inr v18)))
noncomputable def impl_copyList (v1 : (List Inst)) : Option (List Inst) :=
  (gd (mkOk (((v1).length : Int)) (((v1).length : Int)) 40) ((loop (impl_copyList_s9 v1) ((List.replicate (((v1).length : Int)).toNat (⟨0, 0, []⟩ : Inst)), 0)).bind (fun v23 => (impl_copyList_j5 v23))))
theorem con_impl_copyList (v1 : (List Inst)) (res_ : (List Inst)) (h : impl_copyList v1 = some res_) : Con Tryd.prog C0 13 [.fz 3 (R e_Inst (v1))] []
    (fun x σ' => x = .sl 0 0 ((res_).length) ∧ σ' = [.arr true 3 (R e_Inst (res_))]) := by
  refine zCon hP 0 [0, 2, 3, 4, 5, 9, 10, 11, 12] [.tmp 2] Tryd.func13 (by unfold Tryd.f13; rfl) fun Q hQ => ?_
  unfold impl_copyList at h
  refine zS z0 ?_
  obtain ⟨g3, h⟩ := gMk h
  refine zS (zRF g3) (zCut (fun (x : (List Inst)) => ⟨[(3, .sl 0 0 ((x).length))], [.arr true 3 (R e_Inst (x))]⟩) impl_copyList_j5 res_ ?_ ?_)
  · rintro _ v14 h
    simp only [impl_copyList_j5] at h
    refine zS z0 (r_ret ?_)
    cases h
    refine zOR hQ
  · intro k33 hk33 J32
    refine zS z0 (sem_blk fun k35 hk35 => ?_)
    obtain ⟨oq52, hLq52, hKq52⟩ := bind_some' h
    clear h
    refine sem_loopP [3, 9, 10, 11] (fun (_ : Unit) (x : ((List Inst) × Int)) => (⟨[(3, .sl 0 0 ((x.1).length)), (9, .fz 3 (R e_Inst (v1))), (10, .sc (.int .i64 (((v1).length : Int)))), (11, .sc (.int .i64 (x.2)))], [.arr true 3 (R e_Inst (x.1))]⟩ : St)) (fun (_ : Unit) (x : ((List Inst) × Int)) => True) (impl_copyList_s9 v1) () ((List.replicate (((v1).length : Int)).toNat (⟨0, 0, []⟩ : Inst)), 0) hLq52 (by rfl) (by rfl) ⟨?_, trivial⟩ ?_
    · simp (decide := true) only [go_sem, reduceIte, Nat.reduceAdd, Int.reduceToNat, Nat.reduceSub, Nat.reduceMul]
      (apply wkSt_mk <;> repeat' (first | exact wkE_nil | (with_reducible apply wkE_cons) | exact wkC_nil _ | exact wkV_nil _ | exact wkA_nil _ | (with_reducible apply wkV_agg) | (with_reducible apply wkV_tup) | (with_reducible apply wkA_agg) | exact wkA_refl _ | exact wkV_refl _ | exact wkS_nil | (with_reducible apply wkS_cons) | (with_reducible apply wkO_rc) | (with_reducible apply wkO_arr) | exact wkO_refl _ | exact wkL_nil | (with_reducible apply wkL_cons) | exact wkC_refl _ | exact wkT_nil | (with_reducible apply wkT_cons) | (with_reducible apply wkR_appR) | (with_reducible apply wkR_consR) | exact wkR_nilR _ | exact wkR_refl _ | (refine wkR_repR ?_ _) | apply wkL_cons | (simp only [R_len, List.length_append, List.length_cons, List.length_nil, List.length_replicate]; exact wkV_refl _) | (simp only [R_len, List.length_append, List.length_cons, List.length_nil]; exact wkC_refl _) | (with_reducible apply wkV_fz) | (with_reducible apply wkA_fz) | (with_reducible apply wkC_fz) | (with_reducible apply wkR0_consR) | exact wkR0_nilR _ | exact wkL0_nil | apply wkL0_cons | exact wkC0_nil _ | exact wkC0_refl _))
    · rintro nq52 _ ⟨v18, v19⟩ xq52 kq52 hkq52 - h hIq52 hEq52
      simp only [impl_copyList_s9] at h
      refine zS z0 (sem_cut fun k54 hk54 => ?_)
      refine sem_ifh rfl h ?_ ?_ <;> clear h <;> intro h
      · refine r_skip (r_cN hk54 ?_)
        refine sem_cut fun k55 hk55 => sem_blk fun k56 hk56 => ?_
        obtain ⟨v24, h, c58⟩ := bI h
        refine zS (zRF c58) ?_
        obtain ⟨v25, c59H, h⟩ := bind_some' h
        obtain ⟨v26, h, c60⟩ := bI h
        refine zU (zPC1F (.take 0 (.take 1 (.take 2 (.take 3 (.take 4 (.take 5 (.one 6 (.take 7 (.take 8 (.last 9 .done)))))))))) [1] (lC [] (con_impl_Elem_copyOf _ _ c59H)) c60) (r_bN hk56 ?_)
        refine r_cN hk55 (zU z0 ?_)
        refine zB hkq52 h hIq52 () trivial
      · refine r_exit (r_cE hk54 ?_)
        replace h := zX h hEq52 hKq52
        refine r_kE hkq52 (r_bE hk35 ?_)
        refine zJ J32 [3] () _ h
noncomputable def impl_PeepAll_s12 : (List Inst) → Option ((List Inst) ⊕ (List Inst))
  | v5 => (Option.bind (impl_peep v5) fun v9 => (cond (!v9.2) (Option.bind (impl_copyList v9.1) fun v10 => (some (.inr v10))) (some (.inl v9.1))))
noncomputable def impl_PeepAll (v1 : (List Inst)) : Option (List Inst) :=
  (Option.bind (impl_verified v1) fun v2 => (cond (!v2) (some []) ((loop impl_PeepAll_s12 v1).bind (fun v8 => (some v8)))))
theorem con_impl_PeepAll (v1 : (List Inst)) (res_ : (List Inst)) (h : impl_PeepAll v1 = some res_) : Con Tryd.prog C0 5 [.fz 3 (R e_Inst (v1))] []
    (fun x σ' => x = .fz 3 (R e_Inst (res_)) ∧ σ' = []) := by
  refine zCon hP 0 [0, 2, 3, 4, 7, 14] [.tmp 2] Tryd.func5 (by unfold Tryd.f5; rfl) fun Q hQ => ?_
  unfold impl_PeepAll at h
  refine zS z0 (sem_cut fun k2 hk2 => ?_)
  obtain ⟨v2, c4H, h⟩ := bind_some' h
  refine zS (zC1 (lF [] (con_impl_verified _ _ c4H))) ?_
  refine sem_ifh rfl h ?_ ?_ <;> clear h <;> intro h
  · refine zS z0 (r_ret ?_)
    refine r_cR hk2 ?_
    cases h
    refine zARw hQ
  · refine r_skip (r_cN hk2 ?_)
    refine sem_blk fun k6 hk6 => ?_
    obtain ⟨oq21, hLq21, hKq21⟩ := bind_some' h
    clear h
    refine sem_loopP [0] (fun (_ : Unit) (x : (List Inst)) => (⟨[(0, .fz 3 (R e_Inst (x)))], []⟩ : St)) (fun (_ : Unit) (x : (List Inst)) => True) impl_PeepAll_s12 () v1 hLq21 (by rfl) (by rfl) ⟨?_, trivial⟩ ?_
    · first | exact wkSt_same rfl | (simp (decide := true) only [go_sem, reduceIte, Nat.reduceAdd, Int.reduceToNat, Nat.reduceSub, Nat.reduceMul]; exact wkSt_same rfl)
    · rintro nq21 _ v5 xq21 kq21 hkq21 - h hIq21 hEq21
      simp only [impl_PeepAll_s12] at h
      refine sem_blk fun k22 hk22 => ?_
      obtain ⟨v9, c24H, h⟩ := bind_some' h
      refine zS (zC1 (lC [] (con_impl_peep _ _ c24H))) (sem_cut fun k25 hk25 => ?_)
      refine zS z0 ?_
      refine sem_ifh rfl h ?_ ?_ <;> clear h <;> intro h
      · obtain ⟨v10, c28H, h⟩ := bind_some' h
        refine zS (zC1 (lC [] (con_impl_copyList _ _ c28H))) (r_ret ?_)
        refine r_cR hk25 (r_bR hk22 ?_)
        replace h := zX h hEq21 hKq21
        refine r_kR hkq21 (r_bR hk6 ?_)
        cases h
        refine zAR hQ
      · refine r_skip (r_cN hk25 ?_)
        refine zU z0 (r_bN hk22 ?_)
        refine zB hkq21 h hIq21 () trivial
noncomputable def laws_wpKeep_j5 : (List Inst) → Option (List Inst)
  | v20 => (some v20)
noncomputable def laws_wpKeep_j16 (v27 : Int) : (List Inst) → Option (((List Inst) × Int) ⊕ (List Inst))
  | v36 => (some (.inl (v36, (IntKind.i64.wrap (v27 + 1)))))
noncomputable def laws_wpKeep_s9 (v1 : (List Inst)) : ((List Inst) × Int) → Option (((List Inst) × Int) ⊕ (List Inst))
  | (v26, v27) => (cond (decide (v27 < ((v1).length : Int))) (Option.bind (idx v1 (v27)) fun v37 => (cond (((v37.One_Op == 3) || (v37.One_Op == 4)) || (((v37.One_Op == 24) || ((decide (v37.One_Op ≥ 26)) && (decide (v37.One_Op ≤ 29)))) || ((decide (v37.One_Op ≥ 31)) && (decide (v37.One_Op ≤ 35))))) (Option.bind (idx v1 (v27)) fun v38 => (gd (apOk ((v26 ++ [(⟨10, v38.One_Op, v38.One_Args⟩ : Inst)])).length 40) (laws_wpKeep_j16 v27 (v26 ++ [(⟨10, v38.One_Op, v38.One_Args⟩ : Inst)])))) (laws_wpKeep_j16 v27 v26))) (some (.inr v26)))
noncomputable def laws_wpKeep (v1 : (List Inst)) : Option (List Inst) :=
  ((loop (laws_wpKeep_s9 v1) ([], 0)).bind (fun v33 => (laws_wpKeep_j5 v33)))
theorem con_laws_wpKeep (v1 : (List Inst)) (res_ : (List Inst)) (h : laws_wpKeep v1 = some res_) : Con Tryd.prog C0 8 [.fz 3 (R e_Inst (v1))] []
    (fun x σ' => x = .sl 0 0 ((res_).length) ∧ σ' = [.arr true 3 (R e_Inst (res_))]) := by
  refine zCon hP 0 [0, 2, 3, 4, 5, 6, 7, 12, 48] [.tmp 2] Tryd.func8 (by unfold Tryd.f8; rfl) fun Q hQ => ?_
  unfold laws_wpKeep at h
  refine zS z0 (zS z0 ?_)
  refine zCut (fun (x : (List Inst)) => ⟨[(3, .sl 0 0 ((x).length))], [.arr true 3 (R e_Inst (x))]⟩) laws_wpKeep_j5 res_ ?_ ?_
  · rintro _ v20 h
    simp only [laws_wpKeep_j5] at h
    refine zS z0 (r_ret ?_)
    cases h
    refine zOR hQ
  · intro k68 hk68 J67
    refine zS z0 (sem_blk fun k70 hk70 => ?_)
    obtain ⟨oq111, hLq111, hKq111⟩ := bind_some' h
    clear h
    refine sem_loopP [0, 3, 4] (fun (_ : Unit) (x : ((List Inst) × Int)) => (⟨[(0, .fz 3 (R e_Inst (v1))), (3, .sl 0 0 ((x.1).length)), (4, .sc (.int .i64 (x.2)))], [.arr true 3 (R e_Inst (x.1))]⟩ : St)) (fun (_ : Unit) (x : ((List Inst) × Int)) => True) (laws_wpKeep_s9 v1) () ([], 0) hLq111 (by rfl) (by rfl) ⟨?_, trivial⟩ ?_
    · first | exact wkSt_same rfl | (simp (decide := true) only [go_sem, reduceIte, Nat.reduceAdd, Int.reduceToNat, Nat.reduceSub, Nat.reduceMul]; exact wkSt_same rfl)
    · rintro nq111 _ ⟨v26, v27⟩ xq111 kq111 hkq111 - h hIq111 hEq111
      simp only [laws_wpKeep_s9] at h
      refine sem_cut fun k112 hk112 => zS z0 ?_
      refine sem_ifh rfl h ?_ ?_ <;> clear h <;> intro h
      · refine r_skip (r_cN hk112 ?_)
        refine zCut (fun (x : (List Inst)) => ⟨[(0, .fz 3 (R e_Inst (v1))), (3, .sl 0 0 ((x).length)), (4, .sc (.int .i64 (v27)))], [.arr true 3 (R e_Inst (x))]⟩) (laws_wpKeep_j16 v27) xq111 ?_ ?_
        · rintro _ v36 h
          simp only [laws_wpKeep_j16] at h
          refine zU z0 (zB hkq111 h hIq111 () trivial)
        · intro k123 hk123 J122
          refine sem_blk fun k124 hk124 => ?_
          obtain ⟨v37, h, c126⟩ := bI h
          refine zS (zRF c126) (zS zR ?_)
          refine zS zR (zS zR ?_)
          refine sem_ifh rfl h ?_ ?_ <;> clear h <;> intro h
          · obtain ⟨v38, h, c130⟩ := bI h
            obtain ⟨g131, h⟩ := gAp h
            refine zU (zRF (a2 c130 g131)) (r_bN hk124 ?_)
            refine zJ J122 [0, 3, 4] () _ h
          · refine r_skip (r_bN hk124 ?_)
            refine zJ J122 [0, 3, 4] () _ h
      · refine r_exit (r_cE hk112 ?_)
        replace h := zX h hEq111 hKq111
        refine r_kE hkq111 (r_bE hk70 ?_)
        refine zJ J67 [3] () _ h
noncomputable def impl_ListSame_1 (v1 : Inst) (v2 : Inst) : Option Bool :=
  (cond (v1.Code == v2.Code) (Option.bind (impl_elemSame (⟨v1.One_Op, v1.One_Args⟩ : Elem) (⟨v2.One_Op, v2.One_Args⟩ : Elem)) fun v3 => (some v3)) (some false))
theorem con_impl_ListSame_1 (v1 : Inst) (v2 : Inst) (res_ : Bool) (h : impl_ListSame_1 v1 v2 = some res_) : Con Tryd.prog C0 17 [.agg [.sc (.int .i64 (v1.Code)), .sc (.int .i64 (v1.One_Op)), .fz 3 (R e_DevArg (v1.One_Args))], .agg [.sc (.int .i64 (v2.Code)), .sc (.int .i64 (v2.One_Op)), .fz 3 (R e_DevArg (v2.One_Args))]] []
    (fun x σ' => x = .sc (.bool (res_)) ∧ σ' = []) := by
  refine zCon hP 0 [0, 1, 2, 3, 4] [.tmp 4] Tryd.func17 (by unfold Tryd.f17; rfl) fun Q hQ => ?_
  unfold impl_ListSame_1 at h
  refine zS z0 (sem_cut fun k2 hk2 => ?_)
  rcases Bool.eq_false_or_eq_true (v1.Code == v2.Code) with g3 | g3
  · replace h := cond_t h g3
    obtain ⟨v3, c4H, h⟩ := bind_some' h
    refine zU (zC1F (lF [] (con_impl_elemSame _ _ _ c4H)) g3) (r_cN hk2 ?_)
    refine r_ret ?_
    cases h
    refine zAR hQ
  · replace h := cond_f h g3
    refine zU (zRF g3) (r_cN hk2 ?_)
    refine r_ret ?_
    cases h
    refine zAR hQ
noncomputable def slices_EqualFunc_impl_Inst_impl_Inst_impl_Inst_impl_Inst_fimpl_ListSame_1_j11 : Unit → Option Bool
  | () => (some true)
noncomputable def slices_EqualFunc_impl_Inst_impl_Inst_impl_Inst_impl_Inst_fimpl_ListSame_1_s15 (v1 : (List Inst)) (v2 : (List Inst)) : Int → Option (Int ⊕ (Unit ⊕ Unit))
  | v18 => (cond (decide (v18 < ((v1).length : Int))) (Option.bind (idx v1 (v18)) fun v24 => (Option.bind (idx v2 (v18)) fun v25 => (Option.bind (impl_ListSame_1 v24 v25) fun v26 => (cond (!v26) (some (.inr (.inl ()))) (some (.inl (IntKind.i64.wrap (v18 + 1)))))))) (some (.inr (.inr ()))))
noncomputable def slices_EqualFunc_impl_Inst_impl_Inst_impl_Inst_impl_Inst_fimpl_ListSame_1 (v1 : (List Inst)) (v2 : (List Inst)) : Option Bool :=
  (cond (((v1).length : Int) != ((v2).length : Int)) (some false) ((loop (slices_EqualFunc_impl_Inst_impl_Inst_impl_Inst_impl_Inst_fimpl_ListSame_1_s15 v1 v2) 0).bind (Sum.elim (fun v22 => (some false)) (fun v23 => (slices_EqualFunc_impl_Inst_impl_Inst_impl_Inst_impl_Inst_fimpl_ListSame_1_j11 ())))))
theorem con_slices_EqualFunc_impl_Inst_impl_Inst_impl_Inst_impl_Inst_fimpl_ListSame_1 (v1 : (List Inst)) (v2 : (List Inst)) (res_ : Bool) (h : slices_EqualFunc_impl_Inst_impl_Inst_impl_Inst_impl_Inst_fimpl_ListSame_1 v1 v2 = some res_) : Con Tryd.prog C0 16 [.fz 3 (R e_Inst (v1)), .fz 3 (R e_Inst (v2)), .sc (.func (.func 17) #[] #[])] []
    (fun x σ' => x = .sc (.bool (res_)) ∧ σ' = []) := by
  refine zCon hP 0 [0, 1, 2, 6, 7, 8, 9, 14, 15, 16, 17, 18, 30] [.tmp 6] Tryd.func16 (by unfold Tryd.f16; rfl) fun Q hQ => ?_
  unfold slices_EqualFunc_impl_Inst_impl_Inst_impl_Inst_impl_Inst_fimpl_ListSame_1 at h
  refine zS z0 (sem_cut fun k2 hk2 => ?_)
  refine zS z0 ?_
  refine sem_ifh rfl h ?_ ?_ <;> clear h <;> intro h
  · refine zS z0 (r_ret ?_)
    refine r_cR hk2 ?_
    cases h
    refine zAR hQ
  · refine r_skip (r_cN hk2 ?_)
    refine zCut (fun (x : Unit) => ⟨[], []⟩) slices_EqualFunc_impl_Inst_impl_Inst_impl_Inst_impl_Inst_fimpl_ListSame_1_j11 res_ ?_ ?_
    · rintro _ _ h
      simp only [slices_EqualFunc_impl_Inst_impl_Inst_impl_Inst_impl_Inst_fimpl_ListSame_1_j11] at h
      refine zS z0 (r_ret ?_)
      cases h
      refine zAR hQ
    · intro k43 hk43 J42
      refine zS z0 (sem_blk fun k45 hk45 => ?_)
      obtain ⟨oq68, hLq68, hKq68⟩ := bind_some' h
      clear h
      refine sem_loopP [1, 2, 15, 16, 17] (fun (_ : Unit) (x : Int) => (⟨[(1, .fz 3 (R e_Inst (v2))), (2, .sc (.func (.func 17) #[] #[])), (15, .fz 3 (R e_Inst (v1))), (16, .sc (.int .i64 (((v1).length : Int)))), (17, .sc (.int .i64 (x)))], []⟩ : St)) (fun (_ : Unit) (x : Int) => True) (slices_EqualFunc_impl_Inst_impl_Inst_impl_Inst_impl_Inst_fimpl_ListSame_1_s15 v1 v2) () 0 hLq68 (by rfl) (by rfl) ⟨?_, trivial⟩ ?_
      · first | exact wkSt_same rfl | (simp (decide := true) only [go_sem, reduceIte, Nat.reduceAdd, Int.reduceToNat, Nat.reduceSub, Nat.reduceMul]; exact wkSt_same rfl)
      · rintro nq68 _ v18 xq68 kq68 hkq68 - h hIq68 hEq68
        simp only [slices_EqualFunc_impl_Inst_impl_Inst_impl_Inst_impl_Inst_fimpl_ListSame_1_s15] at h
        refine zS z0 (sem_cut fun k70 hk70 => ?_)
        refine sem_ifh rfl h ?_ ?_ <;> clear h <;> intro h
        · refine r_skip (r_cN hk70 ?_)
          refine sem_cut fun k71 hk71 => sem_blk fun k72 hk72 => ?_
          obtain ⟨v24, h, c74⟩ := bI h
          refine zS (zRF c74) ?_
          obtain ⟨v25, h, c76⟩ := bI h
          refine zS (zRF c76) ?_
          obtain ⟨v26, c78H, h⟩ := bind_some' h
          refine zS (zC1 (lF [] (con_impl_ListSame_1 _ _ _ c78H))) ?_
          refine sem_ifh rfl h ?_ ?_ <;> clear h <;> intro h
          · refine zS z0 (r_ret ?_)
            refine r_bR hk72 (r_cR hk71 ?_)
            replace h := zX h hEq68 hKq68
            simp only [Sum.elim_inl, Sum.elim_inr] at h
            refine r_kR hkq68 (r_bR hk45 ?_)
            refine r_jR hk43 ?_
            cases h
            refine zAR hQ
          · refine r_skip (r_bN hk72 ?_)
            refine r_cN hk71 (zU z0 ?_)
            refine zB hkq68 h hIq68 () trivial
        · refine r_exit (r_cE hk70 ?_)
          replace h := zX h hEq68 hKq68
          simp only [Sum.elim_inl, Sum.elim_inr] at h
          refine r_kE hkq68 (r_bE hk45 ?_)
          refine zJ J42 [] () _ h

end Go.AM
