/- Pure functions and their contracts. Conditions: none. -/
import Derived.Test.YtcnlhdaeeeolbaaDoorAmQa1
set_option linter.unusedSimpArgs false
set_option linter.unusedVariables false
set_option maxRecDepth 10000
set_option maxHeartbeats 4000000
namespace Go.AM
open Go Go.Proofs
noncomputable def laws_heldDevArgS_j3 : Int → Option Int
  | v16 => (some v16)
noncomputable def laws_heldDevArgS_s7 (v1 : (List DevArg)) : (Int × Int) → Option ((Int × Int) ⊕ (Unit ⊕ Int))
  | (v20, v21) => (cond (decide (v21 < ((v1).length : Int))) (Option.bind (idx v1 (v21)) fun v27 => (cond (v27.Kind != v20) (some (.inr (.inl ()))) (Option.bind (idx v1 (v21)) fun v28 => (cond (v28.N != (IntKind.i64.wrap (v20 + 1))) (some (.inr (.inl ()))) (Option.bind (idx v1 (v21)) fun v29 => (cond (v29.P != (IntKind.i64.wrap ((IntKind.i64.wrap (v20 + 1)) + 1))) (some (.inr (.inl ()))) (some (.inl ((IntKind.i64.wrap ((IntKind.i64.wrap ((IntKind.i64.wrap (v20 + 1)) + 1)) + 1)), (IntKind.i64.wrap (v21 + 1))))))))))) (some (.inr (.inr v20))))
noncomputable def laws_heldDevArgS (v1 : (List DevArg)) (v2 : Int) : Option Int :=
  ((loop (laws_heldDevArgS_s7 v1) (v2, 0)).bind (Sum.elim (fun v25 => (some (-1))) (fun v26 => (laws_heldDevArgS_j3 v26))))
theorem con_laws_heldDevArgS (v1 : (List DevArg)) (v2 : Int) (res_ : Int) (h : laws_heldDevArgS v1 v2 = some res_) : Con Tryd.prog C0 19 [.fz 3 (R e_DevArg (v1)), .sc (.int .i64 (v2))] []
    (fun x σ' => x = .sc (.int .i64 (res_)) ∧ σ' = []) := by
  refine zCon hP 0 [0, 1, 4, 5, 9, 18, 27, 36] [.tmp 4] Tryd.func19 (by unfold Tryd.f19; rfl) fun Q hQ => ?_
  unfold laws_heldDevArgS at h
  refine zS z0 (zCut (fun (x : Int) => ⟨[(1, .sc (.int .i64 (x)))], []⟩) laws_heldDevArgS_j3 res_ ?_ ?_)
  · rintro _ v16 h
    simp only [laws_heldDevArgS_j3] at h
    refine zS z0 (r_ret ?_)
    cases h
    refine zAR hQ
  · intro k61 hk61 J60
    refine zS z0 (sem_blk fun k63 hk63 => ?_)
    obtain ⟨oq100, hLq100, hKq100⟩ := bind_some' h
    clear h
    refine sem_loopP [0, 1, 5] (fun (_ : Unit) (x : (Int × Int)) => (⟨[(0, .fz 3 (R e_DevArg (v1))), (1, .sc (.int .i64 (x.1))), (5, .sc (.int .i64 (x.2)))], []⟩ : St)) (fun (_ : Unit) (x : (Int × Int)) => True) (laws_heldDevArgS_s7 v1) () (v2, 0) hLq100 (by rfl) (by rfl) ⟨?_, trivial⟩ ?_
    · first | exact wkSt_same rfl | (simp (decide := true) only [go_sem, reduceIte, Nat.reduceAdd, Int.reduceToNat, Nat.reduceSub, Nat.reduceMul, Nat.reduceMod]; exact wkSt_same rfl)
    · rintro nq100 _ ⟨v20, v21⟩ xq100 kq100 hkq100 - h hIq100 hEq100
      simp only [laws_heldDevArgS_s7] at h
      refine sem_cut fun k101 hk101 => zS z0 ?_
      refine sem_ifh rfl h ?_ ?_ <;> clear h <;> intro h
      · refine r_skip (r_cN hk101 ?_)
        refine sem_cut fun k103 hk103 => sem_blk fun k104 hk104 => sem_cut fun k105 hk105 => ?_
        obtain ⟨v27, h, c107⟩ := bI h
        refine zS (zRF c107) ?_
        refine sem_ifh rfl h ?_ ?_ <;> clear h <;> intro h
        · refine zS z0 (r_ret ?_)
          refine r_cR hk105 (r_bR hk104 ?_)
          refine r_cR hk103 ?_
          replace h := zX h hEq100 hKq100
          simp only [Sum.elim_inl, Sum.elim_inr] at h
          refine r_kR hkq100 (r_bR hk63 ?_)
          refine r_jR hk61 ?_
          cases h
          refine zAR hQ
        · refine r_skip (r_cN hk105 ?_)
          refine zS z0 (sem_cut fun k110 hk110 => ?_)
          obtain ⟨v28, h, c112⟩ := bI h
          refine zS (zRF c112) ?_
          refine sem_ifh rfl h ?_ ?_ <;> clear h <;> intro h
          · refine zS z0 (r_ret ?_)
            refine r_cR hk110 (r_bR hk104 ?_)
            refine r_cR hk103 ?_
            replace h := zX h hEq100 hKq100
            simp only [Sum.elim_inl, Sum.elim_inr] at h
            refine r_kR hkq100 (r_bR hk63 ?_)
            refine r_jR hk61 ?_
            cases h
            refine zAR hQ
          · refine r_skip (r_cN hk110 ?_)
            refine zS z0 (sem_cut fun k115 hk115 => ?_)
            obtain ⟨v29, h, c117⟩ := bI h
            refine zS (zRF c117) ?_
            refine sem_ifh rfl h ?_ ?_ <;> clear h <;> intro h
            · refine zS z0 (r_ret ?_)
              refine r_cR hk115 (r_bR hk104 ?_)
              refine r_cR hk103 ?_
              replace h := zX h hEq100 hKq100
              simp only [Sum.elim_inl, Sum.elim_inr] at h
              refine r_kR hkq100 (r_bR hk63 ?_)
              refine r_jR hk61 ?_
              cases h
              refine zAR hQ
            · refine r_skip (r_cN hk115 ?_)
              refine zU z0 (r_bN hk104 ?_)
              refine r_cN hk103 (zU z0 ?_)
              refine zB hkq100 h hIq100 () trivial
      · refine r_exit (r_cE hk101 ?_)
        replace h := zX h hEq100 hKq100
        simp only [Sum.elim_inl, Sum.elim_inr] at h
        refine r_kE hkq100 (r_bE hk63 ?_)
        refine zJ J60 [1] () _ h
noncomputable def laws_heldInstS_j3 : Int → Option Int
  | v19 => (some v19)
noncomputable def laws_heldInstS_s7 (v1 : (List Inst)) : (Int × Int) → Option ((Int × Int) ⊕ (Unit ⊕ Int))
  | (v24, v25) => (cond (decide (v25 < ((v1).length : Int))) (Option.bind (idx v1 (v25)) fun v32 => (cond (v32.Code != v24) (some (.inr (.inl ()))) (Option.bind (idx v1 (v25)) fun v33 => (cond (v33.One_Op != (IntKind.i64.wrap (v24 + 1))) (some (.inr (.inl ()))) (Option.bind (idx v1 (v25)) fun v34 => (Option.bind (laws_heldDevArgS v34.One_Args (IntKind.i64.wrap ((IntKind.i64.wrap (v24 + 1)) + 1))) fun v35 => (cond (decide (v35 < 0)) (some (.inr (.inl ()))) (some (.inl (v35, (IntKind.i64.wrap (v25 + 1)))))))))))) (some (.inr (.inr v24))))
noncomputable def laws_heldInstS (v1 : (List Inst)) (v2 : Int) : Option Int :=
  ((loop (laws_heldInstS_s7 v1) (v2, 0)).bind (Sum.elim (fun v30 => (some (-1))) (fun v31 => (laws_heldInstS_j3 v31))))
theorem con_laws_heldInstS (v1 : (List Inst)) (v2 : Int) (res_ : Int) (h : laws_heldInstS v1 v2 = some res_) : Con Tryd.prog C0 11 [.fz 3 (R e_Inst (v1)), .sc (.int .i64 (v2))] []
    (fun x σ' => x = .sc (.int .i64 (res_)) ∧ σ' = []) := by
  refine zCon hP 0 [0, 1, 4, 5, 9, 18, 28, 40] [.tmp 4] Tryd.func11 (by unfold Tryd.f11; rfl) fun Q hQ => ?_
  unfold laws_heldInstS at h
  refine zS z0 (zCut (fun (x : Int) => ⟨[(1, .sc (.int .i64 (x)))], []⟩) laws_heldInstS_j3 res_ ?_ ?_)
  · rintro _ v19 h
    simp only [laws_heldInstS_j3] at h
    refine zS z0 (r_ret ?_)
    cases h
    refine zAR hQ
  · intro k64 hk64 J63
    refine zS z0 (sem_blk fun k66 hk66 => ?_)
    obtain ⟨oq105, hLq105, hKq105⟩ := bind_some' h
    clear h
    refine sem_loopP [0, 1, 5] (fun (_ : Unit) (x : (Int × Int)) => (⟨[(0, .fz 3 (R e_Inst (v1))), (1, .sc (.int .i64 (x.1))), (5, .sc (.int .i64 (x.2)))], []⟩ : St)) (fun (_ : Unit) (x : (Int × Int)) => True) (laws_heldInstS_s7 v1) () (v2, 0) hLq105 (by rfl) (by rfl) ⟨?_, trivial⟩ ?_
    · first | exact wkSt_same rfl | (simp (decide := true) only [go_sem, reduceIte, Nat.reduceAdd, Int.reduceToNat, Nat.reduceSub, Nat.reduceMul, Nat.reduceMod]; exact wkSt_same rfl)
    · rintro nq105 _ ⟨v24, v25⟩ xq105 kq105 hkq105 - h hIq105 hEq105
      simp only [laws_heldInstS_s7] at h
      refine sem_cut fun k106 hk106 => zS z0 ?_
      refine sem_ifh rfl h ?_ ?_ <;> clear h <;> intro h
      · refine r_skip (r_cN hk106 ?_)
        refine sem_cut fun k108 hk108 => sem_blk fun k109 hk109 => sem_cut fun k110 hk110 => ?_
        obtain ⟨v32, h, c112⟩ := bI h
        refine zS (zRF c112) ?_
        refine sem_ifh rfl h ?_ ?_ <;> clear h <;> intro h
        · refine zS z0 (r_ret ?_)
          refine r_cR hk110 (r_bR hk109 ?_)
          refine r_cR hk108 ?_
          replace h := zX h hEq105 hKq105
          simp only [Sum.elim_inl, Sum.elim_inr] at h
          refine r_kR hkq105 (r_bR hk66 ?_)
          refine r_jR hk64 ?_
          cases h
          refine zAR hQ
        · refine r_skip (r_cN hk110 ?_)
          refine zS z0 (sem_cut fun k115 hk115 => ?_)
          obtain ⟨v33, h, c117⟩ := bI h
          refine zS (zRF c117) ?_
          refine sem_ifh rfl h ?_ ?_ <;> clear h <;> intro h
          · refine zS z0 (r_ret ?_)
            refine r_cR hk115 (r_bR hk109 ?_)
            refine r_cR hk108 ?_
            replace h := zX h hEq105 hKq105
            simp only [Sum.elim_inl, Sum.elim_inr] at h
            refine r_kR hkq105 (r_bR hk66 ?_)
            refine r_jR hk64 ?_
            cases h
            refine zAR hQ
          · refine r_skip (r_cN hk115 ?_)
            refine zS z0 ?_
            obtain ⟨v34, h, c121⟩ := bI h
            obtain ⟨v35, c122H, h⟩ := bind_some' h
            refine zS (zC1F (lF [] (con_laws_heldDevArgS _ _ _ c122H)) c121) (zS z0 ?_)
            refine sem_ifh rfl h ?_ ?_ <;> clear h <;> intro h
            · refine zS z0 (r_ret ?_)
              refine r_bR hk109 (r_cR hk108 ?_)
              replace h := zX h hEq105 hKq105
              simp only [Sum.elim_inl, Sum.elim_inr] at h
              refine r_kR hkq105 (r_bR hk66 ?_)
              refine r_jR hk64 ?_
              cases h
              refine zAR hQ
            · refine r_skip (r_bN hk109 ?_)
              refine r_cN hk108 (zU z0 ?_)
              refine zB hkq105 h hIq105 () trivial
      · refine r_exit (r_cE hk106 ?_)
        replace h := zX h hEq105 hKq105
        simp only [Sum.elim_inl, Sum.elim_inr] at h
        refine r_kE hkq105 (r_bE hk66 ?_)
        refine zJ J63 [1] () _ h
noncomputable def laws_FnExactBoxUnpack (v1 : (List Int)) : Option Bool :=
  (cond (decide (((v1).length : Int) > 1048576)) (some true) (Option.bind (laws_toByteS v1) fun v2 => (Option.bind (spec_BoxUnpack v2) fun v3 => (Option.bind (laws_toByteS v1) fun v4 => (Option.bind (impl_BoxUnpack v4) fun v5 => (cond (v5.1 != v3.1) (some false) (Option.bind (laws_eqInstS v5.2.1 v3.2.1) fun v6 => (cond ((!v6) || (!(v5.2.2 == v3.2.2))) (some false) (Option.bind (laws_toByteS v1) fun v7 => (Option.bind (laws_eqByteS v4 v7) fun v8 => (cond (!v8) (some false) (Option.bind (laws_markByteS v4 1) fun v9 => (cond (decide (v9.1 < 0)) (some false) (cond (v5.1 != v3.1) (some false) (Option.bind (laws_eqInstS v5.2.1 v3.2.1) fun v10 => (cond ((!v10) || (!(v5.2.2 == v3.2.2))) (some false) (Option.bind (laws_markInstS v5.2.1 1) fun v11 => (Option.bind (laws_heldInstS ((v11.2).take ((v5.2.1).length)) 1) fun v12 => (cond (decide (v12 < 0)) (some false) (cond (v12 != v11.1) (some false) (Option.bind (laws_toByteS v1) fun v13 => (Option.bind (impl_BoxUnpack v13) fun v14 => (cond (v14.1 != v3.1) (some false) (Option.bind (laws_eqInstS v14.2.1 v3.2.1) fun v15 => (cond ((!v15) || (!(v14.2.2 == v3.2.2))) (some false) (Option.bind (laws_heldInstS ((v11.2).take ((v5.2.1).length)) 1) fun v16 => (cond (decide (v16 < 0)) (some false) (cond (v16 != v11.1) (some false) (some true)))))))))))))))))))))))))))))
theorem con_laws_FnExactBoxUnpack (v1 : (List Int)) (res_ : Bool) (h : laws_FnExactBoxUnpack v1 = some res_) : Con Tryd.prog C0 3 [.fz 1 (R e_u8 (v1))] []
    (fun x σ' => x = .sc (.bool (res_)) ∧ σ' = []) := by
  refine zCon hP 0 [0, 2, 3, 4, 5, 6, 7, 8, 9, 10, 11, 12, 13, 14, 15, 18, 47, 52, 73, 81, 84, 105, 110, 113] [.tmp 2] Tryd.func3 (by unfold Tryd.f3; rfl) fun Q hQ => ?_
  unfold laws_FnExactBoxUnpack at h
  refine zS z0 (sem_cut fun k2 hk2 => ?_)
  refine zS z0 ?_
  refine sem_ifh rfl h ?_ ?_ <;> clear h <;> intro h
  · refine zS z0 (r_ret ?_)
    refine r_cR hk2 ?_
    cases h
    refine zAR hQ
  · refine r_skip (r_cN hk2 ?_)
    obtain ⟨v2, c6H, h⟩ := bind_some' h
    obtain ⟨v3, c7H, h⟩ := bind_some' h
    refine zS (zC2 (lF [] (con_laws_toByteS _ _ c6H)) (lC [] (con_spec_BoxUnpack _ _ c7H))) ?_
    obtain ⟨v4, c9H, h⟩ := bind_some' h
    refine zS (zC1 (lF [] (con_laws_toByteS _ _ c9H))) ?_
    obtain ⟨v5, c11H, h⟩ := bind_some' h
    refine zS (zC1 (lF [] (con_impl_BoxUnpack _ _ c11H))) (sem_cut fun k12 hk12 => ?_)
    refine sem_cut fun k13 hk13 => ?_
    rcases Bool.eq_false_or_eq_true (v5.1 != v3.1) with g14 | g14
    · replace h := cond_t h g14
      refine zU (zRF g14) (r_cN hk13 ?_)
      refine sem_ifT rfl ?_
      try replace h := cond_t h rfl
      refine zS z0 (r_ret ?_)
      refine r_cR hk12 ?_
      cases h
      refine zAR hQ
    · replace h := cond_f h g14
      obtain ⟨v6, c16H, h⟩ := bind_some' h
      refine zU (zC1F (lF [] (con_laws_eqInstS _ _ _ c16H)) g14) (r_cN hk13 ?_)
      refine sem_ifh rfl h ?_ ?_ <;> clear h <;> intro h
      · refine zS z0 (r_ret ?_)
        refine r_cR hk12 ?_
        cases h
        refine zAR hQ
      · refine r_skip (r_cN hk12 ?_)
        refine sem_cut fun k18 hk18 => ?_
        obtain ⟨v7, c20H, h⟩ := bind_some' h
        obtain ⟨v8, c21H, h⟩ := bind_some' h
        refine zS (zC2 (lF [] (con_laws_toByteS _ _ c20H)) (lF [] (con_laws_eqByteS _ _ _ c21H))) ?_
        refine sem_ifh rfl h ?_ ?_ <;> clear h <;> intro h
        · refine zS z0 (r_ret ?_)
          refine r_cR hk18 ?_
          cases h
          refine zAR hQ
        · refine r_skip (r_cN hk18 ?_)
          refine zS z0 ?_
          obtain ⟨v9, c25H, h⟩ := bind_some' h
          refine zS (zC1 (lF [[0]] (con_laws_markByteS _ _ _ c25H))) (sem_cut fun k26 hk26 => ?_)
          refine sem_cut fun k27 hk27 => ?_
          rcases Bool.eq_false_or_eq_true (decide (v9.1 < 0)) with g28 | g28
          · replace h := cond_t h g28
            refine zU (zRF g28) (r_cN hk27 ?_)
            refine sem_ifT rfl ?_
            try replace h := cond_t h rfl
            refine zS z0 (r_ret ?_)
            refine r_cR hk26 ?_
            cases h
            refine zAR hQ
          · replace h := cond_f h g28
            rcases Bool.eq_false_or_eq_true (v5.1 != v3.1) with g30 | g30
            · replace h := cond_t h g30
              refine zU (zRF (a2 g28 g30)) (r_cN hk27 ?_)
              refine sem_ifT rfl ?_
              try replace h := cond_t h rfl
              refine zS z0 (r_ret ?_)
              refine r_cR hk26 ?_
              cases h
              refine zAR hQ
            · replace h := cond_f h g30
              obtain ⟨v10, c32H, h⟩ := bind_some' h
              refine zU (zC1F (lF [] (con_laws_eqInstS _ _ _ c32H)) (a2 g28 g30)) (r_cN hk27 ?_)
              refine sem_ifh rfl h ?_ ?_ <;> clear h <;> intro h
              · refine zS z0 (r_ret ?_)
                refine r_cR hk26 ?_
                cases h
                refine zAR hQ
              · refine r_skip (r_cN hk26 ?_)
                refine zS z0 ?_
                obtain ⟨v11, c36H, h⟩ := bind_some' h
                refine zS (zC1 (lF [[0]] (con_laws_markInstS _ _ _ c36H))) (zS z0 ?_)
                obtain ⟨v12, c39H, h⟩ := bind_some' h
                refine zS (zC1 (lF [] (con_laws_heldInstS _ _ _ c39H))) (sem_cut fun k40 hk40 => ?_)
                refine zS z0 ?_
                refine sem_ifh rfl h ?_ ?_ <;> clear h <;> intro h
                · refine zS z0 (r_ret ?_)
                  refine r_cR hk40 ?_
                  cases h
                  refine zAR hQ
                · refine r_skip (r_cN hk40 ?_)
                  refine sem_cut fun k43 hk43 => zS z0 ?_
                  refine sem_ifh rfl h ?_ ?_ <;> clear h <;> intro h
                  · refine zS z0 (r_ret ?_)
                    refine r_cR hk43 ?_
                    cases h
                    refine zAR hQ
                  · refine r_skip (r_cN hk43 ?_)
                    obtain ⟨v13, c47H, h⟩ := bind_some' h
                    obtain ⟨v14, c48H, h⟩ := bind_some' h
                    refine zS (zC2 (lF [] (con_laws_toByteS _ _ c47H)) (lF [] (con_impl_BoxUnpack _ _ c48H))) (sem_cut fun k49 hk49 => ?_)
                    refine sem_cut fun k50 hk50 => ?_
                    rcases Bool.eq_false_or_eq_true (v14.1 != v3.1) with g51 | g51
                    · replace h := cond_t h g51
                      refine zU (zRF g51) (r_cN hk50 ?_)
                      refine sem_ifT rfl ?_
                      try replace h := cond_t h rfl
                      refine zS z0 (r_ret ?_)
                      refine r_cR hk49 ?_
                      cases h
                      refine zAR hQ
                    · replace h := cond_f h g51
                      obtain ⟨v15, c53H, h⟩ := bind_some' h
                      refine zU (zC1F (lF [] (con_laws_eqInstS _ _ _ c53H)) g51) (r_cN hk50 ?_)
                      refine sem_ifh rfl h ?_ ?_ <;> clear h <;> intro h
                      · refine zS z0 (r_ret ?_)
                        refine r_cR hk49 ?_
                        cases h
                        refine zAR hQ
                      · refine r_skip (r_cN hk49 ?_)
                        refine zS z0 ?_
                        obtain ⟨v16, c57H, h⟩ := bind_some' h
                        refine zS (zC1 (lF [] (con_laws_heldInstS _ _ _ c57H))) (sem_cut fun k58 hk58 => ?_)
                        refine zS z0 ?_
                        refine sem_ifh rfl h ?_ ?_ <;> clear h <;> intro h
                        · refine zS z0 (r_ret ?_)
                          refine r_cR hk58 ?_
                          cases h
                          refine zAR hQ
                        · refine r_skip (r_cN hk58 ?_)
                          refine sem_cut fun k61 hk61 => zS z0 ?_
                          refine sem_ifh rfl h ?_ ?_ <;> clear h <;> intro h
                          · refine zS z0 (r_ret ?_)
                            refine r_cR hk61 ?_
                            cases h
                            refine zAR hQ
                          · refine r_skip (r_cN hk61 ?_)
                            refine zS z0 (r_ret ?_)
                            cases h
                            refine zAR hQ

end Go.AM
