/- Pure functions and their contracts. Conditions: none. -/
import Derived.Test.YtcnlhdaeeeolbaaDoorAmZ
set_option linter.unusedSimpArgs false
set_option linter.unusedVariables false
set_option maxRecDepth 10000
set_option maxHeartbeats 4000000
namespace Go.AM
open Go Go.Proofs
noncomputable def laws_toByteS_j5 : (List Int) → Option (List Int)
  | v11 => (some v11)
noncomputable def laws_toByteS_s9 (v1 : (List Int)) : ((List Int) × Int) → Option (((List Int) × Int) ⊕ (List Int))
  | (v14, v15) => (cond (decide (v15 < ((v1).length : Int))) (Option.bind (idx v1 (v15)) fun v19 => (Option.bind (idx v14 (v15)) fun v20 => (some (.inl (((v14).set (v15).toNat v19), (IntKind.i64.wrap (v15 + 1))))))) (some (.inr v14)))
noncomputable def laws_toByteS (v1 : (List Int)) : Option (List Int) :=
  (gd (mkOk (((v1).length : Int)) (((v1).length : Int)) 1) ((loop (laws_toByteS_s9 v1) ((List.replicate (((v1).length : Int)).toNat 0), 0)).bind (fun v18 => (laws_toByteS_j5 v18))))
theorem con_laws_toByteS (v1 : (List Int)) (res_ : (List Int)) (h : laws_toByteS v1 = some res_) : Con Tryd.prog C0 5 [.fz 1 (R e_u8 (v1))] []
    (fun x σ' => x = .sl 0 0 ((res_).length) ∧ σ' = [.arr true 1 (R e_u8 (res_))]) := by
  refine zCon hP 0 [0, 2, 3, 4, 11] [.tmp 2] Tryd.func5 (by unfold Tryd.f5; rfl) fun Q hQ => ?_
  unfold laws_toByteS at h
  refine zS z0 ?_
  obtain ⟨g3, h⟩ := gMk h
  refine zS (zRF g3) (zCut (fun (x : (List Int)) => ⟨[(3, .sl 0 0 ((x).length))], [.arr true 1 (R e_u8 (x))]⟩) laws_toByteS_j5 res_ ?_ ?_)
  · rintro _ v11 h
    simp only [laws_toByteS_j5] at h
    refine zS z0 (r_ret ?_)
    cases h
    refine zOR hQ
  · intro k27 hk27 J26
    refine zS z0 (sem_blk fun k29 hk29 => ?_)
    obtain ⟨oq42, hLq42, hKq42⟩ := bind_some' h
    clear h
    refine sem_loopP [0, 3, 4] (fun (_ : Unit) (x : ((List Int) × Int)) => (⟨[(0, .fz 1 (R e_u8 (v1))), (3, .sl 0 0 ((x.1).length)), (4, .sc (.int .i64 (x.2)))], [.arr true 1 (R e_u8 (x.1))]⟩ : St)) (fun (_ : Unit) (x : ((List Int) × Int)) => True) (laws_toByteS_s9 v1) () ((List.replicate (((v1).length : Int)).toNat 0), 0) hLq42 (by rfl) (by rfl) ⟨?_, trivial⟩ ?_
    · first | exact wkSt_same rfl | (simp (decide := true) only [go_sem, reduceIte, Nat.reduceAdd, Int.reduceToNat, Nat.reduceSub, Nat.reduceMul, Nat.reduceMod]; exact wkSt_same rfl)
    · rintro nq42 _ ⟨v14, v15⟩ xq42 kq42 hkq42 - h hIq42 hEq42
      simp only [laws_toByteS_s9] at h
      refine sem_cut fun k43 hk43 => zS z0 ?_
      refine sem_ifh rfl h ?_ ?_ <;> clear h <;> intro h
      · refine r_skip (r_cN hk43 ?_)
        refine sem_cut fun k45 hk45 => sem_blk fun k46 hk46 => ?_
        obtain ⟨v19, h, c47⟩ := bI h
        obtain ⟨v20, h, c48⟩ := bI h
        refine zU (zRF (a2 c47 c48)) (r_bN hk46 ?_)
        refine r_cN hk45 (zU z0 ?_)
        refine zB hkq42 h hIq42 () trivial
      · refine r_exit (r_cE hk43 ?_)
        replace h := zX h hEq42 hKq42
        refine r_kE hkq42 (r_bE hk29 ?_)
        refine zJ J26 [3] () _ h
noncomputable def spec_l17Val_j24 : Int → Option Int
  | v12 => (some v12)
noncomputable def spec_l17Val_j7 (v1 : (List Int)) : (Int × Int) → Option Int
  | (v9, v10) => (cond (decide (((v1).length : Int) > 1)) (Option.bind (idx v1 (0)) fun v13 => (cond (decide (v13 ≥ 128)) (spec_l17Val_j24 (IntKind.i64.wrap (v9 - v10))) (spec_l17Val_j24 v9))) (spec_l17Val_j24 v9))
noncomputable def spec_l17Val_s11 (v1 : (List Int)) : (Int × Int × Int) → Option ((Int × Int × Int) ⊕ (Int × Int))
  | (v15, v16, v17) => (cond (decide (v17 < ((v1).length : Int))) (Option.bind (idx v1 (v17)) fun v20 => (some (.inl ((IntKind.i64.wrap ((IntKind.i64.wrap (v15 * 256)) + (IntKind.i64.wrap (v20)))), (IntKind.i64.wrap (v16 * 256)), (IntKind.i64.wrap (v17 + 1)))))) (some (.inr (v15, v16))))
noncomputable def spec_l17Val (v1 : (List Int)) : Option Int :=
  ((loop (spec_l17Val_s11 v1) (0, 1, 0)).bind (fun v19 => (spec_l17Val_j7 v1 (v19.1, v19.2))))
theorem con_spec_l17Val (v1 : (List Int)) (res_ : Int) (h : spec_l17Val v1 = some res_) : Con Tryd.prog C0 12 [.fz 1 (R e_u8 (v1))] []
    (fun x σ' => x = .sc (.int .i64 (res_)) ∧ σ' = []) := by
  refine zCon hP 0 [0, 2, 3, 4, 5, 9, 30] [.tmp 2] Tryd.func12 (by unfold Tryd.f12; rfl) fun Q hQ => ?_
  unfold spec_l17Val at h
  refine zS z0 (zS z0 ?_)
  refine zS z0 (zCut (fun (x : (Int × Int)) => ⟨[(0, .fz 1 (R e_u8 (v1))), (3, .sc (.int .i64 (x.1))), (4, .sc (.int .i64 (x.2)))], []⟩) (spec_l17Val_j7 v1) res_ ?_ ?_)
  · rintro _ ⟨v9, v10⟩ h
    simp only [spec_l17Val_j7] at h
    refine zCut (fun (x : Int) => ⟨[(3, .sc (.int .i64 (x)))], []⟩) spec_l17Val_j24 res_ ?_ ?_
    · rintro _ v12 h
      simp only [spec_l17Val_j24] at h
      refine zS z0 (r_ret ?_)
      cases h
      refine zAR hQ
    · intro k30 hk30 J29
      refine sem_cut fun k31 hk31 => ?_
      rcases Bool.eq_false_or_eq_true (decide (((v1).length : Int) > 1)) with g32 | g32
      · replace h := cond_t h g32
        obtain ⟨v13, h, c33⟩ := bN 0 h
        refine zU (zRF (a2 g32 c33)) (r_cN hk31 ?_)
        refine sem_ifh rfl h ?_ ?_ <;> clear h <;> intro h
        · refine zU z0 (zJ J29 [3] () _ h)
        · refine r_skip (zJ J29 [3] () _ h)
      · replace h := cond_f h g32
        refine zU (zRF g32) (r_cN hk31 ?_)
        refine sem_ifF rfl ?_
        try replace h := cond_f h rfl
        refine r_skip (zJ J29 [3] () _ h)
  · intro k35 hk35 J34
    refine zS z0 (sem_blk fun k37 hk37 => ?_)
    obtain ⟨oq50, hLq50, hKq50⟩ := bind_some' h
    clear h
    refine sem_loopP [0, 3, 4, 5] (fun (_ : Unit) (x : (Int × Int × Int)) => (⟨[(0, .fz 1 (R e_u8 (v1))), (3, .sc (.int .i64 (x.1))), (4, .sc (.int .i64 (x.2.1))), (5, .sc (.int .i64 (x.2.2)))], []⟩ : St)) (fun (_ : Unit) (x : (Int × Int × Int)) => True) (spec_l17Val_s11 v1) () (0, 1, 0) hLq50 (by rfl) (by rfl) ⟨?_, trivial⟩ ?_
    · first | exact wkSt_same rfl | (simp (decide := true) only [go_sem, reduceIte, Nat.reduceAdd, Int.reduceToNat, Nat.reduceSub, Nat.reduceMul, Nat.reduceMod]; exact wkSt_same rfl)
    · rintro nq50 _ ⟨v15, v16, v17⟩ xq50 kq50 hkq50 - h hIq50 hEq50
      simp only [spec_l17Val_s11] at h
      refine sem_cut fun k51 hk51 => zS z0 ?_
      refine sem_ifh rfl h ?_ ?_ <;> clear h <;> intro h
      · refine r_skip (r_cN hk51 ?_)
        refine sem_cut fun k53 hk53 => sem_blk fun k54 hk54 => ?_
        obtain ⟨v20, h, c56⟩ := bI h
        refine zS (zRF c56) (zU z0 ?_)
        refine r_bN hk54 (r_cN hk53 ?_)
        refine zU z0 (zB hkq50 h hIq50 () trivial)
      · refine r_exit (r_cE hk51 ?_)
        replace h := zX h hEq50 hKq50
        refine r_kE hkq50 (r_bE hk37 ?_)
        refine zJ J34 [0, 3, 4] () _ h
noncomputable def spec_l17Two (v1 : (List Int)) : Option Int :=
  (Option.bind (idx v1 (0)) fun v2 => (Option.bind (idx v1 (1)) fun v3 => (some (IntKind.i64.wrap ((IntKind.i64.wrap ((IntKind.i64.wrap (v2)) * 256)) + (IntKind.i64.wrap (v3)))))))
theorem con_spec_l17Two (v1 : (List Int)) (res_ : Int) (h : spec_l17Two v1 = some res_) : Con Tryd.prog C0 26 [.fz 1 (R e_u8 (v1))] []
    (fun x σ' => x = .sc (.int .i64 (res_)) ∧ σ' = []) := by
  refine zCon hP 0 [0, 2] [.tmp 2] Tryd.func26 (by unfold Tryd.f26; rfl) fun Q hQ => ?_
  unfold spec_l17Two at h
  refine zS z0 ?_
  obtain ⟨v2, h, c3⟩ := bN 0 h
  obtain ⟨v3, h, c4⟩ := bN 1 h
  refine zS (zRF (a2 c3 c4)) (r_ret ?_)
  cases h
  refine zAR hQ
noncomputable def spec_l17Xor_j7 : Int → Option Int
  | v11 => (some v11)
noncomputable def spec_l17Xor_j17 (v13 : Int) (v14 : Int) (v16 : Int) : Int → Option ((Int × Int × Int × Int) ⊕ Int)
  | v19 => (some (.inl ((IntKind.i64.wrap ((v13).tdiv 2)), (IntKind.i64.wrap ((v14).tdiv 2)), v19, (IntKind.i64.wrap (v16 * 2)))))
noncomputable def spec_l17Xor_s9 : (Int × Int × Int × Int) → Option ((Int × Int × Int × Int) ⊕ Int)
  | (v13, v14, v15, v16) => (cond (decide (v16 < 65536)) (cond (((v13).tmod 2) != ((v14).tmod 2)) (spec_l17Xor_j17 v13 v14 v16 (IntKind.i64.wrap (v15 + v16))) (spec_l17Xor_j17 v13 v14 v16 v15)) (some (.inr v15)))
noncomputable def spec_l17Xor (v1 : Int) (v2 : Int) : Option Int :=
  ((loop spec_l17Xor_s9 (v1, v2, 0, 1)).bind (fun v18 => (spec_l17Xor_j7 v18)))
theorem con_spec_l17Xor (v1 : Int) (v2 : Int) (res_ : Int) (h : spec_l17Xor v1 v2 = some res_) : Con Tryd.prog C0 36 [.sc (.int .i64 (v1)), .sc (.int .i64 (v2))] []
    (fun x σ' => x = .sc (.int .i64 (res_)) ∧ σ' = []) := by
  refine zCon hP 0 [0, 1, 4, 5, 6, 8, 13] [.tmp 4] Tryd.func36 (by unfold Tryd.f36; rfl) fun Q hQ => ?_
  unfold spec_l17Xor at h
  refine zS z0 (zS z0 ?_)
  refine zS z0 (zCut (fun (x : Int) => ⟨[(5, .sc (.int .i64 (x)))], []⟩) spec_l17Xor_j7 res_ ?_ ?_)
  · rintro _ v11 h
    simp only [spec_l17Xor_j7] at h
    refine zS z0 (r_ret ?_)
    cases h
    refine zAR hQ
  · intro k35 hk35 J34
    refine sem_blk fun k36 hk36 => ?_
    obtain ⟨oq55, hLq55, hKq55⟩ := bind_some' h
    clear h
    refine sem_loopP [0, 1, 5, 6] (fun (_ : Unit) (x : (Int × Int × Int × Int)) => (⟨[(0, .sc (.int .i64 (x.1))), (1, .sc (.int .i64 (x.2.1))), (5, .sc (.int .i64 (x.2.2.1))), (6, .sc (.int .i64 (x.2.2.2)))], []⟩ : St)) (fun (_ : Unit) (x : (Int × Int × Int × Int)) => True) spec_l17Xor_s9 () (v1, v2, 0, 1) hLq55 (by rfl) (by rfl) ⟨?_, trivial⟩ ?_
    · first | exact wkSt_same rfl | (simp (decide := true) only [go_sem, reduceIte, Nat.reduceAdd, Int.reduceToNat, Nat.reduceSub, Nat.reduceMul, Nat.reduceMod]; exact wkSt_same rfl)
    · rintro nq55 _ ⟨v13, v14, v15, v16⟩ xq55 kq55 hkq55 - h hIq55 hEq55
      simp only [spec_l17Xor_s9] at h
      refine sem_cut fun k56 hk56 => zS z0 ?_
      refine sem_ifh rfl h ?_ ?_ <;> clear h <;> intro h
      · refine r_skip (r_cN hk56 ?_)
        refine sem_blk fun k58 hk58 => zCut (fun (x : Int) => ⟨[(0, .sc (.int .i64 (v13))), (1, .sc (.int .i64 (v14))), (5, .sc (.int .i64 (x))), (6, .sc (.int .i64 (v16)))], []⟩) (spec_l17Xor_j17 v13 v14 v16) xq55 ?_ ?_
        · rintro _ v19 h
          simp only [spec_l17Xor_j17] at h
          refine zS zR (zS zR ?_)
          refine zU z0 (r_bN hk58 ?_)
          refine zB hkq55 h hIq55 () trivial
        · intro k63 hk63 J62
          refine zS zR ?_
          refine sem_ifh rfl h ?_ ?_ <;> clear h <;> intro h
          · refine zU z0 (zJ J62 [0, 1, 5, 6] () _ h)
          · refine r_skip (zJ J62 [0, 1, 5, 6] () _ h)
      · refine r_exit (r_cE hk56 ?_)
        replace h := zX h hEq55 hKq55
        refine r_kE hkq55 (r_bE hk36 ?_)
        refine zJ J34 [5] () _ h
noncomputable def spec_l17Round (v1 : Int) : Option Int :=
  (cond (decide ((IntKind.i64.wrap (v1 * 2)) ≥ 65536)) (Option.bind (spec_l17Xor (IntKind.i64.wrap ((IntKind.i64.wrap (v1 * 2)) - 65536)) 4129) fun v2 => (some v2)) (some (IntKind.i64.wrap (v1 * 2))))
theorem con_spec_l17Round (v1 : Int) (res_ : Int) (h : spec_l17Round v1 = some res_) : Con Tryd.prog C0 37 [.sc (.int .i64 (v1))] []
    (fun x σ' => x = .sc (.int .i64 (res_)) ∧ σ' = []) := by
  refine zCon hP 0 [0, 2, 6] [.tmp 2] Tryd.func37 (by unfold Tryd.f37; rfl) fun Q hQ => ?_
  unfold spec_l17Round at h
  refine zS z0 (zS z0 ?_)
  refine sem_cut fun k3 hk3 => zS z0 ?_
  refine sem_ifh rfl h ?_ ?_ <;> clear h <;> intro h
  · obtain ⟨v2, c6H, h⟩ := bind_some' h
    refine zS (zC1 (lF [] (con_spec_l17Xor _ _ _ c6H))) (r_ret ?_)
    refine r_cR hk3 ?_
    cases h
    refine zAR hQ
  · refine r_skip (r_cN hk3 ?_)
    refine zS z0 (r_ret ?_)
    cases h
    refine zAR hQ
noncomputable def spec_PicSum_j5 : Int → Option Int
  | v56 => (some (IntKind.u16.wrap (v56)))
noncomputable def spec_PicSum_j16 (v75 : Int) : Int → Option ((Int × Int) ⊕ Int)
  | v102 => (some (.inl (v102, (IntKind.i64.wrap (v75 + 1)))))
noncomputable def spec_PicSum_s23 : (Int × Int) → Option ((Int × Int) ⊕ Int)
  | (v106, v107) => (cond (decide (v107 < 8)) (Option.bind (spec_l17Round v106) fun v110 => (some (.inl (v110, (IntKind.i64.wrap (v107 + 1)))))) (some (.inr v106)))
noncomputable def spec_PicSum_s9 (v1 : (List Int)) : (Int × Int) → Option ((Int × Int) ⊕ Int)
  | (v74, v75) => (cond (decide (v75 < ((v1).length : Int))) (Option.bind (idx v1 (v75)) fun v103 => (Option.bind (spec_l17Xor v74 (IntKind.i64.wrap ((IntKind.i64.wrap (v103)) * 256))) fun v104 => ((loop spec_PicSum_s23 (v104, 0)).bind (fun v109 => (spec_PicSum_j16 v75 v109))))) (some (.inr v74)))
noncomputable def spec_PicSum (v1 : (List Int)) : Option Int :=
  ((loop (spec_PicSum_s9 v1) (65535, 0)).bind (fun v93 => (spec_PicSum_j5 v93)))
theorem con_spec_PicSum (v1 : (List Int)) (res_ : Int) (h : spec_PicSum v1 = some res_) : Con Tryd.prog C0 27 [.fz 1 (R e_u8 (v1))] []
    (fun x σ' => x = .sc (.int .u16 (res_)) ∧ σ' = []) := by
  refine zCon hP 0 [0, 2, 3, 4, 5, 9, 21] [.tmp 2] Tryd.func27 (by unfold Tryd.f27; rfl) fun Q hQ => ?_
  unfold spec_PicSum at h
  refine zS z0 (zS z0 ?_)
  refine zCut (fun (x : Int) => ⟨[(3, .sc (.int .i64 (x)))], []⟩) spec_PicSum_j5 res_ ?_ ?_
  · rintro _ v56 h
    simp only [spec_PicSum_j5] at h
    refine zS z0 (r_ret ?_)
    cases h
    refine zAR hQ
  · intro k152 hk152 J151
    refine zS z0 (sem_blk fun k154 hk154 => ?_)
    obtain ⟨oq251, hLq251, hKq251⟩ := bind_some' h
    clear h
    refine sem_loopP [0, 3, 4] (fun (_ : Unit) (x : (Int × Int)) => (⟨[(0, .fz 1 (R e_u8 (v1))), (3, .sc (.int .i64 (x.1))), (4, .sc (.int .i64 (x.2)))], []⟩ : St)) (fun (_ : Unit) (x : (Int × Int)) => True) (spec_PicSum_s9 v1) () (65535, 0) hLq251 (by rfl) (by rfl) ⟨?_, trivial⟩ ?_
    · first | exact wkSt_same rfl | (simp (decide := true) only [go_sem, reduceIte, Nat.reduceAdd, Int.reduceToNat, Nat.reduceSub, Nat.reduceMul, Nat.reduceMod]; exact wkSt_same rfl)
    · rintro nq251 _ ⟨v74, v75⟩ xq251 kq251 hkq251 - h hIq251 hEq251
      simp only [spec_PicSum_s9] at h
      refine sem_cut fun k252 hk252 => zS z0 ?_
      refine sem_ifh rfl h ?_ ?_ <;> clear h <;> intro h
      · refine r_skip (r_cN hk252 ?_)
        refine zCut (fun (x : Int) => ⟨[(0, .fz 1 (R e_u8 (v1))), (3, .sc (.int .i64 (x))), (4, .sc (.int .i64 (v75)))], []⟩) (spec_PicSum_j16 v75) xq251 ?_ ?_
        · rintro _ v102 h
          simp only [spec_PicSum_j16] at h
          refine zU z0 (zB hkq251 h hIq251 () trivial)
        · intro k277 hk277 J276
          refine sem_blk fun k278 hk278 => ?_
          obtain ⟨v103, h, c280⟩ := bI h
          obtain ⟨v104, c281H, h⟩ := bind_some' h
          refine zS (zC1F (lF [] (con_spec_l17Xor _ _ _ c281H)) c280) (zS z0 ?_)
          refine sem_blk fun k283 hk283 => ?_
          obtain ⟨oq294, hLq294, hKq294⟩ := bind_some' h
          clear h
          refine sem_loopP [0, 3, 4, 5] (fun (_ : Unit) (x : (Int × Int)) => (⟨[(0, .fz 1 (R e_u8 (v1))), (3, .sc (.int .i64 (x.1))), (4, .sc (.int .i64 (v75))), (5, .sc (.int .i64 (x.2)))], []⟩ : St)) (fun (_ : Unit) (x : (Int × Int)) => True) spec_PicSum_s23 () (v104, 0) hLq294 (by rfl) (by rfl) ⟨?_, trivial⟩ ?_
          · first | exact wkSt_same rfl | (simp (decide := true) only [go_sem, reduceIte, Nat.reduceAdd, Int.reduceToNat, Nat.reduceSub, Nat.reduceMul, Nat.reduceMod]; exact wkSt_same rfl)
          · rintro nq294 _ ⟨v106, v107⟩ xq294 kq294 hkq294 - h hIq294 hEq294
            simp only [spec_PicSum_s23] at h
            refine sem_cut fun k295 hk295 => zS z0 ?_
            refine sem_ifh rfl h ?_ ?_ <;> clear h <;> intro h
            · refine r_skip (r_cN hk295 ?_)
              refine sem_cut fun k297 hk297 => sem_blk fun k298 hk298 => ?_
              obtain ⟨v110, c299H, h⟩ := bind_some' h
              refine zU (zC1 (lF [] (con_spec_l17Round _ _ c299H))) (r_bN hk298 ?_)
              refine r_cN hk297 (zU z0 ?_)
              refine zB hkq294 h hIq294 () trivial
            · refine r_exit (r_cE hk295 ?_)
              replace h := zX h hEq294 hKq294
              refine r_kE hkq294 (r_bE hk283 ?_)
              refine r_bN hk278 (zJ J276 [0, 3, 4] () _ h)
      · refine r_exit (r_cE hk252 ?_)
        replace h := zX h hEq251 hKq251
        refine r_kE hkq251 (r_bE hk154 ?_)
        refine zJ J151 [3] () _ h
noncomputable def spec_l17In_take (v1 : l17In) (v2 : Int) : Option ((List Int) × Bool × l17In) :=
  (cond (decide ((IntKind.i64.wrap (((v1.b).length : Int) - v1.at_)) < v2)) (some ([], false, v1)) (Option.bind (prt v1.b ((IntKind.i64.wrap ((IntKind.i64.wrap (v1.at_ + v2)) - v2))) ((IntKind.i64.wrap (v1.at_ + v2)))) fun v3 => (some (v3, true, (⟨v1.b, (IntKind.i64.wrap (v1.at_ + v2))⟩ : l17In)))))
theorem con_spec_l17In_take (v1 : l17In) (v2 : Int) (res_ : ((List Int) × Bool × l17In)) (h : spec_l17In_take v1 v2 = some res_) : Con Tryd.prog C0 38 [.pt 0 0, .sc (.int .i64 (v2))] [.rc [.fz 1 (R e_u8 (v1.b)), .sc (.int .i64 (v1.at_))]]
    (fun x σ' => x = .tup [.fz 1 (R e_u8 (res_.1)), .sc (.bool (res_.2.1))] ∧ σ' = [.rc [.fz 1 (R e_u8 (res_.2.2.b)), .sc (.int .i64 (res_.2.2.at_))]]) := by
  refine zCon hP 1 [0, 1, 4, 5, 17] [.tmp 4, .tmp 5] Tryd.func38 (by unfold Tryd.f38; rfl) fun Q hQ => ?_
  unfold spec_l17In_take at h
  refine zS z0 (sem_cut fun k2 hk2 => ?_)
  refine zS zR ?_
  refine sem_ifh rfl h ?_ ?_ <;> clear h <;> intro h
  · refine zS z0 (r_ret ?_)
    refine r_cR hk2 ?_
    cases h
    refine zARw hQ
  · refine r_skip (r_cN hk2 ?_)
    refine zS z0 ?_
    obtain ⟨v3, c7H, h⟩ := bind_some' h
    obtain ⟨c7A, c7B, c7C, c7D⟩ := prt_some c7H
    try simp only [Int.reduceToNat, Int.toNat_zero, Int.toNat_one, Int.toNat_natCast, List.take_length] at c7D
    refine zS (zRF (a4 c7A c7B c7C c7D)) (r_ret ?_)
    cases h
    refine zAR hQ
noncomputable def spec_l17Has (v1 : Int) : Option Bool :=
  (some ((((v1 == 1) || (v1 == 2)) || (v1 == 3)) || (v1 == 10)))
theorem con_spec_l17Has (v1 : Int) (res_ : Bool) (h : spec_l17Has v1 = some res_) : Con Tryd.prog C0 39 [.sc (.int .i64 (v1))] []
    (fun x σ' => x = .sc (.bool (res_)) ∧ σ' = []) := by
  refine zCon hP 0 [0, 2] [.tmp 2] Tryd.func39 (by unfold Tryd.f39; rfl) fun Q hQ => ?_
  unfold spec_l17Has at h
  refine zS z0 (zS zR ?_)
  refine r_ret ?_
  cases h
  refine zAR hQ
noncomputable def spec_l17Known (v1 : Int) (v2 : Int) : Option Bool :=
  (cond (v1 == 10) (some ((decide (v2 ≥ 21)) && (decide (v2 ≤ 37)))) (some ((decide (v2 ≥ 1)) && (decide (v2 ≤ 10)))))
theorem con_spec_l17Known (v1 : Int) (v2 : Int) (res_ : Bool) (h : spec_l17Known v1 v2 = some res_) : Con Tryd.prog C0 40 [.sc (.int .i64 (v1)), .sc (.int .i64 (v2))] []
    (fun x σ' => x = .sc (.bool (res_)) ∧ σ' = []) := by
  refine zCon hP 0 [0, 1, 4, 6] [.tmp 4] Tryd.func40 (by unfold Tryd.f40; rfl) fun Q hQ => ?_
  unfold spec_l17Known at h
  refine zS z0 (sem_cut fun k2 hk2 => ?_)
  refine zS z0 ?_
  refine sem_ifh rfl h ?_ ?_ <;> clear h <;> intro h
  · refine zS zR (r_ret ?_)
    refine r_cR hk2 ?_
    cases h
    refine zAR hQ
  · refine r_skip (r_cN hk2 ?_)
    refine zS zR (r_ret ?_)
    cases h
    refine zAR hQ
noncomputable def spec_ElemArity_j33 (v1 : Int) : Bool → Option Int
  | v3 => (cond v3 (some 3) (cond (((decide (v1 ≥ 1)) && (decide (v1 ≤ 10))) || ((decide (v1 ≥ 21)) && (decide (v1 ≤ 37)))) (some 2) (some 0)))
noncomputable def spec_ElemArity_j7 (v1 : Int) : Bool → Option Int
  | v2 => (cond v2 (some 1) (cond (v1 == 31) (spec_ElemArity_j33 v1 (v1 == 31)) (cond (v1 == 32) (spec_ElemArity_j33 v1 (v1 == 32)) (cond (v1 == 33) (spec_ElemArity_j33 v1 (v1 == 33)) (cond (v1 == 34) (spec_ElemArity_j33 v1 (v1 == 34)) (spec_ElemArity_j33 v1 (v1 == 35)))))))
noncomputable def spec_ElemArity (v1 : Int) : Option Int :=
  (cond (v1 == 1) (spec_ElemArity_j7 v1 (v1 == 1)) (cond (v1 == 2) (spec_ElemArity_j7 v1 (v1 == 2)) (cond (v1 == 21) (spec_ElemArity_j7 v1 (v1 == 21)) (cond (v1 == 22) (spec_ElemArity_j7 v1 (v1 == 22)) (cond (v1 == 23) (spec_ElemArity_j7 v1 (v1 == 23)) (spec_ElemArity_j7 v1 (v1 == 25)))))))
theorem con_spec_ElemArity (v1 : Int) (res_ : Int) (h : spec_ElemArity v1 = some res_) : Con Tryd.prog C0 41 [.sc (.int .i64 (v1))] []
    (fun x σ' => x = .sc (.int .i64 (res_)) ∧ σ' = []) := by
  refine zCon hP 0 [0, 2, 3, 4, 11, 30] [.tmp 2] Tryd.func41 (by unfold Tryd.f41; rfl) fun Q hQ => ?_
  unfold spec_ElemArity at h
  refine zS z0 (sem_cut fun k2 hk2 => ?_)
  refine zS z0 (sem_blk fun k4 hk4 => ?_)
  refine zCut (fun (x : Bool) => ⟨[(0, .sc (.int .i64 (v1))), (3, .sc (.int .i64 (v1))), (4, .sc (.bool (x)))], []⟩) (spec_ElemArity_j7 v1) res_ ?_ ?_
  · rintro _ v2 h
    simp only [spec_ElemArity_j7] at h
    refine sem_ifh rfl h ?_ ?_ <;> clear h <;> intro h
    · refine zS z0 (r_ret ?_)
      refine r_bR hk4 (r_cR hk2 ?_)
      cases h
      refine zAR hQ
    · refine zCut (fun (x : Bool) => ⟨[(0, .sc (.int .i64 (v1))), (11, .sc (.bool (x)))], []⟩) (spec_ElemArity_j33 v1) res_ ?_ ?_
      · rintro _ v3 h
        simp only [spec_ElemArity_j33] at h
        refine sem_ifh rfl h ?_ ?_ <;> clear h <;> intro h
        · refine zS z0 (r_ret ?_)
          refine r_bR hk4 (r_cR hk2 ?_)
          cases h
          refine zAR hQ
        · refine r_skip (r_bN hk4 ?_)
          refine r_cN hk2 (sem_cut fun k16 hk16 => ?_)
          refine zS zR ?_
          refine sem_ifh rfl h ?_ ?_ <;> clear h <;> intro h
          · refine zS z0 (r_ret ?_)
            refine r_cR hk16 ?_
            cases h
            refine zAR hQ
          · refine r_skip (r_cN hk16 ?_)
            refine zS z0 (r_ret ?_)
            cases h
            refine zAR hQ
      · intro k21 hk21 J20
        refine zS z0 ?_
        refine sem_ifh rfl h ?_ ?_ <;> clear h <;> intro h
        · refine r_skip (zJ J20 [0, 11] () _ h)
        · refine zS z0 ?_
          refine sem_ifh rfl h ?_ ?_ <;> clear h <;> intro h
          · refine r_skip (zJ J20 [0, 11] () _ h)
          · refine zS z0 ?_
            refine sem_ifh rfl h ?_ ?_ <;> clear h <;> intro h
            · refine r_skip (zJ J20 [0, 11] () _ h)
            · refine zS z0 ?_
              refine sem_ifh rfl h ?_ ?_ <;> clear h <;> intro h
              · refine r_skip (zJ J20 [0, 11] () _ h)
              · refine zU z0 (zJ J20 [0, 11] () _ h)
  · intro k27 hk27 J26
    refine zS z0 ?_
    refine sem_ifh rfl h ?_ ?_ <;> clear h <;> intro h
    · refine r_skip (zJ J26 [0, 3, 4] () _ h)
    · refine zS z0 ?_
      refine sem_ifh rfl h ?_ ?_ <;> clear h <;> intro h
      · refine r_skip (zJ J26 [0, 3, 4] () _ h)
      · refine zS z0 ?_
        refine sem_ifh rfl h ?_ ?_ <;> clear h <;> intro h
        · refine r_skip (zJ J26 [0, 3, 4] () _ h)
        · refine zS z0 ?_
          refine sem_ifh rfl h ?_ ?_ <;> clear h <;> intro h
          · refine r_skip (zJ J26 [0, 3, 4] () _ h)
          · refine zS z0 ?_
            refine sem_ifh rfl h ?_ ?_ <;> clear h <;> intro h
            · refine r_skip (zJ J26 [0, 3, 4] () _ h)
            · refine zU z0 (zJ J26 [0, 3, 4] () _ h)
noncomputable def spec_l17Wide (v1 : Int) : Option Int :=
  (cond (v1 == 11) (some 2) (cond (v1 == 12) (some 4) (some 1)))
theorem con_spec_l17Wide (v1 : Int) (res_ : Int) (h : spec_l17Wide v1 = some res_) : Con Tryd.prog C0 54 [.sc (.int .i64 (v1))] []
    (fun x σ' => x = .sc (.int .i64 (res_)) ∧ σ' = []) := by
  refine zCon hP 0 [0, 2, 3, 4, 6] [.tmp 2] Tryd.func54 (by unfold Tryd.f54; rfl) fun Q hQ => ?_
  unfold spec_l17Wide at h
  refine zS z0 (sem_cut fun k2 hk2 => ?_)
  refine zS z0 (sem_blk fun k4 hk4 => ?_)
  refine zS z0 ?_
  refine sem_ifh rfl h ?_ ?_ <;> clear h <;> intro h
  · refine zS z0 (r_ret ?_)
    refine r_bR hk4 (r_cR hk2 ?_)
    cases h
    refine zAR hQ
  · refine zS z0 ?_
    refine sem_ifh rfl h ?_ ?_ <;> clear h <;> intro h
    · refine zS z0 (r_ret ?_)
      refine r_bR hk4 (r_cR hk2 ?_)
      cases h
      refine zAR hQ
    · refine r_skip (r_bN hk4 ?_)
      refine r_cN hk2 (zS z0 ?_)
      refine r_ret ?_
      cases h
      refine zAR hQ
noncomputable def spec_l17In_arg_j37 (v3 : Int) (v6 : Int) : ((List Int) × Int × Int) → Option (DevArg × Int × l17In)
  | (v9, v10, v11) => (some ((⟨(IntKind.i64.wrap (v3)), v6, v11⟩ : DevArg), 0, (⟨v9, v10⟩ : l17In)))
noncomputable def spec_l17In_arg (v1 : l17In) : Option (DevArg × Int × l17In) :=
  (Option.bind (spec_l17In_take v1 1) fun v2 => (cond (!v2.2.1) (some ((⟨0, 0, 0⟩ : DevArg), 6, v2.2.2)) (Option.bind (idx v2.1 (0)) fun v3 => (cond ((decide ((IntKind.i64.wrap (v3)) < 1)) || (decide ((IntKind.i64.wrap (v3)) > 13))) (some ((⟨0, 0, 0⟩ : DevArg), 3, v2.2.2)) (Option.bind (spec_l17Wide (IntKind.i64.wrap (v3))) fun v4 => (Option.bind (spec_l17In_take v2.2.2 v4) fun v5 => (cond (!v5.2.1) (some ((⟨0, 0, 0⟩ : DevArg), 6, v5.2.2)) (Option.bind (spec_l17Val v5.1) fun v6 => (cond ((IntKind.i64.wrap (v3)) == 12) (Option.bind (spec_l17In_take v5.2.2 1) fun v12 => (cond (!v12.2.1) (some ((⟨0, 0, 0⟩ : DevArg), 6, v12.2.2)) (Option.bind (idx v12.1 (0)) fun v13 => (spec_l17In_arg_j37 v3 v6 (v12.2.2.b, v12.2.2.at_, (IntKind.i64.wrap (v13))))))) (spec_l17In_arg_j37 v3 v6 (v5.2.2.b, v5.2.2.at_, 0)))))))))))
theorem con_spec_l17In_arg (v1 : l17In) (res_ : (DevArg × Int × l17In)) (h : spec_l17In_arg v1 = some res_) : Con Tryd.prog C0 42 [.pt 0 0] [.rc [.fz 1 (R e_u8 (v1.b)), .sc (.int .i64 (v1.at_))]]
    (fun x σ' => x = .tup [.agg [.sc (.int .i64 (res_.1.Kind)), .sc (.int .i64 (res_.1.N)), .sc (.int .i64 (res_.1.P))], .sc (.int .i64 (res_.2.1))] ∧ σ' = [.rc [.fz 1 (R e_u8 (res_.2.2.b)), .sc (.int .i64 (res_.2.2.at_))]]) := by
  refine zCon hP 1 [0, 2, 3, 4, 5, 6, 7, 8, 9, 10, 11, 18, 32, 44, 51, 58] [.cell 2 54, .tmp 3] Tryd.func42 (by unfold Tryd.f42; rfl) fun Q hQ => ?_
  unfold spec_l17In_arg at h
  refine zS z0 ?_
  obtain ⟨v2, c3H, h⟩ := bind_some' h
  refine zS (zC1 (lC [[0]] (con_spec_l17In_take _ _ _ c3H))) (sem_cut fun k4 hk4 => ?_)
  refine zS z0 ?_
  refine sem_ifh rfl h ?_ ?_ <;> clear h <;> intro h
  · refine zS z0 (r_ret ?_)
    refine r_cR hk4 ?_
    cases h
    refine zAR hQ
  · refine r_skip (r_cN hk4 ?_)
    obtain ⟨v3, h, c8⟩ := bN 0 h
    refine zS (zRF c8) (sem_cut fun k9 hk9 => ?_)
    refine zS zR ?_
    refine sem_ifh rfl h ?_ ?_ <;> clear h <;> intro h
    · refine zS z0 (r_ret ?_)
      refine r_cR hk9 ?_
      cases h
      refine zAR hQ
    · refine r_skip (r_cN hk9 ?_)
      obtain ⟨v4, c13H, h⟩ := bind_some' h
      refine zS (zC1 (lF [] (con_spec_l17Wide _ _ c13H))) ?_
      obtain ⟨v5, c15H, h⟩ := bind_some' h
      refine zS (zC1 (lC [[0]] (con_spec_l17In_take _ _ _ c15H))) (sem_cut fun k16 hk16 => ?_)
      refine zS z0 ?_
      refine sem_ifh rfl h ?_ ?_ <;> clear h <;> intro h
      · refine zS z0 (r_ret ?_)
        refine r_cR hk16 ?_
        cases h
        refine zAR hQ
      · refine r_skip (r_cN hk16 ?_)
        obtain ⟨v6, c20H, h⟩ := bind_some' h
        refine zS (zC1 (lF [] (con_spec_l17Val _ _ c20H))) (zCut (fun (x : ((List Int) × Int × Int)) => ⟨[(2, .pt 1 0), (6, .pt 2 0)], [.rc [.fz 1 (R e_u8 (x.1)), .sc (.int .i64 (x.2.1))], .rc [.sc (.int .i64 (0)), .sc (.int .i64 (0)), .sc (.int .i64 (0))], .rc [.sc (.int .i64 ((IntKind.i64.wrap (v3)))), .sc (.int .i64 (v6)), .sc (.int .i64 (x.2.2))]]⟩) (spec_l17In_arg_j37 v3 v6) res_ ?_ ?_)
        · rintro _ ⟨v9, v10, v11⟩ h
          simp only [spec_l17In_arg_j37] at h
          refine zS z0 (r_ret ?_)
          cases h
          refine zAR hQ
        · intro k30 hk30 J29
          refine zS z0 ?_
          refine sem_ifh rfl h ?_ ?_ <;> clear h <;> intro h
          · obtain ⟨v12, c33H, h⟩ := bind_some' h
            refine zS (zC1 (lC [[0]] (con_spec_l17In_take _ _ _ c33H))) (sem_cut fun k34 hk34 => ?_)
            refine zS z0 ?_
            refine sem_ifh rfl h ?_ ?_ <;> clear h <;> intro h
            · refine zS z0 (r_ret ?_)
              refine r_cR hk34 (r_jR hk30 ?_)
              cases h
              refine zAR hQ
            · refine r_skip (r_cN hk34 ?_)
              obtain ⟨v13, h, c37⟩ := bN 0 h
              refine zU (zRF c37) (zJ J29 [2, 6] () _ h)
          · refine r_skip (zJ J29 [2, 6] () _ h)
noncomputable def spec_l17In_inst_j51 (v3 : Int) (v6 : Int) : ((List Int) × Int × (List DevArg)) → Option (Inst × Int × l17In)
  | (v20, v21, v22) => (some ((⟨(IntKind.i64.wrap (v3)), (IntKind.i64.wrap (v6)), v22⟩ : Inst), 0, (⟨v20, v21⟩ : l17In)))
noncomputable def spec_l17In_inst_s55 (v6 : Int) : ((List Int) × Int × (List DevArg) × Int) → Option (((List Int) × Int × (List DevArg) × Int) ⊕ (((List Int) × Int × Int) ⊕ ((List Int) × Int × (List DevArg))))
  | (v25, v26, v27, v28) => (Option.bind (spec_ElemArity (IntKind.i64.wrap (v6))) fun v33 => (cond (decide (v28 < v33)) (Option.bind (spec_l17In_arg (⟨v25, v26⟩ : l17In)) fun v34 => (cond (decide (v34.2.1 > 0)) (some (.inr (.inl (v34.2.2.b, v34.2.2.at_, v34.2.1)))) (gd (apOk ((v27 ++ [v34.1])).length 24) (some (.inl (v34.2.2.b, v34.2.2.at_, (v27 ++ [v34.1]), (IntKind.i64.wrap (v28 + 1)))))))) (some (.inr (.inr (v25, v26, v27))))))
noncomputable def spec_l17In_inst (v1 : l17In) : Option (Inst × Int × l17In) :=
  (Option.bind (spec_l17In_take v1 1) fun v2 => (cond (!v2.2.1) (some ((⟨0, 0, []⟩ : Inst), 6, v2.2.2)) (Option.bind (idx v2.1 (0)) fun v3 => (cond ((decide ((IntKind.i64.wrap (v3)) < 1)) || (decide ((IntKind.i64.wrap (v3)) > 11))) (some ((⟨0, 0, []⟩ : Inst), 2, v2.2.2)) (Option.bind (spec_l17Has (IntKind.i64.wrap (v3))) fun v4 => (cond (!v4) (some ((⟨(IntKind.i64.wrap (v3)), 0, []⟩ : Inst), 0, v2.2.2)) (Option.bind (spec_l17In_take v2.2.2 1) fun v5 => (cond (!v5.2.1) (some ((⟨0, 0, []⟩ : Inst), 6, v5.2.2)) (Option.bind (idx v5.1 (0)) fun v6 => (Option.bind (spec_l17Known (IntKind.i64.wrap (v3)) (IntKind.i64.wrap (v6))) fun v7 => (cond (!v7) (some ((⟨0, 0, []⟩ : Inst), 2, v5.2.2)) ((loop (spec_l17In_inst_s55 v6) (v5.2.2.b, v5.2.2.at_, [], 0)).bind (Sum.elim (fun v31 => (some ((⟨0, 0, []⟩ : Inst), v31.2.2, (⟨v31.1, v31.2.1⟩ : l17In)))) (fun v32 => (spec_l17In_inst_j51 v3 v6 (v32.1, v32.2.1, v32.2.2))))))))))))))))
theorem con_spec_l17In_inst (v1 : l17In) (res_ : (Inst × Int × l17In)) (h : spec_l17In_inst v1 = some res_) : Con Tryd.prog C0 28 [.pt 0 0] [.rc [.fz 1 (R e_u8 (v1.b)), .sc (.int .i64 (v1.at_))]]
    (fun x σ' => x = .tup [.agg [.sc (.int .i64 (res_.1.Code)), .sc (.int .i64 (res_.1.One_Op)), .sl 1 0 ((res_.1.One_Args).length)], .sc (.int .i64 (res_.2.1))] ∧ σ' = [.rc [.fz 1 (R e_u8 (res_.2.2.b)), .sc (.int .i64 (res_.2.2.at_))], .arr true 3 (R e_DevArg (res_.1.One_Args))]) := by
  refine zCon hP 1 [0, 2, 3, 4, 5, 6, 7, 8, 9, 10, 11, 18, 32, 37, 45, 59, 66, 75] [.cell 2 41, .tmp 3] Tryd.func28 (by unfold Tryd.f28; rfl) fun Q hQ => ?_
  unfold spec_l17In_inst at h
  refine zS z0 ?_
  obtain ⟨v2, c3H, h⟩ := bind_some' h
  refine zS (zC1 (lC [[0]] (con_spec_l17In_take _ _ _ c3H))) (sem_cut fun k4 hk4 => ?_)
  refine zS z0 ?_
  refine sem_ifh rfl h ?_ ?_ <;> clear h <;> intro h
  · refine zS z0 (r_ret ?_)
    refine r_cR hk4 ?_
    cases h
    refine zVRw [0, 2000002] hQ
  · refine r_skip (r_cN hk4 ?_)
    obtain ⟨v3, h, c8⟩ := bN 0 h
    refine zS (zRF c8) (sem_cut fun k9 hk9 => ?_)
    refine zS zR ?_
    refine sem_ifh rfl h ?_ ?_ <;> clear h <;> intro h
    · refine zS z0 (r_ret ?_)
      refine r_cR hk9 ?_
      cases h
      refine zVRw [0, 2000002] hQ
    · refine r_skip (r_cN hk9 ?_)
      refine sem_cut fun k12 hk12 => ?_
      obtain ⟨v4, c14H, h⟩ := bind_some' h
      refine zS (zC1 (lF [] (con_spec_l17Has _ _ c14H))) ?_
      refine sem_ifh rfl h ?_ ?_ <;> clear h <;> intro h
      · refine zS z0 (r_ret ?_)
        refine r_cR hk12 ?_
        cases h
        refine zVRw [0, 2000002] hQ
      · refine r_skip (r_cN hk12 ?_)
        obtain ⟨v5, c17H, h⟩ := bind_some' h
        refine zS (zC1 (lC [[0]] (con_spec_l17In_take _ _ _ c17H))) (sem_cut fun k18 hk18 => ?_)
        refine zS z0 ?_
        refine sem_ifh rfl h ?_ ?_ <;> clear h <;> intro h
        · refine zS z0 (r_ret ?_)
          refine r_cR hk18 ?_
          cases h
          refine zVRw [0, 2000002] hQ
        · refine r_skip (r_cN hk18 ?_)
          obtain ⟨v6, h, c22⟩ := bN 0 h
          refine zS (zRF c22) (sem_cut fun k23 hk23 => ?_)
          obtain ⟨v7, c25H, h⟩ := bind_some' h
          refine zS (zC1 (lF [] (con_spec_l17Known _ _ _ c25H))) ?_
          refine sem_ifh rfl h ?_ ?_ <;> clear h <;> intro h
          · refine zS z0 (r_ret ?_)
            refine r_cR hk23 ?_
            cases h
            refine zVRw [0, 2000002] hQ
          · refine r_skip (r_cN hk23 ?_)
            refine zCut (fun (x : ((List Int) × Int × (List DevArg))) => ⟨[(2, .pt 1 0), (6, .pt 2 0)], [.rc [.fz 1 (R e_u8 (x.1)), .sc (.int .i64 (x.2.1))], .rc [.sc (.int .i64 (0)), .sc (.int .i64 (0)), .sc (.slice none 0 0)], .rc [.sc (.int .i64 ((IntKind.i64.wrap (v3)))), .sc (.int .i64 ((IntKind.i64.wrap (v6)))), .sl 3 0 ((x.2.2).length)], .arr true 3 (R e_DevArg (x.2.2))]⟩) (spec_l17In_inst_j51 v3 v6) res_ ?_ ?_
            · rintro _ ⟨v20, v21, v22⟩ h
              simp only [spec_l17In_inst_j51] at h
              refine zS z0 (r_ret ?_)
              cases h
              refine zOR hQ
            · intro k65 hk65 J64
              refine zS z0 (sem_blk fun k67 hk67 => ?_)
              obtain ⟨oq90, hLq90, hKq90⟩ := bind_some' h
              clear h
              refine sem_loopV [0, 2, 6, 9] [0, 1, 2, 2000002] (fun (_ : Unit) (x : ((List Int) × Int × (List DevArg) × Int)) => (⟨[(0, .pt 0 0), (2, .pt 1 0), (6, .pt 2 0), (9, .sc (.int .i64 (x.2.2.2)))], [.rc [.fz 1 (R e_u8 (x.1)), .sc (.int .i64 (x.2.1))], .rc [.sc (.int .i64 (0)), .sc (.int .i64 (0)), .sc (.slice none 0 0)], .rc [.sc (.int .i64 ((IntKind.i64.wrap (v3)))), .sc (.int .i64 ((IntKind.i64.wrap (v6)))), .sl 3 0 ((x.2.2.1).length)], .arr true 3 (R e_DevArg (x.2.2.1))]⟩ : St)) (fun (_ : Unit) (x : ((List Int) × Int × (List DevArg) × Int)) => True) (spec_l17In_inst_s55 v6) () (v5.2.2.b, v5.2.2.at_, [], 0) hLq90 (by rfl) (by rfl) ⟨?_, trivial⟩ ?_
              · simp (decide := true) only [go_sem, reduceIte, Nat.reduceAdd, Int.reduceToNat, Nat.reduceSub, Nat.reduceMul, Nat.reduceMod]
                (apply wkSt_mk <;> repeat' (first | exact wkE_nil | (with_reducible apply wkE_cons) | exact wkC_nil _ | exact wkV_nil _ | exact wkA_nil _ | (with_reducible apply wkV_agg) | (with_reducible apply wkV_tup) | (with_reducible apply wkA_agg) | exact wkA_refl _ | exact wkV_refl _ | exact wkS_nil | (with_reducible apply wkS_cons) | (with_reducible apply wkO_rc) | (with_reducible apply wkO_arr) | exact wkO_refl _ | exact wkL_nil | (with_reducible apply wkL_cons) | exact wkC_refl _ | exact wkT_nil | (with_reducible apply wkT_cons) | (with_reducible apply wkR_appR) | (with_reducible apply wkR_consR) | exact wkR_nilR _ | exact wkM_nil | (with_reducible apply wkM_cons) | exact wkD_refl _ | exact wkD_nil _ | exact wkD_sl _ | exact wkA_sl _ | exact wkV_sl _ | exact wkR_refl _))
              · rintro nq90 _ ⟨v25, v26, v27, v28⟩ xq90 kq90 hkq90 - h hIq90 hEq90
                simp only [spec_l17In_inst_s55] at h
                refine sem_cut fun k91 hk91 => ?_
                obtain ⟨v33, c93H, h⟩ := bind_some' h
                refine zS (zC1 (lF [] (con_spec_ElemArity _ _ c93H))) ?_
                refine sem_ifh rfl h ?_ ?_ <;> clear h <;> intro h
                · refine r_skip (r_cN hk91 ?_)
                  refine sem_cut fun k94 hk94 => sem_blk fun k95 hk95 => ?_
                  obtain ⟨v34, c97H, h⟩ := bind_some' h
                  refine zS (zC1 (lC [[0]] (con_spec_l17In_arg _ _ c97H))) (sem_cut fun k98 hk98 => ?_)
                  refine zS z0 ?_
                  refine sem_ifh rfl h ?_ ?_ <;> clear h <;> intro h
                  · refine zS z0 (r_ret ?_)
                    refine r_cR hk98 (r_bR hk95 ?_)
                    refine r_cR hk94 ?_
                    replace h := zX h hEq90 hKq90
                    simp only [Sum.elim_inl, Sum.elim_inr] at h
                    refine r_kR hkq90 (r_bR hk67 ?_)
                    refine r_jR hk65 ?_
                    cases h
                    refine zVRw [0, 2000002] hQ
                  · refine r_skip (r_cN hk98 ?_)
                    obtain ⟨g101, h⟩ := gAp h
                    refine zU (zRF g101) (r_bN hk95 ?_)
                    refine r_cN hk94 (zU z0 ?_)
                    refine zB hkq90 h hIq90 () trivial
                · refine r_exit (r_cE hk91 ?_)
                  replace h := zX h hEq90 hKq90
                  simp only [Sum.elim_inl, Sum.elim_inr] at h
                  refine r_kE hkq90 (r_bE hk67 ?_)
                  refine zJ J64 [2, 6] () _ h
noncomputable def spec_PicRead_j35 (v11 : Int) : ((List Int) × Int × (List Inst)) → Option ((List Inst) × PicFault)
  | (v22, v23, v24) => (cond (decide (v23 < ((v22).length : Int))) (some ([], (⟨7, v11⟩ : PicFault))) (some (v24, (⟨0, 0⟩ : PicFault))))
noncomputable def spec_PicRead_s39 (v11 : Int) : ((List Int) × Int × (List Inst) × Int) → Option (((List Int) × Int × (List Inst) × Int) ⊕ ((Int × Int) ⊕ ((List Int) × Int × (List Inst))))
  | (v26, v27, v28, v29) => (cond (decide (v29 < v11)) (Option.bind (spec_l17In_inst (⟨v26, v27⟩ : l17In)) fun v33 => (cond (decide (v33.2.1 > 0)) (some (.inr (.inl (v33.2.1, v29)))) (gd (apOk ((v28 ++ [v33.1])).length 40) (some (.inl (v33.2.2.b, v33.2.2.at_, (v28 ++ [v33.1]), (IntKind.i64.wrap (v29 + 1)))))))) (some (.inr (.inr (v26, v27, v28)))))
noncomputable def spec_PicRead (v1 : (List Int)) : Option ((List Inst) × PicFault) :=
  (cond (decide (((v1).length : Int) < 8)) (some ([], (⟨4, 0⟩ : PicFault))) (cond (decide (((v1).length : Int) > 20008)) (some ([], (⟨4, 0⟩ : PicFault))) (Option.bind (idx v1 (0)) fun v2 => (cond (v2 != 83) (some ([], (⟨4, 0⟩ : PicFault))) (Option.bind (idx v1 (1)) fun v3 => (cond (v3 != 116) (some ([], (⟨4, 0⟩ : PicFault))) (Option.bind (prt v1 (2) (4)) fun v4 => (Option.bind (spec_l17Two v4) fun v5 => (cond (v5 != ((v1).length : Int)) (some ([], (⟨4, 0⟩ : PicFault))) (Option.bind (prtL v1 ((IntKind.i64.wrap (((v1).length : Int) - 2)))) fun v6 => (Option.bind (prtH v1 ((IntKind.i64.wrap (((v1).length : Int) - 2)))) fun v7 => (Option.bind (spec_l17Two v6) fun v8 => (Option.bind (spec_PicSum v7) fun v9 => (cond (v8 != (IntKind.i64.wrap (v9))) (some ([], (⟨5, 0⟩ : PicFault))) (Option.bind (prt v1 (4) (6)) fun v10 => (Option.bind (spec_l17Two v10) fun v11 => (cond (decide (v11 > 1000)) (some ([], (⟨1, 0⟩ : PicFault))) (Option.bind (prt v1 (6) ((IntKind.i64.wrap (((v1).length : Int) - 2)))) fun v12 => ((loop (spec_PicRead_s39 v11) (v12, 0, [], 0)).bind (Sum.elim (fun v31 => (some ([], (⟨v31.1, v31.2⟩ : PicFault)))) (fun v32 => (spec_PicRead_j35 v11 (v32.1, v32.2.1, v32.2.2)))))))))))))))))))))))
theorem con_spec_PicRead (v1 : (List Int)) (res_ : ((List Inst) × PicFault)) (h : spec_PicRead v1 = some res_) : Con Tryd.prog C0 20 [.fz 1 (R e_u8 (v1))] []
    (fun x σ' => x = .tup [.sl 0 0 ((res_.1).length), .agg [.sc (.int .i64 (res_.2.Code)), .sc (.int .i64 (res_.2.At))]] ∧ σ' = [.arr true 3 (R e_Inst (res_.1))]) := by
  refine zCon hP 0 [0, 2, 3, 4, 5, 6, 7, 8, 9, 10, 37, 50, 56, 67, 76, 93] [.tmp 2, .cell 3 44] Tryd.func20 (by unfold Tryd.f20; rfl) fun Q hQ => ?_
  unfold spec_PicRead at h
  refine zS z0 (zS z0 ?_)
  refine sem_cut fun k3 hk3 => sem_cut fun k4 hk4 => ?_
  rcases Bool.eq_false_or_eq_true (decide (((v1).length : Int) < 8)) with g5 | g5
  · replace h := cond_t h g5
    refine zU (zRF g5) (r_cN hk4 ?_)
    refine sem_ifT rfl ?_
    try replace h := cond_t h rfl
    refine zS z0 (r_ret ?_)
    refine r_cR hk3 ?_
    cases h
    refine zVRw [2000002] hQ
  · replace h := cond_f h g5
    rcases Bool.eq_false_or_eq_true (decide (((v1).length : Int) > 20008)) with g7 | g7
    · replace h := cond_t h g7
      refine zU (zRF (a2 g5 g7)) (r_cN hk4 ?_)
      refine sem_ifT rfl ?_
      try replace h := cond_t h rfl
      refine zS z0 (r_ret ?_)
      refine r_cR hk3 ?_
      cases h
      refine zVRw [2000002] hQ
    · replace h := cond_f h g7
      obtain ⟨v2, h, c9⟩ := bN 0 h
      rcases Bool.eq_false_or_eq_true (v2 != 83) with g10 | g10
      · replace h := cond_t h g10
        refine zU (zRF (a4 g5 g7 c9 g10)) (r_cN hk4 ?_)
        refine sem_ifT rfl ?_
        try replace h := cond_t h rfl
        refine zS z0 (r_ret ?_)
        refine r_cR hk3 ?_
        cases h
        refine zVRw [2000002] hQ
      · replace h := cond_f h g10
        obtain ⟨v3, h, c12⟩ := bN 1 h
        rcases Bool.eq_false_or_eq_true (v3 != 116) with g13 | g13
        · replace h := cond_t h g13
          refine zU (zRF (a4 g5 g7 c9 (a3 g10 c12 g13))) (r_cN hk4 ?_)
          refine sem_ifT rfl ?_
          try replace h := cond_t h rfl
          refine zS z0 (r_ret ?_)
          refine r_cR hk3 ?_
          cases h
          refine zVRw [2000002] hQ
        · replace h := cond_f h g13
          obtain ⟨v4, c15H, h⟩ := bind_some' h
          obtain ⟨c15A, c15B, c15C, c15D⟩ := prt_some c15H
          try simp only [Int.reduceToNat, Int.toNat_zero, Int.toNat_one, Int.toNat_natCast, List.take_length] at c15D
          obtain ⟨v5, c16H, h⟩ := bind_some' h
          refine zU (zC1F (lF [] (con_spec_l17Two _ _ c16H)) (a4 g5 g7 c9 (a4 g10 c12 g13 (a4 c15A c15B c15C c15D)))) (r_cN hk4 ?_)
          refine sem_ifh rfl h ?_ ?_ <;> clear h <;> intro h
          · refine zS z0 (r_ret ?_)
            refine r_cR hk3 ?_
            cases h
            refine zVRw [2000002] hQ
          · refine r_skip (r_cN hk3 ?_)
            refine sem_cut fun k18 hk18 => ?_
            obtain ⟨v6, c20H, h⟩ := bind_some' h
            obtain ⟨c20A, c20B, c20C⟩ := prtL_some c20H
            try simp only [Int.reduceToNat, Int.toNat_zero, Int.toNat_one, Int.toNat_natCast, List.take_length] at c20C
            obtain ⟨v7, c21H, h⟩ := bind_some' h
            obtain ⟨c21A, c21B, c21C⟩ := prtH_some c21H
            try simp only [Int.reduceToNat, Int.toNat_zero, Int.toNat_one, Int.toNat_natCast, List.take_length] at c21C
            obtain ⟨v8, c22H, h⟩ := bind_some' h
            obtain ⟨v9, c23H, h⟩ := bind_some' h
            refine zS (zPC2F (.take 0 (.take 1 (.take 2 (.take 3 (.take 5 (.take 6 (.take 7 (.take 8 (.last 4 (.last 9 (.take 10 (.take 11 .done)))))))))))) [] (lF [] (con_spec_l17Two _ _ c22H)) (lF [] (con_spec_PicSum _ _ c23H)) (a4 c20A c20B c20C (a3 c21A c21B c21C))) ?_
            refine sem_ifh rfl h ?_ ?_ <;> clear h <;> intro h
            · refine zS z0 (r_ret ?_)
              refine r_cR hk18 ?_
              cases h
              refine zVRw [2000002] hQ
            · refine r_skip (r_cN hk18 ?_)
              obtain ⟨v10, c26H, h⟩ := bind_some' h
              obtain ⟨c26A, c26B, c26C, c26D⟩ := prt_some c26H
              try simp only [Int.reduceToNat, Int.toNat_zero, Int.toNat_one, Int.toNat_natCast, List.take_length] at c26D
              obtain ⟨v11, c27H, h⟩ := bind_some' h
              refine zS (zC1F (lF [] (con_spec_l17Two _ _ c27H)) (a4 c26A c26B c26C c26D)) (sem_cut fun k28 hk28 => ?_)
              refine zS z0 ?_
              refine sem_ifh rfl h ?_ ?_ <;> clear h <;> intro h
              · refine zS z0 (r_ret ?_)
                refine r_cR hk28 ?_
                cases h
                refine zVRw [2000002] hQ
              · refine r_skip (r_cN hk28 ?_)
                obtain ⟨v12, c32H, h⟩ := bind_some' h
                obtain ⟨c32A, c32B, c32C, c32D⟩ := prt_some c32H
                try simp only [Int.reduceToNat, Int.toNat_zero, Int.toNat_one, Int.toNat_natCast, List.take_length] at c32D
                refine zS (zRF (a4 c32A c32B c32C c32D)) (zS z0 ?_)
                refine zCut (fun (x : ((List Int) × Int × (List Inst))) => ⟨[(3, .pt 0 0), (5, .sc (.int .i64 (v11))), (6, .pt 1 0), (7, .sl 2 0 ((x.2.2).length))], [.rc [.sc (.int .i64 (0)), .sc (.int .i64 (0))], .rc [.fz 1 (R e_u8 (x.1)), .sc (.int .i64 (x.2.1))], .arr true 3 (R e_Inst (x.2.2))]⟩) (spec_PicRead_j35 v11) res_ ?_ ?_
                · rintro _ ⟨v22, v23, v24⟩ h
                  simp only [spec_PicRead_j35] at h
                  refine sem_cut fun k67 hk67 => zS zR ?_
                  refine sem_ifh rfl h ?_ ?_ <;> clear h <;> intro h
                  · refine zS z0 (r_ret ?_)
                    refine r_cR hk67 ?_
                    cases h
                    refine zVRw [2000002] hQ
                  · refine r_skip (r_cN hk67 ?_)
                    refine zS z0 (r_ret ?_)
                    cases h
                    refine zOR hQ
                · intro k72 hk72 J71
                  refine zS z0 (sem_blk fun k74 hk74 => ?_)
                  obtain ⟨oq95, hLq95, hKq95⟩ := bind_some' h
                  clear h
                  refine sem_loopP [3, 5, 6, 7, 8] (fun (_ : Unit) (x : ((List Int) × Int × (List Inst) × Int)) => (⟨[(3, .pt 0 0), (5, .sc (.int .i64 (v11))), (6, .pt 1 0), (7, .sl 2 0 ((x.2.2.1).length)), (8, .sc (.int .i64 (x.2.2.2)))], [.rc [.sc (.int .i64 (0)), .sc (.int .i64 (0))], .rc [.fz 1 (R e_u8 (x.1)), .sc (.int .i64 (x.2.1))], .arr true 3 (R e_Inst (x.2.2.1))]⟩ : St)) (fun (_ : Unit) (x : ((List Int) × Int × (List Inst) × Int)) => True) (spec_PicRead_s39 v11) () (v12, 0, [], 0) hLq95 (by rfl) (by rfl) ⟨?_, trivial⟩ ?_
                  · first | exact wkSt_same rfl | (simp (decide := true) only [go_sem, reduceIte, Nat.reduceAdd, Int.reduceToNat, Nat.reduceSub, Nat.reduceMul, Nat.reduceMod]; exact wkSt_same rfl)
                  · rintro nq95 _ ⟨v26, v27, v28, v29⟩ xq95 kq95 hkq95 - h hIq95 hEq95
                    simp only [spec_PicRead_s39] at h
                    refine sem_cut fun k96 hk96 => zS z0 ?_
                    refine sem_ifh rfl h ?_ ?_ <;> clear h <;> intro h
                    · refine r_skip (r_cN hk96 ?_)
                      refine sem_cut fun k98 hk98 => sem_blk fun k99 hk99 => ?_
                      obtain ⟨v33, c101H, h⟩ := bind_some' h
                      refine zS (zC1 (lC [[0]] (con_spec_l17In_inst _ _ c101H))) (sem_cut fun k102 hk102 => ?_)
                      refine zS z0 ?_
                      refine sem_ifh rfl h ?_ ?_ <;> clear h <;> intro h
                      · refine zS z0 (r_ret ?_)
                        refine r_cR hk102 (r_bR hk99 ?_)
                        refine r_cR hk98 ?_
                        replace h := zX h hEq95 hKq95
                        simp only [Sum.elim_inl, Sum.elim_inr] at h
                        refine r_kR hkq95 (r_bR hk74 ?_)
                        refine r_jR hk72 ?_
                        cases h
                        refine zVRw [2000002] hQ
                      · refine r_skip (r_cN hk102 ?_)
                        obtain ⟨g105, h⟩ := gAp h
                        refine zU (zRF g105) (r_bN hk99 ?_)
                        refine r_cN hk98 (zU z0 ?_)
                        refine zB hkq95 h hIq95 () trivial
                    · refine r_exit (r_cE hk96 ?_)
                      replace h := zX h hEq95 hKq95
                      simp only [Sum.elim_inl, Sum.elim_inr] at h
                      refine r_kE hkq95 (r_bE hk74 ?_)
                      refine zJ J71 [3, 5, 6, 7] () _ h
noncomputable def spec_DevSize_j31 (v1 : Int) : Bool → Option Int
  | v3 => (cond v3 (some 16) (cond (v1 == 6) (some 5) (some 0)))
noncomputable def spec_DevSize_j7 (v1 : Int) : Bool → Option Int
  | v2 => (cond v2 (some 32) (cond (v1 == 3) (some 64) (cond (v1 == 4) (spec_DevSize_j31 v1 (v1 == 4)) (cond (v1 == 7) (spec_DevSize_j31 v1 (v1 == 7)) (cond (v1 == 8) (spec_DevSize_j31 v1 (v1 == 8)) (spec_DevSize_j31 v1 (v1 == 10)))))))
noncomputable def spec_DevSize (v1 : Int) : Option Int :=
  (cond (v1 == 1) (spec_DevSize_j7 v1 (v1 == 1)) (cond (v1 == 2) (spec_DevSize_j7 v1 (v1 == 2)) (cond (v1 == 5) (spec_DevSize_j7 v1 (v1 == 5)) (spec_DevSize_j7 v1 (v1 == 9)))))
theorem con_spec_DevSize (v1 : Int) (res_ : Int) (h : spec_DevSize v1 = some res_) : Con Tryd.prog C0 72 [.sc (.int .i64 (v1))] []
    (fun x σ' => x = .sc (.int .i64 (res_)) ∧ σ' = []) := by
  refine zCon hP 0 [0, 2, 3, 4, 9, 11, 16] [.tmp 2] Tryd.func72 (by unfold Tryd.f72; rfl) fun Q hQ => ?_
  unfold spec_DevSize at h
  refine zS z0 (sem_cut fun k2 hk2 => ?_)
  refine zS z0 (sem_blk fun k4 hk4 => ?_)
  refine zCut (fun (x : Bool) => ⟨[(3, .sc (.int .i64 (v1))), (4, .sc (.bool (x)))], []⟩) (spec_DevSize_j7 v1) res_ ?_ ?_
  · rintro _ v2 h
    simp only [spec_DevSize_j7] at h
    refine sem_ifh rfl h ?_ ?_ <;> clear h <;> intro h
    · refine zS z0 (r_ret ?_)
      refine r_bR hk4 (r_cR hk2 ?_)
      cases h
      refine zAR hQ
    · refine zS z0 ?_
      refine sem_ifh rfl h ?_ ?_ <;> clear h <;> intro h
      · refine zS z0 (r_ret ?_)
        refine r_bR hk4 (r_cR hk2 ?_)
        cases h
        refine zAR hQ
      · refine zCut (fun (x : Bool) => ⟨[(3, .sc (.int .i64 (v1))), (11, .sc (.bool (x)))], []⟩) (spec_DevSize_j31 v1) res_ ?_ ?_
        · rintro _ v3 h
          simp only [spec_DevSize_j31] at h
          refine sem_ifh rfl h ?_ ?_ <;> clear h <;> intro h
          · refine zS z0 (r_ret ?_)
            refine r_bR hk4 (r_cR hk2 ?_)
            cases h
            refine zAR hQ
          · refine zS z0 ?_
            refine sem_ifh rfl h ?_ ?_ <;> clear h <;> intro h
            · refine zS z0 (r_ret ?_)
              refine r_bR hk4 (r_cR hk2 ?_)
              cases h
              refine zAR hQ
            · refine r_skip (r_bN hk4 ?_)
              refine r_cN hk2 (zS z0 ?_)
              refine r_ret ?_
              cases h
              refine zAR hQ
        · intro k19 hk19 J18
          refine zS z0 ?_
          refine sem_ifh rfl h ?_ ?_ <;> clear h <;> intro h
          · refine r_skip (zJ J18 [3, 11] () _ h)
          · refine zS z0 ?_
            refine sem_ifh rfl h ?_ ?_ <;> clear h <;> intro h
            · refine r_skip (zJ J18 [3, 11] () _ h)
            · refine zS z0 ?_
              refine sem_ifh rfl h ?_ ?_ <;> clear h <;> intro h
              · refine r_skip (zJ J18 [3, 11] () _ h)
              · refine zU z0 (zJ J18 [3, 11] () _ h)
  · intro k24 hk24 J23
    refine zS z0 ?_
    refine sem_ifh rfl h ?_ ?_ <;> clear h <;> intro h
    · refine r_skip (zJ J23 [3, 4] () _ h)
    · refine zS z0 ?_
      refine sem_ifh rfl h ?_ ?_ <;> clear h <;> intro h
      · refine r_skip (zJ J23 [3, 4] () _ h)
      · refine zS z0 ?_
        refine sem_ifh rfl h ?_ ?_ <;> clear h <;> intro h
        · refine r_skip (zJ J23 [3, 4] () _ h)
        · refine zU z0 (zJ J23 [3, 4] () _ h)
noncomputable def spec_DevOk (v1 : DevArg) : Option Bool :=
  (cond (v1.Kind == 11) (some (((decide (v1.N ≥ (-32768))) && (decide (v1.N ≤ 32767))) && (v1.P == 0))) (cond (v1.Kind == 12) (some (((((decide (v1.N ≥ (-999999999))) && (decide (v1.N ≤ 999999999))) && (decide (v1.P ≥ 1))) && (decide (v1.P ≤ 6))) && ((v1.P == 1) || (((v1.N).tmod 10) != 0)))) (cond (v1.Kind == 13) (some (((decide (v1.N ≥ 0)) && (decide (v1.N ≤ 3))) && (v1.P == 0))) (cond (decide (v1.N ≥ 0)) (Option.bind (spec_DevSize v1.Kind) fun v2 => (some ((decide (v1.N < v2)) && (v1.P == 0)))) (some false)))))
theorem con_spec_DevOk (v1 : DevArg) (res_ : Bool) (h : spec_DevOk v1 = some res_) : Con Tryd.prog C0 62 [.agg [.sc (.int .i64 (v1.Kind)), .sc (.int .i64 (v1.N)), .sc (.int .i64 (v1.P))]] []
    (fun x σ' => x = .sc (.bool (res_)) ∧ σ' = []) := by
  refine zCon hP 0 [0, 1, 2, 4, 5, 20, 51] [.tmp 2] Tryd.func62 (by unfold Tryd.f62; rfl) fun Q hQ => ?_
  unfold spec_DevOk at h
  refine zS z0 (sem_cut fun k2 hk2 => ?_)
  refine zS z0 (sem_blk fun k4 hk4 => ?_)
  refine zS z0 ?_
  refine sem_ifh rfl h ?_ ?_ <;> clear h <;> intro h
  · refine zS zR (r_ret ?_)
    refine r_bR hk4 (r_cR hk2 ?_)
    cases h
    refine zAR hQ
  · refine zS z0 ?_
    refine sem_ifh rfl h ?_ ?_ <;> clear h <;> intro h
    · refine zS zR (r_ret ?_)
      refine r_bR hk4 (r_cR hk2 ?_)
      cases h
      refine zAR hQ
    · refine zS z0 ?_
      refine sem_ifh rfl h ?_ ?_ <;> clear h <;> intro h
      · refine zS zR (r_ret ?_)
        refine r_bR hk4 (r_cR hk2 ?_)
        cases h
        refine zAR hQ
      · refine r_skip (r_bN hk4 ?_)
        refine r_cN hk2 (sem_cut fun k11 hk11 => ?_)
        rcases Bool.eq_false_or_eq_true (decide (v1.N ≥ 0)) with g12 | g12
        · replace h := cond_t h g12
          obtain ⟨v2, c13H, h⟩ := bind_some' h
          refine zU (zPC1F (.take 0 (.take 1 (.take 2 (.take 3 (.take 4 (.take 5 (.take 6 (.take 7 (.one 8 (.take 9 (.take 10 (.take 11 (.take 12 (.take 13 (.take 14 (.take 15 (.take 16 .done))))))))))))))))) [0] (lF [] (con_spec_DevSize _ _ c13H)) g12) (r_cN hk11 ?_)
          refine r_ret ?_
          cases h
          refine zAR hQ
        · replace h := cond_f h g12
          refine zU (zPRF (.take 0 (.take 1 (.take 2 (.take 3 (.take 4 (.take 5 (.take 6 (.take 7 (.one 8 (.take 9 (.take 10 (.take 11 (.take 12 (.take 13 (.take 14 (.take 15 (.take 16 .done))))))))))))))))) [0] g12) (r_cN hk11 ?_)
          refine r_ret ?_
          cases h
          refine zAR hQ
noncomputable def spec_DevIsBit (v1 : DevArg) : Option Bool :=
  (Option.bind (spec_DevOk v1) fun v2 => (some (v2 && ((((decide (v1.Kind ≤ 4)) || (v1.Kind == 6)) || (v1.Kind == 7)) || (v1.Kind == 8)))))
theorem con_spec_DevIsBit (v1 : DevArg) (res_ : Bool) (h : spec_DevIsBit v1 = some res_) : Con Tryd.prog C0 61 [.agg [.sc (.int .i64 (v1.Kind)), .sc (.int .i64 (v1.N)), .sc (.int .i64 (v1.P))]] []
    (fun x σ' => x = .sc (.bool (res_)) ∧ σ' = []) := by
  refine zCon hP 0 [0, 1, 2] [.tmp 2] Tryd.func61 (by unfold Tryd.f61; rfl) fun Q hQ => ?_
  unfold spec_DevIsBit at h
  refine zS z0 ?_
  obtain ⟨v2, c3H, h⟩ := bind_some' h
  refine zS (zC1 (lF [] (con_spec_DevOk _ _ c3H))) (r_ret ?_)
  cases h
  refine zAR hQ
noncomputable def spec_DevIsWhole (v1 : DevArg) : Option Bool :=
  (Option.bind (spec_DevOk v1) fun v2 => (some (v2 && ((((v1.Kind == 7) || (v1.Kind == 8)) || (v1.Kind == 9)) || (v1.Kind == 11)))))
theorem con_spec_DevIsWhole (v1 : DevArg) (res_ : Bool) (h : spec_DevIsWhole v1 = some res_) : Con Tryd.prog C0 63 [.agg [.sc (.int .i64 (v1.Kind)), .sc (.int .i64 (v1.N)), .sc (.int .i64 (v1.P))]] []
    (fun x σ' => x = .sc (.bool (res_)) ∧ σ' = []) := by
  refine zCon hP 0 [0, 1, 2] [.tmp 2] Tryd.func63 (by unfold Tryd.f63; rfl) fun Q hQ => ?_
  unfold spec_DevIsWhole at h
  refine zS z0 ?_
  obtain ⟨v2, c3H, h⟩ := bind_some' h
  refine zS (zC1 (lF [] (con_spec_DevOk _ _ c3H))) (r_ret ?_)
  cases h
  refine zAR hQ
noncomputable def spec_DevIsReal (v1 : DevArg) : Option Bool :=
  (Option.bind (spec_DevOk v1) fun v2 => (some (v2 && (((v1.Kind == 10) || (v1.Kind == 12)) || (v1.Kind == 13)))))
theorem con_spec_DevIsReal (v1 : DevArg) (res_ : Bool) (h : spec_DevIsReal v1 = some res_) : Con Tryd.prog C0 64 [.agg [.sc (.int .i64 (v1.Kind)), .sc (.int .i64 (v1.N)), .sc (.int .i64 (v1.P))]] []
    (fun x σ' => x = .sc (.bool (res_)) ∧ σ' = []) := by
  refine zCon hP 0 [0, 1, 2] [.tmp 2] Tryd.func64 (by unfold Tryd.f64; rfl) fun Q hQ => ?_
  unfold spec_DevIsReal at h
  refine zS z0 ?_
  obtain ⟨v2, c3H, h⟩ := bind_some' h
  refine zS (zC1 (lF [] (con_spec_DevOk _ _ c3H))) (r_ret ?_)
  cases h
  refine zAR hQ
noncomputable def spec_ElemIsContact (v1 : Elem) : Option Bool :=
  (cond (decide (v1.Op < 1)) (some false) (cond (decide (v1.Op > 10)) (some false) (Option.bind (spec_ElemArity v1.Op) fun v2 => (cond (((v1.Args).length : Int) != v2) (some false) (cond (decide (v1.Op ≤ 2)) (Option.bind (idx v1.Args (0)) fun v3 => (Option.bind (spec_DevIsBit v3) fun v4 => (some v4))) (cond (decide (v1.Op ≤ 4)) (Option.bind (idx v1.Args (0)) fun v5 => (Option.bind (spec_DevIsBit v5) fun v6 => (cond v6 (Option.bind (idx v1.Args (1)) fun v7 => (Option.bind (spec_DevOk v7) fun v8 => (cond v8 (some (v7.Kind == 5)) (some false)))) (some false)))) (Option.bind (idx v1.Args (0)) fun v9 => (Option.bind (spec_DevIsWhole v9) fun v10 => (cond v10 (Option.bind (idx v1.Args (1)) fun v11 => (Option.bind (spec_DevIsWhole v11) fun v12 => (cond v12 (some true) (Option.bind (spec_DevIsReal v9) fun v13 => (cond v13 (Option.bind (spec_DevIsReal v11) fun v14 => (some v14)) (some false)))))) (Option.bind (spec_DevIsReal v9) fun v15 => (cond v15 (Option.bind (idx v1.Args (1)) fun v16 => (Option.bind (spec_DevIsReal v16) fun v17 => (some v17))) (some false))))))))))))
theorem con_spec_ElemIsContact (v1 : Elem) (res_ : Bool) (h : spec_ElemIsContact v1 = some res_) : Con Tryd.prog C0 55 [.agg [.sc (.int .i64 (v1.Op)), .fz 3 (R e_DevArg (v1.Args))]] []
    (fun x σ' => x = .sc (.bool (res_)) ∧ σ' = []) := by
  refine zCon hP 0 [0, 1, 2, 19, 22, 30] [.tmp 2] Tryd.func55 (by unfold Tryd.f55; rfl) fun Q hQ => ?_
  unfold spec_ElemIsContact at h
  refine zS z0 (sem_cut fun k2 hk2 => ?_)
  refine sem_cut fun k3 hk3 => ?_
  rcases Bool.eq_false_or_eq_true (decide (v1.Op < 1)) with g4 | g4
  · replace h := cond_t h g4
    refine zU (zPRF (.take 0 (.take 1 (.take 2 (.take 3 (.take 4 (.take 5 (.take 6 (.take 7 (.take 8 (.take 9 (.take 10 (.take 11 (.take 12 (.take 13 (.one 14 (.take 15 (.take 16 .done))))))))))))))))) [0] g4) (r_cN hk3 ?_)
    refine sem_ifT rfl ?_
    try replace h := cond_t h rfl
    refine zS z0 (r_ret ?_)
    refine r_cR hk2 ?_
    cases h
    refine zAR hQ
  · replace h := cond_f h g4
    rcases Bool.eq_false_or_eq_true (decide (v1.Op > 10)) with g6 | g6
    · replace h := cond_t h g6
      refine zU (zPRF (.take 0 (.take 1 (.take 2 (.take 3 (.take 4 (.take 5 (.take 6 (.take 7 (.take 8 (.take 9 (.take 10 (.take 11 (.take 12 (.take 13 (.one 14 (.take 15 (.take 16 .done))))))))))))))))) [0] (a2 g4 g6)) (r_cN hk3 ?_)
      refine sem_ifT rfl ?_
      try replace h := cond_t h rfl
      refine zS z0 (r_ret ?_)
      refine r_cR hk2 ?_
      cases h
      refine zAR hQ
    · replace h := cond_f h g6
      obtain ⟨v2, c8H, h⟩ := bind_some' h
      refine zU (zPC1F (.take 0 (.take 1 (.take 2 (.take 3 (.take 4 (.take 5 (.take 6 (.take 7 (.take 8 (.take 9 (.take 10 (.take 11 (.take 12 (.take 13 (.one 14 (.take 15 (.take 16 .done))))))))))))))))) [0] (lF [] (con_spec_ElemArity _ _ c8H)) (a2 g4 g6)) (r_cN hk3 ?_)
      refine sem_ifh rfl h ?_ ?_ <;> clear h <;> intro h
      · refine zS z0 (r_ret ?_)
        refine r_cR hk2 ?_
        cases h
        refine zAR hQ
      · refine r_skip (r_cN hk2 ?_)
        refine sem_cut fun k10 hk10 => zS z0 ?_
        refine sem_ifh rfl h ?_ ?_ <;> clear h <;> intro h
        · obtain ⟨v3, h, c13⟩ := bN 0 h
          obtain ⟨v4, c14H, h⟩ := bind_some' h
          refine zS (zC1F (lF [] (con_spec_DevIsBit _ _ c14H)) c13) (r_ret ?_)
          refine r_cR hk10 ?_
          cases h
          refine zAR hQ
        · refine r_skip (r_cN hk10 ?_)
          refine sem_cut fun k15 hk15 => zS z0 ?_
          refine sem_ifh rfl h ?_ ?_ <;> clear h <;> intro h
          · refine sem_cut fun k17 hk17 => ?_
            obtain ⟨v5, h, c18⟩ := bN 0 h
            obtain ⟨v6, c19H, h⟩ := bind_some' h
            rcases Bool.eq_false_or_eq_true v6 with g20 | g20
            · replace h := cond_t h g20
              obtain ⟨v7, h, c21⟩ := bN 1 h
              obtain ⟨v8, c22H, h⟩ := bind_some' h
              rcases Bool.eq_false_or_eq_true v8 with g23 | g23
              · replace h := cond_t h g23
                refine zU (zC2F (lF [] (con_spec_DevIsBit _ _ c19H)) (lF [] (con_spec_DevOk _ _ c22H)) (a4 c18 g20 c21 g23)) (r_cN hk17 ?_)
                refine r_ret (r_cR hk15 ?_)
                cases h
                refine zAR hQ
              · replace h := cond_f h g23
                refine zU (zC2F (lF [] (con_spec_DevIsBit _ _ c19H)) (lF [] (con_spec_DevOk _ _ c22H)) (a4 c18 g20 c21 g23)) (r_cN hk17 ?_)
                refine r_ret (r_cR hk15 ?_)
                cases h
                refine zAR hQ
            · replace h := cond_f h g20
              refine zU (zC1F (lF [] (con_spec_DevIsBit _ _ c19H)) (a2 c18 g20)) (r_cN hk17 ?_)
              refine r_ret (r_cR hk15 ?_)
              cases h
              refine zAR hQ
          · refine r_skip (r_cN hk15 ?_)
            refine sem_cut fun k24 hk24 => ?_
            obtain ⟨v9, h, c25⟩ := bN 0 h
            obtain ⟨v10, c26H, h⟩ := bind_some' h
            rcases Bool.eq_false_or_eq_true v10 with g27 | g27
            · replace h := cond_t h g27
              obtain ⟨v11, h, c28⟩ := bN 1 h
              obtain ⟨v12, c29H, h⟩ := bind_some' h
              rcases Bool.eq_false_or_eq_true v12 with g30 | g30
              · replace h := cond_t h g30
                refine zU (zC2F (lF [] (con_spec_DevIsWhole _ _ c26H)) (lF [] (con_spec_DevIsWhole _ _ c29H)) (a4 c25 g27 c28 g30)) (r_cN hk24 ?_)
                refine r_ret ?_
                cases h
                refine zAR hQ
              · replace h := cond_f h g30
                obtain ⟨v13, c31H, h⟩ := bind_some' h
                rcases Bool.eq_false_or_eq_true v13 with g32 | g32
                · replace h := cond_t h g32
                  obtain ⟨v14, c33H, h⟩ := bind_some' h
                  refine zU (zC4F (lF [] (con_spec_DevIsWhole _ _ c26H)) (lF [] (con_spec_DevIsWhole _ _ c29H)) (lF [] (con_spec_DevIsReal _ _ c31H)) (lF [] (con_spec_DevIsReal _ _ c33H)) (a4 c25 g27 c28 (a2 g30 g32))) (r_cN hk24 ?_)
                  refine r_ret ?_
                  cases h
                  refine zAR hQ
                · replace h := cond_f h g32
                  refine zU (zC3F (lF [] (con_spec_DevIsWhole _ _ c26H)) (lF [] (con_spec_DevIsWhole _ _ c29H)) (lF [] (con_spec_DevIsReal _ _ c31H)) (a4 c25 g27 c28 (a2 g30 g32))) (r_cN hk24 ?_)
                  refine r_ret ?_
                  cases h
                  refine zAR hQ
            · replace h := cond_f h g27
              obtain ⟨v15, c34H, h⟩ := bind_some' h
              rcases Bool.eq_false_or_eq_true v15 with g35 | g35
              · replace h := cond_t h g35
                obtain ⟨v16, h, c36⟩ := bN 1 h
                obtain ⟨v17, c37H, h⟩ := bind_some' h
                refine zU (zC3F (lF [] (con_spec_DevIsWhole _ _ c26H)) (lF [] (con_spec_DevIsReal _ _ c34H)) (lF [] (con_spec_DevIsReal _ _ c37H)) (a4 c25 g27 g35 c36)) (r_cN hk24 ?_)
                refine r_ret ?_
                cases h
                refine zAR hQ
              · replace h := cond_f h g35
                refine zU (zC2F (lF [] (con_spec_DevIsWhole _ _ c26H)) (lF [] (con_spec_DevIsReal _ _ c34H)) (a3 c25 g27 g35)) (r_cN hk24 ?_)
                refine r_ret ?_
                cases h
                refine zAR hQ
noncomputable def spec_l4Kind (v1 : DevArg) (v2 : Int) (v3 : Int) : Option Bool :=
  (Option.bind (spec_DevOk v1) fun v4 => (some (v4 && ((v1.Kind == v2) || (v1.Kind == v3)))))
theorem con_spec_l4Kind (v1 : DevArg) (v2 : Int) (v3 : Int) (res_ : Bool) (h : spec_l4Kind v1 v2 v3 = some res_) : Con Tryd.prog C0 65 [.agg [.sc (.int .i64 (v1.Kind)), .sc (.int .i64 (v1.N)), .sc (.int .i64 (v1.P))], .sc (.int .i64 (v2)), .sc (.int .i64 (v3))] []
    (fun x σ' => x = .sc (.bool (res_)) ∧ σ' = []) := by
  refine zCon hP 0 [0, 1, 2, 3, 6] [.tmp 6] Tryd.func65 (by unfold Tryd.f65; rfl) fun Q hQ => ?_
  unfold spec_l4Kind at h
  refine zS z0 ?_
  obtain ⟨v4, c3H, h⟩ := bind_some' h
  refine zS (zC1 (lF [] (con_spec_DevOk _ _ c3H))) (r_ret ?_)
  cases h
  refine zAR hQ
noncomputable def spec_l4Calc_j13 (v1 : Elem) : Bool → Option Bool
  | v21 => (some (v21 || (v1.Op != 35)))
noncomputable def spec_l4Calc_s17 (v1 : Elem) : (Bool × Int) → Option ((Bool × Int) ⊕ (Unit ⊕ Bool))
  | (v26, v27) => (cond (decide (v27 < ((v1.Args).length : Int))) (cond v26 (Option.bind (idx v1.Args (v27)) fun v34 => (Option.bind (spec_DevIsWhole v34) fun v35 => (cond (!v35) (some (.inr (.inl ()))) (some (.inl (true, (IntKind.i64.wrap (v27 + 1)))))))) (Option.bind (idx v1.Args (v27)) fun v36 => (Option.bind (spec_DevIsReal v36) fun v37 => (cond (!v37) (some (.inr (.inl ()))) (some (.inl (false, (IntKind.i64.wrap (v27 + 1))))))))) (some (.inr (.inr v26))))
noncomputable def spec_l4Calc (v1 : Elem) : Option Bool :=
  (Option.bind (idx v1.Args (0)) fun v2 => (Option.bind (spec_l4Kind v2 9 10) fun v3 => (cond (!v3) (some false) (Option.bind (idx v1.Args (0)) fun v4 => ((loop (spec_l4Calc_s17 v1) ((v4.Kind == 9), 1)).bind (Sum.elim (fun v32 => (some false)) (fun v33 => (spec_l4Calc_j13 v1 v33))))))))
theorem con_spec_l4Calc (v1 : Elem) (res_ : Bool) (h : spec_l4Calc v1 = some res_) : Con Tryd.prog C0 66 [.agg [.sc (.int .i64 (v1.Op)), .fz 3 (R e_DevArg (v1.Args))]] []
    (fun x σ' => x = .sc (.bool (res_)) ∧ σ' = []) := by
  refine zCon hP 0 [0, 1, 2, 3, 4, 10, 21, 46] [.tmp 2] Tryd.func66 (by unfold Tryd.f66; rfl) fun Q hQ => ?_
  unfold spec_l4Calc at h
  refine zS z0 (sem_cut fun k2 hk2 => ?_)
  obtain ⟨v2, h, c4⟩ := bN 0 h
  obtain ⟨v3, c5H, h⟩ := bind_some' h
  refine zS (zC1F (lF [] (con_spec_l4Kind _ _ _ _ c5H)) c4) ?_
  refine sem_ifh rfl h ?_ ?_ <;> clear h <;> intro h
  · refine zS z0 (r_ret ?_)
    refine r_cR hk2 ?_
    cases h
    refine zAR hQ
  · refine r_skip (r_cN hk2 ?_)
    obtain ⟨v4, h, c8⟩ := bN 0 h
    refine zS (zRF c8) (zCut (fun (x : Bool) => ⟨[(1, .pt 0 0), (3, .sc (.bool (x)))], [.rc [.sc (.int .i64 (v1.Op)), .fz 3 (R e_DevArg (v1.Args))]]⟩) (spec_l4Calc_j13 v1) res_ ?_ ?_)
    · rintro _ v21 h
      simp only [spec_l4Calc_j13] at h
      refine zS zR (r_ret ?_)
      cases h
      refine zAR hQ
    · intro k50 hk50 J49
      refine zS z0 (sem_blk fun k52 hk52 => ?_)
      obtain ⟨oq77, hLq77, hKq77⟩ := bind_some' h
      clear h
      refine sem_loopP [1, 3, 4] (fun (_ : Unit) (x : (Bool × Int)) => (⟨[(1, .pt 0 0), (3, .sc (.bool (x.1))), (4, .sc (.int .i64 (x.2)))], [.rc [.sc (.int .i64 (v1.Op)), .fz 3 (R e_DevArg (v1.Args))]]⟩ : St)) (fun (_ : Unit) (x : (Bool × Int)) => True) (spec_l4Calc_s17 v1) () ((v4.Kind == 9), 1) hLq77 (by rfl) (by rfl) ⟨?_, trivial⟩ ?_
      · first | exact wkSt_same rfl | (simp (decide := true) only [go_sem, reduceIte, Nat.reduceAdd, Int.reduceToNat, Nat.reduceSub, Nat.reduceMul, Nat.reduceMod]; exact wkSt_same rfl)
      · rintro nq77 _ ⟨v26, v27⟩ xq77 kq77 hkq77 - h hIq77 hEq77
        simp only [spec_l4Calc_s17] at h
        refine sem_cut fun k78 hk78 => zS z0 ?_
        refine sem_ifh rfl h ?_ ?_ <;> clear h <;> intro h
        · refine r_skip (r_cN hk78 ?_)
          refine sem_cut fun k80 hk80 => sem_blk fun k81 hk81 => sem_cut fun k82 hk82 => ?_
          rcases Bool.eq_false_or_eq_true v26 with g83 | g83
          · replace h := cond_t h g83
            obtain ⟨v34, h, c84⟩ := bI h
            obtain ⟨v35, c85H, h⟩ := bind_some' h
            refine zU (zC1F (lF [] (con_spec_DevIsWhole _ _ c85H)) (a2 g83 c84)) (r_cN hk82 ?_)
            refine sem_ifh rfl h ?_ ?_ <;> clear h <;> intro h
            · refine zS z0 (r_ret ?_)
              refine r_bR hk81 (r_cR hk80 ?_)
              replace h := zX h hEq77 hKq77
              simp only [Sum.elim_inl, Sum.elim_inr] at h
              refine r_kR hkq77 (r_bR hk52 ?_)
              refine r_jR hk50 ?_
              cases h
              refine zAR hQ
            · refine r_skip (r_bN hk81 ?_)
              refine r_cN hk80 (zU z0 ?_)
              refine zB hkq77 h hIq77 () trivial
          · replace h := cond_f h g83
            obtain ⟨v36, h, c87⟩ := bI h
            obtain ⟨v37, c88H, h⟩ := bind_some' h
            refine zU (zC1F (lF [] (con_spec_DevIsReal _ _ c88H)) (a2 g83 c87)) (r_cN hk82 ?_)
            refine sem_ifh rfl h ?_ ?_ <;> clear h <;> intro h
            · refine zS z0 (r_ret ?_)
              refine r_bR hk81 (r_cR hk80 ?_)
              replace h := zX h hEq77 hKq77
              simp only [Sum.elim_inl, Sum.elim_inr] at h
              refine r_kR hkq77 (r_bR hk52 ?_)
              refine r_jR hk50 ?_
              cases h
              refine zAR hQ
            · refine r_skip (r_bN hk81 ?_)
              refine r_cN hk80 (zU z0 ?_)
              refine zB hkq77 h hIq77 () trivial
        · refine r_exit (r_cE hk78 ?_)
          replace h := zX h hEq77 hKq77
          simp only [Sum.elim_inl, Sum.elim_inr] at h
          refine r_kE hkq77 (r_bE hk52 ?_)
          refine zJ J49 [1, 3] () _ h
noncomputable def spec_ElemIsCoil_j47 (v1 : Elem) (v3 : DevArg) : Bool → Option Bool
  | v14 => (cond v14 (Option.bind (spec_l4Kind v3 7 7) fun v15 => (cond v15 (Option.bind (idx v1.Args (1)) fun v16 => (Option.bind (spec_l4Kind v16 11 11) fun v17 => (cond v17 (some (decide (v16.N ≥ 0))) (some false)))) (some false))) (cond (v1.Op == 29) (Option.bind (spec_l4Kind v3 8 8) fun v18 => (cond v18 (Option.bind (idx v1.Args (1)) fun v19 => (Option.bind (spec_l4Kind v19 11 11) fun v20 => (cond v20 (some (decide (v19.N ≥ 0))) (some false)))) (some false))) (cond (v1.Op == 36) (Option.bind (spec_l4Kind v3 10 10) fun v21 => (cond v21 (Option.bind (idx v1.Args (1)) fun v22 => (Option.bind (spec_DevIsWhole v22) fun v23 => (some v23))) (some false))) (cond (v1.Op == 37) (Option.bind (spec_l4Kind v3 9 9) fun v24 => (cond v24 (Option.bind (idx v1.Args (1)) fun v25 => (Option.bind (spec_DevIsReal v25) fun v26 => (some v26))) (some false))) (Option.bind (spec_l4Calc v1) fun v27 => (some v27))))))
noncomputable def spec_ElemIsCoil (v1 : Elem) : Option Bool :=
  (cond (decide (v1.Op < 21)) (some false) (cond (decide (v1.Op > 37)) (some false) (Option.bind (spec_ElemArity v1.Op) fun v2 => (cond (((v1.Args).length : Int) != v2) (some false) (Option.bind (idx v1.Args (0)) fun v3 => (cond (v1.Op == 21) (Option.bind (spec_l4Kind v3 2 3) fun v4 => (some v4)) (cond (v1.Op == 22) (Option.bind (spec_l4Kind v3 2 3) fun v5 => (cond v5 (some true) (Option.bind (spec_l4Kind v3 4 4) fun v6 => (some v6)))) (cond (v1.Op == 23) (Option.bind (spec_l4Kind v3 2 3) fun v7 => (cond v7 (some true) (Option.bind (spec_l4Kind v3 4 7) fun v8 => (cond v8 (some true) (Option.bind (spec_l4Kind v3 8 8) fun v9 => (some v9)))))) (cond (v1.Op == 24) (Option.bind (spec_l4Kind v3 2 3) fun v10 => (cond v10 (Option.bind (idx v1.Args (1)) fun v11 => (Option.bind (spec_l4Kind v11 5 5) fun v12 => (some v12))) (some false))) (cond (v1.Op == 25) (Option.bind (spec_l4Kind v3 4 4) fun v13 => (some v13)) (cond (v1.Op == 26) (spec_ElemIsCoil_j47 v1 v3 (v1.Op == 26)) (cond (v1.Op == 27) (spec_ElemIsCoil_j47 v1 v3 (v1.Op == 27)) (spec_ElemIsCoil_j47 v1 v3 (v1.Op == 28))))))))))))))
theorem con_spec_ElemIsCoil (v1 : Elem) (res_ : Bool) (h : spec_ElemIsCoil v1 = some res_) : Con Tryd.prog C0 56 [.agg [.sc (.int .i64 (v1.Op)), .fz 3 (R e_DevArg (v1.Args))]] []
    (fun x σ' => x = .sc (.bool (res_)) ∧ σ' = []) := by
  refine zCon hP 0 [0, 1, 2, 3, 20, 26, 27, 31, 39, 51, 62, 66, 87, 106, 117] [.tmp 2] Tryd.func56 (by unfold Tryd.f56; rfl) fun Q hQ => ?_
  unfold spec_ElemIsCoil at h
  refine zS z0 (sem_cut fun k2 hk2 => ?_)
  refine sem_cut fun k3 hk3 => ?_
  rcases Bool.eq_false_or_eq_true (decide (v1.Op < 21)) with g4 | g4
  · replace h := cond_t h g4
    refine zU (zPRF (.take 0 (.take 1 (.take 2 (.take 3 (.take 4 (.take 5 (.take 6 (.take 7 (.take 8 (.take 9 (.take 10 (.take 11 (.take 12 (.take 13 (.one 14 (.take 15 (.take 16 .done))))))))))))))))) [0] g4) (r_cN hk3 ?_)
    refine sem_ifT rfl ?_
    try replace h := cond_t h rfl
    refine zS z0 (r_ret ?_)
    refine r_cR hk2 ?_
    cases h
    refine zAR hQ
  · replace h := cond_f h g4
    rcases Bool.eq_false_or_eq_true (decide (v1.Op > 37)) with g6 | g6
    · replace h := cond_t h g6
      refine zU (zPRF (.take 0 (.take 1 (.take 2 (.take 3 (.take 4 (.take 5 (.take 6 (.take 7 (.take 8 (.take 9 (.take 10 (.take 11 (.take 12 (.take 13 (.one 14 (.take 15 (.take 16 .done))))))))))))))))) [0] (a2 g4 g6)) (r_cN hk3 ?_)
      refine sem_ifT rfl ?_
      try replace h := cond_t h rfl
      refine zS z0 (r_ret ?_)
      refine r_cR hk2 ?_
      cases h
      refine zAR hQ
    · replace h := cond_f h g6
      obtain ⟨v2, c8H, h⟩ := bind_some' h
      refine zU (zPC1F (.take 0 (.take 1 (.take 2 (.take 3 (.take 4 (.take 5 (.take 6 (.take 7 (.take 8 (.take 9 (.take 10 (.take 11 (.take 12 (.take 13 (.one 14 (.take 15 (.take 16 .done))))))))))))))))) [0] (lF [] (con_spec_ElemArity _ _ c8H)) (a2 g4 g6)) (r_cN hk3 ?_)
      refine sem_ifh rfl h ?_ ?_ <;> clear h <;> intro h
      · refine zS z0 (r_ret ?_)
        refine r_cR hk2 ?_
        cases h
        refine zAR hQ
      · refine r_skip (r_cN hk2 ?_)
        obtain ⟨v3, h, c11⟩ := bN 0 h
        refine zS (zRF c11) (sem_cut fun k12 hk12 => ?_)
        refine zS z0 (sem_blk fun k14 hk14 => ?_)
        refine zS z0 ?_
        refine sem_ifh rfl h ?_ ?_ <;> clear h <;> intro h
        · obtain ⟨v4, c17H, h⟩ := bind_some' h
          refine zS (zC1 (lF [] (con_spec_l4Kind _ _ _ _ c17H))) (r_ret ?_)
          refine r_bR hk14 (r_cR hk12 ?_)
          cases h
          refine zAR hQ
        · refine zS z0 ?_
          refine sem_ifh rfl h ?_ ?_ <;> clear h <;> intro h
          · refine sem_cut fun k19 hk19 => ?_
            obtain ⟨v5, c20H, h⟩ := bind_some' h
            rcases Bool.eq_false_or_eq_true v5 with g21 | g21
            · replace h := cond_t h g21
              refine zU (zC1F (lF [] (con_spec_l4Kind _ _ _ _ c20H)) g21) (r_cN hk19 ?_)
              refine r_ret (r_bR hk14 ?_)
              refine r_cR hk12 ?_
              cases h
              refine zAR hQ
            · replace h := cond_f h g21
              obtain ⟨v6, c22H, h⟩ := bind_some' h
              refine zU (zC2F (lF [] (con_spec_l4Kind _ _ _ _ c20H)) (lF [] (con_spec_l4Kind _ _ _ _ c22H)) g21) (r_cN hk19 ?_)
              refine r_ret (r_bR hk14 ?_)
              refine r_cR hk12 ?_
              cases h
              refine zAR hQ
          · refine zS z0 ?_
            refine sem_ifh rfl h ?_ ?_ <;> clear h <;> intro h
            · refine sem_cut fun k24 hk24 => ?_
              obtain ⟨v7, c25H, h⟩ := bind_some' h
              rcases Bool.eq_false_or_eq_true v7 with g26 | g26
              · replace h := cond_t h g26
                refine zU (zC1F (lF [] (con_spec_l4Kind _ _ _ _ c25H)) g26) (r_cN hk24 ?_)
                refine r_ret (r_bR hk14 ?_)
                refine r_cR hk12 ?_
                cases h
                refine zAR hQ
              · replace h := cond_f h g26
                obtain ⟨v8, c27H, h⟩ := bind_some' h
                rcases Bool.eq_false_or_eq_true v8 with g28 | g28
                · replace h := cond_t h g28
                  refine zU (zC2F (lF [] (con_spec_l4Kind _ _ _ _ c25H)) (lF [] (con_spec_l4Kind _ _ _ _ c27H)) (a2 g26 g28)) (r_cN hk24 ?_)
                  refine r_ret (r_bR hk14 ?_)
                  refine r_cR hk12 ?_
                  cases h
                  refine zAR hQ
                · replace h := cond_f h g28
                  obtain ⟨v9, c29H, h⟩ := bind_some' h
                  refine zU (zC3F (lF [] (con_spec_l4Kind _ _ _ _ c25H)) (lF [] (con_spec_l4Kind _ _ _ _ c27H)) (lF [] (con_spec_l4Kind _ _ _ _ c29H)) (a2 g26 g28)) (r_cN hk24 ?_)
                  refine r_ret (r_bR hk14 ?_)
                  refine r_cR hk12 ?_
                  cases h
                  refine zAR hQ
            · refine zS z0 ?_
              refine sem_ifh rfl h ?_ ?_ <;> clear h <;> intro h
              · refine sem_cut fun k31 hk31 => ?_
                obtain ⟨v10, c32H, h⟩ := bind_some' h
                rcases Bool.eq_false_or_eq_true v10 with g33 | g33
                · replace h := cond_t h g33
                  obtain ⟨v11, h, c34⟩ := bN 1 h
                  obtain ⟨v12, c35H, h⟩ := bind_some' h
                  refine zU (zC2F (lF [] (con_spec_l4Kind _ _ _ _ c32H)) (lF [] (con_spec_l4Kind _ _ _ _ c35H)) (a2 g33 c34)) (r_cN hk31 ?_)
                  refine r_ret (r_bR hk14 ?_)
                  refine r_cR hk12 ?_
                  cases h
                  refine zAR hQ
                · replace h := cond_f h g33
                  refine zU (zC1F (lF [] (con_spec_l4Kind _ _ _ _ c32H)) g33) (r_cN hk31 ?_)
                  refine r_ret (r_bR hk14 ?_)
                  refine r_cR hk12 ?_
                  cases h
                  refine zAR hQ
              · refine zS z0 ?_
                refine sem_ifh rfl h ?_ ?_ <;> clear h <;> intro h
                · obtain ⟨v13, c38H, h⟩ := bind_some' h
                  refine zS (zC1 (lF [] (con_spec_l4Kind _ _ _ _ c38H))) (r_ret ?_)
                  refine r_bR hk14 (r_cR hk12 ?_)
                  cases h
                  refine zAR hQ
                · refine zCut (fun (x : Bool) => ⟨[(1, .pt 0 0), (3, .pt 1 0), (26, .sc (.int .i64 (v1.Op))), (66, .sc (.bool (x)))], [.rc [.sc (.int .i64 (v1.Op)), .fz 3 (R e_DevArg (v1.Args))], .rc [.sc (.int .i64 (v3.Kind)), .sc (.int .i64 (v3.N)), .sc (.int .i64 (v3.P))]]⟩) (spec_ElemIsCoil_j47 v1 v3) res_ ?_ ?_
                  · rintro _ v14 h
                    simp only [spec_ElemIsCoil_j47] at h
                    refine sem_ifh rfl h ?_ ?_ <;> clear h <;> intro h
                    · refine sem_cut fun k41 hk41 => ?_
                      obtain ⟨v15, c42H, h⟩ := bind_some' h
                      rcases Bool.eq_false_or_eq_true v15 with g43 | g43
                      · replace h := cond_t h g43
                        obtain ⟨v16, h, c44⟩ := bN 1 h
                        obtain ⟨v17, c45H, h⟩ := bind_some' h
                        rcases Bool.eq_false_or_eq_true v17 with g46 | g46
                        · replace h := cond_t h g46
                          refine zU (zC2F (lF [] (con_spec_l4Kind _ _ _ _ c42H)) (lF [] (con_spec_l4Kind _ _ _ _ c45H)) (a3 g43 c44 g46)) (r_cN hk41 ?_)
                          refine r_ret (r_bR hk14 ?_)
                          refine r_cR hk12 ?_
                          cases h
                          refine zAR hQ
                        · replace h := cond_f h g46
                          refine zU (zC2F (lF [] (con_spec_l4Kind _ _ _ _ c42H)) (lF [] (con_spec_l4Kind _ _ _ _ c45H)) (a3 g43 c44 g46)) (r_cN hk41 ?_)
                          refine r_ret (r_bR hk14 ?_)
                          refine r_cR hk12 ?_
                          cases h
                          refine zAR hQ
                      · replace h := cond_f h g43
                        refine zU (zC1F (lF [] (con_spec_l4Kind _ _ _ _ c42H)) g43) (r_cN hk41 ?_)
                        refine r_ret (r_bR hk14 ?_)
                        refine r_cR hk12 ?_
                        cases h
                        refine zAR hQ
                    · refine zS z0 ?_
                      refine sem_ifh rfl h ?_ ?_ <;> clear h <;> intro h
                      · refine sem_cut fun k48 hk48 => ?_
                        obtain ⟨v18, c49H, h⟩ := bind_some' h
                        rcases Bool.eq_false_or_eq_true v18 with g50 | g50
                        · replace h := cond_t h g50
                          obtain ⟨v19, h, c51⟩ := bN 1 h
                          obtain ⟨v20, c52H, h⟩ := bind_some' h
                          rcases Bool.eq_false_or_eq_true v20 with g53 | g53
                          · replace h := cond_t h g53
                            refine zU (zC2F (lF [] (con_spec_l4Kind _ _ _ _ c49H)) (lF [] (con_spec_l4Kind _ _ _ _ c52H)) (a3 g50 c51 g53)) (r_cN hk48 ?_)
                            refine r_ret (r_bR hk14 ?_)
                            refine r_cR hk12 ?_
                            cases h
                            refine zAR hQ
                          · replace h := cond_f h g53
                            refine zU (zC2F (lF [] (con_spec_l4Kind _ _ _ _ c49H)) (lF [] (con_spec_l4Kind _ _ _ _ c52H)) (a3 g50 c51 g53)) (r_cN hk48 ?_)
                            refine r_ret (r_bR hk14 ?_)
                            refine r_cR hk12 ?_
                            cases h
                            refine zAR hQ
                        · replace h := cond_f h g50
                          refine zU (zC1F (lF [] (con_spec_l4Kind _ _ _ _ c49H)) g50) (r_cN hk48 ?_)
                          refine r_ret (r_bR hk14 ?_)
                          refine r_cR hk12 ?_
                          cases h
                          refine zAR hQ
                      · refine zS z0 ?_
                        refine sem_ifh rfl h ?_ ?_ <;> clear h <;> intro h
                        · refine sem_cut fun k55 hk55 => ?_
                          obtain ⟨v21, c56H, h⟩ := bind_some' h
                          rcases Bool.eq_false_or_eq_true v21 with g57 | g57
                          · replace h := cond_t h g57
                            obtain ⟨v22, h, c58⟩ := bN 1 h
                            obtain ⟨v23, c59H, h⟩ := bind_some' h
                            refine zU (zC2F (lF [] (con_spec_l4Kind _ _ _ _ c56H)) (lF [] (con_spec_DevIsWhole _ _ c59H)) (a2 g57 c58)) (r_cN hk55 ?_)
                            refine r_ret (r_bR hk14 ?_)
                            refine r_cR hk12 ?_
                            cases h
                            refine zAR hQ
                          · replace h := cond_f h g57
                            refine zU (zC1F (lF [] (con_spec_l4Kind _ _ _ _ c56H)) g57) (r_cN hk55 ?_)
                            refine r_ret (r_bR hk14 ?_)
                            refine r_cR hk12 ?_
                            cases h
                            refine zAR hQ
                        · refine zS z0 ?_
                          refine sem_ifh rfl h ?_ ?_ <;> clear h <;> intro h
                          · refine sem_cut fun k61 hk61 => ?_
                            obtain ⟨v24, c62H, h⟩ := bind_some' h
                            rcases Bool.eq_false_or_eq_true v24 with g63 | g63
                            · replace h := cond_t h g63
                              obtain ⟨v25, h, c64⟩ := bN 1 h
                              obtain ⟨v26, c65H, h⟩ := bind_some' h
                              refine zU (zC2F (lF [] (con_spec_l4Kind _ _ _ _ c62H)) (lF [] (con_spec_DevIsReal _ _ c65H)) (a2 g63 c64)) (r_cN hk61 ?_)
                              refine r_ret (r_bR hk14 ?_)
                              refine r_cR hk12 ?_
                              cases h
                              refine zAR hQ
                            · replace h := cond_f h g63
                              refine zU (zC1F (lF [] (con_spec_l4Kind _ _ _ _ c62H)) g63) (r_cN hk61 ?_)
                              refine r_ret (r_bR hk14 ?_)
                              refine r_cR hk12 ?_
                              cases h
                              refine zAR hQ
                          · refine r_skip (r_bN hk14 ?_)
                            refine r_cN hk12 ?_
                            obtain ⟨v27, c67H, h⟩ := bind_some' h
                            refine zS (zC1 (lF [] (con_spec_l4Calc _ _ c67H))) (r_ret ?_)
                            cases h
                            refine zAR hQ
                  · intro k69 hk69 J68
                    refine zS z0 ?_
                    refine sem_ifh rfl h ?_ ?_ <;> clear h <;> intro h
                    · refine r_skip (zJ J68 [1, 3, 26, 66] () _ h)
                    · refine zS z0 ?_
                      refine sem_ifh rfl h ?_ ?_ <;> clear h <;> intro h
                      · refine r_skip (zJ J68 [1, 3, 26, 66] () _ h)
                      · refine zU z0 (zJ J68 [1, 3, 26, 66] () _ h)
noncomputable def spec_ListOk (v1 : Inst) : Option Bool :=
  (cond ((decide (v1.Code < 1)) || (decide (v1.Code > 11))) (some false) (cond (decide (v1.Code ≤ 3)) (Option.bind (spec_ElemIsContact (⟨v1.One_Op, v1.One_Args⟩ : Elem)) fun v2 => (some v2)) (cond (v1.Code == 10) (Option.bind (spec_ElemIsCoil (⟨v1.One_Op, v1.One_Args⟩ : Elem)) fun v3 => (some v3)) (some ((v1.One_Op == 0) && (((v1.One_Args).length : Int) == 0))))))
theorem con_spec_ListOk (v1 : Inst) (res_ : Bool) (h : spec_ListOk v1 = some res_) : Con Tryd.prog C0 43 [.agg [.sc (.int .i64 (v1.Code)), .sc (.int .i64 (v1.One_Op)), .fz 3 (R e_DevArg (v1.One_Args))]] []
    (fun x σ' => x = .sc (.bool (res_)) ∧ σ' = []) := by
  refine zCon hP 0 [0, 1, 2, 3, 12, 19] [.tmp 2] Tryd.func43 (by unfold Tryd.f43; rfl) fun Q hQ => ?_
  unfold spec_ListOk at h
  refine zS z0 (sem_cut fun k2 hk2 => ?_)
  refine sem_blk fun k3 hk3 => zS zR ?_
  refine sem_ifh rfl h ?_ ?_ <;> clear h <;> intro h
  · refine zS z0 (r_ret ?_)
    refine r_bR hk3 (r_cR hk2 ?_)
    cases h
    refine zAR hQ
  · refine zS z0 ?_
    refine sem_ifh rfl h ?_ ?_ <;> clear h <;> intro h
    · obtain ⟨v2, c8H, h⟩ := bind_some' h
      refine zS (zC1 (lF [] (con_spec_ElemIsContact _ _ c8H))) (r_ret ?_)
      refine r_bR hk3 (r_cR hk2 ?_)
      cases h
      refine zAR hQ
    · refine zS z0 ?_
      refine sem_ifh rfl h ?_ ?_ <;> clear h <;> intro h
      · obtain ⟨v3, c11H, h⟩ := bind_some' h
        refine zS (zC1 (lF [] (con_spec_ElemIsCoil _ _ c11H))) (r_ret ?_)
        refine r_bR hk3 (r_cR hk2 ?_)
        cases h
        refine zAR hQ
      · refine r_skip (r_bN hk3 ?_)
        refine r_cN hk2 (zS zR ?_)
        refine r_ret ?_
        cases h
        refine zAR hQ
noncomputable def spec_l12Needs_j13 : Bool → Option Int
  | v2 => (cond v2 (some 2) (some 1))
noncomputable def spec_l12Needs (v1 : Int) : Option Int :=
  (cond (v1 == 1) (some 0) (cond (v1 == 4) (spec_l12Needs_j13 (v1 == 4)) (spec_l12Needs_j13 (v1 == 5))))
theorem con_spec_l12Needs (v1 : Int) (res_ : Int) (h : spec_l12Needs v1 = some res_) : Con Tryd.prog C0 44 [.sc (.int .i64 (v1))] []
    (fun x σ' => x = .sc (.int .i64 (res_)) ∧ σ' = []) := by
  refine zCon hP 0 [0, 2, 3, 4, 6] [.tmp 2] Tryd.func44 (by unfold Tryd.f44; rfl) fun Q hQ => ?_
  unfold spec_l12Needs at h
  refine zS z0 (sem_cut fun k2 hk2 => ?_)
  refine zS z0 (sem_blk fun k4 hk4 => ?_)
  refine zS z0 ?_
  refine sem_ifh rfl h ?_ ?_ <;> clear h <;> intro h
  · refine zS z0 (r_ret ?_)
    refine r_bR hk4 (r_cR hk2 ?_)
    cases h
    refine zAR hQ
  · refine zCut (fun (x : Bool) => ⟨[(6, .sc (.bool (x)))], []⟩) spec_l12Needs_j13 res_ ?_ ?_
    · rintro _ v2 h
      simp only [spec_l12Needs_j13] at h
      refine sem_ifh rfl h ?_ ?_ <;> clear h <;> intro h
      · refine zS z0 (r_ret ?_)
        refine r_bR hk4 (r_cR hk2 ?_)
        cases h
        refine zAR hQ
      · refine r_skip (r_bN hk4 ?_)
        refine r_cN hk2 (zS z0 ?_)
        refine r_ret ?_
        cases h
        refine zAR hQ
    · intro k11 hk11 J10
      refine zS z0 ?_
      refine sem_ifh rfl h ?_ ?_ <;> clear h <;> intro h
      · refine r_skip (zJ J10 [6] () _ h)
      · refine zU z0 (zJ J10 [6] () _ h)
noncomputable def spec_l12Wrong_j9 (v1 : l12At) (v2 : Inst) : Int → Option Int
  | v3 => (Option.bind (spec_ListOk v2) fun v4 => (cond (!v4) (some 2) (Option.bind (spec_l12Needs v2.Code) fun v5 => (cond (decide (v1.bits < v5)) (some 3) (cond ((v2.Code == 1) && (v1.bits == 16)) (some 4) (cond ((decide (v2.Code ≥ 7)) && (decide (v1.bits > 1))) (some 5) (cond ((v1.base && (v1.bits == v3)) && (((v2.Code == 3) || (v2.Code == 6)) || (v2.Code == 5))) (some 6) (cond ((v2.Code == 7) && (v1.forks == 8)) (some 7) (cond (((v2.Code == 8) || (v2.Code == 9)) && (v1.forks == 0)) (some 7) (cond ((v2.Code == 11) && (decide (v1.forks > 0))) (some 7) (cond ((((v2.Code == 8) || (v2.Code == 9)) || (v2.Code == 11)) && (!v1.coil)) (some 8) (some 0))))))))))))
noncomputable def spec_l12Wrong (v1 : l12At) (v2 : Inst) : Option Int :=
  (cond (v2.Code == 5) (spec_l12Wrong_j9 v1 v2 2) (spec_l12Wrong_j9 v1 v2 1))
theorem con_spec_l12Wrong (v1 : l12At) (v2 : Inst) (res_ : Int) (h : spec_l12Wrong v1 v2 = some res_) : Con Tryd.prog C0 29 [.agg [.sc (.int .i64 (v1.bits)), .sc (.int .i64 (v1.forks)), .sc (.bool (v1.base)), .sc (.bool (v1.coil))], .agg [.sc (.int .i64 (v2.Code)), .sc (.int .i64 (v2.One_Op)), .fz 3 (R e_DevArg (v2.One_Args))]] []
    (fun x σ' => x = .sc (.int .i64 (res_)) ∧ σ' = []) := by
  refine zCon hP 0 [0, 1, 2, 3, 4, 5, 6, 7, 13, 14, 18, 24, 32, 39, 60, 68, 80, 88] [.tmp 4] Tryd.func29 (by unfold Tryd.f29; rfl) fun Q hQ => ?_
  unfold spec_l12Wrong at h
  refine zS z0 (zS z0 ?_)
  refine zS z0 (zS z0 ?_)
  refine zCut (fun (x : Int) => ⟨[(2, .pt 0 0), (3, .pt 1 0), (5, .sc (.int .i64 (v2.Code))), (6, .sc (.bool ((decide (v2.Code ≥ 7))))), (7, .sc (.int .i64 (x)))], [.rc [.sc (.int .i64 (v1.bits)), .sc (.int .i64 (v1.forks)), .sc (.bool (v1.base)), .sc (.bool (v1.coil))], .rc [.sc (.int .i64 (v2.Code)), .sc (.int .i64 (v2.One_Op)), .fz 3 (R e_DevArg (v2.One_Args))]]⟩) (spec_l12Wrong_j9 v1 v2) res_ ?_ ?_
  · rintro _ v3 h
    simp only [spec_l12Wrong_j9] at h
    refine sem_cut fun k6 hk6 => sem_blk fun k7 hk7 => ?_
    obtain ⟨v4, c9H, h⟩ := bind_some' h
    refine zS (zC1 (lF [] (con_spec_ListOk _ _ c9H))) ?_
    refine sem_ifh rfl h ?_ ?_ <;> clear h <;> intro h
    · refine zS z0 (r_ret ?_)
      refine r_bR hk7 (r_cR hk6 ?_)
      cases h
      refine zAR hQ
    · obtain ⟨v5, c12H, h⟩ := bind_some' h
      refine zS (zPC1 (.take 0 (.take 1 (.take 2 (.one 3 (.take 4 (.take 5 .done)))))) [0] (lF [] (con_spec_l12Needs _ _ c12H))) ?_
      refine sem_ifh rfl h ?_ ?_ <;> clear h <;> intro h
      · refine zS z0 (r_ret ?_)
        refine r_bR hk7 (r_cR hk6 ?_)
        cases h
        refine zAR hQ
      · refine zS zR ?_
        refine sem_ifh rfl h ?_ ?_ <;> clear h <;> intro h
        · refine zS z0 (r_ret ?_)
          refine r_bR hk7 (r_cR hk6 ?_)
          cases h
          refine zAR hQ
        · refine zS zR ?_
          refine sem_ifh rfl h ?_ ?_ <;> clear h <;> intro h
          · refine zS z0 (r_ret ?_)
            refine r_bR hk7 (r_cR hk6 ?_)
            cases h
            refine zAR hQ
          · refine zS zR ?_
            refine sem_ifh rfl h ?_ ?_ <;> clear h <;> intro h
            · refine zS z0 (r_ret ?_)
              refine r_bR hk7 (r_cR hk6 ?_)
              cases h
              refine zAR hQ
            · refine zS zR ?_
              refine sem_ifh rfl h ?_ ?_ <;> clear h <;> intro h
              · refine zS z0 (r_ret ?_)
                refine r_bR hk7 (r_cR hk6 ?_)
                cases h
                refine zAR hQ
              · refine zS zR ?_
                refine sem_ifh rfl h ?_ ?_ <;> clear h <;> intro h
                · refine zS z0 (r_ret ?_)
                  refine r_bR hk7 (r_cR hk6 ?_)
                  cases h
                  refine zAR hQ
                · refine zS zR ?_
                  refine sem_ifh rfl h ?_ ?_ <;> clear h <;> intro h
                  · refine zS z0 (r_ret ?_)
                    refine r_bR hk7 (r_cR hk6 ?_)
                    cases h
                    refine zAR hQ
                  · refine zS zR ?_
                    refine sem_ifh rfl h ?_ ?_ <;> clear h <;> intro h
                    · refine zS z0 (r_ret ?_)
                      refine r_bR hk7 (r_cR hk6 ?_)
                      cases h
                      refine zAR hQ
                    · refine r_skip (r_bN hk7 ?_)
                      refine r_cN hk6 (zS z0 ?_)
                      refine r_ret ?_
                      cases h
                      refine zAR hQ
  · intro k30 hk30 J29
    refine zS z0 ?_
    refine sem_ifh rfl h ?_ ?_ <;> clear h <;> intro h
    · refine zU z0 (zJ J29 [2, 3, 5, 6, 7] () _ h)
    · refine r_skip (zJ J29 [2, 3, 5, 6, 7] () _ h)
noncomputable def spec_l12Next_j3 (v1 : l12At) (v2 : Int) : (Int × Int) → Option l12At
  | (v4, v5) => (some (⟨v4, v5, ((v1.base || (v2 == 10)) || (v2 == 7)), (v2 == 10)⟩ : l12At))
noncomputable def spec_l12Next_j11 (v1 : l12At) (v2 : Int) : Bool → Option l12At
  | v6 => (cond v6 (spec_l12Next_j3 v1 v2 ((IntKind.i64.wrap (v1.bits - 1)), v1.forks)) (cond (v2 == 7) (spec_l12Next_j3 v1 v2 (v1.bits, (IntKind.i64.wrap (v1.forks + 1)))) (cond (v2 == 9) (spec_l12Next_j3 v1 v2 (v1.bits, (IntKind.i64.wrap (v1.forks - 1)))) (cond (v2 == 11) (some (⟨0, 0, false, false⟩ : l12At)) (spec_l12Next_j3 v1 v2 (v1.bits, v1.forks))))))
noncomputable def spec_l12Next (v1 : l12At) (v2 : Int) : Option l12At :=
  (cond (v2 == 1) (spec_l12Next_j3 v1 v2 ((IntKind.i64.wrap (v1.bits + 1)), v1.forks)) (cond (v2 == 4) (spec_l12Next_j11 v1 v2 (v2 == 4)) (spec_l12Next_j11 v1 v2 (v2 == 5))))
theorem con_spec_l12Next (v1 : l12At) (v2 : Int) (res_ : l12At) (h : spec_l12Next v1 v2 = some res_) : Con Tryd.prog C0 30 [.agg [.sc (.int .i64 (v1.bits)), .sc (.int .i64 (v1.forks)), .sc (.bool (v1.base)), .sc (.bool (v1.coil))], .sc (.int .i64 (v2))] []
    (fun x σ' => x = .agg [.sc (.int .i64 (res_.bits)), .sc (.int .i64 (res_.forks)), .sc (.bool (res_.base)), .sc (.bool (res_.coil))] ∧ σ' = []) := by
  refine zCon hP 0 [0, 1, 2, 4, 5, 6, 12, 19, 25, 31] [.cell 4 63] Tryd.func30 (by unfold Tryd.f30; rfl) fun Q hQ => ?_
  unfold spec_l12Next at h
  refine zS z0 (zCut (fun (x : (Int × Int)) => ⟨[(1, .sc (.int .i64 (v2))), (2, .pt 0 0), (4, .pt 1 0)], [.rc [.sc (.int .i64 (x.1)), .sc (.int .i64 (x.2)), .sc (.bool (v1.base)), .sc (.bool (v1.coil))], .rc [.sc (.int .i64 (0)), .sc (.int .i64 (0)), .sc (.bool (false)), .sc (.bool (false))]]⟩) (spec_l12Next_j3 v1 v2) res_ ?_ ?_)
  · rintro _ ⟨v4, v5⟩ h
    simp only [spec_l12Next_j3] at h
    refine zS z0 (zS zR ?_)
    refine zS z0 (r_ret ?_)
    cases h
    refine zAR hQ
  · intro k17 hk17 J16
    refine zS z0 (sem_blk fun k19 hk19 => ?_)
    refine zS z0 ?_
    refine sem_ifh rfl h ?_ ?_ <;> clear h <;> intro h
    · refine zU z0 (r_bN hk19 ?_)
      refine zJ J16 [1, 2, 4] () _ h
    · refine zCut (fun (x : Bool) => ⟨[(1, .sc (.int .i64 (v2))), (2, .pt 0 0), (4, .pt 1 0), (5, .sc (.int .i64 (v2))), (12, .sc (.bool (x)))], [.rc [.sc (.int .i64 (v1.bits)), .sc (.int .i64 (v1.forks)), .sc (.bool (v1.base)), .sc (.bool (v1.coil))], .rc [.sc (.int .i64 (0)), .sc (.int .i64 (0)), .sc (.bool (false)), .sc (.bool (false))]]⟩) (spec_l12Next_j11 v1 v2) res_ ?_ ?_
      · rintro _ v6 h
        simp only [spec_l12Next_j11] at h
        refine sem_ifh rfl h ?_ ?_ <;> clear h <;> intro h
        · refine zU z0 (r_bN hk19 ?_)
          refine zJ J16 [1, 2, 4] () _ h
        · refine zS z0 ?_
          refine sem_ifh rfl h ?_ ?_ <;> clear h <;> intro h
          · refine zU z0 (r_bN hk19 ?_)
            refine zJ J16 [1, 2, 4] () _ h
          · refine zS z0 ?_
            refine sem_ifh rfl h ?_ ?_ <;> clear h <;> intro h
            · refine zU z0 (r_bN hk19 ?_)
              refine zJ J16 [1, 2, 4] () _ h
            · refine zS z0 ?_
              refine sem_ifh rfl h ?_ ?_ <;> clear h <;> intro h
              · refine zS z0 (r_ret ?_)
                refine r_bR hk19 (r_jR hk17 ?_)
                cases h
                refine zAR hQ
              · refine r_skip (r_bN hk19 ?_)
                refine zJ J16 [1, 2, 4] () _ h
      · intro k27 hk27 J26
        refine zS z0 ?_
        refine sem_ifh rfl h ?_ ?_ <;> clear h <;> intro h
        · refine r_skip (zJ J26 [1, 2, 4, 5, 12] () _ h)
        · refine zU z0 (zJ J26 [1, 2, 4, 5, 12] () _ h)
noncomputable def spec_SureCheck_j13 (v1 : (List Inst)) : (Int × Int × Bool × Bool) → Option SureFault
  | (v21, v22, v23, v24) => (cond (decide (v21 > 0)) (some (⟨9, ((v1).length : Int)⟩ : SureFault)) (some (⟨0, 0⟩ : SureFault)))
noncomputable def spec_SureCheck_s17 (v1 : (List Inst)) : (Int × Int × Bool × Bool × Int) → Option ((Int × Int × Bool × Bool × Int) ⊕ ((Int × Int) ⊕ (Int × Int × Bool × Bool)))
  | (v29, v30, v31, v32, v33) => (cond (decide (v33 < ((v1).length : Int))) (Option.bind (idx v1 (v33)) fun v40 => (Option.bind (spec_l12Wrong (⟨v29, v30, v31, v32⟩ : l12At) v40) fun v41 => (cond (decide (v41 > 0)) (some (.inr (.inl (v41, v33)))) (Option.bind (idx v1 (v33)) fun v42 => (Option.bind (spec_l12Next (⟨v29, v30, v31, v32⟩ : l12At) v42.Code) fun v43 => (some (.inl (v43.bits, v43.forks, v43.base, v43.coil, (IntKind.i64.wrap (v33 + 1)))))))))) (some (.inr (.inr (v29, v30, v31, v32)))))
noncomputable def spec_SureCheck (v1 : (List Inst)) : Option SureFault :=
  (cond (decide (((v1).length : Int) > 1000)) (some (⟨1, 0⟩ : SureFault)) ((loop (spec_SureCheck_s17 v1) (0, 0, false, false, 0)).bind (Sum.elim (fun v38 => (some (⟨v38.1, v38.2⟩ : SureFault))) (fun v39 => (spec_SureCheck_j13 v1 (v39.1, v39.2.1, v39.2.2.1, v39.2.2.2))))))
theorem con_spec_SureCheck (v1 : (List Inst)) (res_ : SureFault) (h : spec_SureCheck v1 = some res_) : Con Tryd.prog C0 21 [.fz 3 (R e_Inst (v1))] []
    (fun x σ' => x = .agg [.sc (.int .i64 (res_.Code)), .sc (.int .i64 (res_.At))] ∧ σ' = []) := by
  refine zCon hP 0 [0, 2, 3, 4, 5, 8, 14, 24, 37] [.cell 2 47] Tryd.func21 (by unfold Tryd.f21; rfl) fun Q hQ => ?_
  unfold spec_SureCheck at h
  refine zS z0 (sem_cut fun k2 hk2 => ?_)
  refine zS z0 ?_
  refine sem_ifh rfl h ?_ ?_ <;> clear h <;> intro h
  · refine zS z0 (r_ret ?_)
    refine r_cR hk2 ?_
    cases h
    refine zAR hQ
  · refine r_skip (r_cN hk2 ?_)
    refine zS z0 (zCut (fun (x : (Int × Int × Bool × Bool)) => ⟨[(0, .fz 3 (R e_Inst (v1))), (2, .pt 0 0), (3, .pt 1 0)], [.rc [.sc (.int .i64 (0)), .sc (.int .i64 (0))], .rc [.sc (.int .i64 (x.1)), .sc (.int .i64 (x.2.1)), .sc (.bool (x.2.2.1)), .sc (.bool (x.2.2.2))]]⟩) (spec_SureCheck_j13 v1) res_ ?_ ?_)
    · rintro _ ⟨v21, v22, v23, v24⟩ h
      simp only [spec_SureCheck_j13] at h
      refine sem_cut fun k45 hk45 => zS z0 ?_
      refine sem_ifh rfl h ?_ ?_ <;> clear h <;> intro h
      · refine zS z0 (r_ret ?_)
        refine r_cR hk45 ?_
        cases h
        refine zAR hQ
      · refine r_skip (r_cN hk45 ?_)
        refine zS z0 (r_ret ?_)
        cases h
        refine zAR hQ
    · intro k50 hk50 J49
      refine zS z0 (sem_blk fun k52 hk52 => ?_)
      obtain ⟨oq77, hLq77, hKq77⟩ := bind_some' h
      clear h
      refine sem_loopP [0, 2, 3, 4] (fun (_ : Unit) (x : (Int × Int × Bool × Bool × Int)) => (⟨[(0, .fz 3 (R e_Inst (v1))), (2, .pt 0 0), (3, .pt 1 0), (4, .sc (.int .i64 (x.2.2.2.2)))], [.rc [.sc (.int .i64 (0)), .sc (.int .i64 (0))], .rc [.sc (.int .i64 (x.1)), .sc (.int .i64 (x.2.1)), .sc (.bool (x.2.2.1)), .sc (.bool (x.2.2.2.1))]]⟩ : St)) (fun (_ : Unit) (x : (Int × Int × Bool × Bool × Int)) => True) (spec_SureCheck_s17 v1) () (0, 0, false, false, 0) hLq77 (by rfl) (by rfl) ⟨?_, trivial⟩ ?_
      · first | exact wkSt_same rfl | (simp (decide := true) only [go_sem, reduceIte, Nat.reduceAdd, Int.reduceToNat, Nat.reduceSub, Nat.reduceMul, Nat.reduceMod]; exact wkSt_same rfl)
      · rintro nq77 _ ⟨v29, v30, v31, v32, v33⟩ xq77 kq77 hkq77 - h hIq77 hEq77
        simp only [spec_SureCheck_s17] at h
        refine sem_cut fun k78 hk78 => zS z0 ?_
        refine sem_ifh rfl h ?_ ?_ <;> clear h <;> intro h
        · refine r_skip (r_cN hk78 ?_)
          refine sem_cut fun k80 hk80 => sem_blk fun k81 hk81 => ?_
          obtain ⟨v40, h, c83⟩ := bI h
          obtain ⟨v41, c84H, h⟩ := bind_some' h
          refine zS (zPC1F (.take 0 (.take 1 (.take 2 (.take 3 (.take 4 (.last 5 (.take 6 .done))))))) [1] (lF [] (con_spec_l12Wrong _ _ _ c84H)) c83) (sem_cut fun k85 hk85 => ?_)
          refine zS z0 ?_
          refine sem_ifh rfl h ?_ ?_ <;> clear h <;> intro h
          · refine zS z0 (r_ret ?_)
            refine r_cR hk85 (r_bR hk81 ?_)
            refine r_cR hk80 ?_
            replace h := zX h hEq77 hKq77
            simp only [Sum.elim_inl, Sum.elim_inr] at h
            refine r_kR hkq77 (r_bR hk52 ?_)
            refine r_jR hk50 ?_
            cases h
            refine zAR hQ
          · refine r_skip (r_cN hk85 ?_)
            obtain ⟨v42, h, c88⟩ := bI h
            obtain ⟨v43, c89H, h⟩ := bind_some' h
            refine zU (zPC1F (.take 0 (.take 1 (.take 2 (.take 3 (.take 4 (.take 5 (.last 6 (.last 7 .done)))))))) [1] (lF [] (con_spec_l12Next _ _ _ c89H)) c88) (r_bN hk81 ?_)
            refine r_cN hk80 (zU z0 ?_)
            refine zB hkq77 h hIq77 () trivial
        · refine r_exit (r_cE hk78 ?_)
          replace h := zX h hEq77 hKq77
          simp only [Sum.elim_inl, Sum.elim_inr] at h
          refine r_kE hkq77 (r_bE hk52 ?_)
          refine zJ J49 [0, 2, 3] () _ h
noncomputable def spec_l21List (v1 : (List Int)) : Option ((List Inst) × Bool) :=
  (Option.bind (spec_PicRead v1) fun v2 => (cond (decide (v2.2.Code > 0)) (some ([], false)) (Option.bind (spec_SureCheck v2.1) fun v3 => (cond (decide (v3.Code > 0)) (some ([], false)) (some (v2.1, true))))))
theorem con_spec_l21List (v1 : (List Int)) (res_ : ((List Inst) × Bool)) (h : spec_l21List v1 = some res_) : Con Tryd.prog C0 13 [.fz 1 (R e_u8 (v1))] []
    (fun x σ' => x = .tup [.sl 0 0 ((res_.1).length), .sc (.bool (res_.2))] ∧ σ' = [.arr true 3 (R e_Inst (res_.1))]) := by
  refine zCon hP 0 [0, 2, 3, 4, 5, 19] [.tmp 2, .tmp 3] Tryd.func13 (by unfold Tryd.f13; rfl) fun Q hQ => ?_
  unfold spec_l21List at h
  refine zS z0 ?_
  obtain ⟨v2, c3H, h⟩ := bind_some' h
  refine zS (zC1 (lC [] (con_spec_PicRead _ _ c3H))) (sem_cut fun k4 hk4 => ?_)
  refine sem_cut fun k5 hk5 => ?_
  rcases Bool.eq_false_or_eq_true (decide (v2.2.Code > 0)) with g6 | g6
  · replace h := cond_t h g6
    refine zU (zRF g6) (r_cN hk5 ?_)
    refine sem_ifT rfl ?_
    try replace h := cond_t h rfl
    refine zS z0 (r_ret ?_)
    refine r_cR hk4 ?_
    cases h
    refine zVRw [2000002] hQ
  · replace h := cond_f h g6
    obtain ⟨v3, c8H, h⟩ := bind_some' h
    refine zU (zC1F (lF [] (con_spec_SureCheck _ _ c8H)) g6) (r_cN hk5 ?_)
    refine sem_ifh rfl h ?_ ?_ <;> clear h <;> intro h
    · refine zS z0 (r_ret ?_)
      refine r_cR hk4 ?_
      cases h
      refine zVRw [2000002] hQ
    · refine r_skip (r_cN hk4 ?_)
      refine zS z0 (r_ret ?_)
      cases h
      refine zOR hQ
noncomputable def spec_BoxUnpack (v1 : (List Int)) : Option (Int × (List Inst) × Bool) :=
  (cond (decide (((v1).length : Int) < 4)) (some (0, [], false)) (Option.bind (prtH v1 (4)) fun v2 => (Option.bind (spec_l17Val v2) fun v3 => (Option.bind (prtL v1 (4)) fun v4 => (Option.bind (spec_l21List v4) fun v5 => (cond (((!v5.2) || (decide (v3 < 1))) || (decide (v3 > 1000000))) (some (0, [], false)) (some (v3, v5.1, true))))))))
theorem con_spec_BoxUnpack (v1 : (List Int)) (res_ : (Int × (List Inst) × Bool)) (h : spec_BoxUnpack v1 = some res_) : Con Tryd.prog C0 4 [.fz 1 (R e_u8 (v1))] []
    (fun x σ' => x = .tup [.sc (.int .i64 (res_.1)), .sl 0 0 ((res_.2.1).length), .sc (.bool (res_.2.2))] ∧ σ' = [.arr true 3 (R e_Inst (res_.2.1))]) := by
  refine zCon hP 0 [0, 2, 3, 4, 5, 6, 7, 10, 29] [.tmp 2, .tmp 3, .tmp 4] Tryd.func4 (by unfold Tryd.f4; rfl) fun Q hQ => ?_
  unfold spec_BoxUnpack at h
  refine zS z0 (sem_cut fun k2 hk2 => ?_)
  refine zS z0 ?_
  refine sem_ifh rfl h ?_ ?_ <;> clear h <;> intro h
  · refine zS z0 (r_ret ?_)
    refine r_cR hk2 ?_
    cases h
    refine zVRw [2000002] hQ
  · refine r_skip (r_cN hk2 ?_)
    obtain ⟨v2, c6H, h⟩ := bind_some' h
    obtain ⟨c6A, c6B, c6C⟩ := prtH_some c6H
    try simp only [Int.reduceToNat, Int.toNat_zero, Int.toNat_one, Int.toNat_natCast, List.take_length] at c6C
    obtain ⟨v3, c7H, h⟩ := bind_some' h
    refine zS (zC1F (lF [] (con_spec_l17Val _ _ c7H)) (a3 c6A c6B c6C)) ?_
    obtain ⟨v4, c9H, h⟩ := bind_some' h
    obtain ⟨c9A, c9B, c9C⟩ := prtL_some c9H
    try simp only [Int.reduceToNat, Int.toNat_zero, Int.toNat_one, Int.toNat_natCast, List.take_length] at c9C
    obtain ⟨v5, c10H, h⟩ := bind_some' h
    refine zS (zC1F (lC [] (con_spec_l21List _ _ c10H)) (a3 c9A c9B c9C)) (sem_cut fun k11 hk11 => ?_)
    refine zS zR ?_
    refine sem_ifh rfl h ?_ ?_ <;> clear h <;> intro h
    · refine zS z0 (r_ret ?_)
      refine r_cR hk11 ?_
      cases h
      refine zVRw [2000002] hQ
    · refine r_skip (r_cN hk11 ?_)
      refine zS z0 (r_ret ?_)
      cases h
      refine zOR hQ
noncomputable def impl_fromBig_j5 : Int → Option Int
  | v8 => (some v8)
noncomputable def impl_fromBig_s9 (v1 : (List Int)) : (Int × Int) → Option ((Int × Int) ⊕ Int)
  | (v10, v11) => (cond (decide (v11 < ((v1).length : Int))) (Option.bind (idx v1 (v11)) fun v14 => (some (.inl ((bor .i64 (IntKind.i64.wrap (v10 * 256)) (IntKind.i64.wrap (v14))), (IntKind.i64.wrap (v11 + 1)))))) (some (.inr v10)))
noncomputable def impl_fromBig (v1 : (List Int)) : Option Int :=
  ((loop (impl_fromBig_s9 v1) (0, 0)).bind (fun v13 => (impl_fromBig_j5 v13)))
theorem con_impl_fromBig (v1 : (List Int)) (res_ : Int) (h : impl_fromBig v1 = some res_) : Con Tryd.prog C0 14 [.fz 1 (R e_u8 (v1))] []
    (fun x σ' => x = .sc (.int .i64 (res_)) ∧ σ' = []) := by
  refine zCon hP 0 [0, 2, 3, 5, 6, 7, 8, 9] [.tmp 2] Tryd.func14 (by unfold Tryd.f14; rfl) fun Q hQ => ?_
  unfold impl_fromBig at h
  refine zS z0 (zS z0 ?_)
  refine zCut (fun (x : Int) => ⟨[(3, .sc (.int .i64 (x)))], []⟩) impl_fromBig_j5 res_ ?_ ?_
  · rintro _ v8 h
    simp only [impl_fromBig_j5] at h
    refine zS z0 (r_ret ?_)
    cases h
    refine zAR hQ
  · intro k26 hk26 J25
    refine zS z0 (sem_blk fun k28 hk28 => ?_)
    obtain ⟨oq41, hLq41, hKq41⟩ := bind_some' h
    clear h
    refine sem_loopP [3, 6, 7, 8] (fun (_ : Unit) (x : (Int × Int)) => (⟨[(3, .sc (.int .i64 (x.1))), (6, .fz 1 (R e_u8 (v1))), (7, .sc (.int .i64 (((v1).length : Int)))), (8, .sc (.int .i64 (x.2)))], []⟩ : St)) (fun (_ : Unit) (x : (Int × Int)) => True) (impl_fromBig_s9 v1) () (0, 0) hLq41 (by rfl) (by rfl) ⟨?_, trivial⟩ ?_
    · first | exact wkSt_same rfl | (simp (decide := true) only [go_sem, reduceIte, Nat.reduceAdd, Int.reduceToNat, Nat.reduceSub, Nat.reduceMul, Nat.reduceMod]; exact wkSt_same rfl)
    · rintro nq41 _ ⟨v10, v11⟩ xq41 kq41 hkq41 - h hIq41 hEq41
      simp only [impl_fromBig_s9] at h
      refine zS z0 (sem_cut fun k43 hk43 => ?_)
      refine sem_ifh rfl h ?_ ?_ <;> clear h <;> intro h
      · refine r_skip (r_cN hk43 ?_)
        refine sem_cut fun k44 hk44 => sem_blk fun k45 hk45 => ?_
        obtain ⟨v14, h, c47⟩ := bI h
        refine zS (zRF c47) (zU zR ?_)
        refine r_bN hk45 (r_cN hk44 ?_)
        refine zU z0 (zB hkq41 h hIq41 () trivial)
      · refine r_exit (r_cE hk43 ?_)
        replace h := zX h hEq41 hKq41
        refine r_kE hkq41 (r_bE hk28 ?_)
        refine zJ J25 [3] () _ h
noncomputable def impl_in (v1 : Int) (v2 : Int) (v3 : Int) : Option Bool :=
  (some ((decide (v1 ≥ v2)) && (decide (v1 ≤ v3))))
theorem con_impl_in (v1 : Int) (v2 : Int) (v3 : Int) (res_ : Bool) (h : impl_in v1 v2 v3 = some res_) : Con Tryd.prog C0 24 [.sc (.int .i64 (v1)), .sc (.int .i64 (v2)), .sc (.int .i64 (v3))] []
    (fun x σ' => x = .sc (.bool (res_)) ∧ σ' = []) := by
  refine zCon hP 0 [0, 1, 2, 6] [.tmp 6] Tryd.func24 (by unfold Tryd.f24; rfl) fun Q hQ => ?_
  unfold impl_in at h
  refine zS z0 (zS zR ?_)
  refine r_ret ?_
  cases h
  refine zAR hQ
noncomputable def impl_PicSum_j5 : Int → Option Int
  | v50 => (some v50)
noncomputable def impl_PicSum_j16 (v67 : Int) : Int → Option ((Int × Int) ⊕ Int)
  | v91 => (some (.inl (v91, (IntKind.i64.wrap (v67 + 1)))))
noncomputable def impl_PicSum_j32 (v95 : Int) : Int → Option ((Int × Int) ⊕ Int)
  | v98 => (some (.inl (v98, (IntKind.i64.wrap (v95 + 1)))))
noncomputable def impl_PicSum_s25 : (Int × Int) → Option ((Int × Int) ⊕ Int)
  | (v94, v95) => (cond (decide (v95 < 8)) (cond (((v94).fdiv 32768) == 1) (impl_PicSum_j32 v95 (bxor .u16 (IntKind.u16.wrap (v94 * 2)) 4129)) (impl_PicSum_j32 v95 (IntKind.u16.wrap (v94 * 2)))) (some (.inr v94)))
noncomputable def impl_PicSum_s9 (v1 : (List Int)) : (Int × Int) → Option ((Int × Int) ⊕ Int)
  | (v66, v67) => (cond (decide (v67 < ((v1).length : Int))) (Option.bind (idx v1 (v67)) fun v92 => ((loop impl_PicSum_s25 ((bxor .u16 v66 (IntKind.u16.wrap ((IntKind.u16.wrap (v92)) * 256))), 0)).bind (fun v97 => (impl_PicSum_j16 v67 v97)))) (some (.inr v66)))
noncomputable def impl_PicSum (v1 : (List Int)) : Option Int :=
  ((loop (impl_PicSum_s9 v1) (65535, 0)).bind (fun v83 => (impl_PicSum_j5 v83)))
theorem con_impl_PicSum (v1 : (List Int)) (res_ : Int) (h : impl_PicSum v1 = some res_) : Con Tryd.prog C0 31 [.fz 1 (R e_u8 (v1))] []
    (fun x σ' => x = .sc (.int .u16 (res_)) ∧ σ' = []) := by
  refine zCon hP 0 [0, 2, 3, 5, 6, 7, 8, 9, 10, 18, 19, 25] [.tmp 2] Tryd.func31 (by unfold Tryd.f31; rfl) fun Q hQ => ?_
  unfold impl_PicSum at h
  refine zS z0 (zS z0 ?_)
  refine zCut (fun (x : Int) => ⟨[(3, .sc (.int .u16 (x)))], []⟩) impl_PicSum_j5 res_ ?_ ?_
  · rintro _ v50 h
    simp only [impl_PicSum_j5] at h
    refine zS z0 (r_ret ?_)
    cases h
    refine zAR hQ
  · intro k278 hk278 J277
    refine zS z0 (sem_blk fun k280 hk280 => ?_)
    obtain ⟨oq461, hLq461, hKq461⟩ := bind_some' h
    clear h
    refine sem_loopP [3, 7, 8, 9] (fun (_ : Unit) (x : (Int × Int)) => (⟨[(3, .sc (.int .u16 (x.1))), (7, .fz 1 (R e_u8 (v1))), (8, .sc (.int .i64 (((v1).length : Int)))), (9, .sc (.int .i64 (x.2)))], []⟩ : St)) (fun (_ : Unit) (x : (Int × Int)) => True) (impl_PicSum_s9 v1) () (65535, 0) hLq461 (by rfl) (by rfl) ⟨?_, trivial⟩ ?_
    · first | exact wkSt_same rfl | (simp (decide := true) only [go_sem, reduceIte, Nat.reduceAdd, Int.reduceToNat, Nat.reduceSub, Nat.reduceMul, Nat.reduceMod]; exact wkSt_same rfl)
    · rintro nq461 _ ⟨v66, v67⟩ xq461 kq461 hkq461 - h hIq461 hEq461
      simp only [impl_PicSum_s9] at h
      refine zS z0 (sem_cut fun k463 hk463 => ?_)
      refine sem_ifh rfl h ?_ ?_ <;> clear h <;> intro h
      · refine r_skip (r_cN hk463 ?_)
        refine zCut (fun (x : Int) => ⟨[(3, .sc (.int .u16 (x))), (7, .fz 1 (R e_u8 (v1))), (8, .sc (.int .i64 (((v1).length : Int)))), (9, .sc (.int .i64 (v67)))], []⟩) (impl_PicSum_j16 v67) xq461 ?_ ?_
        · rintro _ v91 h
          simp only [impl_PicSum_j16] at h
          refine zU z0 (zB hkq461 h hIq461 () trivial)
        · intro k508 hk508 J507
          refine sem_blk fun k509 hk509 => ?_
          obtain ⟨v92, h, c511⟩ := bI h
          refine zS (zRF c511) (zS zR ?_)
          refine zS z0 (sem_blk fun k514 hk514 => ?_)
          obtain ⟨oq539, hLq539, hKq539⟩ := bind_some' h
          clear h
          refine sem_loopP [3, 7, 8, 9, 18] (fun (_ : Unit) (x : (Int × Int)) => (⟨[(3, .sc (.int .u16 (x.1))), (7, .fz 1 (R e_u8 (v1))), (8, .sc (.int .i64 (((v1).length : Int)))), (9, .sc (.int .i64 (v67))), (18, .sc (.int .i64 (x.2)))], []⟩ : St)) (fun (_ : Unit) (x : (Int × Int)) => True) impl_PicSum_s25 () ((bxor .u16 v66 (IntKind.u16.wrap ((IntKind.u16.wrap (v92)) * 256))), 0) hLq539 (by rfl) (by rfl) ⟨?_, trivial⟩ ?_
          · first | exact wkSt_same rfl | (simp (decide := true) only [go_sem, reduceIte, Nat.reduceAdd, Int.reduceToNat, Nat.reduceSub, Nat.reduceMul, Nat.reduceMod]; exact wkSt_same rfl)
          · rintro nq539 _ ⟨v94, v95⟩ xq539 kq539 hkq539 - h hIq539 hEq539
            simp only [impl_PicSum_s25] at h
            refine zS z0 (sem_cut fun k541 hk541 => ?_)
            refine sem_ifh rfl h ?_ ?_ <;> clear h <;> intro h
            · refine r_skip (r_cN hk541 ?_)
              refine zCut (fun (x : Int) => ⟨[(3, .sc (.int .u16 (x))), (7, .fz 1 (R e_u8 (v1))), (8, .sc (.int .i64 (((v1).length : Int)))), (9, .sc (.int .i64 (v67))), (18, .sc (.int .i64 (v95)))], []⟩) (impl_PicSum_j32 v95) xq539 ?_ ?_
              · rintro _ v98 h
                simp only [impl_PicSum_j32] at h
                refine zU z0 (zB hkq539 h hIq539 () trivial)
              · intro k547 hk547 J546
                refine sem_blk fun k548 hk548 => zS zR (zS zR ?_)
                refine zS z0 ?_
                refine sem_ifh rfl h ?_ ?_ <;> clear h <;> intro h
                · refine zU z0 (r_bN hk548 ?_)
                  refine zJ J546 [3, 7, 8, 9, 18] () _ h
                · refine r_skip (r_bN hk548 ?_)
                  refine zJ J546 [3, 7, 8, 9, 18] () _ h
            · refine r_exit (r_cE hk541 ?_)
              replace h := zX h hEq539 hKq539
              refine r_kE hkq539 (r_bE hk514 ?_)
              refine r_bN hk509 (zJ J507 [3, 7, 8, 9] () _ h)
      · refine r_exit (r_cE hk463 ?_)
        replace h := zX h hEq461 hKq461
        refine r_kE hkq461 (r_bE hk280 ?_)
        refine zJ J277 [3] () _ h
noncomputable def impl_picReader_take_j7 (v1 : picReader) (v2 : Int) : Int → Option ((List Int) × picReader)
  | v3 => (gd (mkOk (v2) (v2) 1) (some ((List.replicate (v2).toNat 0), (⟨v1.left, v3⟩ : picReader))))
noncomputable def impl_picReader_take (v1 : picReader) (v2 : Int) : Option ((List Int) × picReader) :=
  (cond ((v1.code != 0) || (decide (((v1.left).length : Int) < v2))) (cond (v1.code == 0) (impl_picReader_take_j7 v1 v2 6) (impl_picReader_take_j7 v1 v2 v1.code)) (Option.bind (prtH v1.left (v2)) fun v4 => (Option.bind (prtL v1.left (v2)) fun v5 => (some (v4, (⟨v5, v1.code⟩ : picReader))))))
theorem con_impl_picReader_take (v1 : picReader) (v2 : Int) (res_ : ((List Int) × picReader)) (h : impl_picReader_take v1 v2 = some res_) : Con Tryd.prog C0 45 [.pt 0 0, .sc (.int .i64 (v2))] [.rc [.fz 1 (R e_u8 (v1.left)), .sc (.int .i64 (v1.code))]]
    (fun x σ' => x = .fz 1 (R e_u8 (res_.1)) ∧ σ' = [.rc [.fz 1 (R e_u8 (res_.2.left)), .sc (.int .i64 (res_.2.code))]]) := by
  refine zCon hP 1 [0, 1, 4, 5, 19, 24] [.tmp 4] Tryd.func45 (by unfold Tryd.f45; rfl) fun Q hQ => ?_
  unfold impl_picReader_take at h
  refine zS z0 (sem_cut fun k2 hk2 => ?_)
  refine zS zR ?_
  refine sem_ifh rfl h ?_ ?_ <;> clear h <;> intro h
  · refine zCut (fun (x : Int) => ⟨[(1, .sc (.int .i64 (v2)))], [.rc [.fz 1 (R e_u8 (v1.left)), .sc (.int .i64 (x))]]⟩) (impl_picReader_take_j7 v1 v2) res_ ?_ ?_
    · rintro _ v3 h
      simp only [impl_picReader_take_j7] at h
      obtain ⟨g6, h⟩ := gMk h
      refine zS (zRF g6) (r_ret ?_)
      refine r_cR hk2 ?_
      cases h
      refine zVRw [0] hQ
    · intro k8 hk8 J7
      refine zS z0 ?_
      refine sem_ifh rfl h ?_ ?_ <;> clear h <;> intro h
      · refine zU z0 (zJ J7 [1] () _ h)
      · refine r_skip (zJ J7 [1] () _ h)
  · refine r_skip (r_cN hk2 ?_)
    obtain ⟨v4, c11H, h⟩ := bind_some' h
    obtain ⟨c11A, c11B, c11C⟩ := prtH_some c11H
    try simp only [Int.reduceToNat, Int.toNat_zero, Int.toNat_one, Int.toNat_natCast, List.take_length] at c11C
    refine zS (zRF (a3 c11A c11B c11C)) ?_
    obtain ⟨v5, c13H, h⟩ := bind_some' h
    obtain ⟨c13A, c13B, c13C⟩ := prtL_some c13H
    try simp only [Int.reduceToNat, Int.toNat_zero, Int.toNat_one, Int.toNat_natCast, List.take_length] at c13C
    refine zS (zRF (a3 c13A c13B c13C)) (zS z0 ?_)
    refine r_ret ?_
    cases h
    refine zOR hQ
noncomputable def impl_hasOne (v1 : Int) : Option Bool :=
  (Option.bind (impl_in v1 1 3) fun v2 => (some (v2 || (v1 == 10))))
theorem con_impl_hasOne (v1 : Int) (res_ : Bool) (h : impl_hasOne v1 = some res_) : Con Tryd.prog C0 46 [.sc (.int .i64 (v1))] []
    (fun x σ' => x = .sc (.bool (res_)) ∧ σ' = []) := by
  refine zCon hP 0 [0, 2] [.tmp 2] Tryd.func46 (by unfold Tryd.f46; rfl) fun Q hQ => ?_
  unfold impl_hasOne at h
  refine zS z0 ?_
  obtain ⟨v2, c3H, h⟩ := bind_some' h
  refine zS (zC1 (lF [] (con_impl_in _ _ _ _ c3H))) (r_ret ?_)
  cases h
  refine zAR hQ
noncomputable def impl_opFits (v1 : Int) (v2 : Int) : Option Bool :=
  (cond (v1 == 10) (Option.bind (impl_in v2 21 37) fun v3 => (some v3)) (Option.bind (impl_in v2 1 10) fun v4 => (some v4)))
theorem con_impl_opFits (v1 : Int) (v2 : Int) (res_ : Bool) (h : impl_opFits v1 v2 = some res_) : Con Tryd.prog C0 47 [.sc (.int .i64 (v1)), .sc (.int .i64 (v2))] []
    (fun x σ' => x = .sc (.bool (res_)) ∧ σ' = []) := by
  refine zCon hP 0 [0, 1, 4, 6] [.tmp 4] Tryd.func47 (by unfold Tryd.f47; rfl) fun Q hQ => ?_
  unfold impl_opFits at h
  refine zS z0 (sem_cut fun k2 hk2 => ?_)
  refine zS z0 ?_
  refine sem_ifh rfl h ?_ ?_ <;> clear h <;> intro h
  · obtain ⟨v3, c5H, h⟩ := bind_some' h
    refine zS (zC1 (lF [] (con_impl_in _ _ _ _ c5H))) (r_ret ?_)
    refine r_cR hk2 ?_
    cases h
    refine zAR hQ
  · refine r_skip (r_cN hk2 ?_)
    obtain ⟨v4, c7H, h⟩ := bind_some' h
    refine zS (zC1 (lF [] (con_impl_in _ _ _ _ c7H))) (r_ret ?_)
    cases h
    refine zAR hQ
noncomputable def impl_ElemArity_j29 : Bool → Option Int
  | v7 => (cond v7 (some 2) (some 0))
noncomputable def impl_ElemArity_j5 (v1 : Int) : Bool → Option Int
  | v3 => (cond v3 (some 1) (Option.bind (impl_in v1 31 35) fun v4 => (cond v4 (some 3) (Option.bind (impl_in v1 3 10) fun v8 => (cond v8 (impl_ElemArity_j29 v8) (Option.bind (impl_in v1 24 37) fun v9 => (impl_ElemArity_j29 v9)))))))
noncomputable def impl_ElemArity (v1 : Int) : Option Int :=
  (cond (v1 == 1) (impl_ElemArity_j5 v1 (v1 == 1)) (cond (v1 == 2) (impl_ElemArity_j5 v1 (v1 == 2)) (Option.bind (impl_in v1 21 23) fun v10 => (cond v10 (impl_ElemArity_j5 v1 v10) (impl_ElemArity_j5 v1 (v1 == 25))))))
theorem con_impl_ElemArity (v1 : Int) (res_ : Int) (h : impl_ElemArity v1 = some res_) : Con Tryd.prog C0 48 [.sc (.int .i64 (v1))] []
    (fun x σ' => x = .sc (.int .i64 (res_)) ∧ σ' = []) := by
  refine zCon hP 0 [0, 2, 3, 12, 15] [.tmp 2] Tryd.func48 (by unfold Tryd.f48; rfl) fun Q hQ => ?_
  unfold impl_ElemArity at h
  refine zS z0 (sem_cut fun k2 hk2 => ?_)
  refine sem_blk fun k3 hk3 => zCut (fun (x : Bool) => ⟨[(0, .sc (.int .i64 (v1))), (3, .sc (.bool (x)))], []⟩) (impl_ElemArity_j5 v1) res_ ?_ ?_
  · rintro _ v3 h
    simp only [impl_ElemArity_j5] at h
    refine sem_ifh rfl h ?_ ?_ <;> clear h <;> intro h
    · refine zS z0 (r_ret ?_)
      refine r_bR hk3 (r_cR hk2 ?_)
      cases h
      refine zAR hQ
    · obtain ⟨v4, c10H, h⟩ := bind_some' h
      refine zS (zC1 (lF [] (con_impl_in _ _ _ _ c10H))) ?_
      refine sem_ifh rfl h ?_ ?_ <;> clear h <;> intro h
      · refine zS z0 (r_ret ?_)
        refine r_bR hk3 (r_cR hk2 ?_)
        cases h
        refine zAR hQ
      · refine zCut (fun (x : Bool) => ⟨[(15, .sc (.bool (x)))], []⟩) impl_ElemArity_j29 res_ ?_ ?_
        · rintro _ v7 h
          simp only [impl_ElemArity_j29] at h
          refine sem_ifh rfl h ?_ ?_ <;> clear h <;> intro h
          · refine zS z0 (r_ret ?_)
            refine r_bR hk3 (r_cR hk2 ?_)
            cases h
            refine zAR hQ
          · refine r_skip (r_bN hk3 ?_)
            refine r_cN hk2 (zS z0 ?_)
            refine r_ret ?_
            cases h
            refine zAR hQ
        · intro k18 hk18 J17
          obtain ⟨v8, c20H, h⟩ := bind_some' h
          refine zS (zC1 (lF [] (con_impl_in _ _ _ _ c20H))) ?_
          refine sem_ifh rfl h ?_ ?_ <;> clear h <;> intro h
          · refine r_skip (zJ J17 [15] () _ h)
          · obtain ⟨v9, c21H, h⟩ := bind_some' h
            refine zU (zC1 (lF [] (con_impl_in _ _ _ _ c21H))) (zJ J17 [15] () _ h)
  · intro k23 hk23 J22
    refine zS z0 ?_
    refine sem_ifh rfl h ?_ ?_ <;> clear h <;> intro h
    · refine r_skip (zJ J22 [0, 3] () _ h)
    · refine zS z0 ?_
      refine sem_ifh rfl h ?_ ?_ <;> clear h <;> intro h
      · refine r_skip (zJ J22 [0, 3] () _ h)
      · obtain ⟨v10, c27H, h⟩ := bind_some' h
        refine zS (zC1 (lF [] (con_impl_in _ _ _ _ c27H))) ?_
        refine sem_ifh rfl h ?_ ?_ <;> clear h <;> intro h
        · refine r_skip (zJ J22 [0, 3] () _ h)
        · refine zU z0 (zJ J22 [0, 3] () _ h)
noncomputable def impl_signed_j5 : Int → Option Int
  | v4 => (some v4)
noncomputable def impl_signed (v1 : (List Int)) : Option Int :=
  (Option.bind (impl_fromBig v1) fun v2 => (Option.bind (idx v1 (0)) fun v5 => (cond (decide (v5 ≥ 128)) (gd (decide (0 ≤ (IntKind.i64.wrap (8 * ((v1).length : Int))))) (impl_signed_j5 (IntKind.i64.wrap (v2 - (IntKind.i64.wrap (1 * (pw .i64 (IntKind.i64.wrap (8 * ((v1).length : Int)))))))))) (impl_signed_j5 v2))))
theorem con_impl_signed (v1 : (List Int)) (res_ : Int) (h : impl_signed v1 = some res_) : Con Tryd.prog C0 57 [.fz 1 (R e_u8 (v1))] []
    (fun x σ' => x = .sc (.int .i64 (res_)) ∧ σ' = []) := by
  refine zCon hP 0 [0, 2, 3, 9] [.tmp 2] Tryd.func57 (by unfold Tryd.f57; rfl) fun Q hQ => ?_
  unfold impl_signed at h
  refine zS z0 ?_
  obtain ⟨v2, c3H, h⟩ := bind_some' h
  refine zS (zC1 (lF [] (con_impl_fromBig _ _ c3H))) (zCut (fun (x : Int) => ⟨[(3, .sc (.int .i64 (x)))], []⟩) impl_signed_j5 res_ ?_ ?_)
  · rintro _ v4 h
    simp only [impl_signed_j5] at h
    refine zS z0 (r_ret ?_)
    cases h
    refine zAR hQ
  · intro k9 hk9 J8
    obtain ⟨v5, h, c11⟩ := bN 0 h
    refine zS (zRF c11) ?_
    refine sem_ifh rfl h ?_ ?_ <;> clear h <;> intro h
    · obtain ⟨g12, h⟩ := gDec h
      refine zU (zRF g12) (zJ J8 [3] () _ h)
    · refine r_skip (zJ J8 [3] () _ h)
noncomputable def impl_picReader_arg_j5 (v3 : Int) : ((List Int) × Int × Int × Int) → Option (DevArg × picReader)
  | (v13, v14, v15, v16) => (some ((⟨(IntKind.i64.wrap (v3)), v15, v16⟩ : DevArg), (⟨v13, v14⟩ : picReader)))
noncomputable def impl_picReader_arg (v1 : picReader) : Option (DevArg × picReader) :=
  (Option.bind (impl_picReader_take v1 1) fun v2 => (Option.bind (idx v2.1 (0)) fun v3 => (cond (v2.2.code != 0) (impl_picReader_arg_j5 v3 (v2.2.left, v2.2.code, 0, 0)) (Option.bind (impl_in (IntKind.i64.wrap (v3)) 1 10) fun v17 => (cond (v17 || ((IntKind.i64.wrap (v3)) == 13)) (Option.bind (impl_picReader_take v2.2 1) fun v18 => (Option.bind (idx v18.1 (0)) fun v19 => (impl_picReader_arg_j5 v3 (v18.2.left, v18.2.code, (IntKind.i64.wrap (v19)), 0)))) (cond ((IntKind.i64.wrap (v3)) == 11) (Option.bind (impl_picReader_take v2.2 2) fun v20 => (Option.bind (impl_signed v20.1) fun v21 => (impl_picReader_arg_j5 v3 (v20.2.left, v20.2.code, v21, 0)))) (cond ((IntKind.i64.wrap (v3)) == 12) (Option.bind (impl_picReader_take v2.2 4) fun v22 => (Option.bind (impl_signed v22.1) fun v23 => (Option.bind (impl_picReader_take v22.2 1) fun v24 => (Option.bind (idx v24.1 (0)) fun v25 => (impl_picReader_arg_j5 v3 (v24.2.left, v24.2.code, v23, (IntKind.i64.wrap (v25)))))))) (impl_picReader_arg_j5 v3 (v2.2.left, 3, 0, 0)))))))))
theorem con_impl_picReader_arg (v1 : picReader) (res_ : (DevArg × picReader)) (h : impl_picReader_arg v1 = some res_) : Con Tryd.prog C0 49 [.pt 0 0] [.rc [.fz 1 (R e_u8 (v1.left)), .sc (.int .i64 (v1.code))]]
    (fun x σ' => x = .agg [.sc (.int .i64 (res_.1.Kind)), .sc (.int .i64 (res_.1.N)), .sc (.int .i64 (res_.1.P))] ∧ σ' = [.rc [.fz 1 (R e_u8 (res_.2.left)), .sc (.int .i64 (res_.2.code))]]) := by
  refine zCon hP 1 [0, 2, 3, 13, 19, 34, 42] [.cell 2 54] Tryd.func49 (by unfold Tryd.f49; rfl) fun Q hQ => ?_
  unfold impl_picReader_arg at h
  refine zS z0 ?_
  obtain ⟨v2, c3H, h⟩ := bind_some' h
  obtain ⟨v3, h, c4⟩ := bN 0 h
  refine zS (zC1F (lC [[0]] (con_impl_picReader_take _ _ _ c3H)) c4) (zCut (fun (x : ((List Int) × Int × Int × Int)) => ⟨[(2, .pt 1 0), (3, .pt 2 0)], [.rc [.fz 1 (R e_u8 (x.1)), .sc (.int .i64 (x.2.1))], .rc [.sc (.int .i64 (0)), .sc (.int .i64 (0)), .sc (.int .i64 (0))], .rc [.sc (.int .i64 ((IntKind.i64.wrap (v3)))), .sc (.int .i64 (x.2.2.1)), .sc (.int .i64 (x.2.2.2))]]⟩) (impl_picReader_arg_j5 v3) res_ ?_ ?_)
  · rintro _ ⟨v13, v14, v15, v16⟩ h
    simp only [impl_picReader_arg_j5] at h
    refine zS z0 (r_ret ?_)
    cases h
    refine zAR hQ
  · intro k22 hk22 J21
    refine sem_blk fun k23 hk23 => zS z0 ?_
    refine sem_ifh rfl h ?_ ?_ <;> clear h <;> intro h
    · refine r_skip (r_bN hk23 ?_)
      refine zJ J21 [2, 3] () _ h
    · obtain ⟨v17, c26H, h⟩ := bind_some' h
      refine zS (zC1 (lF [] (con_impl_in _ _ _ _ c26H))) ?_
      refine sem_ifh rfl h ?_ ?_ <;> clear h <;> intro h
      · obtain ⟨v18, c27H, h⟩ := bind_some' h
        obtain ⟨v19, h, c28⟩ := bN 0 h
        refine zU (zC1F (lC [[0]] (con_impl_picReader_take _ _ _ c27H)) c28) (r_bN hk23 ?_)
        refine zJ J21 [2, 3] () _ h
      · refine zS z0 ?_
        refine sem_ifh rfl h ?_ ?_ <;> clear h <;> intro h
        · obtain ⟨v20, c30H, h⟩ := bind_some' h
          obtain ⟨v21, c31H, h⟩ := bind_some' h
          refine zU (zC2 (lC [[0]] (con_impl_picReader_take _ _ _ c30H)) (lF [] (con_impl_signed _ _ c31H))) (r_bN hk23 ?_)
          refine zJ J21 [2, 3] () _ h
        · refine zS z0 ?_
          refine sem_ifh rfl h ?_ ?_ <;> clear h <;> intro h
          · obtain ⟨v22, c34H, h⟩ := bind_some' h
            obtain ⟨v23, c35H, h⟩ := bind_some' h
            refine zS (zC2 (lC [[0]] (con_impl_picReader_take _ _ _ c34H)) (lF [] (con_impl_signed _ _ c35H))) ?_
            obtain ⟨v24, c36H, h⟩ := bind_some' h
            obtain ⟨v25, h, c37⟩ := bN 0 h
            refine zU (zC1F (lC [[0]] (con_impl_picReader_take _ _ _ c36H)) c37) (r_bN hk23 ?_)
            refine zJ J21 [2, 3] () _ h
          · refine zU z0 (r_bN hk23 ?_)
            refine zJ J21 [2, 3] () _ h
noncomputable def impl_picReader_inst_j27 (v3 : Int) (v8 : Int) : ((List Int) × Int × (List DevArg)) → Option (Inst × picReader)
  | (v22, v23, v24) => (some ((⟨(IntKind.i64.wrap (v3)), (IntKind.i64.wrap (v8)), v24⟩ : Inst), (⟨v22, v23⟩ : picReader)))
noncomputable def impl_picReader_inst_s31 (v8 : Int) : ((List Int) × Int × (List DevArg) × Int) → Option (((List Int) × Int × (List DevArg) × Int) ⊕ ((List Int) × Int × (List DevArg)))
  | (v27, v28, v29, v30) => (Option.bind (impl_ElemArity (IntKind.i64.wrap (v8))) fun v34 => (cond ((decide (v30 < v34)) && (v28 == 0)) (Option.bind (impl_picReader_arg (⟨v27, v28⟩ : picReader)) fun v35 => (gd (apOk ((v29 ++ [v35.1])).length 24) (some (.inl (v35.2.left, v35.2.code, (v29 ++ [v35.1]), (IntKind.i64.wrap (v30 + 1))))))) (some (.inr (v27, v28, v29)))))
noncomputable def impl_picReader_inst_j21 (v3 : Int) (v7 : ((List Int) × picReader)) (v8 : Int) : Int → Option (Inst × picReader)
  | v10 => ((loop (impl_picReader_inst_s31 v8) (v7.2.left, v10, [], 0)).bind (fun v33 => (impl_picReader_inst_j27 v3 v8 (v33.1, v33.2.1, v33.2.2))))
noncomputable def impl_picReader_inst_j5 (v2 : ((List Int) × picReader)) (v3 : Int) : Int → Option (Inst × picReader)
  | v5 => (cond (v5 != 0) (some ((⟨(IntKind.i64.wrap (v3)), 0, []⟩ : Inst), (⟨v2.2.left, v5⟩ : picReader))) (Option.bind (impl_hasOne (IntKind.i64.wrap (v3))) fun v6 => (cond (!v6) (some ((⟨(IntKind.i64.wrap (v3)), 0, []⟩ : Inst), (⟨v2.2.left, v5⟩ : picReader))) (Option.bind (impl_picReader_take (⟨v2.2.left, v5⟩ : picReader) 1) fun v7 => (Option.bind (idx v7.1 (0)) fun v8 => (cond (v7.2.code == 0) (Option.bind (impl_opFits (IntKind.i64.wrap (v3)) (IntKind.i64.wrap (v8))) fun v36 => (cond (!v36) (impl_picReader_inst_j21 v3 v7 v8 2) (impl_picReader_inst_j21 v3 v7 v8 v7.2.code))) (impl_picReader_inst_j21 v3 v7 v8 v7.2.code)))))))
noncomputable def impl_picReader_inst (v1 : picReader) : Option (Inst × picReader) :=
  (Option.bind (impl_picReader_take v1 1) fun v2 => (Option.bind (idx v2.1 (0)) fun v3 => (cond (v2.2.code == 0) (Option.bind (impl_in (IntKind.i64.wrap (v3)) 1 11) fun v37 => (cond (!v37) (impl_picReader_inst_j5 v2 v3 2) (impl_picReader_inst_j5 v2 v3 v2.2.code))) (impl_picReader_inst_j5 v2 v3 v2.2.code))))
theorem con_impl_picReader_inst (v1 : picReader) (res_ : (Inst × picReader)) (h : impl_picReader_inst v1 = some res_) : Con Tryd.prog C0 32 [.pt 0 0] [.rc [.fz 1 (R e_u8 (v1.left)), .sc (.int .i64 (v1.code))]]
    (fun x σ' => x = .agg [.sc (.int .i64 (res_.1.Code)), .sc (.int .i64 (res_.1.One_Op)), .sl 1 0 ((res_.1.One_Args).length)] ∧ σ' = [.rc [.fz 1 (R e_u8 (res_.2.left)), .sc (.int .i64 (res_.2.code))], .arr true 3 (R e_DevArg (res_.1.One_Args))]) := by
  refine zCon hP 1 [0, 2, 3, 4, 21, 35, 57, 73] [.cell 2 41] Tryd.func32 (by unfold Tryd.f32; rfl) fun Q hQ => ?_
  unfold impl_picReader_inst at h
  refine zS z0 ?_
  obtain ⟨v2, c3H, h⟩ := bind_some' h
  obtain ⟨v3, h, c4⟩ := bN 0 h
  refine zS (zC1F (lC [[0]] (con_impl_picReader_take _ _ _ c3H)) c4) (zCut (fun (x : Int) => ⟨[(0, .pt 0 0), (2, .pt 1 0), (3, .pt 2 0)], [.rc [.fz 1 (R e_u8 (v2.2.left)), .sc (.int .i64 (x))], .rc [.sc (.int .i64 (0)), .sc (.int .i64 (0)), .sc (.slice none 0 0)], .rc [.sc (.int .i64 ((IntKind.i64.wrap (v3)))), .sc (.int .i64 (0)), .sc (.slice none 0 0)]]⟩) (impl_picReader_inst_j5 v2 v3) res_ ?_ ?_)
  · rintro _ v5 h
    simp only [impl_picReader_inst_j5] at h
    refine sem_cut fun k8 hk8 => sem_cut fun k9 hk9 => ?_
    rcases Bool.eq_false_or_eq_true (v5 != 0) with g10 | g10
    · replace h := cond_t h g10
      refine zU (zRF g10) (r_cN hk9 ?_)
      refine sem_ifT rfl ?_
      try replace h := cond_t h rfl
      refine zS z0 (r_ret ?_)
      refine r_cR hk8 ?_
      cases h
      refine zVRw [0, 2000002] hQ
    · replace h := cond_f h g10
      obtain ⟨v6, c12H, h⟩ := bind_some' h
      refine zU (zC1F (lF [] (con_impl_hasOne _ _ c12H)) g10) (r_cN hk9 ?_)
      refine sem_ifh rfl h ?_ ?_ <;> clear h <;> intro h
      · refine zS z0 (r_ret ?_)
        refine r_cR hk8 ?_
        cases h
        refine zVRw [0, 2000002] hQ
      · refine r_skip (r_cN hk8 ?_)
        obtain ⟨v7, c15H, h⟩ := bind_some' h
        obtain ⟨v8, h, c16⟩ := bN 0 h
        refine zS (zC1F (lC [[0]] (con_impl_picReader_take _ _ _ c15H)) c16) (zCut (fun (x : Int) => ⟨[(0, .pt 0 0), (2, .pt 1 0), (3, .pt 2 0)], [.rc [.fz 1 (R e_u8 (v7.2.left)), .sc (.int .i64 (x))], .rc [.sc (.int .i64 (0)), .sc (.int .i64 (0)), .sc (.slice none 0 0)], .rc [.sc (.int .i64 ((IntKind.i64.wrap (v3)))), .sc (.int .i64 ((IntKind.i64.wrap (v8)))), .sc (.slice none 0 0)]]⟩) (impl_picReader_inst_j21 v3 v7 v8) res_ ?_ ?_)
        · rintro _ v10 h
          simp only [impl_picReader_inst_j21] at h
          refine zCut (fun (x : ((List Int) × Int × (List DevArg))) => ⟨[(2, .pt 1 0), (3, .pt 2 0)], [.rc [.fz 1 (R e_u8 (x.1)), .sc (.int .i64 (x.2.1))], .rc [.sc (.int .i64 (0)), .sc (.int .i64 (0)), .sc (.slice none 0 0)], .rc [.sc (.int .i64 ((IntKind.i64.wrap (v3)))), .sc (.int .i64 ((IntKind.i64.wrap (v8)))), .sl 3 0 ((x.2.2).length)], .arr true 3 (R e_DevArg (x.2.2))]⟩) (impl_picReader_inst_j27 v3 v8) res_ ?_ ?_
          · rintro _ ⟨v22, v23, v24⟩ h
            simp only [impl_picReader_inst_j27] at h
            refine zS z0 (r_ret ?_)
            cases h
            refine zOR hQ
          · intro k46 hk46 J45
            refine zS z0 (sem_blk fun k48 hk48 => ?_)
            obtain ⟨oq63, hLq63, hKq63⟩ := bind_some' h
            clear h
            refine sem_loopV [0, 2, 3, 4] [0, 1, 2, 2000002] (fun (_ : Unit) (x : ((List Int) × Int × (List DevArg) × Int)) => (⟨[(0, .pt 0 0), (2, .pt 1 0), (3, .pt 2 0), (4, .sc (.int .i64 (x.2.2.2)))], [.rc [.fz 1 (R e_u8 (x.1)), .sc (.int .i64 (x.2.1))], .rc [.sc (.int .i64 (0)), .sc (.int .i64 (0)), .sc (.slice none 0 0)], .rc [.sc (.int .i64 ((IntKind.i64.wrap (v3)))), .sc (.int .i64 ((IntKind.i64.wrap (v8)))), .sl 3 0 ((x.2.2.1).length)], .arr true 3 (R e_DevArg (x.2.2.1))]⟩ : St)) (fun (_ : Unit) (x : ((List Int) × Int × (List DevArg) × Int)) => True) (impl_picReader_inst_s31 v8) () (v7.2.left, v10, [], 0) hLq63 (by rfl) (by rfl) ⟨?_, trivial⟩ ?_
            · simp (decide := true) only [go_sem, reduceIte, Nat.reduceAdd, Int.reduceToNat, Nat.reduceSub, Nat.reduceMul, Nat.reduceMod]
              (apply wkSt_mk <;> repeat' (first | exact wkE_nil | (with_reducible apply wkE_cons) | exact wkC_nil _ | exact wkV_nil _ | exact wkA_nil _ | (with_reducible apply wkV_agg) | (with_reducible apply wkV_tup) | (with_reducible apply wkA_agg) | exact wkA_refl _ | exact wkV_refl _ | exact wkS_nil | (with_reducible apply wkS_cons) | (with_reducible apply wkO_rc) | (with_reducible apply wkO_arr) | exact wkO_refl _ | exact wkL_nil | (with_reducible apply wkL_cons) | exact wkC_refl _ | exact wkT_nil | (with_reducible apply wkT_cons) | (with_reducible apply wkR_appR) | (with_reducible apply wkR_consR) | exact wkR_nilR _ | exact wkM_nil | (with_reducible apply wkM_cons) | exact wkD_refl _ | exact wkD_nil _ | exact wkD_sl _ | exact wkA_sl _ | exact wkV_sl _ | exact wkR_refl _))
            · rintro nq63 _ ⟨v27, v28, v29, v30⟩ xq63 kq63 hkq63 - h hIq63 hEq63
              simp only [impl_picReader_inst_s31] at h
              refine sem_cut fun k64 hk64 => ?_
              obtain ⟨v34, c66H, h⟩ := bind_some' h
              refine zS (zC1 (lF [] (con_impl_ElemArity _ _ c66H))) ?_
              refine sem_ifh rfl h ?_ ?_ <;> clear h <;> intro h
              · refine r_skip (r_cN hk64 ?_)
                refine sem_cut fun k67 hk67 => sem_blk fun k68 hk68 => ?_
                obtain ⟨v35, c69H, h⟩ := bind_some' h
                obtain ⟨g70, h⟩ := gAp h
                refine zU (zPC1F (.take 0 (.take 1 (.take 2 (.take 3 (.one 4 (.one 5 (.last 6 (.take 7 (.take 8 (.last 9 .done)))))))))) [2] (lC [[0]] (con_impl_picReader_arg _ _ c69H)) g70) (r_bN hk68 ?_)
                refine r_cN hk67 (zU z0 ?_)
                refine zB hkq63 h hIq63 () trivial
              · refine r_exit (r_cE hk64 ?_)
                replace h := zX h hEq63 hKq63
                refine r_kE hkq63 (r_bE hk48 ?_)
                refine zJ J45 [2, 3] () _ h
        · intro k72 hk72 J71
          refine sem_cut fun k73 hk73 => ?_
          rcases Bool.eq_false_or_eq_true (v7.2.code == 0) with g74 | g74
          · replace h := cond_t h g74
            obtain ⟨v36, c75H, h⟩ := bind_some' h
            refine zU (zC1F (lF [] (con_impl_opFits _ _ _ c75H)) g74) (r_cN hk73 ?_)
            refine sem_ifh rfl h ?_ ?_ <;> clear h <;> intro h
            · refine zU z0 (zJ J71 [0, 2, 3] () _ h)
            · refine r_skip (zJ J71 [0, 2, 3] () _ h)
          · replace h := cond_f h g74
            refine zU (zRF g74) (r_cN hk73 ?_)
            refine sem_ifF rfl ?_
            try replace h := cond_f h rfl
            refine r_skip (zJ J71 [0, 2, 3] () _ h)
  · intro k77 hk77 J76
    refine sem_cut fun k78 hk78 => ?_
    rcases Bool.eq_false_or_eq_true (v2.2.code == 0) with g79 | g79
    · replace h := cond_t h g79
      obtain ⟨v37, c80H, h⟩ := bind_some' h
      refine zU (zC1F (lF [] (con_impl_in _ _ _ _ c80H)) g79) (r_cN hk78 ?_)
      refine sem_ifh rfl h ?_ ?_ <;> clear h <;> intro h
      · refine zU z0 (zJ J76 [0, 2, 3] () _ h)
      · refine r_skip (zJ J76 [0, 2, 3] () _ h)
    · replace h := cond_f h g79
      refine zU (zRF g79) (r_cN hk78 ?_)
      refine sem_ifF rfl ?_
      try replace h := cond_f h rfl
      refine r_skip (zJ J76 [0, 2, 3] () _ h)
noncomputable def slices_Clone_impl_DevArg_impl_DevArg (v1 : (List DevArg)) : Option (List DevArg) :=
  (nilq v1 fun v2 => (cond v2 (some []) (gd (apOk (v1).length 24) (some v1))))
theorem con_slices_Clone_impl_DevArg_impl_DevArg (v1 : (List DevArg)) (res_ : (List DevArg)) (h : slices_Clone_impl_DevArg_impl_DevArg v1 = some res_) : Con Tryd.prog C0 68 [.fz 3 (R e_DevArg (v1))] []
    (fun x σ' => x = .sl 0 0 ((res_).length) ∧ σ' = [.arr true 3 (R e_DevArg (res_))]) := by
  refine zCon hP 0 [0, 2, 4] [.tmp 2] Tryd.func68 (by unfold Tryd.f68; rfl) fun Q hQ => ?_
  unfold slices_Clone_impl_DevArg_impl_DevArg at h
  refine zS z0 (sem_cut fun k2 hk2 => ?_)
  refine sem_cut fun k3 hk3 => ?_
  have c4H := nilq_some h
  clear h
  repeat' (first | with_reducible refine And.intro ?_ ?_ | exact True.intro | with_reducible assumption | exact fun hf => False.elim hf | (intro hg; first | (simp +contextual [hg]; done) | grind) | omega | ((with_reducible refine r_nileq ?_); refine ⟨?_, ?_⟩) | (intro v2 c4B) | simp (decide := true) only [go_sem, reduceIte, Nat.reduceAdd, Int.reduceToNat, Nat.reduceSub, Nat.reduceMul, Nat.reduceMod])
  replace h := c4H v2 (fun e => by have e2 := c4B e; simpa only [go_sem, reduceIte, Nat.reduceEqDiff] using e2)
  refine r_cN hk3 ?_
  refine sem_ifh rfl h ?_ ?_ <;> clear h <;> intro h
  · refine zS z0 (r_ret ?_)
    refine r_cR hk2 ?_
    cases h
    refine zVRw [2000002] hQ
  · refine r_skip (r_cN hk2 ?_)
    obtain ⟨g7, h⟩ := gAp h
    refine zS (zRF g7) (r_ret ?_)
    cases h
    refine zOR hQ
noncomputable def slices_Clip_impl_DevArg_impl_DevArg (v1 : (List DevArg)) : Option (List DevArg) :=
  (gd (decide (0 ≤ (((v1).length : Nat) : Int)) && decide ((((v1).length : Nat) : Int) ≤ (((v1).length : Nat) : Int))) (some v1))
theorem con_slices_Clip_impl_DevArg_impl_DevArg (v1 : (List DevArg)) (res_ : (List DevArg)) (h : slices_Clip_impl_DevArg_impl_DevArg v1 = some res_) : Con Tryd.prog C0 67 [.sl 0 0 ((v1).length)] [.arr true 3 (R e_DevArg (v1))]
    (fun x σ' => x = .sl 0 0 ((v1).length) ∧ σ' = [.arr true 3 (R e_DevArg (v1))] ∧ res_ = v1) := by
  refine zCon hP 1 [0, 2] [.tmp 2] Tryd.func67 (by unfold Tryd.f67; rfl) fun Q hQ => ?_
  unfold slices_Clip_impl_DevArg_impl_DevArg at h
  refine zS z0 ?_
  obtain ⟨g3, h⟩ := gD2 h
  refine zS (zRF g3) (r_ret ?_)
  obtain rfl := Option.some.inj h
  refine r_eOR hQ rfl rfl ?_
  simp (decide := true) only [go_sem, reduceIte, Nat.reduceAdd, Int.reduceToNat, Nat.reduceSub, Nat.reduceMul, Nat.reduceMod]
  all_goals first | exact wkEnd_same ⟨rfl, rfl, rfl⟩ | exact wkEnd_same ⟨rfl, rfl⟩ | exact True.intro
noncomputable def impl_clone_impl_DevArg (v1 : (List DevArg)) : Option (List DevArg) :=
  (Option.bind (slices_Clone_impl_DevArg_impl_DevArg v1) fun v2 => (Option.bind (slices_Clip_impl_DevArg_impl_DevArg v2) fun v3 => (some v2)))
theorem con_impl_clone_impl_DevArg (v1 : (List DevArg)) (res_ : (List DevArg)) (h : impl_clone_impl_DevArg v1 = some res_) : Con Tryd.prog C0 58 [.fz 3 (R e_DevArg (v1))] []
    (fun x σ' => x = .sl 0 0 ((res_).length) ∧ σ' = [.arr true 3 (R e_DevArg (res_))]) := by
  refine zCon hP 0 [0, 2] [.tmp 2] Tryd.func58 (by unfold Tryd.f58; rfl) fun Q hQ => ?_
  unfold impl_clone_impl_DevArg at h
  refine zS z0 (sem_cut fun k2 hk2 => ?_)
  obtain ⟨v2, c3H, h⟩ := bind_some' h
  obtain ⟨v3, c4H, h⟩ := bind_some' h
  repeat' (first | with_reducible refine And.intro ?_ ?_ | ((with_reducible refine i_call (n := 68) ?_); refine call_openF [] ?_) | ((with_reducible refine i_callW (n := 68) ?_); refine callW_use (con_slices_Clone_impl_DevArg_impl_DevArg v1 v2 c3H) ?_; rintro x σ' ⟨rfl, rfl⟩ <;> ((refine ⟨?_, ?_⟩; (focus simp (decide := true) only [go_sem, reduceIte, Nat.reduceAdd, Int.reduceToNat, Nat.reduceSub, Nat.reduceMul, Nat.reduceMod])); (with_reducible refine behind_go ?_))) | ((with_reducible refine i_call (n := 67) ?_); refine call_openF [[0]] ?_) | ((with_reducible refine i_callW (n := 67) ?_); refine callW_use (con_slices_Clip_impl_DevArg_impl_DevArg v2 v3 c4H) ?_; rintro x σ' ⟨rfl, rfl, c4N0_0⟩ <;> ((refine ⟨?_, ?_⟩; (focus simp (decide := true) only [go_sem, reduceIte, Nat.reduceAdd, Int.reduceToNat, Nat.reduceSub, Nat.reduceMul, Nat.reduceMod])); (with_reducible refine behind_go ?_))) | exact True.intro | with_reducible assumption | exact fun hf => False.elim hf | (intro hg; first | (simp +contextual [hg]; done) | grind) | omega | simp (decide := true) only [go_sem, reduceIte, Nat.reduceAdd, Int.reduceToNat, Nat.reduceSub, Nat.reduceMul, Nat.reduceMod])
  refine r_cN hk2 (r_ret ?_)
  cases h
  refine zOR hQ
noncomputable def impl_Elem_copyOf (v1 : Elem) : Option Elem :=
  (Option.bind (impl_clone_impl_DevArg v1.Args) fun v2 => (some (⟨v1.Op, v2⟩ : Elem)))
theorem con_impl_Elem_copyOf (v1 : Elem) (res_ : Elem) (h : impl_Elem_copyOf v1 = some res_) : Con Tryd.prog C0 50 [.agg [.sc (.int .i64 (v1.Op)), .fz 3 (R e_DevArg (v1.Args))]] []
    (fun x σ' => x = .agg [.sc (.int .i64 (res_.Op)), .sl 0 0 ((res_.Args).length)] ∧ σ' = [.arr true 3 (R e_DevArg (res_.Args))]) := by
  refine zCon hP 0 [0, 1, 2] [.cell 2 39] Tryd.func50 (by unfold Tryd.f50; rfl) fun Q hQ => ?_
  unfold impl_Elem_copyOf at h
  refine zS z0 ?_
  obtain ⟨v2, c3H, h⟩ := bind_some' h
  refine zS (zPC1 (.take 0 (.take 1 (.take 2 (.take 3 (.one 4 (.take 5 (.last 6 .done))))))) [0] (lF [] (con_impl_clone_impl_DevArg _ _ c3H))) (r_ret ?_)
  cases h
  refine zOR hQ
noncomputable def impl_copyList_j5 : (List Inst) → Option (List Inst)
  | v17 => (some v17)
noncomputable def impl_copyList_s9 (v1 : (List Inst)) : ((List Inst) × Int) → Option (((List Inst) × Int) ⊕ (List Inst))
  | (v22, v23) => (cond (decide (v23 < ((v1).length : Int))) (Option.bind (idx v22 (v23)) fun v29 => (Option.bind (idx v1 (v23)) fun v30 => (Option.bind (impl_Elem_copyOf (⟨v30.One_Op, v30.One_Args⟩ : Elem)) fun v31 => (Option.bind (idx v22 (v23)) fun v32 => (some (.inl (((v22).set (v23).toNat (⟨v30.Code, v31.Op, v31.Args⟩ : Inst)), (IntKind.i64.wrap (v23 + 1))))))))) (some (.inr v22)))
noncomputable def impl_copyList (v1 : (List Inst)) : Option (List Inst) :=
  (gd (mkOk (((v1).length : Int)) (((v1).length : Int)) 40) ((loop (impl_copyList_s9 v1) ((List.replicate (((v1).length : Int)).toNat (⟨0, 0, []⟩ : Inst)), 0)).bind (fun v28 => (impl_copyList_j5 v28))))
theorem con_impl_copyList (v1 : (List Inst)) (res_ : (List Inst)) (h : impl_copyList v1 = some res_) : Con Tryd.prog C0 33 [.fz 3 (R e_Inst (v1))] []
    (fun x σ' => x = .sl 0 0 ((res_).length) ∧ σ' = [.nst 3 (R eO_Inst (res_)) none]) := by
  refine zCon hP 0 [0, 2, 3, 4, 5, 9, 10, 11, 12] [.tmp 2] Tryd.func33 (by unfold Tryd.f33; rfl) fun Q hQ => ?_
  unfold impl_copyList at h
  refine zS z0 (sem_cut fun k2 hk2 => ?_)
  obtain ⟨g3, h⟩ := gMk h
  refine zU (zRF g3) (r_cO [.nst 3 (R eO_Inst ((List.replicate (((v1).length : Int)).toNat (⟨0, 0, []⟩ : Inst)))) none] hk2 (NS1.mk 0 2 3 rfl (by decide)) (by first | (simp (decide := true) only [go_sem, reduceIte, Nat.reduceAdd, Int.reduceToNat, Nat.reduceSub, Nat.reduceMul, Nat.reduceMod]; done) | rfl | (simp (decide := true) only [go_sem, reduceIte, Nat.reduceAdd, Int.reduceToNat, Nat.reduceSub, Nat.reduceMul, Nat.reduceMod]; rfl)) ?_)
  refine zCut (fun (x : (List Inst)) => ⟨[(3, .sl 0 0 ((x).length))], [.nst 3 (R eO_Inst (x)) none]⟩) impl_copyList_j5 res_ ?_ ?_
  · rintro _ v17 h
    simp only [impl_copyList_j5] at h
    refine zS z0 (r_ret ?_)
    cases h
    refine zOR hQ
  · intro k36 hk36 J35
    refine zS z0 (sem_blk fun k38 hk38 => ?_)
    obtain ⟨oq57, hLq57, hKq57⟩ := bind_some' h
    clear h
    refine sem_loopP [3, 9, 10, 11] (fun (_ : Unit) (x : ((List Inst) × Int)) => (⟨[(3, .sl 0 0 ((x.1).length)), (9, .fz 3 (R e_Inst (v1))), (10, .sc (.int .i64 (((v1).length : Int)))), (11, .sc (.int .i64 (x.2)))], [.nst 3 (R eO_Inst (x.1)) none]⟩ : St)) (fun (_ : Unit) (x : ((List Inst) × Int)) => True) (impl_copyList_s9 v1) () ((List.replicate (((v1).length : Int)).toNat (⟨0, 0, []⟩ : Inst)), 0) hLq57 (by rfl) (by rfl) ⟨?_, trivial⟩ ?_
    · first | exact wkSt_same rfl | (simp (decide := true) only [go_sem, reduceIte, Nat.reduceAdd, Int.reduceToNat, Nat.reduceSub, Nat.reduceMul, Nat.reduceMod]; exact wkSt_same rfl)
    · rintro nq57 _ ⟨v22, v23⟩ xq57 kq57 hkq57 - h hIq57 hEq57
      simp only [impl_copyList_s9] at h
      refine zS z0 (sem_cut fun k59 hk59 => ?_)
      refine sem_ifh rfl h ?_ ?_ <;> clear h <;> intro h
      · refine r_skip ?_
        obtain ⟨v29, h, c60⟩ := bI h
        refine r_cO [.nst 3 (R eO_Inst (v22)) (some ((v23).toNat, [.sc (.int .i64 (v29.Code)), .sc (.int .i64 (v29.One_Op)), .sl 1 0 ((v29.One_Args).length)])), .arr true 3 (R e_DevArg (v29.One_Args))] hk59 (NS1.opn 0 ((v23).toNat) 2 rfl (R_some rfl c60) rfl) (by first | (simp (decide := true) only [go_sem, reduceIte, Nat.reduceAdd, Int.reduceToNat, Nat.reduceSub, Nat.reduceMul, Nat.reduceMod]; done) | rfl | (simp (decide := true) only [go_sem, reduceIte, Nat.reduceAdd, Int.reduceToNat, Nat.reduceSub, Nat.reduceMul, Nat.reduceMod]; rfl)) (sem_cut fun k61 hk61 => ?_)
        refine sem_blk fun k62 hk62 => ?_
        obtain ⟨v30, h, c64⟩ := bI h
        refine zS (zRF c64) ?_
        obtain ⟨v31, c65H, h⟩ := bind_some' h
        obtain ⟨v32, h, c66⟩ := bI h
        refine zU (zPC1F (.take 0 (.take 1 (.take 2 (.take 3 (.take 4 (.take 5 (.one 6 (.take 7 (.take 8 (.last 9 .done)))))))))) [2] (lF [] (con_impl_Elem_copyOf _ _ c65H)) c66) (r_bN hk62 ?_)
        refine r_cO [.nst 3 (R eO_Inst (((v22).set (v23).toNat (⟨v30.Code, v31.Op, v31.Args⟩ : Inst)))) none, .arr true 3 (R e_DevArg (v29.One_Args)), .rc [.sc (.int .i64 (v30.Code)), .sc (.int .i64 (v30.One_Op)), .fz 3 (R e_DevArg (v30.One_Args))], .dead] hk61 (n_cls 0 2 rfl rfl rfl (by first | rfl | (simp (decide := true) only [go_sem, reduceIte, Nat.reduceAdd, Int.reduceToNat, Nat.reduceSub, Nat.reduceMul, Nat.reduceMod]; done)) (by repeat' (first | exact trivial | exact rfl | refine And.intro ?_ ?_))) (by first | (simp (decide := true) only [go_sem, reduceIte, Nat.reduceAdd, Int.reduceToNat, Nat.reduceSub, Nat.reduceMul, Nat.reduceMod]; done) | rfl | (simp (decide := true) only [go_sem, reduceIte, Nat.reduceAdd, Int.reduceToNat, Nat.reduceSub, Nat.reduceMul, Nat.reduceMod]; rfl)) ?_
        refine zU z0 (zB hkq57 h hIq57 () trivial)
      · refine r_exit (r_cE hk59 ?_)
        replace h := zX h hEq57 hKq57
        refine r_kE hkq57 (r_bE hk38 ?_)
        refine zJ J35 [3] () _ h
noncomputable def impl_PicRead_j34 (v8 : Int) : ((List Int) × Int × (List Inst)) → Option ((List Inst) × PicFault)
  | (v23, v24, v25) => (cond (decide (((v23).length : Int) > 0)) (some ([], (⟨7, v8⟩ : PicFault))) (Option.bind (impl_copyList v25) fun v26 => (some (v26, (⟨0, 0⟩ : PicFault)))))
noncomputable def impl_PicRead_s38 (v8 : Int) : ((List Int) × Int × (List Inst) × Int) → Option (((List Int) × Int × (List Inst) × Int) ⊕ ((Int × Int) ⊕ ((List Int) × Int × (List Inst))))
  | (v28, v29, v30, v31) => (cond (decide (v31 < v8)) (Option.bind (impl_picReader_inst (⟨v28, v29⟩ : picReader)) fun v35 => (cond (v35.2.code != 0) (some (.inr (.inl (v35.2.code, v31)))) (gd (apOk ((v30 ++ [v35.1])).length 40) (some (.inl (v35.2.left, v35.2.code, (v30 ++ [v35.1]), (IntKind.i64.wrap (v31 + 1)))))))) (some (.inr (.inr (v28, v29, v30)))))
noncomputable def impl_PicRead (v1 : (List Int)) : Option ((List Inst) × PicFault) :=
  (Option.bind (impl_in ((v1).length : Int) 8 20008) fun v2 => (cond v2 (Option.bind (idx v1 (0)) fun v3 => (cond (v3 != 83) (some ([], (⟨4, 0⟩ : PicFault))) (Option.bind (idx v1 (1)) fun v4 => (cond (v4 != 116) (some ([], (⟨4, 0⟩ : PicFault))) (Option.bind (prt v1 (2) (4)) fun v5 => (Option.bind (impl_fromBig v5) fun v6 => (cond (v6 != ((v1).length : Int)) (some ([], (⟨4, 0⟩ : PicFault))) (Option.bind (prt v1 (4) (6)) fun v7 => (Option.bind (impl_fromBig v7) fun v8 => (Option.bind (prtL v1 ((IntKind.i64.wrap (((v1).length : Int) - 2)))) fun v9 => (Option.bind (prtH v1 ((IntKind.i64.wrap (((v1).length : Int) - 2)))) fun v10 => (Option.bind (impl_fromBig v9) fun v11 => (Option.bind (impl_PicSum v10) fun v12 => (cond (v11 != (IntKind.i64.wrap (v12))) (some ([], (⟨5, 0⟩ : PicFault))) (cond (decide (v8 > 1000)) (some ([], (⟨1, 0⟩ : PicFault))) (Option.bind (prt v1 (6) ((IntKind.i64.wrap (((v1).length : Int) - 2)))) fun v13 => ((loop (impl_PicRead_s38 v8) (v13, 0, [], 0)).bind (Sum.elim (fun v33 => (some ([], (⟨v33.1, v33.2⟩ : PicFault)))) (fun v34 => (impl_PicRead_j34 v8 (v34.1, v34.2.1, v34.2.2))))))))))))))))))))) (some ([], (⟨4, 0⟩ : PicFault)))))
theorem con_impl_PicRead (v1 : (List Int)) (res_ : ((List Inst) × PicFault)) (h : impl_PicRead v1 = some res_) : Con Tryd.prog C0 22 [.fz 1 (R e_u8 (v1))] []
    (fun x σ' => x = .tup [.sl 0 0 ((res_.1).length), .agg [.sc (.int .i64 (res_.2.Code)), .sc (.int .i64 (res_.2.At))]] ∧ σ' = [.nst 3 (R eO_Inst (res_.1)) none]) := by
  refine zCon hP 0 [0, 2, 3, 4, 5, 6, 7, 8, 9, 33, 38, 52, 62, 63, 64, 72, 89] [.tmp 2, .cell 3 44] Tryd.func22 (by unfold Tryd.f22; rfl) fun Q hQ => ?_
  unfold impl_PicRead at h
  refine zS z0 (zS z0 ?_)
  refine sem_cut fun k3 hk3 => sem_cut fun k4 hk4 => ?_
  obtain ⟨v2, c5H, h⟩ := bind_some' h
  rcases Bool.eq_false_or_eq_true v2 with g6 | g6
  · replace h := cond_t h g6
    obtain ⟨v3, h, c7⟩ := bN 0 h
    rcases Bool.eq_false_or_eq_true (v3 != 83) with g8 | g8
    · replace h := cond_t h g8
      refine zU (zC1F (lF [] (con_impl_in _ _ _ _ c5H)) (a3 g6 c7 g8)) (r_cN hk4 ?_)
      refine sem_ifT rfl ?_
      try replace h := cond_t h rfl
      refine zS z0 (r_ret ?_)
      refine r_cR hk3 ?_
      cases h
      refine zVRw [3000002] hQ
    · replace h := cond_f h g8
      obtain ⟨v4, h, c10⟩ := bN 1 h
      rcases Bool.eq_false_or_eq_true (v4 != 116) with g11 | g11
      · replace h := cond_t h g11
        refine zU (zC1F (lF [] (con_impl_in _ _ _ _ c5H)) (a4 g6 c7 g8 (a2 c10 g11))) (r_cN hk4 ?_)
        refine sem_ifT rfl ?_
        try replace h := cond_t h rfl
        refine zS z0 (r_ret ?_)
        refine r_cR hk3 ?_
        cases h
        refine zVRw [3000002] hQ
      · replace h := cond_f h g11
        obtain ⟨v5, c13H, h⟩ := bind_some' h
        obtain ⟨c13A, c13B, c13C, c13D⟩ := prt_some c13H
        try simp only [Int.reduceToNat, Int.toNat_zero, Int.toNat_one, Int.toNat_natCast, List.take_length] at c13D
        obtain ⟨v6, c14H, h⟩ := bind_some' h
        refine zU (zC2F (lF [] (con_impl_in _ _ _ _ c5H)) (lF [] (con_impl_fromBig _ _ c14H)) (a4 g6 c7 g8 (a4 c10 g11 c13A (a3 c13B c13C c13D)))) (r_cN hk4 ?_)
        refine sem_ifh rfl h ?_ ?_ <;> clear h <;> intro h
        · refine zS z0 (r_ret ?_)
          refine r_cR hk3 ?_
          cases h
          refine zVRw [3000002] hQ
        · refine r_skip (r_cN hk3 ?_)
          obtain ⟨v7, c17H, h⟩ := bind_some' h
          obtain ⟨c17A, c17B, c17C, c17D⟩ := prt_some c17H
          try simp only [Int.reduceToNat, Int.toNat_zero, Int.toNat_one, Int.toNat_natCast, List.take_length] at c17D
          obtain ⟨v8, c18H, h⟩ := bind_some' h
          refine zS (zC1F (lF [] (con_impl_fromBig _ _ c18H)) (a4 c17A c17B c17C c17D)) (sem_cut fun k19 hk19 => ?_)
          refine sem_blk fun k20 hk20 => ?_
          obtain ⟨v9, c22H, h⟩ := bind_some' h
          obtain ⟨c22A, c22B, c22C⟩ := prtL_some c22H
          try simp only [Int.reduceToNat, Int.toNat_zero, Int.toNat_one, Int.toNat_natCast, List.take_length] at c22C
          obtain ⟨v10, c23H, h⟩ := bind_some' h
          obtain ⟨c23A, c23B, c23C⟩ := prtH_some c23H
          try simp only [Int.reduceToNat, Int.toNat_zero, Int.toNat_one, Int.toNat_natCast, List.take_length] at c23C
          obtain ⟨v11, c24H, h⟩ := bind_some' h
          obtain ⟨v12, c25H, h⟩ := bind_some' h
          refine zS (zPC2F (.take 0 (.take 1 (.take 2 (.take 3 (.take 5 (.take 6 (.take 7 (.take 8 (.last 4 (.last 9 (.take 10 (.take 11 (.take 12 .done))))))))))))) [] (lF [] (con_impl_fromBig _ _ c24H)) (lF [] (con_impl_PicSum _ _ c25H)) (a4 c22A c22B c22C (a3 c23A c23B c23C))) ?_
          refine sem_ifh rfl h ?_ ?_ <;> clear h <;> intro h
          · refine zS z0 (r_ret ?_)
            refine r_bR hk20 (r_cR hk19 ?_)
            cases h
            refine zVRw [3000002] hQ
          · refine zS z0 ?_
            refine sem_ifh rfl h ?_ ?_ <;> clear h <;> intro h
            · refine zS z0 (r_ret ?_)
              refine r_bR hk20 (r_cR hk19 ?_)
              cases h
              refine zVRw [3000002] hQ
            · refine r_skip (r_bN hk20 ?_)
              refine r_cN hk19 ?_
              obtain ⟨v13, c30H, h⟩ := bind_some' h
              obtain ⟨c30A, c30B, c30C, c30D⟩ := prt_some c30H
              try simp only [Int.reduceToNat, Int.toNat_zero, Int.toNat_one, Int.toNat_natCast, List.take_length] at c30D
              refine zS (zRF (a4 c30A c30B c30C c30D)) (zS z0 ?_)
              refine zCut (fun (x : ((List Int) × Int × (List Inst))) => ⟨[(3, .pt 0 0), (5, .sc (.int .i64 (v8))), (6, .pt 1 0), (7, .sl 2 0 ((x.2.2).length))], [.rc [.sc (.int .i64 (0)), .sc (.int .i64 (0))], .rc [.fz 1 (R e_u8 (x.1)), .sc (.int .i64 (x.2.1))], .arr true 3 (R e_Inst (x.2.2))]⟩) (impl_PicRead_j34 v8) res_ ?_ ?_
              · rintro _ ⟨v23, v24, v25⟩ h
                simp only [impl_PicRead_j34] at h
                refine sem_cut fun k68 hk68 => zS z0 ?_
                refine sem_ifh rfl h ?_ ?_ <;> clear h <;> intro h
                · refine zS z0 (r_ret ?_)
                  refine r_cR hk68 ?_
                  cases h
                  refine zVRw [3000002] hQ
                · refine r_skip (r_cN hk68 ?_)
                  obtain ⟨v26, c72H, h⟩ := bind_some' h
                  refine zS (zC1 (lF [] (con_impl_copyList _ _ c72H))) (r_ret ?_)
                  cases h
                  refine zOR hQ
              · intro k74 hk74 J73
                refine zS z0 (sem_blk fun k76 hk76 => ?_)
                obtain ⟨oq99, hLq99, hKq99⟩ := bind_some' h
                clear h
                refine sem_loopV [3, 5, 6, 7, 62, 63] [0, 1, 2000002] (fun (_ : Unit) (x : ((List Int) × Int × (List Inst) × Int)) => (⟨[(3, .pt 0 0), (5, .sc (.int .i64 (v8))), (6, .pt 1 0), (7, .sl 2 0 ((x.2.2.1).length)), (62, .sc (.int .i64 (v8))), (63, .sc (.int .i64 (x.2.2.2)))], [.rc [.sc (.int .i64 (0)), .sc (.int .i64 (0))], .rc [.fz 1 (R e_u8 (x.1)), .sc (.int .i64 (x.2.1))], .arr true 3 (R e_Inst (x.2.2.1))]⟩ : St)) (fun (_ : Unit) (x : ((List Int) × Int × (List Inst) × Int)) => True) (impl_PicRead_s38 v8) () (v13, 0, [], 0) hLq99 (by rfl) (by rfl) ⟨?_, trivial⟩ ?_
                · simp (decide := true) only [go_sem, reduceIte, Nat.reduceAdd, Int.reduceToNat, Nat.reduceSub, Nat.reduceMul, Nat.reduceMod]
                  (apply wkSt_mk <;> repeat' (first | exact wkE_nil | (with_reducible apply wkE_cons) | exact wkC_nil _ | exact wkV_nil _ | exact wkA_nil _ | (with_reducible apply wkV_agg) | (with_reducible apply wkV_tup) | (with_reducible apply wkA_agg) | exact wkA_refl _ | exact wkV_refl _ | exact wkS_nil | (with_reducible apply wkS_cons) | (with_reducible apply wkO_rc) | (with_reducible apply wkO_arr) | exact wkO_refl _ | exact wkL_nil | (with_reducible apply wkL_cons) | exact wkC_refl _ | exact wkT_nil | (with_reducible apply wkT_cons) | (with_reducible apply wkR_appR) | (with_reducible apply wkR_consR) | exact wkR_nilR _ | exact wkM_nil | (with_reducible apply wkM_cons) | exact wkD_refl _ | exact wkD_nil _ | exact wkD_sl _ | exact wkA_sl _ | exact wkV_sl _ | exact wkR_refl _))
                · rintro nq99 _ ⟨v28, v29, v30, v31⟩ xq99 kq99 hkq99 - h hIq99 hEq99
                  simp only [impl_PicRead_s38] at h
                  refine zS z0 (sem_cut fun k101 hk101 => ?_)
                  refine sem_ifh rfl h ?_ ?_ <;> clear h <;> intro h
                  · refine r_skip (r_cN hk101 ?_)
                    refine sem_cut fun k102 hk102 => sem_blk fun k103 hk103 => zS z0 ?_
                    obtain ⟨v35, c106H, h⟩ := bind_some' h
                    refine zS (zC1 (lC [[0]] (con_impl_picReader_inst _ _ c106H))) (sem_cut fun k107 hk107 => ?_)
                    refine zS z0 ?_
                    refine sem_ifh rfl h ?_ ?_ <;> clear h <;> intro h
                    · refine zS (zPR (.take 0 (.take 1 (.take 2 (.take 3 (.take 4 (.take 5 (.take 6 (.last 7 .done)))))))) [1]) (r_ret ?_)
                      refine r_cR hk107 (r_bR hk103 ?_)
                      refine r_cR hk102 ?_
                      replace h := zX h hEq99 hKq99
                      simp only [Sum.elim_inl, Sum.elim_inr] at h
                      refine r_kR hkq99 (r_bR hk76 ?_)
                      refine r_jR hk74 ?_
                      cases h
                      refine zVRw [3000002] hQ
                    · refine r_skip (r_cN hk107 ?_)
                      obtain ⟨g110, h⟩ := gAp h
                      refine zU (zRF g110) (r_bN hk103 ?_)
                      refine r_cN hk102 (zU z0 ?_)
                      refine zB hkq99 h hIq99 () trivial
                  · refine r_exit (r_cE hk101 ?_)
                    replace h := zX h hEq99 hKq99
                    simp only [Sum.elim_inl, Sum.elim_inr] at h
                    refine r_kE hkq99 (r_bE hk76 ?_)
                    refine zJ J73 [3, 5, 6, 7] () _ h
  · replace h := cond_f h g6
    refine zU (zC1F (lF [] (con_impl_in _ _ _ _ c5H)) g6) (r_cN hk4 ?_)
    refine sem_ifT rfl ?_
    try replace h := cond_t h rfl
    refine zS z0 (r_ret ?_)
    refine r_cR hk3 ?_
    cases h
    refine zVRw [3000002] hQ
noncomputable def impl_DevSize (v1 : Int) : Option Int :=
  (Option.bind (impl_in v1 1 10) fun v2 => (cond (!v2) (some 0) (Option.bind (idx pt_devSizes (v1)) fun v3 => (some v3))))
theorem con_impl_DevSize (v1 : Int) (res_ : Int) (h : impl_DevSize v1 = some res_) : Con Tryd.prog C0 84 [.sc (.int .i64 (v1))] []
    (fun x σ' => x = .sc (.int .i64 (res_)) ∧ σ' = []) := by
  refine zCon hP 0 [0, 2, 5] [.tmp 2] Tryd.func84 (by unfold Tryd.f84; rfl) fun Q hQ => ?_
  unfold impl_DevSize at h
  refine zS z0 (sem_cut fun k2 hk2 => ?_)
  obtain ⟨v2, c4H, h⟩ := bind_some' h
  refine zS (zC1 (lF [] (con_impl_in _ _ _ _ c4H))) ?_
  refine sem_ifh rfl h ?_ ?_ <;> clear h <;> intro h
  · refine zS z0 (r_ret ?_)
    refine r_cR hk2 ?_
    cases h
    refine zAR hQ
  · refine r_skip (r_cN hk2 ?_)
    obtain ⟨v3, h, c7⟩ := bI h
    refine zS (zRF c7) (r_ret ?_)
    cases h
    refine zAR hQ
noncomputable def impl_DevOk (v1 : DevArg) : Option Bool :=
  (cond (v1.Kind == 11) (Option.bind (impl_in v1.N (-32768) 32767) fun v2 => (some (v2 && (v1.P == 0)))) (cond (v1.Kind == 12) (Option.bind (impl_in v1.N (-999999999) 999999999) fun v3 => (cond v3 (Option.bind (impl_in v1.P 1 6) fun v4 => (some (v4 && ((v1.P == 1) || (((v1.N).tmod 10) != 0))))) (some false))) (cond (v1.Kind == 13) (Option.bind (impl_in v1.N 0 (IntKind.i64.wrap (((pt_devWords).length : Int) - 1))) fun v5 => (some (v5 && (v1.P == 0)))) (cond (decide (v1.N ≥ 0)) (Option.bind (impl_DevSize v1.Kind) fun v6 => (some ((decide (v1.N < v6)) && (v1.P == 0)))) (some false)))))
theorem con_impl_DevOk (v1 : DevArg) (res_ : Bool) (h : impl_DevOk v1 = some res_) : Con Tryd.prog C0 80 [.agg [.sc (.int .i64 (v1.Kind)), .sc (.int .i64 (v1.N)), .sc (.int .i64 (v1.P))]] []
    (fun x σ' => x = .sc (.bool (res_)) ∧ σ' = []) := by
  refine zCon hP 0 [0, 1, 2, 4, 5, 15, 36] [.tmp 2] Tryd.func80 (by unfold Tryd.f80; rfl) fun Q hQ => ?_
  unfold impl_DevOk at h
  refine zS z0 (sem_cut fun k2 hk2 => ?_)
  refine zS z0 (sem_blk fun k4 hk4 => ?_)
  refine zS z0 ?_
  refine sem_ifh rfl h ?_ ?_ <;> clear h <;> intro h
  · obtain ⟨v2, c7H, h⟩ := bind_some' h
    refine zS (zC1 (lF [] (con_impl_in _ _ _ _ c7H))) (r_ret ?_)
    refine r_bR hk4 (r_cR hk2 ?_)
    cases h
    refine zAR hQ
  · refine zS z0 ?_
    refine sem_ifh rfl h ?_ ?_ <;> clear h <;> intro h
    · refine sem_cut fun k9 hk9 => ?_
      obtain ⟨v3, c10H, h⟩ := bind_some' h
      rcases Bool.eq_false_or_eq_true v3 with g11 | g11
      · replace h := cond_t h g11
        obtain ⟨v4, c12H, h⟩ := bind_some' h
        refine zU (zC2F (lF [] (con_impl_in _ _ _ _ c10H)) (lF [] (con_impl_in _ _ _ _ c12H)) g11) (r_cN hk9 ?_)
        refine r_ret (r_bR hk4 ?_)
        refine r_cR hk2 ?_
        cases h
        refine zAR hQ
      · replace h := cond_f h g11
        refine zU (zC1F (lF [] (con_impl_in _ _ _ _ c10H)) g11) (r_cN hk9 ?_)
        refine r_ret (r_bR hk4 ?_)
        refine r_cR hk2 ?_
        cases h
        refine zAR hQ
    · refine zS z0 ?_
      refine sem_ifh rfl h ?_ ?_ <;> clear h <;> intro h
      · obtain ⟨v5, c15H, h⟩ := bind_some' h
        refine zS (zC1 (lF [] (con_impl_in _ _ _ _ c15H))) (r_ret ?_)
        refine r_bR hk4 (r_cR hk2 ?_)
        cases h
        refine zAR hQ
      · refine r_skip (r_bN hk4 ?_)
        refine r_cN hk2 (sem_cut fun k16 hk16 => ?_)
        rcases Bool.eq_false_or_eq_true (decide (v1.N ≥ 0)) with g17 | g17
        · replace h := cond_t h g17
          obtain ⟨v6, c18H, h⟩ := bind_some' h
          refine zU (zPC1F (.take 0 (.take 1 (.take 2 (.take 3 (.take 4 (.take 5 (.take 6 (.take 7 (.one 8 (.take 9 (.take 10 (.take 11 (.take 12 (.take 13 (.take 14 (.take 15 (.take 16 .done))))))))))))))))) [0] (lF [] (con_impl_DevSize _ _ c18H)) g17) (r_cN hk16 ?_)
          refine r_ret ?_
          cases h
          refine zAR hQ
        · replace h := cond_f h g17
          refine zU (zPRF (.take 0 (.take 1 (.take 2 (.take 3 (.take 4 (.take 5 (.take 6 (.take 7 (.one 8 (.take 9 (.take 10 (.take 11 (.take 12 (.take 13 (.take 14 (.take 15 (.take 16 .done))))))))))))))))) [0] g17) (r_cN hk16 ?_)
          refine r_ret ?_
          cases h
          refine zAR hQ
noncomputable def slices_Index_int_int_j3 : Unit → Option Int
  | () => (some (-1))
noncomputable def slices_Index_int_int_s7 (v1 : (List Int)) (v2 : Int) : Int → Option (Int ⊕ (Int ⊕ Unit))
  | v10 => (cond (decide (v10 < ((v1).length : Int))) (Option.bind (idx v1 (v10)) fun v14 => (cond (v2 == v14) (some (.inr (.inl v10))) (some (.inl (IntKind.i64.wrap (v10 + 1)))))) (some (.inr (.inr ()))))
noncomputable def slices_Index_int_int (v1 : (List Int)) (v2 : Int) : Option Int :=
  ((loop (slices_Index_int_int_s7 v1 v2) 0).bind (Sum.elim (fun v12 => (some v12)) (fun v13 => (slices_Index_int_int_j3 ()))))
theorem con_slices_Index_int_int (v1 : (List Int)) (v2 : Int) (res_ : Int) (h : slices_Index_int_int v1 v2 = some res_) : Con Tryd.prog C0 85 [.fz 1 (R e_i64 (v1)), .sc (.int .i64 (v2))] []
    (fun x σ' => x = .sc (.int .i64 (res_)) ∧ σ' = []) := by
  refine zCon hP 0 [0, 1, 4, 5, 7, 8, 9, 16] [.tmp 4] Tryd.func85 (by unfold Tryd.f85; rfl) fun Q hQ => ?_
  unfold slices_Index_int_int at h
  refine zS z0 (zCut (fun (x : Unit) => ⟨[], []⟩) slices_Index_int_int_j3 res_ ?_ ?_)
  · rintro _ _ h
    simp only [slices_Index_int_int_j3] at h
    refine zS z0 (r_ret ?_)
    cases h
    refine zAR hQ
  · intro k31 hk31 J30
    refine zS z0 (sem_blk fun k33 hk33 => ?_)
    obtain ⟨oq50, hLq50, hKq50⟩ := bind_some' h
    clear h
    refine sem_loopP [0, 1, 7, 8] (fun (_ : Unit) (x : Int) => (⟨[(0, .fz 1 (R e_i64 (v1))), (1, .sc (.int .i64 (v2))), (7, .sc (.int .i64 (((v1).length : Int)))), (8, .sc (.int .i64 (x)))], []⟩ : St)) (fun (_ : Unit) (x : Int) => True) (slices_Index_int_int_s7 v1 v2) () 0 hLq50 (by rfl) (by rfl) ⟨?_, trivial⟩ ?_
    · first | exact wkSt_same rfl | (simp (decide := true) only [go_sem, reduceIte, Nat.reduceAdd, Int.reduceToNat, Nat.reduceSub, Nat.reduceMul, Nat.reduceMod]; exact wkSt_same rfl)
    · rintro nq50 _ v10 xq50 kq50 hkq50 - h hIq50 hEq50
      simp only [slices_Index_int_int_s7] at h
      refine zS z0 (sem_cut fun k52 hk52 => ?_)
      refine sem_ifh rfl h ?_ ?_ <;> clear h <;> intro h
      · refine r_skip (r_cN hk52 ?_)
        refine sem_cut fun k53 hk53 => sem_blk fun k54 hk54 => zS z0 ?_
        obtain ⟨v14, h, c57⟩ := bI h
        refine zS (zRF c57) ?_
        refine sem_ifh rfl h ?_ ?_ <;> clear h <;> intro h
        · refine zS z0 (r_ret ?_)
          refine r_bR hk54 (r_cR hk53 ?_)
          replace h := zX h hEq50 hKq50
          simp only [Sum.elim_inl, Sum.elim_inr] at h
          refine r_kR hkq50 (r_bR hk33 ?_)
          refine r_jR hk31 ?_
          cases h
          refine zAR hQ
        · refine r_skip (r_bN hk54 ?_)
          refine r_cN hk53 (zU z0 ?_)
          refine zB hkq50 h hIq50 () trivial
      · refine r_exit (r_cE hk52 ?_)
        replace h := zX h hEq50 hKq50
        simp only [Sum.elim_inl, Sum.elim_inr] at h
        refine r_kE hkq50 (r_bE hk33 ?_)
        refine zJ J30 [] () _ h
noncomputable def slices_Contains_int_int (v1 : (List Int)) (v2 : Int) : Option Bool :=
  (Option.bind (slices_Index_int_int v1 v2) fun v3 => (some (decide (v3 ≥ 0))))
theorem con_slices_Contains_int_int (v1 : (List Int)) (v2 : Int) (res_ : Bool) (h : slices_Contains_int_int v1 v2 = some res_) : Con Tryd.prog C0 81 [.fz 1 (R e_i64 (v1)), .sc (.int .i64 (v2))] []
    (fun x σ' => x = .sc (.bool (res_)) ∧ σ' = []) := by
  refine zCon hP 0 [0, 1, 4] [.tmp 4] Tryd.func81 (by unfold Tryd.f81; rfl) fun Q hQ => ?_
  unfold slices_Contains_int_int at h
  refine zS z0 ?_
  obtain ⟨v3, c3H, h⟩ := bind_some' h
  refine zS (zC1 (lF [] (con_slices_Index_int_int _ _ _ c3H))) (r_ret ?_)
  cases h
  refine zAR hQ
noncomputable def impl_DevArg_kindIs (v1 : DevArg) (v2 : (List Int)) : Option Bool :=
  (Option.bind (impl_DevOk v1) fun v3 => (cond v3 (Option.bind (slices_Contains_int_int v2 v1.Kind) fun v4 => (some v4)) (some false)))
theorem con_impl_DevArg_kindIs (v1 : DevArg) (v2 : (List Int)) (res_ : Bool) (h : impl_DevArg_kindIs v1 v2 = some res_) : Con Tryd.prog C0 74 [.agg [.sc (.int .i64 (v1.Kind)), .sc (.int .i64 (v1.N)), .sc (.int .i64 (v1.P))], .fz 1 (R e_i64 (v2))] []
    (fun x σ' => x = .sc (.bool (res_)) ∧ σ' = []) := by
  refine zCon hP 0 [0, 1, 2, 4] [.tmp 4] Tryd.func74 (by unfold Tryd.f74; rfl) fun Q hQ => ?_
  unfold impl_DevArg_kindIs at h
  refine zS z0 (sem_cut fun k2 hk2 => ?_)
  obtain ⟨v3, c3H, h⟩ := bind_some' h
  rcases Bool.eq_false_or_eq_true v3 with g4 | g4
  · replace h := cond_t h g4
    obtain ⟨v4, c5H, h⟩ := bind_some' h
    refine zU (zC2F (lF [] (con_impl_DevOk _ _ c3H)) (lF [] (con_slices_Contains_int_int _ _ _ c5H)) g4) (r_cN hk2 ?_)
    refine r_ret ?_
    cases h
    refine zAR hQ
  · replace h := cond_f h g4
    refine zU (zC1F (lF [] (con_impl_DevOk _ _ c3H)) g4) (r_cN hk2 ?_)
    refine r_ret ?_
    cases h
    refine zAR hQ
noncomputable def impl_DevIsBit (v1 : DevArg) : Option Bool :=
  (Option.bind (impl_DevArg_kindIs v1 [1, 2, 3, 4, 6, 7, 8]) fun v2 => (some v2))
theorem con_impl_DevIsBit (v1 : DevArg) (res_ : Bool) (h : impl_DevIsBit v1 = some res_) : Con Tryd.prog C0 73 [.agg [.sc (.int .i64 (v1.Kind)), .sc (.int .i64 (v1.N)), .sc (.int .i64 (v1.P))]] []
    (fun x σ' => x = .sc (.bool (res_)) ∧ σ' = []) := by
  refine zCon hP 0 [0, 1, 2] [.tmp 2] Tryd.func73 (by unfold Tryd.f73; rfl) fun Q hQ => ?_
  unfold impl_DevIsBit at h
  refine zS z0 ?_
  obtain ⟨v2, c3H, h⟩ := bind_some' h
  refine zS (zC1 (lF [] (con_impl_DevArg_kindIs _ _ _ c3H))) (r_ret ?_)
  cases h
  refine zAR hQ
noncomputable def impl_DevIsWhole (v1 : DevArg) : Option Bool :=
  (Option.bind (impl_DevArg_kindIs v1 [7, 8, 9, 11]) fun v2 => (some v2))
theorem con_impl_DevIsWhole (v1 : DevArg) (res_ : Bool) (h : impl_DevIsWhole v1 = some res_) : Con Tryd.prog C0 78 [.agg [.sc (.int .i64 (v1.Kind)), .sc (.int .i64 (v1.N)), .sc (.int .i64 (v1.P))]] []
    (fun x σ' => x = .sc (.bool (res_)) ∧ σ' = []) := by
  refine zCon hP 0 [0, 1, 2] [.tmp 2] Tryd.func78 (by unfold Tryd.f78; rfl) fun Q hQ => ?_
  unfold impl_DevIsWhole at h
  refine zS z0 ?_
  obtain ⟨v2, c3H, h⟩ := bind_some' h
  refine zS (zC1 (lF [] (con_impl_DevArg_kindIs _ _ _ c3H))) (r_ret ?_)
  cases h
  refine zAR hQ
noncomputable def impl_all_1_fimpl_DevIsWhole (v1 : DevArg) : Option Bool :=
  (Option.bind (impl_DevIsWhole v1) fun v2 => (some (!v2)))
theorem con_impl_all_1_fimpl_DevIsWhole (v1 : DevArg) (res_ : Bool) (h : impl_all_1_fimpl_DevIsWhole v1 = some res_) : Con Tryd.prog C0 83 [.agg [.sc (.int .i64 (v1.Kind)), .sc (.int .i64 (v1.N)), .sc (.int .i64 (v1.P))], .pt 0 0] [.rc [.sc (.func (.func 78) #[] #[])]]
    (fun x σ' => x = .sc (.bool (res_)) ∧ σ' = [.rc [.sc (.func (.func 78) #[] #[])]]) := by
  refine zCon hP 1 [0, 1, 2, 3] [.tmp 3] Tryd.func83 (by unfold Tryd.f83; rfl) fun Q hQ => ?_
  unfold impl_all_1_fimpl_DevIsWhole at h
  refine zS z0 ?_
  obtain ⟨v2, c3H, h⟩ := bind_some' h
  refine zS (zC1 (lF [] (con_impl_DevIsWhole _ _ c3H))) (r_ret ?_)
  cases h
  refine zAR hQ
noncomputable def slices_IndexFunc_impl_DevArg_impl_DevArg_fimpl_all_1_impl_DevIsWhole_j3 : Unit → Option Int
  | () => (some (-1))
noncomputable def slices_IndexFunc_impl_DevArg_impl_DevArg_fimpl_all_1_impl_DevIsWhole_s7 (v1 : (List DevArg)) : Int → Option (Int ⊕ (Int ⊕ Unit))
  | v13 => (cond (decide (v13 < ((v1).length : Int))) (Option.bind (idx v1 (v13)) fun v18 => (Option.bind (impl_all_1_fimpl_DevIsWhole v18) fun v19 => (cond v19 (some (.inr (.inl v13))) (some (.inl (IntKind.i64.wrap (v13 + 1))))))) (some (.inr (.inr ()))))
noncomputable def slices_IndexFunc_impl_DevArg_impl_DevArg_fimpl_all_1_impl_DevIsWhole (v1 : (List DevArg)) : Option Int :=
  ((loop (slices_IndexFunc_impl_DevArg_impl_DevArg_fimpl_all_1_impl_DevIsWhole_s7 v1) 0).bind (Sum.elim (fun v16 => (some v16)) (fun v17 => (slices_IndexFunc_impl_DevArg_impl_DevArg_fimpl_all_1_impl_DevIsWhole_j3 ()))))
theorem con_slices_IndexFunc_impl_DevArg_impl_DevArg_fimpl_all_1_impl_DevIsWhole (v1 : (List DevArg)) (res_ : Int) (h : slices_IndexFunc_impl_DevArg_impl_DevArg_fimpl_all_1_impl_DevIsWhole v1 = some res_) : Con Tryd.prog C0 86 [.fz 3 (R e_DevArg (v1)), .clo 83 [(0, 0)]] [.rc [.sc (.func (.func 78) #[] #[])]]
    (fun x σ' => x = .sc (.int .i64 (res_)) ∧ σ' = [.rc [.sc (.func (.func 78) #[] #[])]]) := by
  refine zCon hP 1 [0, 1, 4, 5, 7, 8, 9, 16] [.tmp 4] Tryd.func86 (by unfold Tryd.f86; rfl) fun Q hQ => ?_
  unfold slices_IndexFunc_impl_DevArg_impl_DevArg_fimpl_all_1_impl_DevIsWhole at h
  refine zS z0 (zCut (fun (x : Unit) => ⟨[], [.rc [.sc (.func (.func 78) #[] #[])]]⟩) slices_IndexFunc_impl_DevArg_impl_DevArg_fimpl_all_1_impl_DevIsWhole_j3 res_ ?_ ?_)
  · rintro _ _ h
    simp only [slices_IndexFunc_impl_DevArg_impl_DevArg_fimpl_all_1_impl_DevIsWhole_j3] at h
    refine zS z0 (r_ret ?_)
    cases h
    refine zAR hQ
  · intro k34 hk34 J33
    refine zS z0 (sem_blk fun k36 hk36 => ?_)
    obtain ⟨oq55, hLq55, hKq55⟩ := bind_some' h
    clear h
    refine sem_loopP [0, 1, 7, 8] (fun (_ : Unit) (x : Int) => (⟨[(0, .fz 3 (R e_DevArg (v1))), (1, .clo 83 [(0, 0)]), (7, .sc (.int .i64 (((v1).length : Int)))), (8, .sc (.int .i64 (x)))], [.rc [.sc (.func (.func 78) #[] #[])]]⟩ : St)) (fun (_ : Unit) (x : Int) => True) (slices_IndexFunc_impl_DevArg_impl_DevArg_fimpl_all_1_impl_DevIsWhole_s7 v1) () 0 hLq55 (by rfl) (by rfl) ⟨?_, trivial⟩ ?_
    · first | exact wkSt_same rfl | (simp (decide := true) only [go_sem, reduceIte, Nat.reduceAdd, Int.reduceToNat, Nat.reduceSub, Nat.reduceMul, Nat.reduceMod]; exact wkSt_same rfl)
    · rintro nq55 _ v13 xq55 kq55 hkq55 - h hIq55 hEq55
      simp only [slices_IndexFunc_impl_DevArg_impl_DevArg_fimpl_all_1_impl_DevIsWhole_s7] at h
      refine zS z0 (sem_cut fun k57 hk57 => ?_)
      refine sem_ifh rfl h ?_ ?_ <;> clear h <;> intro h
      · refine r_skip (r_cN hk57 ?_)
        refine sem_cut fun k58 hk58 => sem_blk fun k59 hk59 => zS z0 ?_
        obtain ⟨v18, h, c62⟩ := bI h
        obtain ⟨v19, c63H, h⟩ := bind_some' h
        refine zS (zC1F (lF [[1]] (con_impl_all_1_fimpl_DevIsWhole _ _ c63H)) c62) ?_
        refine sem_ifh rfl h ?_ ?_ <;> clear h <;> intro h
        · refine zS z0 (r_ret ?_)
          refine r_bR hk59 (r_cR hk58 ?_)
          replace h := zX h hEq55 hKq55
          simp only [Sum.elim_inl, Sum.elim_inr] at h
          refine r_kR hkq55 (r_bR hk36 ?_)
          refine r_jR hk34 ?_
          cases h
          refine zAR hQ
        · refine r_skip (r_bN hk59 ?_)
          refine r_cN hk58 (zU z0 ?_)
          refine zB hkq55 h hIq55 () trivial
      · refine r_exit (r_cE hk57 ?_)
        replace h := zX h hEq55 hKq55
        simp only [Sum.elim_inl, Sum.elim_inr] at h
        refine r_kE hkq55 (r_bE hk36 ?_)
        refine zJ J33 [] () _ h
noncomputable def slices_ContainsFunc_impl_DevArg_impl_DevArg_fimpl_all_1_impl_DevIsWhole (v1 : (List DevArg)) : Option Bool :=
  (Option.bind (slices_IndexFunc_impl_DevArg_impl_DevArg_fimpl_all_1_impl_DevIsWhole v1) fun v2 => (some (decide (v2 ≥ 0))))
theorem con_slices_ContainsFunc_impl_DevArg_impl_DevArg_fimpl_all_1_impl_DevIsWhole (v1 : (List DevArg)) (res_ : Bool) (h : slices_ContainsFunc_impl_DevArg_impl_DevArg_fimpl_all_1_impl_DevIsWhole v1 = some res_) : Con Tryd.prog C0 82 [.fz 3 (R e_DevArg (v1)), .clo 83 [(0, 0)]] [.rc [.sc (.func (.func 78) #[] #[])]]
    (fun x σ' => x = .sc (.bool (res_)) ∧ σ' = [.rc [.sc (.func (.func 78) #[] #[])]]) := by
  refine zCon hP 1 [0, 1, 4] [.tmp 4] Tryd.func82 (by unfold Tryd.f82; rfl) fun Q hQ => ?_
  unfold slices_ContainsFunc_impl_DevArg_impl_DevArg_fimpl_all_1_impl_DevIsWhole at h
  refine zS z0 ?_
  obtain ⟨v2, c3H, h⟩ := bind_some' h
  refine zS (zC1 (lF [[1]] (con_slices_IndexFunc_impl_DevArg_impl_DevArg_fimpl_all_1_impl_DevIsWhole _ _ c3H))) (r_ret ?_)
  cases h
  refine zAR hQ
noncomputable def impl_all_fimpl_DevIsWhole (v1 : (List DevArg)) : Option Bool :=
  (Option.bind (slices_ContainsFunc_impl_DevArg_impl_DevArg_fimpl_all_1_impl_DevIsWhole v1) fun v2 => (some (!v2)))
theorem con_impl_all_fimpl_DevIsWhole (v1 : (List DevArg)) (res_ : Bool) (h : impl_all_fimpl_DevIsWhole v1 = some res_) : Con Tryd.prog C0 77 [.fz 3 (R e_DevArg (v1)), .sc (.func (.func 78) #[] #[])] []
    (fun x σ' => x = .sc (.bool (res_)) ∧ σ' = []) := by
  refine zCon hP 0 [0, 1, 3, 4] [.tmp 4] Tryd.func77 (by unfold Tryd.f77; rfl) fun Q hQ => ?_
  unfold impl_all_fimpl_DevIsWhole at h
  refine zS z0 ?_
  obtain ⟨v2, c3H, h⟩ := bind_some' h
  refine zS (zC1 (lF [[1]] (con_slices_ContainsFunc_impl_DevArg_impl_DevArg_fimpl_all_1_impl_DevIsWhole _ _ c3H))) (r_ret ?_)
  cases h
  refine zAR hQ
noncomputable def impl_DevIsReal (v1 : DevArg) : Option Bool :=
  (Option.bind (impl_DevArg_kindIs v1 [10, 12, 13]) fun v2 => (some v2))
theorem con_impl_DevIsReal (v1 : DevArg) (res_ : Bool) (h : impl_DevIsReal v1 = some res_) : Con Tryd.prog C0 79 [.agg [.sc (.int .i64 (v1.Kind)), .sc (.int .i64 (v1.N)), .sc (.int .i64 (v1.P))]] []
    (fun x σ' => x = .sc (.bool (res_)) ∧ σ' = []) := by
  refine zCon hP 0 [0, 1, 2] [.tmp 2] Tryd.func79 (by unfold Tryd.f79; rfl) fun Q hQ => ?_
  unfold impl_DevIsReal at h
  refine zS z0 ?_
  obtain ⟨v2, c3H, h⟩ := bind_some' h
  refine zS (zC1 (lF [] (con_impl_DevArg_kindIs _ _ _ c3H))) (r_ret ?_)
  cases h
  refine zAR hQ
noncomputable def impl_all_1_fimpl_DevIsReal (v1 : DevArg) : Option Bool :=
  (Option.bind (impl_DevIsReal v1) fun v2 => (some (!v2)))
theorem con_impl_all_1_fimpl_DevIsReal (v1 : DevArg) (res_ : Bool) (h : impl_all_1_fimpl_DevIsReal v1 = some res_) : Con Tryd.prog C0 83 [.agg [.sc (.int .i64 (v1.Kind)), .sc (.int .i64 (v1.N)), .sc (.int .i64 (v1.P))], .pt 0 0] [.rc [.sc (.func (.func 79) #[] #[])]]
    (fun x σ' => x = .sc (.bool (res_)) ∧ σ' = [.rc [.sc (.func (.func 79) #[] #[])]]) := by
  refine zCon hP 1 [0, 1, 2, 3] [.tmp 3] Tryd.func83 (by unfold Tryd.f83; rfl) fun Q hQ => ?_
  unfold impl_all_1_fimpl_DevIsReal at h
  refine zS z0 ?_
  obtain ⟨v2, c3H, h⟩ := bind_some' h
  refine zS (zC1 (lF [] (con_impl_DevIsReal _ _ c3H))) (r_ret ?_)
  cases h
  refine zAR hQ
noncomputable def slices_IndexFunc_impl_DevArg_impl_DevArg_fimpl_all_1_impl_DevIsReal_j3 : Unit → Option Int
  | () => (some (-1))
noncomputable def slices_IndexFunc_impl_DevArg_impl_DevArg_fimpl_all_1_impl_DevIsReal_s7 (v1 : (List DevArg)) : Int → Option (Int ⊕ (Int ⊕ Unit))
  | v13 => (cond (decide (v13 < ((v1).length : Int))) (Option.bind (idx v1 (v13)) fun v18 => (Option.bind (impl_all_1_fimpl_DevIsReal v18) fun v19 => (cond v19 (some (.inr (.inl v13))) (some (.inl (IntKind.i64.wrap (v13 + 1))))))) (some (.inr (.inr ()))))
noncomputable def slices_IndexFunc_impl_DevArg_impl_DevArg_fimpl_all_1_impl_DevIsReal (v1 : (List DevArg)) : Option Int :=
  ((loop (slices_IndexFunc_impl_DevArg_impl_DevArg_fimpl_all_1_impl_DevIsReal_s7 v1) 0).bind (Sum.elim (fun v16 => (some v16)) (fun v17 => (slices_IndexFunc_impl_DevArg_impl_DevArg_fimpl_all_1_impl_DevIsReal_j3 ()))))
theorem con_slices_IndexFunc_impl_DevArg_impl_DevArg_fimpl_all_1_impl_DevIsReal (v1 : (List DevArg)) (res_ : Int) (h : slices_IndexFunc_impl_DevArg_impl_DevArg_fimpl_all_1_impl_DevIsReal v1 = some res_) : Con Tryd.prog C0 86 [.fz 3 (R e_DevArg (v1)), .clo 83 [(0, 0)]] [.rc [.sc (.func (.func 79) #[] #[])]]
    (fun x σ' => x = .sc (.int .i64 (res_)) ∧ σ' = [.rc [.sc (.func (.func 79) #[] #[])]]) := by
  refine zCon hP 1 [0, 1, 4, 5, 7, 8, 9, 16] [.tmp 4] Tryd.func86 (by unfold Tryd.f86; rfl) fun Q hQ => ?_
  unfold slices_IndexFunc_impl_DevArg_impl_DevArg_fimpl_all_1_impl_DevIsReal at h
  refine zS z0 (zCut (fun (x : Unit) => ⟨[], [.rc [.sc (.func (.func 79) #[] #[])]]⟩) slices_IndexFunc_impl_DevArg_impl_DevArg_fimpl_all_1_impl_DevIsReal_j3 res_ ?_ ?_)
  · rintro _ _ h
    simp only [slices_IndexFunc_impl_DevArg_impl_DevArg_fimpl_all_1_impl_DevIsReal_j3] at h
    refine zS z0 (r_ret ?_)
    cases h
    refine zAR hQ
  · intro k34 hk34 J33
    refine zS z0 (sem_blk fun k36 hk36 => ?_)
    obtain ⟨oq55, hLq55, hKq55⟩ := bind_some' h
    clear h
    refine sem_loopP [0, 1, 7, 8] (fun (_ : Unit) (x : Int) => (⟨[(0, .fz 3 (R e_DevArg (v1))), (1, .clo 83 [(0, 0)]), (7, .sc (.int .i64 (((v1).length : Int)))), (8, .sc (.int .i64 (x)))], [.rc [.sc (.func (.func 79) #[] #[])]]⟩ : St)) (fun (_ : Unit) (x : Int) => True) (slices_IndexFunc_impl_DevArg_impl_DevArg_fimpl_all_1_impl_DevIsReal_s7 v1) () 0 hLq55 (by rfl) (by rfl) ⟨?_, trivial⟩ ?_
    · first | exact wkSt_same rfl | (simp (decide := true) only [go_sem, reduceIte, Nat.reduceAdd, Int.reduceToNat, Nat.reduceSub, Nat.reduceMul, Nat.reduceMod]; exact wkSt_same rfl)
    · rintro nq55 _ v13 xq55 kq55 hkq55 - h hIq55 hEq55
      simp only [slices_IndexFunc_impl_DevArg_impl_DevArg_fimpl_all_1_impl_DevIsReal_s7] at h
      refine zS z0 (sem_cut fun k57 hk57 => ?_)
      refine sem_ifh rfl h ?_ ?_ <;> clear h <;> intro h
      · refine r_skip (r_cN hk57 ?_)
        refine sem_cut fun k58 hk58 => sem_blk fun k59 hk59 => zS z0 ?_
        obtain ⟨v18, h, c62⟩ := bI h
        obtain ⟨v19, c63H, h⟩ := bind_some' h
        refine zS (zC1F (lF [[1]] (con_impl_all_1_fimpl_DevIsReal _ _ c63H)) c62) ?_
        refine sem_ifh rfl h ?_ ?_ <;> clear h <;> intro h
        · refine zS z0 (r_ret ?_)
          refine r_bR hk59 (r_cR hk58 ?_)
          replace h := zX h hEq55 hKq55
          simp only [Sum.elim_inl, Sum.elim_inr] at h
          refine r_kR hkq55 (r_bR hk36 ?_)
          refine r_jR hk34 ?_
          cases h
          refine zAR hQ
        · refine r_skip (r_bN hk59 ?_)
          refine r_cN hk58 (zU z0 ?_)
          refine zB hkq55 h hIq55 () trivial
      · refine r_exit (r_cE hk57 ?_)
        replace h := zX h hEq55 hKq55
        simp only [Sum.elim_inl, Sum.elim_inr] at h
        refine r_kE hkq55 (r_bE hk36 ?_)
        refine zJ J33 [] () _ h
noncomputable def slices_ContainsFunc_impl_DevArg_impl_DevArg_fimpl_all_1_impl_DevIsReal (v1 : (List DevArg)) : Option Bool :=
  (Option.bind (slices_IndexFunc_impl_DevArg_impl_DevArg_fimpl_all_1_impl_DevIsReal v1) fun v2 => (some (decide (v2 ≥ 0))))
theorem con_slices_ContainsFunc_impl_DevArg_impl_DevArg_fimpl_all_1_impl_DevIsReal (v1 : (List DevArg)) (res_ : Bool) (h : slices_ContainsFunc_impl_DevArg_impl_DevArg_fimpl_all_1_impl_DevIsReal v1 = some res_) : Con Tryd.prog C0 82 [.fz 3 (R e_DevArg (v1)), .clo 83 [(0, 0)]] [.rc [.sc (.func (.func 79) #[] #[])]]
    (fun x σ' => x = .sc (.bool (res_)) ∧ σ' = [.rc [.sc (.func (.func 79) #[] #[])]]) := by
  refine zCon hP 1 [0, 1, 4] [.tmp 4] Tryd.func82 (by unfold Tryd.f82; rfl) fun Q hQ => ?_
  unfold slices_ContainsFunc_impl_DevArg_impl_DevArg_fimpl_all_1_impl_DevIsReal at h
  refine zS z0 ?_
  obtain ⟨v2, c3H, h⟩ := bind_some' h
  refine zS (zC1 (lF [[1]] (con_slices_IndexFunc_impl_DevArg_impl_DevArg_fimpl_all_1_impl_DevIsReal _ _ c3H))) (r_ret ?_)
  cases h
  refine zAR hQ
noncomputable def impl_all_fimpl_DevIsReal (v1 : (List DevArg)) : Option Bool :=
  (Option.bind (slices_ContainsFunc_impl_DevArg_impl_DevArg_fimpl_all_1_impl_DevIsReal v1) fun v2 => (some (!v2)))
theorem con_impl_all_fimpl_DevIsReal (v1 : (List DevArg)) (res_ : Bool) (h : impl_all_fimpl_DevIsReal v1 = some res_) : Con Tryd.prog C0 77 [.fz 3 (R e_DevArg (v1)), .sc (.func (.func 79) #[] #[])] []
    (fun x σ' => x = .sc (.bool (res_)) ∧ σ' = []) := by
  refine zCon hP 0 [0, 1, 3, 4] [.tmp 4] Tryd.func77 (by unfold Tryd.f77; rfl) fun Q hQ => ?_
  unfold impl_all_fimpl_DevIsReal at h
  refine zS z0 ?_
  obtain ⟨v2, c3H, h⟩ := bind_some' h
  refine zS (zC1 (lF [[1]] (con_slices_ContainsFunc_impl_DevArg_impl_DevArg_fimpl_all_1_impl_DevIsReal _ _ c3H))) (r_ret ?_)
  cases h
  refine zAR hQ
noncomputable def impl_numbers (v1 : (List DevArg)) : Option Bool :=
  (Option.bind (impl_all_fimpl_DevIsWhole v1) fun v2 => (cond v2 (some true) (Option.bind (impl_all_fimpl_DevIsReal v1) fun v3 => (some v3))))
theorem con_impl_numbers (v1 : (List DevArg)) (res_ : Bool) (h : impl_numbers v1 = some res_) : Con Tryd.prog C0 75 [.fz 3 (R e_DevArg (v1))] []
    (fun x σ' => x = .sc (.bool (res_)) ∧ σ' = []) := by
  refine zCon hP 0 [0, 2] [.tmp 2] Tryd.func75 (by unfold Tryd.f75; rfl) fun Q hQ => ?_
  unfold impl_numbers at h
  refine zS z0 (sem_cut fun k2 hk2 => ?_)
  obtain ⟨v2, c3H, h⟩ := bind_some' h
  rcases Bool.eq_false_or_eq_true v2 with g4 | g4
  · replace h := cond_t h g4
    refine zU (zC1F (lF [] (con_impl_all_fimpl_DevIsWhole _ _ c3H)) g4) (r_cN hk2 ?_)
    refine r_ret ?_
    cases h
    refine zAR hQ
  · replace h := cond_f h g4
    obtain ⟨v3, c5H, h⟩ := bind_some' h
    refine zU (zC2F (lF [] (con_impl_all_fimpl_DevIsWhole _ _ c3H)) (lF [] (con_impl_all_fimpl_DevIsReal _ _ c5H)) g4) (r_cN hk2 ?_)
    refine r_ret ?_
    cases h
    refine zAR hQ
noncomputable def impl_ElemIsContact_j25 (v1 : Elem) : Bool → Option Bool
  | v7 => (cond v7 (Option.bind (idx v1.Args (0)) fun v8 => (Option.bind (impl_DevIsBit v8) fun v9 => (cond v9 (Option.bind (idx v1.Args (1)) fun v10 => (Option.bind (impl_DevArg_kindIs v10 [5]) fun v11 => (some v11))) (some false)))) (Option.bind (impl_numbers v1.Args) fun v12 => (some v12)))
noncomputable def impl_ElemIsContact_j15 (v1 : Elem) : Bool → Option Bool
  | v4 => (cond v4 (Option.bind (idx v1.Args (0)) fun v5 => (Option.bind (impl_DevIsBit v5) fun v6 => (some v6))) (cond (v1.Op == 3) (impl_ElemIsContact_j25 v1 (v1.Op == 3)) (impl_ElemIsContact_j25 v1 (v1.Op == 4))))
noncomputable def impl_ElemIsContact (v1 : Elem) : Option Bool :=
  (Option.bind (impl_in v1.Op 1 10) fun v2 => (cond v2 (Option.bind (impl_ElemArity v1.Op) fun v3 => (cond (((v1.Args).length : Int) != v3) (some false) (cond (v1.Op == 1) (impl_ElemIsContact_j15 v1 (v1.Op == 1)) (impl_ElemIsContact_j15 v1 (v1.Op == 2))))) (some false)))
theorem con_impl_ElemIsContact (v1 : Elem) (res_ : Bool) (h : impl_ElemIsContact v1 = some res_) : Con Tryd.prog C0 69 [.agg [.sc (.int .i64 (v1.Op)), .fz 3 (R e_DevArg (v1.Args))]] []
    (fun x σ' => x = .sc (.bool (res_)) ∧ σ' = []) := by
  refine zCon hP 0 [0, 1, 2, 15, 17, 18, 26] [.tmp 2] Tryd.func69 (by unfold Tryd.f69; rfl) fun Q hQ => ?_
  unfold impl_ElemIsContact at h
  refine zS z0 (sem_cut fun k2 hk2 => ?_)
  refine sem_cut fun k3 hk3 => ?_
  obtain ⟨v2, c4H, h⟩ := bind_some' h
  rcases Bool.eq_false_or_eq_true v2 with g5 | g5
  · replace h := cond_t h g5
    obtain ⟨v3, c6H, h⟩ := bind_some' h
    refine zU (zPC2F (.take 0 (.take 1 (.one 2 (.take 3 (.take 4 (.take 5 (.take 6 (.take 7 (.take 8 (.take 9 (.one 10 (.take 11 (.take 12 .done))))))))))))) [0] (lF [] (con_impl_in _ _ _ _ c4H)) (lF [] (con_impl_ElemArity _ _ c6H)) g5) (r_cN hk3 ?_)
    refine sem_ifh rfl h ?_ ?_ <;> clear h <;> intro h
    · refine zS z0 (r_ret ?_)
      refine r_cR hk2 ?_
      cases h
      refine zAR hQ
    · refine r_skip (r_cN hk2 ?_)
      refine sem_cut fun k8 hk8 => zS z0 (sem_blk fun k10 hk10 => ?_)
      refine zCut (fun (x : Bool) => ⟨[(1, .pt 0 0), (17, .sc (.int .i64 (v1.Op))), (18, .sc (.bool (x)))], [.rc [.sc (.int .i64 (v1.Op)), .fz 3 (R e_DevArg (v1.Args))]]⟩) (impl_ElemIsContact_j15 v1) res_ ?_ ?_
      · rintro _ v4 h
        simp only [impl_ElemIsContact_j15] at h
        refine sem_ifh rfl h ?_ ?_ <;> clear h <;> intro h
        · obtain ⟨v5, h, c13⟩ := bN 0 h
          obtain ⟨v6, c14H, h⟩ := bind_some' h
          refine zS (zC1F (lF [] (con_impl_DevIsBit _ _ c14H)) c13) (r_ret ?_)
          refine r_bR hk10 (r_cR hk8 ?_)
          cases h
          refine zAR hQ
        · refine zCut (fun (x : Bool) => ⟨[(1, .pt 0 0), (26, .sc (.bool (x)))], [.rc [.sc (.int .i64 (v1.Op)), .fz 3 (R e_DevArg (v1.Args))]]⟩) (impl_ElemIsContact_j25 v1) res_ ?_ ?_
          · rintro _ v7 h
            simp only [impl_ElemIsContact_j25] at h
            refine sem_ifh rfl h ?_ ?_ <;> clear h <;> intro h
            · refine sem_cut fun k16 hk16 => ?_
              obtain ⟨v8, h, c17⟩ := bN 0 h
              obtain ⟨v9, c18H, h⟩ := bind_some' h
              rcases Bool.eq_false_or_eq_true v9 with g19 | g19
              · replace h := cond_t h g19
                obtain ⟨v10, h, c20⟩ := bN 1 h
                obtain ⟨v11, c21H, h⟩ := bind_some' h
                refine zU (zC2F (lF [] (con_impl_DevIsBit _ _ c18H)) (lF [] (con_impl_DevArg_kindIs _ _ _ c21H)) (a3 c17 g19 c20)) (r_cN hk16 ?_)
                refine r_ret (r_bR hk10 ?_)
                refine r_cR hk8 ?_
                cases h
                refine zAR hQ
              · replace h := cond_f h g19
                refine zU (zC1F (lF [] (con_impl_DevIsBit _ _ c18H)) (a2 c17 g19)) (r_cN hk16 ?_)
                refine r_ret (r_bR hk10 ?_)
                refine r_cR hk8 ?_
                cases h
                refine zAR hQ
            · refine r_skip (r_bN hk10 ?_)
              refine r_cN hk8 ?_
              obtain ⟨v12, c23H, h⟩ := bind_some' h
              refine zS (zC1 (lF [] (con_impl_numbers _ _ c23H))) (r_ret ?_)
              cases h
              refine zAR hQ
          · intro k25 hk25 J24
            refine zS z0 ?_
            refine sem_ifh rfl h ?_ ?_ <;> clear h <;> intro h
            · refine r_skip (zJ J24 [1, 26] () _ h)
            · refine zU z0 (zJ J24 [1, 26] () _ h)
      · intro k28 hk28 J27
        refine zS z0 ?_
        refine sem_ifh rfl h ?_ ?_ <;> clear h <;> intro h
        · refine r_skip (zJ J27 [1, 17, 18] () _ h)
        · refine zU z0 (zJ J27 [1, 17, 18] () _ h)
  · replace h := cond_f h g5
    refine zU (zPC1F (.take 0 (.take 1 (.one 2 (.take 3 (.take 4 (.take 5 (.take 6 (.take 7 (.take 8 (.take 9 (.one 10 (.take 11 (.take 12 .done))))))))))))) [0] (lF [] (con_impl_in _ _ _ _ c4H)) g5) (r_cN hk3 ?_)
    refine sem_ifT rfl ?_
    try replace h := cond_t h rfl
    refine zS z0 (r_ret ?_)
    refine r_cR hk2 ?_
    cases h
    refine zAR hQ
noncomputable def impl_ElemIsCoil_1 (v1 : (List DevArg)) : Option (Bool × (List DevArg)) :=
  (Option.bind (idx v1 (0)) fun v2 => (Option.bind (impl_DevArg_kindIs v2 [11]) fun v3 => (cond v3 (some ((decide (v2.N ≥ 0)), v1)) (some (false, v1)))))
theorem con_impl_ElemIsCoil_1 (v1 : (List DevArg)) (res_ : (Bool × (List DevArg))) (h : impl_ElemIsCoil_1 v1 = some res_) : Con Tryd.prog C0 76 [.pt 0 0] [.rc [.fz 3 (R e_DevArg (v1))]]
    (fun x σ' => x = .sc (.bool (res_.1)) ∧ σ' = [.rc [.fz 3 (R e_DevArg (res_.2))]]) := by
  refine zCon hP 1 [0, 1] [.tmp 1] Tryd.func76 (by unfold Tryd.f76; rfl) fun Q hQ => ?_
  unfold impl_ElemIsCoil_1 at h
  refine zS z0 (sem_cut fun k2 hk2 => ?_)
  obtain ⟨v2, h, c3⟩ := bN 0 h
  obtain ⟨v3, c4H, h⟩ := bind_some' h
  rcases Bool.eq_false_or_eq_true v3 with g5 | g5
  · replace h := cond_t h g5
    refine zU (zC1F (lF [] (con_impl_DevArg_kindIs _ _ _ c4H)) (a2 c3 g5)) (r_cN hk2 ?_)
    refine r_ret ?_
    cases h
    refine zAR hQ
  · replace h := cond_f h g5
    refine zU (zC1F (lF [] (con_impl_DevArg_kindIs _ _ _ c4H)) (a2 c3 g5)) (r_cN hk2 ?_)
    refine r_ret ?_
    cases h
    refine zAR hQ
noncomputable def impl_ElemIsCoil_j49 (v1 : Elem) (v4 : DevArg) (v5 : (List DevArg)) : Bool → Option Bool
  | v13 => (cond v13 (Option.bind (impl_DevArg_kindIs v4 [7]) fun v14 => (cond v14 (Option.bind (impl_ElemIsCoil_1 v5) fun v15 => (some v15.1)) (some false))) (cond (v1.Op == 29) (Option.bind (impl_DevArg_kindIs v4 [8]) fun v16 => (cond v16 (Option.bind (impl_ElemIsCoil_1 v5) fun v17 => (some v17.1)) (some false))) (cond (v1.Op == 35) (Option.bind (impl_DevArg_kindIs v4 [9]) fun v18 => (cond v18 (Option.bind (impl_all_fimpl_DevIsWhole v5) fun v19 => (some v19)) (some false))) (cond (v1.Op == 36) (Option.bind (impl_DevArg_kindIs v4 [10]) fun v20 => (cond v20 (Option.bind (idx v5 (0)) fun v21 => (Option.bind (impl_DevIsWhole v21) fun v22 => (some v22))) (some false))) (cond (v1.Op == 37) (Option.bind (impl_DevArg_kindIs v4 [9]) fun v23 => (cond v23 (Option.bind (idx v5 (0)) fun v24 => (Option.bind (impl_DevIsReal v24) fun v25 => (some v25))) (some false))) (Option.bind (impl_DevArg_kindIs v4 [9]) fun v26 => (cond v26 (Option.bind (impl_all_fimpl_DevIsWhole v5) fun v27 => (cond v27 (some true) (Option.bind (impl_DevArg_kindIs v4 [10]) fun v28 => (cond v28 (Option.bind (impl_all_fimpl_DevIsReal v5) fun v29 => (some v29)) (some false))))) (Option.bind (impl_DevArg_kindIs v4 [10]) fun v30 => (cond v30 (Option.bind (impl_all_fimpl_DevIsReal v5) fun v31 => (some v31)) (some false))))))))))
noncomputable def impl_ElemIsCoil (v1 : Elem) : Option Bool :=
  (Option.bind (impl_in v1.Op 21 37) fun v2 => (cond v2 (Option.bind (impl_ElemArity v1.Op) fun v3 => (cond (((v1.Args).length : Int) != v3) (some false) (Option.bind (idx v1.Args (0)) fun v4 => (Option.bind (prtL v1.Args (1)) fun v5 => (cond (v1.Op == 21) (Option.bind (impl_DevArg_kindIs v4 [2, 3]) fun v6 => (some v6)) (cond (v1.Op == 22) (Option.bind (impl_DevArg_kindIs v4 [2, 3, 4]) fun v7 => (some v7)) (cond (v1.Op == 23) (Option.bind (impl_DevArg_kindIs v4 [2, 3, 4, 7, 8]) fun v8 => (some v8)) (cond (v1.Op == 24) (Option.bind (impl_DevArg_kindIs v4 [2, 3]) fun v9 => (cond v9 (Option.bind (idx v5 (0)) fun v10 => (Option.bind (impl_DevArg_kindIs v10 [5]) fun v11 => (some v11))) (some false))) (cond (v1.Op == 25) (Option.bind (impl_DevArg_kindIs v4 [4]) fun v12 => (some v12)) (cond (v1.Op == 26) (impl_ElemIsCoil_j49 v1 v4 v5 (v1.Op == 26)) (cond (v1.Op == 27) (impl_ElemIsCoil_j49 v1 v4 v5 (v1.Op == 27)) (impl_ElemIsCoil_j49 v1 v4 v5 (v1.Op == 28))))))))))))) (some false)))
theorem con_impl_ElemIsCoil (v1 : Elem) (res_ : Bool) (h : impl_ElemIsCoil v1 = some res_) : Con Tryd.prog C0 70 [.agg [.sc (.int .i64 (v1.Op)), .fz 3 (R e_DevArg (v1.Args))]] []
    (fun x σ' => x = .sc (.bool (res_)) ∧ σ' = []) := by
  refine zCon hP 0 [0, 1, 2, 3, 4, 5, 18, 28, 29, 34, 39, 44, 56, 61, 72, 81, 90, 101] [.tmp 2] Tryd.func70 (by unfold Tryd.f70; rfl) fun Q hQ => ?_
  unfold impl_ElemIsCoil at h
  refine zS z0 (sem_cut fun k2 hk2 => ?_)
  refine sem_cut fun k3 hk3 => ?_
  obtain ⟨v2, c4H, h⟩ := bind_some' h
  rcases Bool.eq_false_or_eq_true v2 with g5 | g5
  · replace h := cond_t h g5
    obtain ⟨v3, c6H, h⟩ := bind_some' h
    refine zU (zPC2F (.take 0 (.take 1 (.one 2 (.take 3 (.take 4 (.take 5 (.take 6 (.take 7 (.take 8 (.take 9 (.one 10 (.take 11 (.take 12 .done))))))))))))) [0] (lF [] (con_impl_in _ _ _ _ c4H)) (lF [] (con_impl_ElemArity _ _ c6H)) g5) (r_cN hk3 ?_)
    refine sem_ifh rfl h ?_ ?_ <;> clear h <;> intro h
    · refine zS z0 (r_ret ?_)
      refine r_cR hk2 ?_
      cases h
      refine zAR hQ
    · refine r_skip (r_cN hk2 ?_)
      refine sem_cut fun k8 hk8 => ?_
      obtain ⟨v4, h, c9⟩ := bN 0 h
      obtain ⟨v5, c10H, h⟩ := bind_some' h
      obtain ⟨c10A, c10B, c10C⟩ := prtL_some c10H
      try simp only [Int.reduceToNat, Int.toNat_zero, Int.toNat_one, Int.toNat_natCast, List.take_length] at c10C
      with_reducible refine sem_plan (id := 3) (.take 0 (.take 1 (.take 2 (.take 3 (.take 4 (.take 5 (.take 6 (.two 7 8 (.one 8 (.one 9 (.last 10 .done))) (.one 7 (.one 9 (.last 10 .done))))))))))) [0] ?_ ?_
      focus kernel_rfl
      repeat' (first | with_reducible refine And.intro ?_ ?_ | exact True.intro | with_reducible assumption | exact fun hf => False.elim hf | (intro hg; first | (simp +contextual [hg]; done) | grind) | omega | simp (decide := true) only [go_sem, reduceIte, Nat.reduceAdd, Int.reduceToNat, Nat.reduceSub, Nat.reduceMul, Nat.reduceMod, c9, c10A, c10B, c10C])
      all_goals
        refine r_cN hk8 (zS z0 ?_)
        refine sem_cut fun k12 hk12 => zS z0 (sem_blk fun k14 hk14 => ?_)
        refine zS z0 ?_
        refine sem_ifh rfl h ?_ ?_ <;> clear h <;> intro h
        · obtain ⟨v6, c17H, h⟩ := bind_some' h
          refine zS (zC1 (lF [] (con_impl_DevArg_kindIs _ _ _ c17H))) (r_ret ?_)
          refine r_bR hk14 (r_cR hk12 ?_)
          cases h
          refine zAR hQ
        · refine zS z0 ?_
          refine sem_ifh rfl h ?_ ?_ <;> clear h <;> intro h
          · obtain ⟨v7, c20H, h⟩ := bind_some' h
            refine zS (zC1 (lF [] (con_impl_DevArg_kindIs _ _ _ c20H))) (r_ret ?_)
            refine r_bR hk14 (r_cR hk12 ?_)
            cases h
            refine zAR hQ
          · refine zS z0 ?_
            refine sem_ifh rfl h ?_ ?_ <;> clear h <;> intro h
            · obtain ⟨v8, c23H, h⟩ := bind_some' h
              refine zS (zC1 (lF [] (con_impl_DevArg_kindIs _ _ _ c23H))) (r_ret ?_)
              refine r_bR hk14 (r_cR hk12 ?_)
              cases h
              refine zAR hQ
            · refine zS z0 ?_
              refine sem_ifh rfl h ?_ ?_ <;> clear h <;> intro h
              · refine sem_cut fun k25 hk25 => ?_
                obtain ⟨v9, c26H, h⟩ := bind_some' h
                rcases Bool.eq_false_or_eq_true v9 with g27 | g27
                · replace h := cond_t h g27
                  obtain ⟨v10, h, c28⟩ := bN 0 h
                  obtain ⟨v11, c29H, h⟩ := bind_some' h
                  refine zU (zC2F (lF [] (con_impl_DevArg_kindIs _ _ _ c26H)) (lF [] (con_impl_DevArg_kindIs _ _ _ c29H)) (a2 g27 c28)) (r_cN hk25 ?_)
                  refine r_ret (r_bR hk14 ?_)
                  refine r_cR hk12 ?_
                  cases h
                  refine zAR hQ
                · replace h := cond_f h g27
                  refine zU (zC1F (lF [] (con_impl_DevArg_kindIs _ _ _ c26H)) g27) (r_cN hk25 ?_)
                  refine r_ret (r_bR hk14 ?_)
                  refine r_cR hk12 ?_
                  cases h
                  refine zAR hQ
              · refine zS z0 ?_
                refine sem_ifh rfl h ?_ ?_ <;> clear h <;> intro h
                · obtain ⟨v12, c32H, h⟩ := bind_some' h
                  refine zS (zC1 (lF [] (con_impl_DevArg_kindIs _ _ _ c32H))) (r_ret ?_)
                  refine r_bR hk14 (r_cR hk12 ?_)
                  cases h
                  refine zAR hQ
                · refine zCut (fun (x : Bool) => ⟨[(3, .pt 0 0), (4, .pt 1 0), (5, .clo 76 [(1, 0)]), (28, .sc (.int .i64 (v1.Op))), (61, .sc (.bool (x)))], [.rc [.sc (.int .i64 (v4.Kind)), .sc (.int .i64 (v4.N)), .sc (.int .i64 (v4.P))], .rc [.fz 3 (R e_DevArg (v5))]]⟩) (impl_ElemIsCoil_j49 v1 v4 v5) res_ ?_ ?_
                  · rintro _ v13 h
                    simp only [impl_ElemIsCoil_j49] at h
                    refine sem_ifh rfl h ?_ ?_ <;> clear h <;> intro h
                    · refine sem_cut fun k35 hk35 => ?_
                      obtain ⟨v14, c36H, h⟩ := bind_some' h
                      rcases Bool.eq_false_or_eq_true v14 with g37 | g37
                      · replace h := cond_t h g37
                        obtain ⟨v15, c38H, h⟩ := bind_some' h
                        refine zU (zC2F (lF [] (con_impl_DevArg_kindIs _ _ _ c36H)) (lC [[0]] (con_impl_ElemIsCoil_1 _ _ c38H)) g37) (r_cN hk35 ?_)
                        refine r_ret (r_bR hk14 ?_)
                        refine r_cR hk12 ?_
                        cases h
                        refine zAR hQ
                      · replace h := cond_f h g37
                        refine zU (zC1F (lF [] (con_impl_DevArg_kindIs _ _ _ c36H)) g37) (r_cN hk35 ?_)
                        refine r_ret (r_bR hk14 ?_)
                        refine r_cR hk12 ?_
                        cases h
                        refine zAR hQ
                    · refine zS z0 ?_
                      refine sem_ifh rfl h ?_ ?_ <;> clear h <;> intro h
                      · refine sem_cut fun k40 hk40 => ?_
                        obtain ⟨v16, c41H, h⟩ := bind_some' h
                        rcases Bool.eq_false_or_eq_true v16 with g42 | g42
                        · replace h := cond_t h g42
                          obtain ⟨v17, c43H, h⟩ := bind_some' h
                          refine zU (zC2F (lF [] (con_impl_DevArg_kindIs _ _ _ c41H)) (lC [[0]] (con_impl_ElemIsCoil_1 _ _ c43H)) g42) (r_cN hk40 ?_)
                          refine r_ret (r_bR hk14 ?_)
                          refine r_cR hk12 ?_
                          cases h
                          refine zAR hQ
                        · replace h := cond_f h g42
                          refine zU (zC1F (lF [] (con_impl_DevArg_kindIs _ _ _ c41H)) g42) (r_cN hk40 ?_)
                          refine r_ret (r_bR hk14 ?_)
                          refine r_cR hk12 ?_
                          cases h
                          refine zAR hQ
                      · refine zS z0 ?_
                        refine sem_ifh rfl h ?_ ?_ <;> clear h <;> intro h
                        · refine sem_cut fun k45 hk45 => ?_
                          obtain ⟨v18, c46H, h⟩ := bind_some' h
                          rcases Bool.eq_false_or_eq_true v18 with g47 | g47
                          · replace h := cond_t h g47
                            obtain ⟨v19, c48H, h⟩ := bind_some' h
                            refine zU (zC2F (lF [] (con_impl_DevArg_kindIs _ _ _ c46H)) (lF [] (con_impl_all_fimpl_DevIsWhole _ _ c48H)) g47) (r_cN hk45 ?_)
                            refine r_ret (r_bR hk14 ?_)
                            refine r_cR hk12 ?_
                            cases h
                            refine zAR hQ
                          · replace h := cond_f h g47
                            refine zU (zC1F (lF [] (con_impl_DevArg_kindIs _ _ _ c46H)) g47) (r_cN hk45 ?_)
                            refine r_ret (r_bR hk14 ?_)
                            refine r_cR hk12 ?_
                            cases h
                            refine zAR hQ
                        · refine zS z0 ?_
                          refine sem_ifh rfl h ?_ ?_ <;> clear h <;> intro h
                          · refine sem_cut fun k50 hk50 => ?_
                            obtain ⟨v20, c51H, h⟩ := bind_some' h
                            rcases Bool.eq_false_or_eq_true v20 with g52 | g52
                            · replace h := cond_t h g52
                              obtain ⟨v21, h, c53⟩ := bN 0 h
                              obtain ⟨v22, c54H, h⟩ := bind_some' h
                              refine zU (zC2F (lF [] (con_impl_DevArg_kindIs _ _ _ c51H)) (lF [] (con_impl_DevIsWhole _ _ c54H)) (a2 g52 c53)) (r_cN hk50 ?_)
                              refine r_ret (r_bR hk14 ?_)
                              refine r_cR hk12 ?_
                              cases h
                              refine zAR hQ
                            · replace h := cond_f h g52
                              refine zU (zC1F (lF [] (con_impl_DevArg_kindIs _ _ _ c51H)) g52) (r_cN hk50 ?_)
                              refine r_ret (r_bR hk14 ?_)
                              refine r_cR hk12 ?_
                              cases h
                              refine zAR hQ
                          · refine zS z0 ?_
                            refine sem_ifh rfl h ?_ ?_ <;> clear h <;> intro h
                            · refine sem_cut fun k56 hk56 => ?_
                              obtain ⟨v23, c57H, h⟩ := bind_some' h
                              rcases Bool.eq_false_or_eq_true v23 with g58 | g58
                              · replace h := cond_t h g58
                                obtain ⟨v24, h, c59⟩ := bN 0 h
                                obtain ⟨v25, c60H, h⟩ := bind_some' h
                                refine zU (zC2F (lF [] (con_impl_DevArg_kindIs _ _ _ c57H)) (lF [] (con_impl_DevIsReal _ _ c60H)) (a2 g58 c59)) (r_cN hk56 ?_)
                                refine r_ret (r_bR hk14 ?_)
                                refine r_cR hk12 ?_
                                cases h
                                refine zAR hQ
                              · replace h := cond_f h g58
                                refine zU (zC1F (lF [] (con_impl_DevArg_kindIs _ _ _ c57H)) g58) (r_cN hk56 ?_)
                                refine r_ret (r_bR hk14 ?_)
                                refine r_cR hk12 ?_
                                cases h
                                refine zAR hQ
                            · refine r_skip (r_bN hk14 ?_)
                              refine r_cN hk12 (sem_cut fun k61 hk61 => ?_)
                              obtain ⟨v26, c62H, h⟩ := bind_some' h
                              rcases Bool.eq_false_or_eq_true v26 with g63 | g63
                              · replace h := cond_t h g63
                                obtain ⟨v27, c64H, h⟩ := bind_some' h
                                rcases Bool.eq_false_or_eq_true v27 with g65 | g65
                                · replace h := cond_t h g65
                                  refine zU (zC2F (lF [] (con_impl_DevArg_kindIs _ _ _ c62H)) (lF [] (con_impl_all_fimpl_DevIsWhole _ _ c64H)) (a2 g63 g65)) (r_cN hk61 ?_)
                                  refine r_ret ?_
                                  cases h
                                  refine zAR hQ
                                · replace h := cond_f h g65
                                  obtain ⟨v28, c66H, h⟩ := bind_some' h
                                  rcases Bool.eq_false_or_eq_true v28 with g67 | g67
                                  · replace h := cond_t h g67
                                    obtain ⟨v29, c68H, h⟩ := bind_some' h
                                    refine zU (zC4F (lF [] (con_impl_DevArg_kindIs _ _ _ c62H)) (lF [] (con_impl_all_fimpl_DevIsWhole _ _ c64H)) (lF [] (con_impl_DevArg_kindIs _ _ _ c66H)) (lF [] (con_impl_all_fimpl_DevIsReal _ _ c68H)) (a3 g63 g65 g67)) (r_cN hk61 ?_)
                                    refine r_ret ?_
                                    cases h
                                    refine zAR hQ
                                  · replace h := cond_f h g67
                                    refine zU (zC3F (lF [] (con_impl_DevArg_kindIs _ _ _ c62H)) (lF [] (con_impl_all_fimpl_DevIsWhole _ _ c64H)) (lF [] (con_impl_DevArg_kindIs _ _ _ c66H)) (a3 g63 g65 g67)) (r_cN hk61 ?_)
                                    refine r_ret ?_
                                    cases h
                                    refine zAR hQ
                              · replace h := cond_f h g63
                                obtain ⟨v30, c69H, h⟩ := bind_some' h
                                rcases Bool.eq_false_or_eq_true v30 with g70 | g70
                                · replace h := cond_t h g70
                                  obtain ⟨v31, c71H, h⟩ := bind_some' h
                                  refine zU (zC3F (lF [] (con_impl_DevArg_kindIs _ _ _ c62H)) (lF [] (con_impl_DevArg_kindIs _ _ _ c69H)) (lF [] (con_impl_all_fimpl_DevIsReal _ _ c71H)) (a2 g63 g70)) (r_cN hk61 ?_)
                                  refine r_ret ?_
                                  cases h
                                  refine zAR hQ
                                · replace h := cond_f h g70
                                  refine zU (zC2F (lF [] (con_impl_DevArg_kindIs _ _ _ c62H)) (lF [] (con_impl_DevArg_kindIs _ _ _ c69H)) (a2 g63 g70)) (r_cN hk61 ?_)
                                  refine r_ret ?_
                                  cases h
                                  refine zAR hQ
                  · intro k73 hk73 J72
                    refine zS z0 ?_
                    refine sem_ifh rfl h ?_ ?_ <;> clear h <;> intro h
                    · refine r_skip (zJ J72 [3, 4, 5, 28, 61] () _ h)
                    · refine zS z0 ?_
                      refine sem_ifh rfl h ?_ ?_ <;> clear h <;> intro h
                      · refine r_skip (zJ J72 [3, 4, 5, 28, 61] () _ h)
                      · refine zU z0 (zJ J72 [3, 4, 5, 28, 61] () _ h)
  · replace h := cond_f h g5
    refine zU (zPC1F (.take 0 (.take 1 (.one 2 (.take 3 (.take 4 (.take 5 (.take 6 (.take 7 (.take 8 (.take 9 (.one 10 (.take 11 (.take 12 .done))))))))))))) [0] (lF [] (con_impl_in _ _ _ _ c4H)) g5) (r_cN hk3 ?_)
    refine sem_ifT rfl ?_
    try replace h := cond_t h rfl
    refine zS z0 (r_ret ?_)
    refine r_cR hk2 ?_
    cases h
    refine zAR hQ
noncomputable def impl_Elem_bare (v1 : Elem) : Option Bool :=
  (some ((v1.Op == 0) && (((v1.Args).length : Int) == 0)))
theorem con_impl_Elem_bare (v1 : Elem) (res_ : Bool) (h : impl_Elem_bare v1 = some res_) : Con Tryd.prog C0 71 [.agg [.sc (.int .i64 (v1.Op)), .fz 3 (R e_DevArg (v1.Args))]] []
    (fun x σ' => x = .sc (.bool (res_)) ∧ σ' = []) := by
  refine zCon hP 0 [0, 1, 2] [.tmp 2] Tryd.func71 (by unfold Tryd.f71; rfl) fun Q hQ => ?_
  unfold impl_Elem_bare at h
  refine zS z0 (zS zR ?_)
  refine r_ret ?_
  cases h
  refine zAR hQ
noncomputable def impl_ListOk (v1 : Inst) : Option Bool :=
  (Option.bind (impl_in v1.Code 1 3) fun v2 => (cond v2 (Option.bind (impl_ElemIsContact (⟨v1.One_Op, v1.One_Args⟩ : Elem)) fun v3 => (some v3)) (cond (v1.Code == 10) (Option.bind (impl_ElemIsCoil (⟨v1.One_Op, v1.One_Args⟩ : Elem)) fun v4 => (some v4)) (Option.bind (impl_in v1.Code 4 11) fun v5 => (cond v5 (Option.bind (impl_Elem_bare (⟨v1.One_Op, v1.One_Args⟩ : Elem)) fun v6 => (some v6)) (some false))))))
theorem con_impl_ListOk (v1 : Inst) (res_ : Bool) (h : impl_ListOk v1 = some res_) : Con Tryd.prog C0 59 [.agg [.sc (.int .i64 (v1.Code)), .sc (.int .i64 (v1.One_Op)), .fz 3 (R e_DevArg (v1.One_Args))]] []
    (fun x σ' => x = .sc (.bool (res_)) ∧ σ' = []) := by
  refine zCon hP 0 [0, 1, 2, 3, 10] [.tmp 2] Tryd.func59 (by unfold Tryd.f59; rfl) fun Q hQ => ?_
  unfold impl_ListOk at h
  refine zS z0 (sem_cut fun k2 hk2 => ?_)
  refine sem_blk fun k3 hk3 => ?_
  obtain ⟨v2, c5H, h⟩ := bind_some' h
  refine zS (zC1 (lF [] (con_impl_in _ _ _ _ c5H))) ?_
  refine sem_ifh rfl h ?_ ?_ <;> clear h <;> intro h
  · obtain ⟨v3, c7H, h⟩ := bind_some' h
    refine zS (zC1 (lF [] (con_impl_ElemIsContact _ _ c7H))) (r_ret ?_)
    refine r_bR hk3 (r_cR hk2 ?_)
    cases h
    refine zAR hQ
  · refine zS z0 ?_
    refine sem_ifh rfl h ?_ ?_ <;> clear h <;> intro h
    · obtain ⟨v4, c10H, h⟩ := bind_some' h
      refine zS (zC1 (lF [] (con_impl_ElemIsCoil _ _ c10H))) (r_ret ?_)
      refine r_bR hk3 (r_cR hk2 ?_)
      cases h
      refine zAR hQ
    · refine r_skip (r_bN hk3 ?_)
      refine r_cN hk2 (sem_cut fun k11 hk11 => ?_)
      obtain ⟨v5, c12H, h⟩ := bind_some' h
      rcases Bool.eq_false_or_eq_true v5 with g13 | g13
      · replace h := cond_t h g13
        obtain ⟨v6, c14H, h⟩ := bind_some' h
        refine zU (zC2F (lF [] (con_impl_in _ _ _ _ c12H)) (lF [] (con_impl_Elem_bare _ _ c14H)) g13) (r_cN hk11 ?_)
        refine r_ret ?_
        cases h
        refine zAR hQ
      · replace h := cond_f h g13
        refine zU (zC1F (lF [] (con_impl_in _ _ _ _ c12H)) g13) (r_cN hk11 ?_)
        refine r_ret ?_
        cases h
        refine zAR hQ
noncomputable def impl_needs_j13 : Bool → Option Int
  | v2 => (cond v2 (some 2) (some 1))
noncomputable def impl_needs (v1 : Int) : Option Int :=
  (cond (v1 == 1) (some 0) (cond (v1 == 4) (impl_needs_j13 (v1 == 4)) (impl_needs_j13 (v1 == 5))))
theorem con_impl_needs (v1 : Int) (res_ : Int) (h : impl_needs v1 = some res_) : Con Tryd.prog C0 60 [.sc (.int .i64 (v1))] []
    (fun x σ' => x = .sc (.int .i64 (res_)) ∧ σ' = []) := by
  refine zCon hP 0 [0, 2, 3, 4, 6] [.tmp 2] Tryd.func60 (by unfold Tryd.f60; rfl) fun Q hQ => ?_
  unfold impl_needs at h
  refine zS z0 (sem_cut fun k2 hk2 => ?_)
  refine zS z0 (sem_blk fun k4 hk4 => ?_)
  refine zS z0 ?_
  refine sem_ifh rfl h ?_ ?_ <;> clear h <;> intro h
  · refine zS z0 (r_ret ?_)
    refine r_bR hk4 (r_cR hk2 ?_)
    cases h
    refine zAR hQ
  · refine zCut (fun (x : Bool) => ⟨[(6, .sc (.bool (x)))], []⟩) impl_needs_j13 res_ ?_ ?_
    · rintro _ v2 h
      simp only [impl_needs_j13] at h
      refine sem_ifh rfl h ?_ ?_ <;> clear h <;> intro h
      · refine zS z0 (r_ret ?_)
        refine r_bR hk4 (r_cR hk2 ?_)
        cases h
        refine zAR hQ
      · refine r_skip (r_bN hk4 ?_)
        refine r_cN hk2 (zS z0 ?_)
        refine r_ret ?_
        cases h
        refine zAR hQ
    · intro k11 hk11 J10
      refine zS z0 ?_
      refine sem_ifh rfl h ?_ ?_ <;> clear h <;> intro h
      · refine r_skip (zJ J10 [6] () _ h)
      · refine zU z0 (zJ J10 [6] () _ h)
noncomputable def impl_SureState_wrong_j37 (v2 : Inst) (v4 : Bool) : Bool → Option Int
  | v7 => (cond v7 (some 7) (cond ((((v2.Code == 8) || (v2.Code == 9)) || (v2.Code == 11)) && (!v4)) (some 8) (some 0)))
noncomputable def impl_SureState_wrong (v1 : SureState) (v2 : Inst) (v3 : Bool) (v4 : Bool) : Option Int :=
  (Option.bind (impl_ListOk v2) fun v5 => (cond (!v5) (some 2) (Option.bind (impl_needs v2.Code) fun v6 => (cond (decide (v1.Bits < v6)) (some 3) (cond ((v2.Code == 1) && (decide (v1.Bits ≥ 16))) (some 4) (cond ((decide (v2.Code ≥ 7)) && (decide (v1.Bits > 1))) (some 5) (cond (v3 && ((((v2.Code == 3) || (v2.Code == 6)) && (v1.Bits == 1)) || ((v2.Code == 5) && (v1.Bits == 2)))) (some 6) (cond ((v2.Code == 7) && (decide (v1.Forks ≥ 8))) (impl_SureState_wrong_j37 v2 v4 ((v2.Code == 7) && (decide (v1.Forks ≥ 8)))) (cond (((v2.Code == 8) || (v2.Code == 9)) && (v1.Forks == 0)) (impl_SureState_wrong_j37 v2 v4 (((v2.Code == 8) || (v2.Code == 9)) && (v1.Forks == 0))) (impl_SureState_wrong_j37 v2 v4 ((v2.Code == 11) && (v1.Forks != 0))))))))))))
theorem con_impl_SureState_wrong (v1 : SureState) (v2 : Inst) (v3 : Bool) (v4 : Bool) (res_ : Int) (h : impl_SureState_wrong v1 v2 v3 v4 = some res_) : Con Tryd.prog C0 51 [.agg [.sc (.int .i64 (v1.Bits)), .sc (.int .i64 (v1.Forks))], .agg [.sc (.int .i64 (v2.Code)), .sc (.int .i64 (v2.One_Op)), .fz 3 (R e_DevArg (v2.One_Args))], .sc (.bool (v3)), .sc (.bool (v4))] []
    (fun x σ' => x = .sc (.int .i64 (res_)) ∧ σ' = []) := by
  refine zCon hP 0 [0, 1, 2, 3, 4, 5, 8, 9, 12, 16, 22, 30, 38, 62, 88] [.tmp 8] Tryd.func51 (by unfold Tryd.f51; rfl) fun Q hQ => ?_
  unfold impl_SureState_wrong at h
  refine zS z0 (zS z0 ?_)
  refine sem_cut fun k3 hk3 => sem_blk fun k4 hk4 => ?_
  obtain ⟨v5, c6H, h⟩ := bind_some' h
  refine zS (zC1 (lF [] (con_impl_ListOk _ _ c6H))) ?_
  refine sem_ifh rfl h ?_ ?_ <;> clear h <;> intro h
  · refine zS z0 (r_ret ?_)
    refine r_bR hk4 (r_cR hk3 ?_)
    cases h
    refine zAR hQ
  · obtain ⟨v6, c9H, h⟩ := bind_some' h
    refine zS (zPC1 (.take 0 (.take 1 (.take 2 (.one 3 (.take 4 (.take 5 .done)))))) [0] (lF [] (con_impl_needs _ _ c9H))) ?_
    refine sem_ifh rfl h ?_ ?_ <;> clear h <;> intro h
    · refine zS z0 (r_ret ?_)
      refine r_bR hk4 (r_cR hk3 ?_)
      cases h
      refine zAR hQ
    · refine zS zR ?_
      refine sem_ifh rfl h ?_ ?_ <;> clear h <;> intro h
      · refine zS z0 (r_ret ?_)
        refine r_bR hk4 (r_cR hk3 ?_)
        cases h
        refine zAR hQ
      · refine zS zR ?_
        refine sem_ifh rfl h ?_ ?_ <;> clear h <;> intro h
        · refine zS z0 (r_ret ?_)
          refine r_bR hk4 (r_cR hk3 ?_)
          cases h
          refine zAR hQ
        · refine zS zR ?_
          refine sem_ifh rfl h ?_ ?_ <;> clear h <;> intro h
          · refine zS z0 (r_ret ?_)
            refine r_bR hk4 (r_cR hk3 ?_)
            cases h
            refine zAR hQ
          · refine zCut (fun (x : Bool) => ⟨[(3, .sc (.bool (v4))), (9, .sc (.int .i64 (v2.Code))), (62, .sc (.bool (x)))], []⟩) (impl_SureState_wrong_j37 v2 v4) res_ ?_ ?_
            · rintro _ v7 h
              simp only [impl_SureState_wrong_j37] at h
              refine sem_ifh rfl h ?_ ?_ <;> clear h <;> intro h
              · refine zS z0 (r_ret ?_)
                refine r_bR hk4 (r_cR hk3 ?_)
                cases h
                refine zAR hQ
              · refine zS zR ?_
                refine sem_ifh rfl h ?_ ?_ <;> clear h <;> intro h
                · refine zS z0 (r_ret ?_)
                  refine r_bR hk4 (r_cR hk3 ?_)
                  cases h
                  refine zAR hQ
                · refine r_skip (r_bN hk4 ?_)
                  refine r_cN hk3 (zS z0 ?_)
                  refine r_ret ?_
                  cases h
                  refine zAR hQ
            · intro k24 hk24 J23
              refine zS zR ?_
              refine sem_ifh rfl h ?_ ?_ <;> clear h <;> intro h
              · refine r_skip (zJ J23 [3, 9, 62] () _ h)
              · refine zS zR ?_
                refine sem_ifh rfl h ?_ ?_ <;> clear h <;> intro h
                · refine r_skip (zJ J23 [3, 9, 62] () _ h)
                · refine zU zR (zJ J23 [3, 9, 62] () _ h)
noncomputable def impl_SureState_behind_j3 : (Int × Int) → Option SureState
  | (v4, v5) => (some (⟨v4, v5⟩ : SureState))
noncomputable def impl_SureState_behind_j11 (v1 : SureState) (v2 : Int) : Bool → Option SureState
  | v6 => (cond v6 (impl_SureState_behind_j3 ((IntKind.i64.wrap (v1.Bits - 1)), v1.Forks)) (cond (v2 == 7) (impl_SureState_behind_j3 (v1.Bits, (IntKind.i64.wrap (v1.Forks + 1)))) (cond (v2 == 9) (impl_SureState_behind_j3 (v1.Bits, (IntKind.i64.wrap (v1.Forks - 1)))) (impl_SureState_behind_j3 (v1.Bits, v1.Forks)))))
noncomputable def impl_SureState_behind (v1 : SureState) (v2 : Int) : Option SureState :=
  (cond (v2 == 1) (impl_SureState_behind_j3 ((IntKind.i64.wrap (v1.Bits + 1)), v1.Forks)) (cond (v2 == 4) (impl_SureState_behind_j11 v1 v2 (v2 == 4)) (cond (v2 == 5) (impl_SureState_behind_j11 v1 v2 (v2 == 5)) (impl_SureState_behind_j11 v1 v2 (v2 == 11)))))
theorem con_impl_SureState_behind (v1 : SureState) (v2 : Int) (res_ : SureState) (h : impl_SureState_behind v1 v2 = some res_) : Con Tryd.prog C0 52 [.agg [.sc (.int .i64 (v1.Bits)), .sc (.int .i64 (v1.Forks))], .sc (.int .i64 (v2))] []
    (fun x σ' => x = .agg [.sc (.int .i64 (res_.Bits)), .sc (.int .i64 (res_.Forks))] ∧ σ' = []) := by
  refine zCon hP 0 [0, 1, 2, 4, 5, 6, 12, 20, 26] [.cell 4 84] Tryd.func52 (by unfold Tryd.f52; rfl) fun Q hQ => ?_
  unfold impl_SureState_behind at h
  refine zS z0 (zCut (fun (x : (Int × Int)) => ⟨[(2, .pt 0 0), (4, .pt 1 0)], [.rc [.sc (.int .i64 (x.1)), .sc (.int .i64 (x.2))], .rc [.sc (.int .i64 (0)), .sc (.int .i64 (0))]]⟩) impl_SureState_behind_j3 res_ ?_ ?_)
  · rintro _ ⟨v4, v5⟩ h
    simp only [impl_SureState_behind_j3] at h
    refine zS z0 (r_ret ?_)
    cases h
    refine zAR hQ
  · intro k15 hk15 J14
    refine zS z0 (sem_blk fun k17 hk17 => ?_)
    refine zS z0 ?_
    refine sem_ifh rfl h ?_ ?_ <;> clear h <;> intro h
    · refine zU z0 (r_bN hk17 ?_)
      refine zJ J14 [2, 4] () _ h
    · refine zCut (fun (x : Bool) => ⟨[(2, .pt 0 0), (4, .pt 1 0), (5, .sc (.int .i64 (v2))), (12, .sc (.bool (x)))], [.rc [.sc (.int .i64 (v1.Bits)), .sc (.int .i64 (v1.Forks))], .rc [.sc (.int .i64 (0)), .sc (.int .i64 (0))]]⟩) (impl_SureState_behind_j11 v1 v2) res_ ?_ ?_
      · rintro _ v6 h
        simp only [impl_SureState_behind_j11] at h
        refine sem_ifh rfl h ?_ ?_ <;> clear h <;> intro h
        · refine zU z0 (r_bN hk17 ?_)
          refine zJ J14 [2, 4] () _ h
        · refine zS z0 ?_
          refine sem_ifh rfl h ?_ ?_ <;> clear h <;> intro h
          · refine zU z0 (r_bN hk17 ?_)
            refine zJ J14 [2, 4] () _ h
          · refine zS z0 ?_
            refine sem_ifh rfl h ?_ ?_ <;> clear h <;> intro h
            · refine zU z0 (r_bN hk17 ?_)
              refine zJ J14 [2, 4] () _ h
            · refine r_skip (r_bN hk17 ?_)
              refine zJ J14 [2, 4] () _ h
      · intro k24 hk24 J23
        refine zS z0 ?_
        refine sem_ifh rfl h ?_ ?_ <;> clear h <;> intro h
        · refine r_skip (zJ J23 [2, 4, 5, 12] () _ h)
        · refine zS z0 ?_
          refine sem_ifh rfl h ?_ ?_ <;> clear h <;> intro h
          · refine r_skip (zJ J23 [2, 4, 5, 12] () _ h)
          · refine zU z0 (zJ J23 [2, 4, 5, 12] () _ h)
noncomputable def impl_SureCheck_j15 (v1 : (List Inst)) : (Int × Int) → Option SureFault
  | (v18, v19) => (cond (v18 != 0) (some (⟨9, ((v1).length : Int)⟩ : SureFault)) (some (⟨0, 0⟩ : SureFault)))
noncomputable def impl_SureCheck_s19 (v1 : (List Inst)) : (Int × Int × Bool × Bool × Int) → Option ((Int × Int × Bool × Bool × Int) ⊕ ((Int × Int) ⊕ (Int × Int)))
  | (v23, v24, v25, v26, v27) => (cond (decide (v27 < ((v1).length : Int))) (Option.bind (idx v1 (v27)) fun v33 => (Option.bind (impl_SureState_wrong (⟨v23, v24⟩ : SureState) v33 v25 v26) fun v34 => (cond (v34 != 0) (some (.inr (.inl (v34, v27)))) (Option.bind (impl_SureState_behind (⟨v23, v24⟩ : SureState) v33.Code) fun v35 => (some (.inl (v35.Bits, v35.Forks, ((v33.Code != 11) && ((v25 || (v33.Code == 10)) || (v33.Code == 7))), (v33.Code == 10), (IntKind.i64.wrap (v27 + 1))))))))) (some (.inr (.inr (v23, v24)))))
noncomputable def impl_SureCheck (v1 : (List Inst)) : Option SureFault :=
  (cond (decide (((v1).length : Int) > 1000)) (some (⟨1, 0⟩ : SureFault)) ((loop (impl_SureCheck_s19 v1) (0, 0, false, false, 0)).bind (Sum.elim (fun v31 => (some (⟨v31.1, v31.2⟩ : SureFault))) (fun v32 => (impl_SureCheck_j15 v1 (v32.1, v32.2))))))
theorem con_impl_SureCheck (v1 : (List Inst)) (res_ : SureFault) (h : impl_SureCheck v1 = some res_) : Con Tryd.prog C0 34 [.fz 3 (R e_Inst (v1))] []
    (fun x σ' => x = .agg [.sc (.int .i64 (res_.Code)), .sc (.int .i64 (res_.At))] ∧ σ' = []) := by
  refine zCon hP 0 [0, 2, 3, 4, 5, 6, 7, 8, 11, 14, 15, 16, 17, 27, 55] [.cell 2 47] Tryd.func34 (by unfold Tryd.f34; rfl) fun Q hQ => ?_
  unfold impl_SureCheck at h
  refine zS z0 (sem_cut fun k2 hk2 => ?_)
  refine zS z0 ?_
  refine sem_ifh rfl h ?_ ?_ <;> clear h <;> intro h
  · refine zS z0 (r_ret ?_)
    refine r_cR hk2 ?_
    cases h
    refine zAR hQ
  · refine r_skip (r_cN hk2 ?_)
    refine zS z0 (zS z0 ?_)
    refine zCut (fun (x : (Int × Int)) => ⟨[(0, .fz 3 (R e_Inst (v1))), (2, .pt 0 0), (3, .pt 1 0)], [.rc [.sc (.int .i64 (0)), .sc (.int .i64 (0))], .rc [.sc (.int .i64 (x.1)), .sc (.int .i64 (x.2))]]⟩) (impl_SureCheck_j15 v1) res_ ?_ ?_
    · rintro _ ⟨v18, v19⟩ h
      simp only [impl_SureCheck_j15] at h
      refine sem_cut fun k52 hk52 => zS z0 ?_
      refine sem_ifh rfl h ?_ ?_ <;> clear h <;> intro h
      · refine zS z0 (r_ret ?_)
        refine r_cR hk52 ?_
        cases h
        refine zAR hQ
      · refine r_skip (r_cN hk52 ?_)
        refine zS z0 (r_ret ?_)
        cases h
        refine zAR hQ
    · intro k57 hk57 J56
      refine zS z0 (sem_blk fun k59 hk59 => ?_)
      obtain ⟨oq88, hLq88, hKq88⟩ := bind_some' h
      clear h
      refine sem_loopP [0, 2, 3, 4, 5, 14, 15, 16] (fun (_ : Unit) (x : (Int × Int × Bool × Bool × Int)) => (⟨[(0, .fz 3 (R e_Inst (v1))), (2, .pt 0 0), (3, .pt 1 0), (4, .sc (.bool (x.2.2.1))), (5, .sc (.bool (x.2.2.2.1))), (14, .fz 3 (R e_Inst (v1))), (15, .sc (.int .i64 (((v1).length : Int)))), (16, .sc (.int .i64 (x.2.2.2.2)))], [.rc [.sc (.int .i64 (0)), .sc (.int .i64 (0))], .rc [.sc (.int .i64 (x.1)), .sc (.int .i64 (x.2.1))]]⟩ : St)) (fun (_ : Unit) (x : (Int × Int × Bool × Bool × Int)) => True) (impl_SureCheck_s19 v1) () (0, 0, false, false, 0) hLq88 (by rfl) (by rfl) ⟨?_, trivial⟩ ?_
      · first | exact wkSt_same rfl | (simp (decide := true) only [go_sem, reduceIte, Nat.reduceAdd, Int.reduceToNat, Nat.reduceSub, Nat.reduceMul, Nat.reduceMod]; exact wkSt_same rfl)
      · rintro nq88 _ ⟨v23, v24, v25, v26, v27⟩ xq88 kq88 hkq88 - h hIq88 hEq88
        simp only [impl_SureCheck_s19] at h
        refine zS z0 (sem_cut fun k90 hk90 => ?_)
        refine sem_ifh rfl h ?_ ?_ <;> clear h <;> intro h
        · refine r_skip (r_cN hk90 ?_)
          refine sem_cut fun k91 hk91 => sem_blk fun k92 hk92 => ?_
          obtain ⟨v33, h, c94⟩ := bI h
          refine zS (zRF c94) (sem_cut fun k95 hk95 => ?_)
          obtain ⟨v34, c97H, h⟩ := bind_some' h
          refine zS (zC1 (lF [] (con_impl_SureState_wrong _ _ _ _ _ c97H))) (zS z0 ?_)
          refine sem_ifh rfl h ?_ ?_ <;> clear h <;> intro h
          · refine zS z0 (r_ret ?_)
            refine r_cR hk95 (r_bR hk92 ?_)
            refine r_cR hk91 ?_
            replace h := zX h hEq88 hKq88
            simp only [Sum.elim_inl, Sum.elim_inr] at h
            refine r_kR hkq88 (r_bR hk59 ?_)
            refine r_jR hk57 ?_
            cases h
            refine zAR hQ
          · refine r_skip (r_cN hk95 ?_)
            obtain ⟨v35, c101H, h⟩ := bind_some' h
            refine zS (zC1 (lF [] (con_impl_SureState_behind _ _ _ c101H))) (zS z0 ?_)
            refine zU zR (r_bN hk92 ?_)
            refine r_cN hk91 (zU z0 ?_)
            refine zB hkq88 h hIq88 () trivial
        · refine r_exit (r_cE hk90 ?_)
          replace h := zX h hEq88 hKq88
          simp only [Sum.elim_inl, Sum.elim_inr] at h
          refine r_kE hkq88 (r_bE hk59 ?_)
          refine zJ J56 [0, 2, 3] () _ h
noncomputable def impl_verified (v1 : (List Inst)) : Option Bool :=
  (Option.bind (impl_SureCheck v1) fun v2 => (some ((v2.Code == 0) && (v2.At == 0))))
theorem con_impl_verified (v1 : (List Inst)) (res_ : Bool) (h : impl_verified v1 = some res_) : Con Tryd.prog C0 23 [.fz 3 (R e_Inst (v1))] []
    (fun x σ' => x = .sc (.bool (res_)) ∧ σ' = []) := by
  refine zCon hP 0 [0, 2] [.tmp 2] Tryd.func23 (by unfold Tryd.f23; rfl) fun Q hQ => ?_
  unfold impl_verified at h
  refine zS z0 ?_
  obtain ⟨v2, c3H, h⟩ := bind_some' h
  refine zS (zC1 (lF [] (con_impl_SureCheck _ _ c3H))) (r_ret ?_)
  cases h
  refine zAR hQ
noncomputable def impl_runnable (v1 : (List Int)) : Option ((List Inst) × Bool) :=
  (Option.bind (impl_PicRead v1) fun v2 => (cond (v2.2.Code == 0) (cond (v2.2.At == 0) (Option.bind (impl_verified v2.1) fun v3 => (some (v2.1, v3))) (some (v2.1, false))) (some (v2.1, false))))
theorem con_impl_runnable (v1 : (List Int)) (res_ : ((List Inst) × Bool)) (h : impl_runnable v1 = some res_) : Con Tryd.prog C0 15 [.fz 1 (R e_u8 (v1))] []
    (fun x σ' => x = .tup [.sl 0 0 ((res_.1).length), .sc (.bool (res_.2))] ∧ σ' = [.nst 3 (R eO_Inst (res_.1)) none]) := by
  refine zCon hP 0 [0, 2, 3, 4, 5] [.tmp 2, .tmp 3] Tryd.func15 (by unfold Tryd.f15; rfl) fun Q hQ => ?_
  unfold impl_runnable at h
  refine zS z0 ?_
  obtain ⟨v2, c3H, h⟩ := bind_some' h
  refine zS (zC1 (lF [] (con_impl_PicRead _ _ c3H))) (sem_cut fun k4 hk4 => ?_)
  rcases Bool.eq_false_or_eq_true (v2.2.Code == 0) with g5 | g5
  · replace h := cond_t h g5
    rcases Bool.eq_false_or_eq_true (v2.2.At == 0) with g6 | g6
    · replace h := cond_t h g6
      obtain ⟨v3, c7H, h⟩ := bind_some' h
      refine zU (zC1F (lF [] (con_impl_verified _ _ c7H)) (a2 g5 g6)) (r_cN hk4 ?_)
      refine r_ret ?_
      cases h
      refine zOR hQ
    · replace h := cond_f h g6
      refine zU (zRF (a2 g5 g6)) (r_cN hk4 ?_)
      refine r_ret ?_
      cases h
      refine zOR hQ
  · replace h := cond_f h g5
    refine zU (zRF g5) (r_cN hk4 ?_)
    refine r_ret ?_
    cases h
    refine zOR hQ
noncomputable def impl_isNumber (v1 : Int) : Option Bool :=
  (Option.bind (impl_in v1 1 1000000) fun v2 => (some v2))
theorem con_impl_isNumber (v1 : Int) (res_ : Bool) (h : impl_isNumber v1 = some res_) : Con Tryd.prog C0 16 [.sc (.int .i64 (v1))] []
    (fun x σ' => x = .sc (.bool (res_)) ∧ σ' = []) := by
  refine zCon hP 0 [0, 2] [.tmp 2] Tryd.func16 (by unfold Tryd.f16; rfl) fun Q hQ => ?_
  unfold impl_isNumber at h
  refine zS z0 ?_
  obtain ⟨v2, c3H, h⟩ := bind_some' h
  refine zS (zC1 (lF [] (con_impl_in _ _ _ _ c3H))) (r_ret ?_)
  cases h
  refine zAR hQ
noncomputable def impl_BoxUnpack (v1 : (List Int)) : Option (Int × (List Inst) × Bool) :=
  (cond (decide (((v1).length : Int) < 4)) (some (0, [], false)) (Option.bind (prtH v1 (4)) fun v2 => (Option.bind (impl_fromBig v2) fun v3 => (Option.bind (prtL v1 (4)) fun v4 => (Option.bind (impl_runnable v4) fun v5 => (cond v5.2 (Option.bind (impl_isNumber v3) fun v6 => (cond (!v6) (some (0, [], false)) (some (v3, v5.1, true)))) (some (0, [], false))))))))
theorem con_impl_BoxUnpack (v1 : (List Int)) (res_ : (Int × (List Inst) × Bool)) (h : impl_BoxUnpack v1 = some res_) : Con Tryd.prog C0 6 [.fz 1 (R e_u8 (v1))] []
    (fun x σ' => x = .tup [.sc (.int .i64 (res_.1)), .sl 0 0 ((res_.2.1).length), .sc (.bool (res_.2.2))] ∧ σ' = [.nst 3 (R eO_Inst (res_.2.1)) none]) := by
  refine zCon hP 0 [0, 2, 3, 4, 5, 6, 7, 10, 26] [.tmp 2, .tmp 3, .tmp 4] Tryd.func6 (by unfold Tryd.f6; rfl) fun Q hQ => ?_
  unfold impl_BoxUnpack at h
  refine zS z0 (sem_cut fun k2 hk2 => ?_)
  refine zS z0 ?_
  refine sem_ifh rfl h ?_ ?_ <;> clear h <;> intro h
  · refine zS z0 (r_ret ?_)
    refine r_cR hk2 ?_
    cases h
    refine zVRw [3000002] hQ
  · refine r_skip (r_cN hk2 ?_)
    obtain ⟨v2, c6H, h⟩ := bind_some' h
    obtain ⟨c6A, c6B, c6C⟩ := prtH_some c6H
    try simp only [Int.reduceToNat, Int.toNat_zero, Int.toNat_one, Int.toNat_natCast, List.take_length] at c6C
    obtain ⟨v3, c7H, h⟩ := bind_some' h
    refine zS (zC1F (lF [] (con_impl_fromBig _ _ c7H)) (a3 c6A c6B c6C)) ?_
    obtain ⟨v4, c9H, h⟩ := bind_some' h
    obtain ⟨c9A, c9B, c9C⟩ := prtL_some c9H
    try simp only [Int.reduceToNat, Int.toNat_zero, Int.toNat_one, Int.toNat_natCast, List.take_length] at c9C
    obtain ⟨v5, c10H, h⟩ := bind_some' h
    refine zS (zC1F (lF [] (con_impl_runnable _ _ c10H)) (a3 c9A c9B c9C)) (sem_cut fun k11 hk11 => ?_)
    refine sem_cut fun k12 hk12 => ?_
    rcases Bool.eq_false_or_eq_true v5.2 with g13 | g13
    · replace h := cond_t h g13
      obtain ⟨v6, c14H, h⟩ := bind_some' h
      refine zU (zC1F (lF [] (con_impl_isNumber _ _ c14H)) g13) (r_cN hk12 ?_)
      refine sem_ifh rfl h ?_ ?_ <;> clear h <;> intro h
      · refine zS z0 (r_ret ?_)
        refine r_cR hk11 ?_
        cases h
        refine zVRw [3000002] hQ
      · refine r_skip (r_cN hk11 ?_)
        refine zS z0 (r_ret ?_)
        cases h
        refine zOR hQ
    · replace h := cond_f h g13
      refine zU (zRF g13) (r_cN hk12 ?_)
      refine sem_ifT rfl ?_
      try replace h := cond_t h rfl
      refine zS z0 (r_ret ?_)
      refine r_cR hk11 ?_
      cases h
      refine zVRw [3000002] hQ
noncomputable def laws_eqDevArg (v1 : DevArg) (v2 : DevArg) : Option Bool :=
  (cond (v1.Kind != v2.Kind) (some false) (cond (v1.N != v2.N) (some false) (cond (v1.P != v2.P) (some false) (some true))))
theorem con_laws_eqDevArg (v1 : DevArg) (v2 : DevArg) (res_ : Bool) (h : laws_eqDevArg v1 v2 = some res_) : Con Tryd.prog C0 53 [.agg [.sc (.int .i64 (v1.Kind)), .sc (.int .i64 (v1.N)), .sc (.int .i64 (v1.P))], .agg [.sc (.int .i64 (v2.Kind)), .sc (.int .i64 (v2.N)), .sc (.int .i64 (v2.P))]] []
    (fun x σ' => x = .sc (.bool (res_)) ∧ σ' = []) := by
  refine zCon hP 0 [0, 1, 2, 3, 4, 9, 14, 19] [.tmp 4] Tryd.func53 (by unfold Tryd.f53; rfl) fun Q hQ => ?_
  unfold laws_eqDevArg at h
  refine zS z0 (sem_cut fun k2 hk2 => ?_)
  refine zS z0 ?_
  refine sem_ifh rfl h ?_ ?_ <;> clear h <;> intro h
  · refine zS z0 (r_ret ?_)
    refine r_cR hk2 ?_
    cases h
    refine zAR hQ
  · refine r_skip (r_cN hk2 ?_)
    refine sem_cut fun k5 hk5 => zS z0 ?_
    refine sem_ifh rfl h ?_ ?_ <;> clear h <;> intro h
    · refine zS z0 (r_ret ?_)
      refine r_cR hk5 ?_
      cases h
      refine zAR hQ
    · refine r_skip (r_cN hk5 ?_)
      refine sem_cut fun k8 hk8 => zS z0 ?_
      refine sem_ifh rfl h ?_ ?_ <;> clear h <;> intro h
      · refine zS z0 (r_ret ?_)
        refine r_cR hk8 ?_
        cases h
        refine zAR hQ
      · refine r_skip (r_cN hk8 ?_)
        refine zS z0 (r_ret ?_)
        cases h
        refine zAR hQ
noncomputable def laws_eqDevArgS_j11 : Unit → Option Bool
  | () => (some true)
noncomputable def laws_eqDevArgS_s15 (v1 : (List DevArg)) (v2 : (List DevArg)) : Int → Option (Int ⊕ (Unit ⊕ Unit))
  | v18 => (cond (decide (v18 < ((v1).length : Int))) (Option.bind (idx v1 (v18)) fun v24 => (Option.bind (idx v2 (v18)) fun v25 => (Option.bind (laws_eqDevArg v24 v25) fun v26 => (cond (!v26) (some (.inr (.inl ()))) (some (.inl (IntKind.i64.wrap (v18 + 1)))))))) (some (.inr (.inr ()))))
noncomputable def laws_eqDevArgS (v1 : (List DevArg)) (v2 : (List DevArg)) : Option Bool :=
  (cond (((v1).length : Int) != ((v2).length : Int)) (some false) ((loop (laws_eqDevArgS_s15 v1 v2) 0).bind (Sum.elim (fun v22 => (some false)) (fun v23 => (laws_eqDevArgS_j11 ())))))
theorem con_laws_eqDevArgS (v1 : (List DevArg)) (v2 : (List DevArg)) (res_ : Bool) (h : laws_eqDevArgS v1 v2 = some res_) : Con Tryd.prog C0 35 [.fz 3 (R e_DevArg (v1)), .fz 3 (R e_DevArg (v2))] []
    (fun x σ' => x = .sc (.bool (res_)) ∧ σ' = []) := by
  refine zCon hP 0 [0, 1, 4, 5, 10, 14, 26] [.tmp 4] Tryd.func35 (by unfold Tryd.f35; rfl) fun Q hQ => ?_
  unfold laws_eqDevArgS at h
  refine zS z0 (sem_cut fun k2 hk2 => ?_)
  refine zS z0 ?_
  refine sem_ifh rfl h ?_ ?_ <;> clear h <;> intro h
  · refine zS z0 (r_ret ?_)
    refine r_cR hk2 ?_
    cases h
    refine zAR hQ
  · refine r_skip (r_cN hk2 ?_)
    refine zCut (fun (x : Unit) => ⟨[], []⟩) laws_eqDevArgS_j11 res_ ?_ ?_
    · rintro _ _ h
      simp only [laws_eqDevArgS_j11] at h
      refine zS z0 (r_ret ?_)
      cases h
      refine zAR hQ
    · intro k37 hk37 J36
      refine zS z0 (sem_blk fun k39 hk39 => ?_)
      obtain ⟨oq58, hLq58, hKq58⟩ := bind_some' h
      clear h
      refine sem_loopP [0, 1, 5] (fun (_ : Unit) (x : Int) => (⟨[(0, .fz 3 (R e_DevArg (v1))), (1, .fz 3 (R e_DevArg (v2))), (5, .sc (.int .i64 (x)))], []⟩ : St)) (fun (_ : Unit) (x : Int) => True) (laws_eqDevArgS_s15 v1 v2) () 0 hLq58 (by rfl) (by rfl) ⟨?_, trivial⟩ ?_
      · first | exact wkSt_same rfl | (simp (decide := true) only [go_sem, reduceIte, Nat.reduceAdd, Int.reduceToNat, Nat.reduceSub, Nat.reduceMul, Nat.reduceMod]; exact wkSt_same rfl)
      · rintro nq58 _ v18 xq58 kq58 hkq58 - h hIq58 hEq58
        simp only [laws_eqDevArgS_s15] at h
        refine sem_cut fun k59 hk59 => zS z0 ?_
        refine sem_ifh rfl h ?_ ?_ <;> clear h <;> intro h
        · refine r_skip (r_cN hk59 ?_)
          refine sem_cut fun k61 hk61 => sem_blk fun k62 hk62 => ?_
          obtain ⟨v24, h, c64⟩ := bI h
          obtain ⟨v25, h, c65⟩ := bI h
          obtain ⟨v26, c66H, h⟩ := bind_some' h
          refine zS (zPC1F (.take 0 (.take 1 (.take 2 (.take 3 (.take 4 (.take 5 (.take 6 (.take 7 (.last 8 (.take 9 .done)))))))))) [] (lF [] (con_laws_eqDevArg _ _ _ c66H)) (a2 c64 c65)) ?_
          refine sem_ifh rfl h ?_ ?_ <;> clear h <;> intro h
          · refine zS z0 (r_ret ?_)
            refine r_bR hk62 (r_cR hk61 ?_)
            replace h := zX h hEq58 hKq58
            simp only [Sum.elim_inl, Sum.elim_inr] at h
            refine r_kR hkq58 (r_bR hk39 ?_)
            refine r_jR hk37 ?_
            cases h
            refine zAR hQ
          · refine r_skip (r_bN hk62 ?_)
            refine r_cN hk61 (zU z0 ?_)
            refine zB hkq58 h hIq58 () trivial
        · refine r_exit (r_cE hk59 ?_)
          replace h := zX h hEq58 hKq58
          simp only [Sum.elim_inl, Sum.elim_inr] at h
          refine r_kE hkq58 (r_bE hk39 ?_)
          refine zJ J36 [] () _ h
noncomputable def laws_eqElem (v1 : Elem) (v2 : Elem) : Option Bool :=
  (cond (v1.Op != v2.Op) (some false) (Option.bind (laws_eqDevArgS v1.Args v2.Args) fun v3 => (cond (!v3) (some false) (some true))))
theorem con_laws_eqElem (v1 : Elem) (v2 : Elem) (res_ : Bool) (h : laws_eqElem v1 v2 = some res_) : Con Tryd.prog C0 25 [.agg [.sc (.int .i64 (v1.Op)), .fz 3 (R e_DevArg (v1.Args))], .agg [.sc (.int .i64 (v2.Op)), .fz 3 (R e_DevArg (v2.Args))]] []
    (fun x σ' => x = .sc (.bool (res_)) ∧ σ' = []) := by
  refine zCon hP 0 [0, 1, 2, 3, 4, 9, 15] [.tmp 4] Tryd.func25 (by unfold Tryd.f25; rfl) fun Q hQ => ?_
  unfold laws_eqElem at h
  refine zS z0 (sem_cut fun k2 hk2 => ?_)
  refine zS z0 ?_
  refine sem_ifh rfl h ?_ ?_ <;> clear h <;> intro h
  · refine zS z0 (r_ret ?_)
    refine r_cR hk2 ?_
    cases h
    refine zAR hQ
  · refine r_skip (r_cN hk2 ?_)
    refine sem_cut fun k5 hk5 => ?_
    obtain ⟨v3, c7H, h⟩ := bind_some' h
    refine zS (zC1 (lF [] (con_laws_eqDevArgS _ _ _ c7H))) ?_
    refine sem_ifh rfl h ?_ ?_ <;> clear h <;> intro h
    · refine zS z0 (r_ret ?_)
      refine r_cR hk5 ?_
      cases h
      refine zAR hQ
    · refine r_skip (r_cN hk5 ?_)
      refine zS z0 (r_ret ?_)
      cases h
      refine zAR hQ
noncomputable def laws_eqInst (v1 : Inst) (v2 : Inst) : Option Bool :=
  (cond (v1.Code != v2.Code) (some false) (Option.bind (laws_eqElem (⟨v1.One_Op, v1.One_Args⟩ : Elem) (⟨v2.One_Op, v2.One_Args⟩ : Elem)) fun v3 => (cond (!v3) (some false) (some true))))
theorem con_laws_eqInst (v1 : Inst) (v2 : Inst) (res_ : Bool) (h : laws_eqInst v1 v2 = some res_) : Con Tryd.prog C0 17 [.agg [.sc (.int .i64 (v1.Code)), .sc (.int .i64 (v1.One_Op)), .fz 3 (R e_DevArg (v1.One_Args))], .agg [.sc (.int .i64 (v2.Code)), .sc (.int .i64 (v2.One_Op)), .fz 3 (R e_DevArg (v2.One_Args))]] []
    (fun x σ' => x = .sc (.bool (res_)) ∧ σ' = []) := by
  refine zCon hP 0 [0, 1, 2, 3, 4, 9, 15] [.tmp 4] Tryd.func17 (by unfold Tryd.f17; rfl) fun Q hQ => ?_
  unfold laws_eqInst at h
  refine zS z0 (sem_cut fun k2 hk2 => ?_)
  refine zS z0 ?_
  refine sem_ifh rfl h ?_ ?_ <;> clear h <;> intro h
  · refine zS z0 (r_ret ?_)
    refine r_cR hk2 ?_
    cases h
    refine zAR hQ
  · refine r_skip (r_cN hk2 ?_)
    refine sem_cut fun k5 hk5 => ?_
    obtain ⟨v3, c7H, h⟩ := bind_some' h
    refine zS (zC1 (lF [] (con_laws_eqElem _ _ _ c7H))) ?_
    refine sem_ifh rfl h ?_ ?_ <;> clear h <;> intro h
    · refine zS z0 (r_ret ?_)
      refine r_cR hk5 ?_
      cases h
      refine zAR hQ
    · refine r_skip (r_cN hk5 ?_)
      refine zS z0 (r_ret ?_)
      cases h
      refine zAR hQ
noncomputable def laws_eqInstS_j11 : Unit → Option Bool
  | () => (some true)
noncomputable def laws_eqInstS_s15 (v1 : (List Inst)) (v2 : (List Inst)) : Int → Option (Int ⊕ (Unit ⊕ Unit))
  | v18 => (cond (decide (v18 < ((v1).length : Int))) (Option.bind (idx v1 (v18)) fun v24 => (Option.bind (idx v2 (v18)) fun v25 => (Option.bind (laws_eqInst v24 v25) fun v26 => (cond (!v26) (some (.inr (.inl ()))) (some (.inl (IntKind.i64.wrap (v18 + 1)))))))) (some (.inr (.inr ()))))
noncomputable def laws_eqInstS (v1 : (List Inst)) (v2 : (List Inst)) : Option Bool :=
  (cond (((v1).length : Int) != ((v2).length : Int)) (some false) ((loop (laws_eqInstS_s15 v1 v2) 0).bind (Sum.elim (fun v22 => (some false)) (fun v23 => (laws_eqInstS_j11 ())))))
theorem con_laws_eqInstS (v1 : (List Inst)) (v2 : (List Inst)) (res_ : Bool) (h : laws_eqInstS v1 v2 = some res_) : Con Tryd.prog C0 7 [.fz 3 (R e_Inst (v1)), .fz 3 (R e_Inst (v2))] []
    (fun x σ' => x = .sc (.bool (res_)) ∧ σ' = []) := by
  refine zCon hP 0 [0, 1, 4, 5, 10, 14, 26] [.tmp 4] Tryd.func7 (by unfold Tryd.f7; rfl) fun Q hQ => ?_
  unfold laws_eqInstS at h
  refine zS z0 (sem_cut fun k2 hk2 => ?_)
  refine zS z0 ?_
  refine sem_ifh rfl h ?_ ?_ <;> clear h <;> intro h
  · refine zS z0 (r_ret ?_)
    refine r_cR hk2 ?_
    cases h
    refine zAR hQ
  · refine r_skip (r_cN hk2 ?_)
    refine zCut (fun (x : Unit) => ⟨[], []⟩) laws_eqInstS_j11 res_ ?_ ?_
    · rintro _ _ h
      simp only [laws_eqInstS_j11] at h
      refine zS z0 (r_ret ?_)
      cases h
      refine zAR hQ
    · intro k37 hk37 J36
      refine zS z0 (sem_blk fun k39 hk39 => ?_)
      obtain ⟨oq58, hLq58, hKq58⟩ := bind_some' h
      clear h
      refine sem_loopP [0, 1, 5] (fun (_ : Unit) (x : Int) => (⟨[(0, .fz 3 (R e_Inst (v1))), (1, .fz 3 (R e_Inst (v2))), (5, .sc (.int .i64 (x)))], []⟩ : St)) (fun (_ : Unit) (x : Int) => True) (laws_eqInstS_s15 v1 v2) () 0 hLq58 (by rfl) (by rfl) ⟨?_, trivial⟩ ?_
      · first | exact wkSt_same rfl | (simp (decide := true) only [go_sem, reduceIte, Nat.reduceAdd, Int.reduceToNat, Nat.reduceSub, Nat.reduceMul, Nat.reduceMod]; exact wkSt_same rfl)
      · rintro nq58 _ v18 xq58 kq58 hkq58 - h hIq58 hEq58
        simp only [laws_eqInstS_s15] at h
        refine sem_cut fun k59 hk59 => zS z0 ?_
        refine sem_ifh rfl h ?_ ?_ <;> clear h <;> intro h
        · refine r_skip (r_cN hk59 ?_)
          refine sem_cut fun k61 hk61 => sem_blk fun k62 hk62 => ?_
          obtain ⟨v24, h, c64⟩ := bI h
          obtain ⟨v25, h, c65⟩ := bI h
          obtain ⟨v26, c66H, h⟩ := bind_some' h
          refine zS (zPC1F (.take 0 (.take 1 (.take 2 (.take 3 (.take 4 (.take 5 (.take 6 (.take 7 (.last 8 (.take 9 .done)))))))))) [] (lF [] (con_laws_eqInst _ _ _ c66H)) (a2 c64 c65)) ?_
          refine sem_ifh rfl h ?_ ?_ <;> clear h <;> intro h
          · refine zS z0 (r_ret ?_)
            refine r_bR hk62 (r_cR hk61 ?_)
            replace h := zX h hEq58 hKq58
            simp only [Sum.elim_inl, Sum.elim_inr] at h
            refine r_kR hkq58 (r_bR hk39 ?_)
            refine r_jR hk37 ?_
            cases h
            refine zAR hQ
          · refine r_skip (r_bN hk62 ?_)
            refine r_cN hk61 (zU z0 ?_)
            refine zB hkq58 h hIq58 () trivial
        · refine r_exit (r_cE hk59 ?_)
          replace h := zX h hEq58 hKq58
          simp only [Sum.elim_inl, Sum.elim_inr] at h
          refine r_kE hkq58 (r_bE hk39 ?_)
          refine zJ J36 [] () _ h
noncomputable def laws_eqByteS_j11 : Unit → Option Bool
  | () => (some true)
noncomputable def laws_eqByteS_s15 (v1 : (List Int)) (v2 : (List Int)) : Int → Option (Int ⊕ (Unit ⊕ Unit))
  | v14 => (cond (decide (v14 < ((v1).length : Int))) (Option.bind (idx v1 (v14)) fun v19 => (Option.bind (idx v2 (v14)) fun v20 => (cond (v19 != v20) (some (.inr (.inl ()))) (some (.inl (IntKind.i64.wrap (v14 + 1))))))) (some (.inr (.inr ()))))
noncomputable def laws_eqByteS (v1 : (List Int)) (v2 : (List Int)) : Option Bool :=
  (cond (((v1).length : Int) != ((v2).length : Int)) (some false) ((loop (laws_eqByteS_s15 v1 v2) 0).bind (Sum.elim (fun v17 => (some false)) (fun v18 => (laws_eqByteS_j11 ())))))
theorem con_laws_eqByteS (v1 : (List Int)) (v2 : (List Int)) (res_ : Bool) (h : laws_eqByteS v1 v2 = some res_) : Con Tryd.prog C0 8 [.fz 1 (R e_u8 (v1)), .fz 1 (R e_u8 (v2))] []
    (fun x σ' => x = .sc (.bool (res_)) ∧ σ' = []) := by
  refine zCon hP 0 [0, 1, 4, 5, 10, 14, 25] [.tmp 4] Tryd.func8 (by unfold Tryd.f8; rfl) fun Q hQ => ?_
  unfold laws_eqByteS at h
  refine zS z0 (sem_cut fun k2 hk2 => ?_)
  refine zS z0 ?_
  refine sem_ifh rfl h ?_ ?_ <;> clear h <;> intro h
  · refine zS z0 (r_ret ?_)
    refine r_cR hk2 ?_
    cases h
    refine zAR hQ
  · refine r_skip (r_cN hk2 ?_)
    refine zCut (fun (x : Unit) => ⟨[], []⟩) laws_eqByteS_j11 res_ ?_ ?_
    · rintro _ _ h
      simp only [laws_eqByteS_j11] at h
      refine zS z0 (r_ret ?_)
      cases h
      refine zAR hQ
    · intro k34 hk34 J33
      refine zS z0 (sem_blk fun k36 hk36 => ?_)
      obtain ⟨oq53, hLq53, hKq53⟩ := bind_some' h
      clear h
      refine sem_loopP [0, 1, 5] (fun (_ : Unit) (x : Int) => (⟨[(0, .fz 1 (R e_u8 (v1))), (1, .fz 1 (R e_u8 (v2))), (5, .sc (.int .i64 (x)))], []⟩ : St)) (fun (_ : Unit) (x : Int) => True) (laws_eqByteS_s15 v1 v2) () 0 hLq53 (by rfl) (by rfl) ⟨?_, trivial⟩ ?_
      · first | exact wkSt_same rfl | (simp (decide := true) only [go_sem, reduceIte, Nat.reduceAdd, Int.reduceToNat, Nat.reduceSub, Nat.reduceMul, Nat.reduceMod]; exact wkSt_same rfl)
      · rintro nq53 _ v14 xq53 kq53 hkq53 - h hIq53 hEq53
        simp only [laws_eqByteS_s15] at h
        refine sem_cut fun k54 hk54 => zS z0 ?_
        refine sem_ifh rfl h ?_ ?_ <;> clear h <;> intro h
        · refine r_skip (r_cN hk54 ?_)
          refine sem_cut fun k56 hk56 => sem_blk fun k57 hk57 => ?_
          obtain ⟨v19, h, c59⟩ := bI h
          obtain ⟨v20, h, c60⟩ := bI h
          refine zS (zRF (a2 c59 c60)) ?_
          refine sem_ifh rfl h ?_ ?_ <;> clear h <;> intro h
          · refine zS z0 (r_ret ?_)
            refine r_bR hk57 (r_cR hk56 ?_)
            replace h := zX h hEq53 hKq53
            simp only [Sum.elim_inl, Sum.elim_inr] at h
            refine r_kR hkq53 (r_bR hk36 ?_)
            refine r_jR hk34 ?_
            cases h
            refine zAR hQ
          · refine r_skip (r_bN hk57 ?_)
            refine r_cN hk56 (zU z0 ?_)
            refine zB hkq53 h hIq53 () trivial
        · refine r_exit (r_cE hk54 ?_)
          replace h := zX h hEq53 hKq53
          simp only [Sum.elim_inl, Sum.elim_inr] at h
          refine r_kE hkq53 (r_bE hk36 ?_)
          refine zJ J33 [] () _ h
noncomputable def laws_markByteS_j3 : ((List Int) × Int) → Option (Int × (List Int))
  | (v10, v11) => (some (v11, v10))
noncomputable def laws_markByteS_s7 : ((List Int) × Int × Int) → Option (((List Int) × Int × Int) ⊕ ((List Int) × Int))
  | (v13, v14, v15) => (cond (decide (v15 < (((v13).length : Nat) : Int))) (Option.bind (idx v13 (v15)) fun v18 => (some (.inl (((v13).set (v15).toNat (IntKind.u8.wrap (v14))), (IntKind.i64.wrap (v14 + 1)), (IntKind.i64.wrap (v15 + 1)))))) (some (.inr (v13, v14))))
noncomputable def laws_markByteS (v1 : (List Int)) (v2 : Int) : Option (Int × (List Int)) :=
  ((loop laws_markByteS_s7 (v1, v2, 0)).bind (fun v17 => (laws_markByteS_j3 (v17.1, v17.2))))
theorem con_laws_markByteS (v1 : (List Int)) (v2 : Int) (res_ : (Int × (List Int))) (h : laws_markByteS v1 v2 = some res_) : Con Tryd.prog C0 9 [.sl 0 0 ((v1).length), .sc (.int .i64 (v2))] [.arr true 1 (R e_u8 (v1))]
    (fun x σ' => x = .sc (.int .i64 (res_.1)) ∧ σ' = [.arr true 1 (R e_u8 (res_.2))]) := by
  refine zCon hP 1 [0, 1, 4, 5, 9] [.tmp 4] Tryd.func9 (by unfold Tryd.f9; rfl) fun Q hQ => ?_
  unfold laws_markByteS at h
  refine zS z0 (zCut (fun (x : ((List Int) × Int)) => ⟨[(1, .sc (.int .i64 (x.2)))], [.arr true 1 (R e_u8 (x.1))]⟩) laws_markByteS_j3 res_ ?_ ?_)
  · rintro _ ⟨v10, v11⟩ h
    simp only [laws_markByteS_j3] at h
    refine zS z0 (r_ret ?_)
    cases h
    refine zAR hQ
  · intro k25 hk25 J24
    refine zS z0 (sem_blk fun k27 hk27 => ?_)
    obtain ⟨oq40, hLq40, hKq40⟩ := bind_some' h
    clear h
    refine sem_loopP [0, 1, 5] (fun (_ : Unit) (x : ((List Int) × Int × Int)) => (⟨[(0, .sl 0 0 ((x.1).length)), (1, .sc (.int .i64 (x.2.1))), (5, .sc (.int .i64 (x.2.2)))], [.arr true 1 (R e_u8 (x.1))]⟩ : St)) (fun (_ : Unit) (x : ((List Int) × Int × Int)) => True) laws_markByteS_s7 () (v1, v2, 0) hLq40 (by rfl) (by rfl) ⟨?_, trivial⟩ ?_
    · first | exact wkSt_same rfl | (simp (decide := true) only [go_sem, reduceIte, Nat.reduceAdd, Int.reduceToNat, Nat.reduceSub, Nat.reduceMul, Nat.reduceMod]; exact wkSt_same rfl)
    · rintro nq40 _ ⟨v13, v14, v15⟩ xq40 kq40 hkq40 - h hIq40 hEq40
      simp only [laws_markByteS_s7] at h
      refine sem_cut fun k41 hk41 => zS z0 ?_
      refine sem_ifh rfl h ?_ ?_ <;> clear h <;> intro h
      · refine r_skip (r_cN hk41 ?_)
        refine sem_cut fun k43 hk43 => sem_blk fun k44 hk44 => ?_
        obtain ⟨v18, h, c46⟩ := bI h
        refine zS (zRF c46) (zU z0 ?_)
        refine r_bN hk44 (r_cN hk43 ?_)
        refine zU z0 (zB hkq40 h hIq40 () trivial)
      · refine r_exit (r_cE hk41 ?_)
        replace h := zX h hEq40 hKq40
        refine r_kE hkq40 (r_bE hk27 ?_)
        refine zJ J24 [1] () _ h
noncomputable def laws_markDevArgS_j3 : ((List DevArg) × Int) → Option (Int × (List DevArg))
  | (v16, v17) => (some (v17, v16))
noncomputable def laws_markDevArgS_s7 : ((List DevArg) × Int × Int) → Option (((List DevArg) × Int × Int) ⊕ ((List DevArg) × Int))
  | (v21, v22, v23) => (cond (decide (v23 < (((v21).length : Nat) : Int))) (Option.bind (idx v21 (v23)) fun v28 => (Option.bind (idx ((v21).set (v23).toNat (⟨v22, v28.N, v28.P⟩ : DevArg)) (v23)) fun v29 => (Option.bind (idx ((((v21).set (v23).toNat (⟨v22, v28.N, v28.P⟩ : DevArg))).set (v23).toNat (⟨v29.Kind, (IntKind.i64.wrap (v22 + 1)), v29.P⟩ : DevArg)) (v23)) fun v30 => (some (.inl (((((((v21).set (v23).toNat (⟨v22, v28.N, v28.P⟩ : DevArg))).set (v23).toNat (⟨v29.Kind, (IntKind.i64.wrap (v22 + 1)), v29.P⟩ : DevArg))).set (v23).toNat (⟨v30.Kind, v30.N, (IntKind.i64.wrap ((IntKind.i64.wrap (v22 + 1)) + 1))⟩ : DevArg)), (IntKind.i64.wrap ((IntKind.i64.wrap ((IntKind.i64.wrap (v22 + 1)) + 1)) + 1)), (IntKind.i64.wrap (v23 + 1)))))))) (some (.inr (v21, v22))))
noncomputable def laws_markDevArgS (v1 : (List DevArg)) (v2 : Int) : Option (Int × (List DevArg)) :=
  ((loop laws_markDevArgS_s7 (v1, v2, 0)).bind (fun v27 => (laws_markDevArgS_j3 (v27.1, v27.2))))
theorem con_laws_markDevArgS (v1 : (List DevArg)) (v2 : Int) (res_ : (Int × (List DevArg))) (h : laws_markDevArgS v1 v2 = some res_) : Con Tryd.prog C0 18 [.sl 0 0 ((v1).length), .sc (.int .i64 (v2))] [.arr true 3 (R e_DevArg (v1))]
    (fun x σ' => x = .sc (.int .i64 (res_.1)) ∧ σ' = [.arr true 3 (R e_DevArg (res_.2))]) := by
  refine zCon hP 1 [0, 1, 4, 5, 9] [.tmp 4] Tryd.func18 (by unfold Tryd.f18; rfl) fun Q hQ => ?_
  unfold laws_markDevArgS at h
  refine zS z0 (zCut (fun (x : ((List DevArg) × Int)) => ⟨[(1, .sc (.int .i64 (x.2)))], [.arr true 3 (R e_DevArg (x.1))]⟩) laws_markDevArgS_j3 res_ ?_ ?_)
  · rintro _ ⟨v16, v17⟩ h
    simp only [laws_markDevArgS_j3] at h
    refine zS z0 (r_ret ?_)
    cases h
    refine zAR hQ
  · intro k43 hk43 J42
    refine zS z0 (sem_blk fun k45 hk45 => ?_)
    obtain ⟨oq70, hLq70, hKq70⟩ := bind_some' h
    clear h
    refine sem_loopP [0, 1, 5] (fun (_ : Unit) (x : ((List DevArg) × Int × Int)) => (⟨[(0, .sl 0 0 ((x.1).length)), (1, .sc (.int .i64 (x.2.1))), (5, .sc (.int .i64 (x.2.2)))], [.arr true 3 (R e_DevArg (x.1))]⟩ : St)) (fun (_ : Unit) (x : ((List DevArg) × Int × Int)) => True) laws_markDevArgS_s7 () (v1, v2, 0) hLq70 (by rfl) (by rfl) ⟨?_, trivial⟩ ?_
    · first | exact wkSt_same rfl | (simp (decide := true) only [go_sem, reduceIte, Nat.reduceAdd, Int.reduceToNat, Nat.reduceSub, Nat.reduceMul, Nat.reduceMod]; exact wkSt_same rfl)
    · rintro nq70 _ ⟨v21, v22, v23⟩ xq70 kq70 hkq70 - h hIq70 hEq70
      simp only [laws_markDevArgS_s7] at h
      refine sem_cut fun k71 hk71 => zS z0 ?_
      refine sem_ifh rfl h ?_ ?_ <;> clear h <;> intro h
      · refine r_skip (r_cN hk71 ?_)
        refine sem_cut fun k73 hk73 => sem_blk fun k74 hk74 => ?_
        obtain ⟨v28, h, c76⟩ := bI h
        refine zS (zRF c76) (zS z0 ?_)
        obtain ⟨v29, h, c79⟩ := bI h
        refine zS (zRF c79) (zS z0 ?_)
        obtain ⟨v30, h, c82⟩ := bI h
        refine zS (zRF c82) (zU z0 ?_)
        refine r_bN hk74 (r_cN hk73 ?_)
        refine zU z0 (zB hkq70 h hIq70 () trivial)
      · refine r_exit (r_cE hk71 ?_)
        replace h := zX h hEq70 hKq70
        refine r_kE hkq70 (r_bE hk45 ?_)
        refine zJ J42 [1] () _ h
noncomputable def laws_markInstS_j3 : ((List Inst) × Int) → Option (Int × (List Inst))
  | (v22, v23) => (some (v23, v22))
noncomputable def laws_markInstS_s7 : ((List Inst) × Int × Int) → Option (((List Inst) × Int × Int) ⊕ ((List Inst) × Int))
  | (v29, v30, v31) => (cond (decide (v31 < (((v29).length : Nat) : Int))) (Option.bind (idx v29 (v31)) fun v38 => (Option.bind (idx v29 (v31)) fun v39 => (Option.bind (idx v29 (v31)) fun v40 => (Option.bind (idx v29 (v31)) fun v41 => (Option.bind (laws_markDevArgS v38.One_Args (IntKind.i64.wrap ((IntKind.i64.wrap (v30 + 1)) + 1))) fun v42 => (gd (decide ((v38.One_Args).length = (v42.2).length)) (some (.inl (((v29).set (v31).toNat (⟨v30, (IntKind.i64.wrap (v30 + 1)), v42.2⟩ : Inst)), v42.1, (IntKind.i64.wrap (v31 + 1))))))))))) (some (.inr (v29, v30))))
noncomputable def laws_markInstS (v1 : (List Inst)) (v2 : Int) : Option (Int × (List Inst)) :=
  ((loop laws_markInstS_s7 (v1, v2, 0)).bind (fun v37 => (laws_markInstS_j3 (v37.1, v37.2))))
theorem con_laws_markInstS (v1 : (List Inst)) (v2 : Int) (res_ : (Int × (List Inst))) (h : laws_markInstS v1 v2 = some res_) : Con Tryd.prog C0 10 [.sl 0 0 ((v1).length), .sc (.int .i64 (v2))] [.nst 3 (R eO_Inst (v1)) none]
    (fun x σ' => x = .sc (.int .i64 (res_.1)) ∧ σ' = [.nst 3 (R eO_Inst (res_.2)) none]) := by
  refine zCon hP 1 [0, 1, 4, 5, 9] [.tmp 4] Tryd.func10 (by unfold Tryd.f10; rfl) fun Q hQ => ?_
  unfold laws_markInstS at h
  refine zS z0 (zCut (fun (x : ((List Inst) × Int)) => ⟨[(1, .sc (.int .i64 (x.2)))], [.nst 3 (R eO_Inst (x.1)) none]⟩) laws_markInstS_j3 res_ ?_ ?_)
  · rintro _ ⟨v22, v23⟩ h
    simp only [laws_markInstS_j3] at h
    refine zS z0 (r_ret ?_)
    cases h
    refine zAR hQ
  · intro k49 hk49 J48
    refine zS z0 (sem_blk fun k51 hk51 => ?_)
    obtain ⟨oq80, hLq80, hKq80⟩ := bind_some' h
    clear h
    refine sem_loopP [0, 1, 5] (fun (_ : Unit) (x : ((List Inst) × Int × Int)) => (⟨[(0, .sl 0 0 ((x.1).length)), (1, .sc (.int .i64 (x.2.1))), (5, .sc (.int .i64 (x.2.2)))], [.nst 3 (R eO_Inst (x.1)) none]⟩ : St)) (fun (_ : Unit) (x : ((List Inst) × Int × Int)) => True) laws_markInstS_s7 () (v1, v2, 0) hLq80 (by rfl) (by rfl) ⟨?_, trivial⟩ ?_
    · first | exact wkSt_same rfl | (simp (decide := true) only [go_sem, reduceIte, Nat.reduceAdd, Int.reduceToNat, Nat.reduceSub, Nat.reduceMul, Nat.reduceMod]; exact wkSt_same rfl)
    · rintro nq80 _ ⟨v29, v30, v31⟩ xq80 kq80 hkq80 - h hIq80 hEq80
      simp only [laws_markInstS_s7] at h
      refine sem_cut fun k81 hk81 => zS z0 ?_
      refine sem_ifh rfl h ?_ ?_ <;> clear h <;> intro h
      · refine r_skip ?_
        obtain ⟨v38, h, c83⟩ := bI h
        refine r_cO [.nst 3 (R eO_Inst (v29)) (some ((v31).toNat, [.sc (.int .i64 (v38.Code)), .sc (.int .i64 (v38.One_Op)), .sl 1 0 ((v38.One_Args).length)])), .arr true 3 (R e_DevArg (v38.One_Args))] hk81 (NS1.opn 0 ((v31).toNat) 2 rfl (R_some rfl c83) rfl) (by first | (simp (decide := true) only [go_sem, reduceIte, Nat.reduceAdd, Int.reduceToNat, Nat.reduceSub, Nat.reduceMul, Nat.reduceMod]; done) | rfl | (simp (decide := true) only [go_sem, reduceIte, Nat.reduceAdd, Int.reduceToNat, Nat.reduceSub, Nat.reduceMul, Nat.reduceMod]; rfl)) (sem_cut fun k84 hk84 => ?_)
        refine sem_blk fun k85 hk85 => ?_
        obtain ⟨v39, h, c87⟩ := bI h
        refine zS (zRF c87) (zS z0 ?_)
        obtain ⟨v40, h, c90⟩ := bI h
        refine zS (zRF c90) (zS z0 ?_)
        obtain ⟨v41, h, c92⟩ := bI h
        obtain ⟨v42, c93H, h⟩ := bind_some' h
        refine zU (zC1F (lF [[0]] (con_laws_markDevArgS _ _ _ c93H)) c92) (r_bN hk85 ?_)
        obtain ⟨g94, h⟩ := gDec h
        refine r_cO [.nst 3 (R eO_Inst (((v29).set (v31).toNat (⟨v30, (IntKind.i64.wrap (v30 + 1)), v42.2⟩ : Inst)))) none, .dead] hk84 (n_cls 0 2 rfl rfl rfl (by first | rfl | (simp (decide := true) only [go_sem, reduceIte, Nat.reduceAdd, Int.reduceToNat, Nat.reduceSub, Nat.reduceMul, Nat.reduceMod, g94]; done)) (by repeat' (first | exact trivial | exact rfl | refine And.intro ?_ ?_))) (by first | (simp (decide := true) only [go_sem, reduceIte, Nat.reduceAdd, Int.reduceToNat, Nat.reduceSub, Nat.reduceMul, Nat.reduceMod]; done) | rfl | (simp (decide := true) only [go_sem, reduceIte, Nat.reduceAdd, Int.reduceToNat, Nat.reduceSub, Nat.reduceMul, Nat.reduceMod]; rfl)) ?_
        refine zU z0 (zB hkq80 h hIq80 () trivial)
      · refine r_exit (r_cE hk81 ?_)
        replace h := zX h hEq80 hKq80
        refine r_kE hkq80 (r_bE hk51 ?_)
        refine zJ J48 [1] () _ h

end Go.AM
