/- Pure functions and their contracts. Conditions: none. -/
import Derived.Test.YtkafcijfljjlaabAmQa2
set_option linter.unusedSimpArgs false
set_option linter.unusedVariables false
set_option maxRecDepth 10000
set_option maxHeartbeats 4000000
namespace Go.AM
open Go Go.Proofs
noncomputable def impl_PicRead_j34 (v8 : Int) : ((List Int) × Int × (List Inst)) → Option ((List Inst) × PicFault)
  | (v25, v26, v27) => (cond (decide (((v25).length : Int) > 0)) (some ([], (⟨7, v8⟩ : PicFault))) (Option.bind (impl_copyList v27) fun v28 => (some (v28, (⟨0, 0⟩ : PicFault)))))
noncomputable def impl_PicRead_s38 (v8 : Int) : ((List Int) × Int × (List Inst) × Int) → Option (((List Int) × Int × (List Inst) × Int) ⊕ ((Int × Int) ⊕ ((List Int) × Int × (List Inst))))
  | (v31, v32, v33, v34) => (cond (decide (v34 < v8)) (Option.bind (impl_picReader_inst (⟨v31, v32⟩ : picReader)) fun v39 => (cond (v39.2.code != 0) (some (.inr (.inl (v39.2.code, v34)))) (gd (apOk ((v33 ++ [v39.1])).length 40) (some (.inl (v39.2.left, v39.2.code, (v33 ++ [v39.1]), (IntKind.i64.wrap (v34 + 1)))))))) (some (.inr (.inr (v31, v32, v33)))))
noncomputable def impl_PicRead (v1 : (List Int)) : Option ((List Inst) × PicFault) :=
  (Option.bind (impl_in ((v1).length : Int) 8 20008) fun v2 => (cond v2 (Option.bind (idx v1 (0)) fun v3 => (cond (v3 != 83) (some ([], (⟨4, 0⟩ : PicFault))) (Option.bind (idx v1 (1)) fun v4 => (cond (v4 != 116) (some ([], (⟨4, 0⟩ : PicFault))) (Option.bind (prt v1 (2) (4)) fun v5 => (Option.bind (impl_fromBig v5) fun v6 => (cond (v6 != ((v1).length : Int)) (some ([], (⟨4, 0⟩ : PicFault))) (Option.bind (prt v1 (4) (6)) fun v7 => (Option.bind (impl_fromBig v7) fun v8 => (Option.bind (prtL v1 ((IntKind.i64.wrap (((v1).length : Int) - 2)))) fun v9 => (Option.bind (prtH v1 ((IntKind.i64.wrap (((v1).length : Int) - 2)))) fun v10 => (Option.bind (impl_fromBig v9) fun v11 => (Option.bind (impl_PicSum v10) fun v12 => (cond (v11 != (IntKind.i64.wrap (v12))) (some ([], (⟨5, 0⟩ : PicFault))) (cond (decide (v8 > 1000)) (some ([], (⟨1, 0⟩ : PicFault))) (Option.bind (prt v1 (6) ((IntKind.i64.wrap (((v1).length : Int) - 2)))) fun v13 => ((loop (impl_PicRead_s38 v8) (v13, 0, [], 0)).bind (Sum.elim (fun v37 => (some ([], (⟨v37.1, v37.2⟩ : PicFault)))) (fun v38 => (impl_PicRead_j34 v8 (v38.1, v38.2.1, v38.2.2))))))))))))))))))))) (some ([], (⟨4, 0⟩ : PicFault)))))
theorem con_impl_PicRead (v1 : (List Int)) (res_ : ((List Inst) × PicFault)) (h : impl_PicRead v1 = some res_) : Con Try.prog C0 7 [.fz 1 (R e_u8 (v1))] []
    (fun x σ' => x = .tup [.fz 3 (R e_Inst (res_.1)), .agg [.sc (.int .i64 (res_.2.Code)), .sc (.int .i64 (res_.2.At))]] ∧ σ' = []) := by
  refine zCon hP 0 [0, 2, 3, 4, 5, 6, 7, 8, 9, 33, 38, 52, 62, 63, 64, 72, 89] [.tmp 2, .cell 3 26] Try.func7 (by unfold Try.f7; rfl) fun Q hQ => ?_
  unfold impl_PicRead at h
  refine zS z0 (zS z0 ?_)
  refine sem_cut fun k3 hk3 => sem_cut fun k4 hk4 => ?_
  obtain ⟨v2, c5H, h⟩ := bind_some' h
  rcases Bool.eq_false_or_eq_true v2 with g6 | g6
  · replace h := cond_t h g6
    obtain ⟨v3, h, c7⟩ := bN 0 h
    rcases Bool.eq_false_or_eq_true (v3 != 83) with g8 | g8
    · replace h := cond_t h g8
      refine zU (zC1F (lF [] (con_impl_in _ _ _ _ c5H)) (a3 g6 c7 g8)) (r_cN hk4 ?_)
      refine sem_ifT rfl ?_
      try replace h := cond_t h rfl
      refine zS z0 (r_ret ?_)
      refine r_cR hk3 ?_
      cases h
      refine zARw hQ
    · replace h := cond_f h g8
      obtain ⟨v4, h, c10⟩ := bN 1 h
      rcases Bool.eq_false_or_eq_true (v4 != 116) with g11 | g11
      · replace h := cond_t h g11
        refine zU (zC1F (lF [] (con_impl_in _ _ _ _ c5H)) (a4 g6 c7 g8 (a2 c10 g11))) (r_cN hk4 ?_)
        refine sem_ifT rfl ?_
        try replace h := cond_t h rfl
        refine zS z0 (r_ret ?_)
        refine r_cR hk3 ?_
        cases h
        refine zARw hQ
      · replace h := cond_f h g11
        obtain ⟨v5, c13H, h⟩ := bind_some' h
        obtain ⟨c13A, c13B, c13C, c13D⟩ := prt_some c13H
        try simp only [Int.reduceToNat, Int.toNat_zero, Int.toNat_one, Int.toNat_natCast, List.take_length] at c13D
        obtain ⟨v6, c14H, h⟩ := bind_some' h
        refine zU (zC2F (lF [] (con_impl_in _ _ _ _ c5H)) (lF [] (con_impl_fromBig _ _ c14H)) (a4 g6 c7 g8 (a4 c10 g11 c13A (a3 c13B c13C c13D)))) (r_cN hk4 ?_)
        refine sem_ifh rfl h ?_ ?_ <;> clear h <;> intro h
        · refine zS z0 (r_ret ?_)
          refine r_cR hk3 ?_
          cases h
          refine zARw hQ
        · refine r_skip (r_cN hk3 ?_)
          obtain ⟨v7, c17H, h⟩ := bind_some' h
          obtain ⟨c17A, c17B, c17C, c17D⟩ := prt_some c17H
          try simp only [Int.reduceToNat, Int.toNat_zero, Int.toNat_one, Int.toNat_natCast, List.take_length] at c17D
          obtain ⟨v8, c18H, h⟩ := bind_some' h
          refine zS (zC1F (lF [] (con_impl_fromBig _ _ c18H)) (a4 c17A c17B c17C c17D)) (sem_cut fun k19 hk19 => ?_)
          refine sem_blk fun k20 hk20 => ?_
          obtain ⟨v9, c22H, h⟩ := bind_some' h
          obtain ⟨c22A, c22B, c22C⟩ := prtL_some c22H
          try simp only [Int.reduceToNat, Int.toNat_zero, Int.toNat_one, Int.toNat_natCast, List.take_length] at c22C
          obtain ⟨v10, c23H, h⟩ := bind_some' h
          obtain ⟨c23A, c23B, c23C⟩ := prtH_some c23H
          try simp only [Int.reduceToNat, Int.toNat_zero, Int.toNat_one, Int.toNat_natCast, List.take_length] at c23C
          obtain ⟨v11, c24H, h⟩ := bind_some' h
          obtain ⟨v12, c25H, h⟩ := bind_some' h
          refine zS (zPC2F (.take 0 (.take 1 (.take 2 (.take 3 (.take 5 (.take 6 (.take 7 (.take 8 (.last 4 (.last 9 (.take 10 (.take 11 (.take 12 .done))))))))))))) [] (lF [] (con_impl_fromBig _ _ c24H)) (lF [] (con_impl_PicSum _ _ c25H)) (a4 c22A c22B c22C (a3 c23A c23B c23C))) ?_
          refine sem_ifh rfl h ?_ ?_ <;> clear h <;> intro h
          · refine zS z0 (r_ret ?_)
            refine r_bR hk20 (r_cR hk19 ?_)
            cases h
            refine zARw hQ
          · refine zS z0 ?_
            refine sem_ifh rfl h ?_ ?_ <;> clear h <;> intro h
            · refine zS z0 (r_ret ?_)
              refine r_bR hk20 (r_cR hk19 ?_)
              cases h
              refine zARw hQ
            · refine r_skip (r_bN hk20 ?_)
              refine r_cN hk19 ?_
              obtain ⟨v13, c30H, h⟩ := bind_some' h
              obtain ⟨c30A, c30B, c30C, c30D⟩ := prt_some c30H
              try simp only [Int.reduceToNat, Int.toNat_zero, Int.toNat_one, Int.toNat_natCast, List.take_length] at c30D
              refine zS (zRF (a4 c30A c30B c30C c30D)) (zS z0 ?_)
              refine sem_cutJ (fun (i : P2) (x : ((List Int) × Int × (List Inst))) => match i with | .a => (⟨[(3, .pt 0 0), (5, .sc (.int .i64 (v8))), (6, .pt 1 0), (7, .sl 2 0 ((x.2.2).length))], [.rc [.sc (.int .i64 (0)), .sc (.int .i64 (0))], .rc [.fz 1 (R e_u8 (x.1)), .sc (.int .i64 (x.2.1))], .arr true 3 (R e_Inst (x.2.2))]⟩ : St) | .b => (⟨[(3, .pt 0 0), (5, .sc (.int .i64 (v8))), (6, .pt 1 0), (7, .sc (.slice none 0 0))], [.rc [.sc (.int .i64 (0)), .sc (.int .i64 (0))], .rc [.fz 1 (R e_u8 (x.1)), .sc (.int .i64 (x.2.1))]]⟩ : St)) (fun (i : P2) (x : ((List Int) × Int × (List Inst))) => (match i with | .a => True | .b => x.2.2 = []) ∧ impl_PicRead_j34 v8 x = some res_) ?_ ?_
              · rintro (_ | _) ⟨v25, v26, v27⟩ ⟨hp, h⟩
                · simp only [impl_PicRead_j34] at h
                  refine sem_cut fun k90 hk90 => zS z0 ?_
                  refine sem_ifh rfl h ?_ ?_ <;> clear h <;> intro h
                  · refine zS z0 (r_ret ?_)
                    refine r_cR hk90 ?_
                    cases h
                    refine zARw hQ
                  · refine r_skip (r_cN hk90 ?_)
                    obtain ⟨v28, c94H, h⟩ := bind_some' h
                    refine zS (zC1 (lC [] (con_impl_copyList _ _ c94H))) (r_ret ?_)
                    cases h
                    refine zAR hQ
                · replace hp : v27 = [] := hp
                  subst hp
                  simp only [impl_PicRead_j34] at h
                  try simp only [List.nil_append, List.length_nil, Int.natCast_zero] at h
                  refine sem_cut fun k95 hk95 => zS z0 ?_
                  refine sem_ifh rfl h ?_ ?_ <;> clear h <;> intro h
                  · refine zS z0 (r_ret ?_)
                    refine r_cR hk95 ?_
                    cases h
                    refine zARw hQ
                  · refine r_skip (r_cN hk95 ?_)
                    obtain ⟨v29, c99H, h⟩ := bind_some' h
                    refine zS (zC1w (lC [] (con_impl_copyList _ _ c99H))) (r_ret ?_)
                    cases h
                    refine zAR hQ
              · intro k101 hk101 J100
                refine zS z0 (sem_blk fun k103 hk103 => ?_)
                obtain ⟨oq137, hLq137, hKq137⟩ := bind_some' h
                clear h
                refine sem_loopP [3, 5, 6, 7, 62, 63] (fun (i : P2) (x : ((List Int) × Int × (List Inst) × Int)) => match i with | .a => (⟨[(3, .pt 0 0), (5, .sc (.int .i64 (v8))), (6, .pt 1 0), (7, .sl 2 0 ((x.2.2.1).length)), (62, .sc (.int .i64 (v8))), (63, .sc (.int .i64 (x.2.2.2)))], [.rc [.sc (.int .i64 (0)), .sc (.int .i64 (0))], .rc [.fz 1 (R e_u8 (x.1)), .sc (.int .i64 (x.2.1))], .arr true 3 (R e_Inst (x.2.2.1))]⟩ : St) | .b => (⟨[(3, .pt 0 0), (5, .sc (.int .i64 (v8))), (6, .pt 1 0), (7, .sc (.slice none 0 0)), (62, .sc (.int .i64 (v8))), (63, .sc (.int .i64 (x.2.2.2)))], [.rc [.sc (.int .i64 (0)), .sc (.int .i64 (0))], .rc [.fz 1 (R e_u8 (x.1)), .sc (.int .i64 (x.2.1))]]⟩ : St)) (fun (i : P2) (x : ((List Int) × Int × (List Inst) × Int)) => (match i with | .a => True | .b => x.2.2.1 = [])) (impl_PicRead_s38 v8) (.b) (v13, 0, [], 0) hLq137 (by rfl) (by rfl) ⟨?_, rfl⟩ ?_
                · first | exact wkSt_same rfl | (simp (decide := true) only [go_sem, reduceIte, Nat.reduceAdd, Int.reduceToNat, Nat.reduceSub, Nat.reduceMul]; exact wkSt_same rfl)
                · rintro nq137 (_ | _) ⟨v31, v32, v33, v34⟩ xq137 kq137 hkq137 hp h hIq137 hEq137
                  · simp only [impl_PicRead_s38] at h
                    refine zS z0 (sem_cut fun k139 hk139 => ?_)
                    refine sem_ifh rfl h ?_ ?_ <;> clear h <;> intro h
                    · refine r_skip (r_cN hk139 ?_)
                      refine sem_cut fun k140 hk140 => sem_blk fun k141 hk141 => zS z0 ?_
                      obtain ⟨v39, c144H, h⟩ := bind_some' h
                      refine zS (zC1 (lC [[0]] (con_impl_picReader_inst _ _ c144H))) (sem_cut fun k145 hk145 => ?_)
                      refine zS z0 ?_
                      refine sem_ifh rfl h ?_ ?_ <;> clear h <;> intro h
                      · refine zS (zPR (.take 0 (.take 1 (.take 2 (.take 3 (.take 4 (.take 5 (.take 6 (.last 7 .done)))))))) [1]) (r_ret ?_)
                        refine r_cR hk145 (r_bR hk141 ?_)
                        refine r_cR hk140 ?_
                        replace h := zX h hEq137 hKq137
                        simp only [Sum.elim_inl, Sum.elim_inr] at h
                        refine r_kR hkq137 (r_bR hk103 ?_)
                        refine r_jR hk101 ?_
                        cases h
                        refine zARw hQ
                      · refine r_skip (r_cN hk145 ?_)
                        obtain ⟨g148, h⟩ := gAp h
                        refine zU (zRF g148) (r_bN hk141 ?_)
                        refine r_cN hk140 (zU z0 ?_)
                        refine zB hkq137 h hIq137 (.a) trivial
                    · refine r_exit (r_cE hk139 ?_)
                      replace h := zX h hEq137 hKq137
                      simp only [Sum.elim_inl, Sum.elim_inr] at h
                      refine r_kE hkq137 (r_bE hk103 ?_)
                      refine zJ J100 [3, 5, 6, 7] (.a) (v31, v32, v33) ⟨trivial, h⟩
                  · replace hp : v33 = [] := hp
                    subst hp
                    simp only [impl_PicRead_s38] at h
                    try simp only [List.nil_append, List.length_nil, Int.natCast_zero] at h
                    refine zS z0 (sem_cut fun k150 hk150 => ?_)
                    refine sem_ifh rfl h ?_ ?_ <;> clear h <;> intro h
                    · refine r_skip (r_cN hk150 ?_)
                      refine sem_cut fun k151 hk151 => sem_blk fun k152 hk152 => zS z0 ?_
                      obtain ⟨v40, c155H, h⟩ := bind_some' h
                      refine zS (zC1 (lC [[0]] (con_impl_picReader_inst _ _ c155H))) (sem_cut fun k156 hk156 => ?_)
                      refine zS z0 ?_
                      refine sem_ifh rfl h ?_ ?_ <;> clear h <;> intro h
                      · refine zS (zPR (.take 0 (.take 1 (.take 2 (.take 3 (.take 4 (.take 5 (.take 6 (.last 7 .done)))))))) [1]) (r_ret ?_)
                        refine r_cR hk156 (r_bR hk152 ?_)
                        refine r_cR hk151 ?_
                        replace h := zX h hEq137 hKq137
                        simp only [Sum.elim_inl, Sum.elim_inr] at h
                        refine r_kR hkq137 (r_bR hk103 ?_)
                        refine r_jR hk101 ?_
                        cases h
                        refine zARw hQ
                      · refine r_skip (r_cN hk156 ?_)
                        obtain ⟨g159, h⟩ := gAp h
                        refine zU (zRF g159) (r_bN hk152 ?_)
                        refine r_cN hk151 (zU z0 ?_)
                        refine zB hkq137 h hIq137 (.a) trivial
                    · refine r_exit (r_cE hk150 ?_)
                      replace h := zX h hEq137 hKq137
                      simp only [Sum.elim_inl, Sum.elim_inr] at h
                      refine r_kE hkq137 (r_bE hk103 ?_)
                      refine zJ J100 [3, 5, 6, 7] (.b) (v31, v32, []) ⟨rfl, h⟩
  · replace h := cond_f h g6
    refine zU (zC1F (lF [] (con_impl_in _ _ _ _ c5H)) g6) (r_cN hk4 ?_)
    refine sem_ifT rfl ?_
    try replace h := cond_t h rfl
    refine zS z0 (r_ret ?_)
    refine r_cR hk3 ?_
    cases h
    refine zARw hQ
theorem con_impl_PicRead_d0 (v1 : (List Int)) (res_ : ((List Inst) × PicFault)) (h : impl_PicRead v1 = some res_) : Con Try.prog C0 7 [.fz 1 (R e_u8 (v1))] []
    (fun x σ' => x = .tup [.junk, .agg [.sc (.int .i64 (res_.2.Code)), .sc (.int .i64 (res_.2.At))]] ∧ σ' = []) := by
  refine Con.drop (con_impl_PicRead v1 res_ h) fun x σ' hp => ?_
  obtain ⟨rfl, rfl⟩ := hp
  exact ⟨_, _, rfl, (by simp [dropL]), rfl, rfl⟩
noncomputable def laws_FnPicOne (v1 : (List Int)) (v2 : (List Int)) : Option Bool :=
  (cond (((decide (((v1).length : Int) > 1048576)) || (decide (((v2).length : Int) > 1048576))) || (decide (((v2).length : Int) < 3))) (some true) (Option.bind (spec_DrawPicRead v1) fun v3 => (Option.bind (spec_PicRead ((v3.1).take (v3.2))) fun v4 => (Option.bind (impl_PicRead ((v3.1).take (v3.2))) fun v5 => (cond (!((v5.2.Code == v4.2.Code) && (v5.2.At == v4.2.At))) (some false) (cond (decide (v5.2.Code > 0)) (some true) (Option.bind (idx v2 (2)) fun v6 => (cond (v6 == 0) (some true) (Option.bind (idx v2 (0)) fun v7 => (Option.bind (idx v2 (1)) fun v8 => (gd (((v3.2 : Nat) : Int) != 0) (Option.bind (idx ((v3.1).take (v3.2)) ((((IntKind.i64.wrap ((IntKind.i64.wrap ((IntKind.i64.wrap (v7)) * 256)) + (IntKind.i64.wrap (v8))))).tmod ((v3.2 : Nat) : Int)))) fun v9 => (Option.bind (idx v2 (2)) fun v10 => (Option.bind (impl_PicRead ((((v3.1).set ((((IntKind.i64.wrap ((IntKind.i64.wrap ((IntKind.i64.wrap (v7)) * 256)) + (IntKind.i64.wrap (v8))))).tmod ((v3.2 : Nat) : Int))).toNat (bxor .u8 v9 v10))).take (v3.2))) fun v11 => (some ((decide (v11.2.Code > 0)) && (((v11.1).length : Int) == 0)))))))))))))))))
theorem con_laws_FnPicOne (v1 : (List Int)) (v2 : (List Int)) (res_ : Bool) (h : laws_FnPicOne v1 v2 = some res_) : Con Try.prog C0 3 [.fz 1 (R e_u8 (v1)), .fz 1 (R e_u8 (v2))] []
    (fun x σ' => x = .sc (.bool (res_)) ∧ σ' = []) := by
  refine zCon hP 0 [0, 1, 4, 5, 7, 9, 10, 11, 12, 25, 40, 49] [.tmp 4] Try.func3 (by unfold Try.f3; rfl) fun Q hQ => ?_
  unfold laws_FnPicOne at h
  refine zS z0 (sem_cut fun k2 hk2 => ?_)
  refine zS zR ?_
  refine sem_ifh rfl h ?_ ?_ <;> clear h <;> intro h
  · refine zS z0 (r_ret ?_)
    refine r_cR hk2 ?_
    cases h
    refine zAR hQ
  · refine r_skip (r_cN hk2 ?_)
    refine sem_cut fun k5 hk5 => ?_
    obtain ⟨v3, c6H, h⟩ := bind_some' h
    repeat' (first | with_reducible refine And.intro ?_ ?_ | ((with_reducible refine i_call (n := 5) ?_); refine call_openF [] ?_) | ((with_reducible refine i_callW (n := 5) ?_); refine callW_use (con_spec_DrawPicRead v1 v3 c6H) ?_; rintro x σ' (⟨rfl, rfl⟩ | ⟨rfl, rfl, c6N1_0, c6N1_1⟩) <;> ((refine ⟨?_, ?_⟩; (focus simp (decide := true) only [go_sem, reduceIte, Nat.reduceAdd, Int.reduceToNat, Nat.reduceSub, Nat.reduceMul])); (with_reducible refine behind_go ?_))) | exact True.intro | with_reducible assumption | exact fun hf => False.elim hf | (intro hg; first | (simp +contextual [hg]; done) | grind) | omega | simp (decide := true) only [go_sem, reduceIte, Nat.reduceAdd, Int.reduceToNat, Nat.reduceSub, Nat.reduceMul])
    · refine r_cN hk5 ?_
      obtain ⟨v4, c8H, h⟩ := bind_some' h
      refine zS (zC1 (lF [] (con_spec_PicRead_d0 _ _ c8H))) ?_
      obtain ⟨v5, c10H, h⟩ := bind_some' h
      refine zS (zC1 (lF [] (con_impl_PicRead_d0 _ _ c10H))) (sem_cut fun k11 hk11 => ?_)
      refine zS z0 ?_
      refine sem_ifh rfl h ?_ ?_ <;> clear h <;> intro h
      · refine zS z0 (r_ret ?_)
        refine r_cR hk11 ?_
        cases h
        refine zAR hQ
      · refine r_skip (r_cN hk11 ?_)
        refine sem_cut fun k14 hk14 => sem_cut fun k15 hk15 => ?_
        rcases Bool.eq_false_or_eq_true (decide (v5.2.Code > 0)) with g16 | g16
        · replace h := cond_t h g16
          refine zU (zRF g16) (r_cN hk15 ?_)
          refine sem_ifT rfl ?_
          try replace h := cond_t h rfl
          refine zS z0 (r_ret ?_)
          refine r_cR hk14 ?_
          cases h
          refine zAR hQ
        · replace h := cond_f h g16
          obtain ⟨v6, h, c18⟩ := bN 2 h
          refine zU (zRF (a2 g16 c18)) (r_cN hk15 ?_)
          refine sem_ifh rfl h ?_ ?_ <;> clear h <;> intro h
          · refine zS z0 (r_ret ?_)
            refine r_cR hk14 ?_
            cases h
            refine zAR hQ
          · refine r_skip (r_cN hk14 ?_)
            obtain ⟨v7, h, c21⟩ := bN 0 h
            obtain ⟨v8, h, c22⟩ := bN 1 h
            obtain ⟨g23, h⟩ := gNe h
            refine zS (zRF (a3 c21 c22 g23)) ?_
            obtain ⟨v9, h, c25⟩ := bP h
            obtain ⟨v10, h, c26⟩ := bN 2 h
            refine zS (zPRF (.take 0 (.take 1 (.take 2 (.take 3 (.take 4 (.take 5 (.take 6 (.take 7 (.take 8 (.take 9 (.take 10 (.last 11 .done)))))))))))) [0] (a2 c25 c26)) ?_
            obtain ⟨v11, c28H, h⟩ := bind_some' h
            refine zS (zC1 (lC [] (con_impl_PicRead _ _ c28H))) (zS zR ?_)
            refine r_ret ?_
            cases h
            refine zAR hQ
    · try simp only [c6N1_0, c6N1_1, List.take_nil, List.take_zero] at h
      refine r_cN hk5 ?_
      obtain ⟨v12, c31H, h⟩ := bind_some' h
      refine zS (zC1w (lF [] (con_spec_PicRead_d0 _ _ c31H))) ?_
      obtain ⟨v13, c33H, h⟩ := bind_some' h
      refine zS (zC1w (lF [] (con_impl_PicRead_d0 _ _ c33H))) (sem_cut fun k34 hk34 => ?_)
      refine zS z0 ?_
      refine sem_ifh rfl h ?_ ?_ <;> clear h <;> intro h
      · refine zS z0 (r_ret ?_)
        refine r_cR hk34 ?_
        cases h
        refine zAR hQ
      · refine r_skip (r_cN hk34 ?_)
        refine sem_cut fun k37 hk37 => sem_cut fun k38 hk38 => ?_
        rcases Bool.eq_false_or_eq_true (decide (v13.2.Code > 0)) with g39 | g39
        · replace h := cond_t h g39
          refine zU (zRF g39) (r_cN hk38 ?_)
          refine sem_ifT rfl ?_
          try replace h := cond_t h rfl
          refine zS z0 (r_ret ?_)
          refine r_cR hk37 ?_
          cases h
          refine zAR hQ
        · replace h := cond_f h g39
          obtain ⟨v14, h, c41⟩ := bN 2 h
          refine zU (zRF (a2 g39 c41)) (r_cN hk38 ?_)
          refine sem_ifh rfl h ?_ ?_ <;> clear h <;> intro h
          · refine zS z0 (r_ret ?_)
            refine r_cR hk37 ?_
            cases h
            refine zAR hQ
          · refine r_skip (r_cN hk37 ?_)
            refine sem_cut fun k43 hk43 => ?_
            obtain ⟨v15, h, c44⟩ := bN 0 h
            obtain ⟨v16, h, c45⟩ := bN 1 h
            obtain ⟨g46, h⟩ := gNe h
            exact absurd (by simp) g46

end Go.AM
