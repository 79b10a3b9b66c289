/- Pure functions and their contracts. Conditions: none. -/
import Derived.Test.YthcdhlglaeaieaaGreatDoorAmQa1
set_option linter.unusedSimpArgs false
set_option linter.unusedVariables false
set_option maxRecDepth 10000
set_option maxHeartbeats 4000000
namespace Go.AM
open Go Go.Proofs
noncomputable section
def bw (v1 : Elem) (v3 : DevArg) : Bool → Option Bool
 | v14 => (cond v14 ((cW v3 7 7).bind fun v15 => (cond v15 ((idx v1.Args (1)).bind fun v16 => ((cW v16 11 11).bind fun v17 => (cond v17 (some (decide (v16.N ≥ 0))) (some false)))) (some false))) (cond (v1.Op == 29) ((cW v3 8 8).bind fun v18 => (cond v18 ((idx v1.Args (1)).bind fun v19 => ((cW v19 11 11).bind fun v20 => (cond v20 (some (decide (v19.N ≥ 0))) (some false)))) (some false))) (cond (v1.Op == 36) ((cW v3 10 10).bind fun v21 => (cond v21 ((idx v1.Args (1)).bind fun v22 => ((fA v22).bind fun v23 => (some v23))) (some false))) (cond (v1.Op == 37) ((cW v3 9 9).bind fun v24 => (cond v24 ((idx v1.Args (1)).bind fun v25 => ((eK v25).bind fun v26 => (some v26))) (some false))) ((s_l4Calc v1).bind fun v27 => (some v27))))))
def iB (v1 : Elem) : Option Bool :=
 (cond (decide (v1.Op < 21)) (some false) (cond (decide (v1.Op > 37)) (some false) ((cj v1.Op).bind fun v2 => (cond (((v1.Args).length : Int) != v2) (some false) ((idx v1.Args (0)).bind fun v3 => (cond (v1.Op == 21) ((cW v3 2 3).bind fun v4 => (some v4)) (cond (v1.Op == 22) ((cW v3 2 3).bind fun v5 => (cond v5 (some true) ((cW v3 4 4).bind fun v6 => (some v6)))) (cond (v1.Op == 23) ((cW v3 2 3).bind fun v7 => (cond v7 (some true) ((cW v3 4 7).bind fun v8 => (cond v8 (some true) ((cW v3 8 8).bind fun v9 => (some v9)))))) (cond (v1.Op == 24) ((cW v3 2 3).bind fun v10 => (cond v10 ((idx v1.Args (1)).bind fun v11 => ((cW v11 5 5).bind fun v12 => (some v12))) (some false))) (cond (v1.Op == 25) ((cW v3 4 4).bind fun v13 => (some v13)) (cond (v1.Op == 26) (bw v1 v3 (v1.Op == 26)) (cond (v1.Op == 27) (bw v1 v3 (v1.Op == 27)) (bw v1 v3 (v1.Op == 28))))))))))))))
theorem con_s_ElemIsCoil (v1 : Elem) (rz : Bool) (h : iB v1 = some rz) : Con Tryz.prog C0 190 [.agg [.sc (.int .i64 (v1.Op)), .fz 3 (R aa (v1.Args))]] []
  (fun x σ' => x = .sc (.bool (rz)) ∧ σ' = []) := by
 refine zCon hP 0 [0, 1, 2, 3, 20, 26, 27, 31, 39, 51, 62, 66, 87, 106, 117] [.tmp 2] Tryz.func190 (by unfold Tryz.f190; rfl) fun Q hQ => ?_
 unfold iB at h
 refine zS z0 (sC fun k2 hk2 => ?_)
 refine sC fun k3 hk3 => ?_
 rcases bE (decide (v1.Op < 21)) with g4 | g4
 ·replace h := ak h g4
  refine zU (zPRF (.take 0 (.take 1 (.take 2 (.take 3 (.take 4 (.take 5 (.take 6 (.take 7 (.take 8 (.take 9 (.take 10 (.take 11 (.take 12 (.take 13 (.one 14 (.take 15 (.take 16 .done))))))))))))))))) [0] g4) (r_cN hk3 ?_)
  refine bM rfl ?_
  try replace h := ak h rfl
  refine zS z0 (ab ?_)
  refine r_cR hk2 ?_
  cases h
  refine zAR hQ
 ·replace h := av h g4
  rcases bE (decide (v1.Op > 37)) with g6 | g6
  ·replace h := ak h g6
   refine zU (zPRF (.take 0 (.take 1 (.take 2 (.take 3 (.take 4 (.take 5 (.take 6 (.take 7 (.take 8 (.take 9 (.take 10 (.take 11 (.take 12 (.take 13 (.one 14 (.take 15 (.take 16 .done))))))))))))))))) [0] (a2 g4 g6)) (r_cN hk3 ?_)
   refine bM rfl ?_
   try replace h := ak h rfl
   refine zS z0 (ab ?_)
   refine r_cR hk2 ?_
   cases h
   refine zAR hQ
  ·replace h := av h g6
   obtain ⟨v2, c8H, h⟩ := bS h
   refine zU (zPC1F (.take 0 (.take 1 (.take 2 (.take 3 (.take 4 (.take 5 (.take 6 (.take 7 (.take 8 (.take 9 (.take 10 (.take 11 (.take 12 (.take 13 (.one 14 (.take 15 (.take 16 .done))))))))))))))))) [0] (lF [] (ei _ _ c8H)) (a2 g4 g6)) (r_cN hk3 ?_)
   revert h; refine zI rfl ?_ ?_ <;> intro h
   ·refine zS z0 (ab ?_)
    refine r_cR hk2 ?_
    cases h
    refine zAR hQ
   ·refine ae (r_cN hk2 ?_)
    obtain ⟨v3, h, c11⟩ := bN 0 h
    refine zS (zRF c11) (sC fun k12 hk12 => ?_)
    refine zS z0 (sB fun k14 hk14 => ?_)
    refine zS z0 ?_
    revert h; refine zI rfl ?_ ?_ <;> intro h
    ·obtain ⟨v4, c17H, h⟩ := bS h
     refine zS (zC1 (lF [] (aH _ _ _ _ c17H))) (ab ?_)
     refine r_bR hk14 (r_cR hk12 ?_)
     cases h
     refine zAR hQ
    ·refine zS z0 ?_
     revert h; refine zI rfl ?_ ?_ <;> intro h
     ·refine sC fun k19 hk19 => ?_
      obtain ⟨v5, c20H, h⟩ := bS h
      rcases bE v5 with g21 | g21
      ·replace h := ak h g21
       refine zU (zC1F (lF [] (aH _ _ _ _ c20H)) g21) (r_cN hk19 ?_)
       refine ab (r_bR hk14 ?_)
       refine r_cR hk12 ?_
       cases h
       refine zAR hQ
      ·replace h := av h g21
       obtain ⟨v6, c22H, h⟩ := bS h
       refine zU (zC2F (lF [] (aH _ _ _ _ c20H)) (lF [] (aH _ _ _ _ c22H)) g21) (r_cN hk19 ?_)
       refine ab (r_bR hk14 ?_)
       refine r_cR hk12 ?_
       cases h
       refine zAR hQ
     ·refine zS z0 ?_
      revert h; refine zI rfl ?_ ?_ <;> intro h
      ·refine sC fun k24 hk24 => ?_
       obtain ⟨v7, c25H, h⟩ := bS h
       rcases bE v7 with g26 | g26
       ·replace h := ak h g26
        refine zU (zC1F (lF [] (aH _ _ _ _ c25H)) g26) (r_cN hk24 ?_)
        refine ab (r_bR hk14 ?_)
        refine r_cR hk12 ?_
        cases h
        refine zAR hQ
       ·replace h := av h g26
        obtain ⟨v8, c27H, h⟩ := bS h
        rcases bE v8 with g28 | g28
        ·replace h := ak h g28
         refine zU (zC2F (lF [] (aH _ _ _ _ c25H)) (lF [] (aH _ _ _ _ c27H)) (a2 g26 g28)) (r_cN hk24 ?_)
         refine ab (r_bR hk14 ?_)
         refine r_cR hk12 ?_
         cases h
         refine zAR hQ
        ·replace h := av h g28
         obtain ⟨v9, c29H, h⟩ := bS h
         refine zU (zC3F (lF [] (aH _ _ _ _ c25H)) (lF [] (aH _ _ _ _ c27H)) (lF [] (aH _ _ _ _ c29H)) (a2 g26 g28)) (r_cN hk24 ?_)
         refine ab (r_bR hk14 ?_)
         refine r_cR hk12 ?_
         cases h
         refine zAR hQ
      ·refine zS z0 ?_
       revert h; refine zI rfl ?_ ?_ <;> intro h
       ·refine sC fun k31 hk31 => ?_
        obtain ⟨v10, c32H, h⟩ := bS h
        rcases bE v10 with g33 | g33
        ·replace h := ak h g33
         obtain ⟨v11, h, c34⟩ := bN 1 h
         obtain ⟨v12, c35H, h⟩ := bS h
         refine zU (zC2F (lF [] (aH _ _ _ _ c32H)) (lF [] (aH _ _ _ _ c35H)) (a2 g33 c34)) (r_cN hk31 ?_)
         refine ab (r_bR hk14 ?_)
         refine r_cR hk12 ?_
         cases h
         refine zAR hQ
        ·replace h := av h g33
         refine zU (zC1F (lF [] (aH _ _ _ _ c32H)) g33) (r_cN hk31 ?_)
         refine ab (r_bR hk14 ?_)
         refine r_cR hk12 ?_
         cases h
         refine zAR hQ
       ·refine zS z0 ?_
        revert h; refine zI rfl ?_ ?_ <;> intro h
        ·obtain ⟨v13, c38H, h⟩ := bS h
         refine zS (zC1 (lF [] (aH _ _ _ _ c38H))) (ab ?_)
         refine r_bR hk14 (r_cR hk12 ?_)
         cases h
         refine zAR hQ
        ·refine zCut (fun (x : Bool) => ⟨[(1, .pt 0 0), (3, .pt 1 0), (26, .sc (.int .i64 (v1.Op))), (66, .sc (.bool (x)))], [.rc [.sc (.int .i64 (v1.Op)), .fz 3 (R aa (v1.Args))], .rc [.sc (.int .i64 (v3.Kind)), .sc (.int .i64 (v3.N)), .sc (.int .i64 (v3.P))]]⟩) (bw v1 v3) rz ?_ ?_
         ·rintro _ v14 h
          simp only [bw] at h
          revert h; refine zI rfl ?_ ?_ <;> intro h
          ·refine sC fun k41 hk41 => ?_
           obtain ⟨v15, c42H, h⟩ := bS h
           rcases bE v15 with g43 | g43
           ·replace h := ak h g43
            obtain ⟨v16, h, c44⟩ := bN 1 h
            obtain ⟨v17, c45H, h⟩ := bS h
            rcases bE v17 with g46 | g46
            ·replace h := ak h g46
             refine zU (zC2F (lF [] (aH _ _ _ _ c42H)) (lF [] (aH _ _ _ _ c45H)) (a3 g43 c44 g46)) (r_cN hk41 ?_)
             refine ab (r_bR hk14 ?_)
             refine r_cR hk12 ?_
             cases h
             refine zAR hQ
            ·replace h := av h g46
             refine zU (zC2F (lF [] (aH _ _ _ _ c42H)) (lF [] (aH _ _ _ _ c45H)) (a3 g43 c44 g46)) (r_cN hk41 ?_)
             refine ab (r_bR hk14 ?_)
             refine r_cR hk12 ?_
             cases h
             refine zAR hQ
           ·replace h := av h g43
            refine zU (zC1F (lF [] (aH _ _ _ _ c42H)) g43) (r_cN hk41 ?_)
            refine ab (r_bR hk14 ?_)
            refine r_cR hk12 ?_
            cases h
            refine zAR hQ
          ·refine zS z0 ?_
           revert h; refine zI rfl ?_ ?_ <;> intro h
           ·refine sC fun k48 hk48 => ?_
            obtain ⟨v18, c49H, h⟩ := bS h
            rcases bE v18 with g50 | g50
            ·replace h := ak h g50
             obtain ⟨v19, h, c51⟩ := bN 1 h
             obtain ⟨v20, c52H, h⟩ := bS h
             rcases bE v20 with g53 | g53
             ·replace h := ak h g53
              refine zU (zC2F (lF [] (aH _ _ _ _ c49H)) (lF [] (aH _ _ _ _ c52H)) (a3 g50 c51 g53)) (r_cN hk48 ?_)
              refine ab (r_bR hk14 ?_)
              refine r_cR hk12 ?_
              cases h
              refine zAR hQ
             ·replace h := av h g53
              refine zU (zC2F (lF [] (aH _ _ _ _ c49H)) (lF [] (aH _ _ _ _ c52H)) (a3 g50 c51 g53)) (r_cN hk48 ?_)
              refine ab (r_bR hk14 ?_)
              refine r_cR hk12 ?_
              cases h
              refine zAR hQ
            ·replace h := av h g50
             refine zU (zC1F (lF [] (aH _ _ _ _ c49H)) g50) (r_cN hk48 ?_)
             refine ab (r_bR hk14 ?_)
             refine r_cR hk12 ?_
             cases h
             refine zAR hQ
           ·refine zS z0 ?_
            revert h; refine zI rfl ?_ ?_ <;> intro h
            ·refine sC fun k55 hk55 => ?_
             obtain ⟨v21, c56H, h⟩ := bS h
             rcases bE v21 with g57 | g57
             ·replace h := ak h g57
              obtain ⟨v22, h, c58⟩ := bN 1 h
              obtain ⟨v23, c59H, h⟩ := bS h
              refine zU (zC2F (lF [] (aH _ _ _ _ c56H)) (lF [] (bW _ _ c59H)) (a2 g57 c58)) (r_cN hk55 ?_)
              refine ab (r_bR hk14 ?_)
              refine r_cR hk12 ?_
              cases h
              refine zAR hQ
             ·replace h := av h g57
              refine zU (zC1F (lF [] (aH _ _ _ _ c56H)) g57) (r_cN hk55 ?_)
              refine ab (r_bR hk14 ?_)
              refine r_cR hk12 ?_
              cases h
              refine zAR hQ
            ·refine zS z0 ?_
             revert h; refine zI rfl ?_ ?_ <;> intro h
             ·refine sC fun k61 hk61 => ?_
              obtain ⟨v24, c62H, h⟩ := bS h
              rcases bE v24 with g63 | g63
              ·replace h := ak h g63
               obtain ⟨v25, h, c64⟩ := bN 1 h
               obtain ⟨v26, c65H, h⟩ := bS h
               refine zU (zC2F (lF [] (aH _ _ _ _ c62H)) (lF [] (dI _ _ c65H)) (a2 g63 c64)) (r_cN hk61 ?_)
               refine ab (r_bR hk14 ?_)
               refine r_cR hk12 ?_
               cases h
               refine zAR hQ
              ·replace h := av h g63
               refine zU (zC1F (lF [] (aH _ _ _ _ c62H)) g63) (r_cN hk61 ?_)
               refine ab (r_bR hk14 ?_)
               refine r_cR hk12 ?_
               cases h
               refine zAR hQ
             ·refine ae (r_bN hk14 ?_)
              refine r_cN hk12 ?_
              obtain ⟨v27, c67H, h⟩ := bS h
              refine zS (zC1 (lF [] (con_s_l4Calc _ _ c67H))) (ab ?_)
              cases h
              refine zAR hQ
         ·intro k69 hk69 J68
          refine zS z0 ?_
          revert h; refine zI rfl ?_ ?_ <;> intro h
          ·refine ae (zJ J68 [1, 3, 26, 66] () _ h)
          ·refine zS z0 ?_
           revert h; refine zI rfl ?_ ?_ <;> intro h
           ·refine ae (zJ J68 [1, 3, 26, 66] () _ h)
           ·refine zU z0 (zJ J68 [1, 3, 26, 66] () _ h)
def fX : Unit → Option Int
 | () => (some 0)
def bX (v1 : Arm) (v91_ : (Arm → Bool → Option Int)) : Int → Option (Int ⊕ (Int ⊕ Unit))
 | v26 => (cond (decide (v26 < ((v1.Kids).length : Int))) ((idx v1.Kids (v26)).bind fun v31 => ((v91_ v31 false).bind fun v32 => (cond (decide (v32 > 0)) (some (.inr (.inl v32))) (some (.inl (IntKind.i64.wrap (v26 + 1))))))) (some (.inr (.inr ()))))
def bV (v1 : Arm) (v91_ : (Arm → Bool → Option Int)) : Unit → Option Int
 | () => (cond ((((v1.Coils).length : Int) == 0) && (((v1.Kids).length : Int) == 0)) (some 5) ((loop (bX v1 v91_) 0).bind (Sum.elim (fun v29 => (some v29)) (fun v30 => (fX ())))))
def dL (v1 : Arm) : Int → Option (Int ⊕ (Unit ⊕ Unit))
 | v35 => (cond (decide (v35 < ((v1.Coils).length : Int))) ((idx v1.Coils (v35)).bind fun v40 => ((iB v40).bind fun v41 => (cond (!v41) (some (.inr (.inl ()))) (some (.inl (IntKind.i64.wrap (v35 + 1))))))) (some (.inr (.inr ()))))
def bk (v1 : Arm) (v91_ : (Arm → Bool → Option Int)) : Unit → Option Int
 | () => ((loop (dL v1) 0).bind (Sum.elim (fun v38 => (some 3)) (fun v39 => (bV v1 v91_ ()))))
def df (v91_ : (Arm → Bool → Option Int)) (v1 : Arm) (v2 : Bool) : Option Int :=
 (cond v2 ((gG (⟨v1.Net_Kind, v1.Net_One_Op, v1.Net_One_Args, v1.Net_Kids⟩ : Net)).bind fun v3 => (cond v3 (some 4) ((gG (⟨v1.Net_Kind, v1.Net_One_Op, v1.Net_One_Args, v1.Net_Kids⟩ : Net)).bind fun v42 => (cond (!v42) ((ic (⟨v1.Net_Kind, v1.Net_One_Op, v1.Net_One_Args, v1.Net_Kids⟩ : Net)).bind fun v43 => (cond (decide (v43 > 0)) (some v43) (bk v1 v91_ ()))) (bk v1 v91_ ()))))) ((gG (⟨v1.Net_Kind, v1.Net_One_Op, v1.Net_One_Args, v1.Net_Kids⟩ : Net)).bind fun v82 => (cond (!v82) ((ic (⟨v1.Net_Kind, v1.Net_One_Op, v1.Net_One_Args, v1.Net_Kids⟩ : Net)).bind fun v83 => (cond (decide (v83 > 0)) (some v83) (bk v1 v91_ ()))) (bk v1 v91_ ()))))
theorem dC {v91_ v91_' : (Arm → Bool → Option Int)} (hv91_ : ∀ a0 a1, le (v91_ a0 a1) (v91_' a0 a1)) (v1 : Arm) : ∀ x, le (bX v1 v91_ x) (bX v1 v91_' x) := by
 rintro v26
 simp only [bX]
 repeat' (first | (with_reducible exact le_refl _) | exact hv91_ _ _ | refine bj ?_ (fun _ => ?_) | refine bm ?_ ?_ | refine di ?_ | refine bn (fun _ => ?_) | refine bO (fun _ => ?_) (fun _ => ?_) _ | refine az ?_ _)
theorem fG {v91_ v91_' : (Arm → Bool → Option Int)} (hv91_ : ∀ a0 a1, le (v91_ a0 a1) (v91_' a0 a1)) (v1 : Arm) : ∀ x, le (bV v1 v91_ x) (bV v1 v91_' x) := by
 rintro _
 simp only [bV]
 repeat' (first | (with_reducible exact le_refl _) | exact hv91_ _ _ | exact dC hv91_ _ _ | refine az (dC hv91_ _) _ | refine bj ?_ (fun _ => ?_) | refine bm ?_ ?_ | refine di ?_ | refine bn (fun _ => ?_) | refine bO (fun _ => ?_) (fun _ => ?_) _ | refine az ?_ _)
theorem s_l7ArmWrong_j11_le {v91_ v91_' : (Arm → Bool → Option Int)} (hv91_ : ∀ a0 a1, le (v91_ a0 a1) (v91_' a0 a1)) (v1 : Arm) : ∀ x, le (bk v1 v91_ x) (bk v1 v91_' x) := by
 rintro _
 simp only [bk]
 repeat' (first | (with_reducible exact le_refl _) | exact hv91_ _ _ | exact dC hv91_ _ _ | refine az (dC hv91_ _) _ | exact fG hv91_ _ _ | refine az (fG hv91_ _) _ | refine bj ?_ (fun _ => ?_) | refine bm ?_ ?_ | refine di ?_ | refine bn (fun _ => ?_) | refine bO (fun _ => ?_) (fun _ => ?_) _ | refine az ?_ _)
theorem s_l7ArmWrong_rec_le {v91_ v91_' : (Arm → Bool → Option Int)} (hv91_ : ∀ a0 a1, le (v91_ a0 a1) (v91_' a0 a1)) (v1 : Arm) (v2 : Bool) : le (df v91_ v1 v2) (df v91_' v1 v2) := by
 unfold df
 repeat' (first | (with_reducible exact le_refl _) | exact hv91_ _ _ | exact dC hv91_ _ _ | refine az (dC hv91_ _) _ | exact fG hv91_ _ _ | refine az (fG hv91_ _) _ | exact s_l7ArmWrong_j11_le hv91_ _ _ | refine az (s_l7ArmWrong_j11_le hv91_ _) _ | refine bj ?_ (fun _ => ?_) | refine bm ?_ ?_ | refine di ?_ | refine bn (fun _ => ?_) | refine bO (fun _ => ?_) (fun _ => ?_) _ | refine az ?_ _)
theorem con_s_l7ArmWrong_step (v91_ : (Arm → Bool → Option Int)) (ihv9001 : ∀ (v1 : Arm) (v2 : Bool) (rz : Int), v91_ v1 v2 = some rz → Con Tryz.prog C0 146 [.agg [.sc (.int .i64 (v1.Net_Kind)), .sc (.int .i64 (v1.Net_One_Op)), .fz 3 (R aa (v1.Net_One_Args)), .fz 4 (R aq (v1.Net_Kids)), .fz 2 (R aE (v1.Coils)), .fz 6 (R aO (v1.Kids))], .sc (.bool (v2))] [] (fun x σ' => x = .sc (.int .i64 (rz)) ∧ σ' = [])) (v1 : Arm) (v2 : Bool) (rz : Int) (h : df v91_ v1 v2 = some rz) : Con Tryz.prog C0 146 [.agg [.sc (.int .i64 (v1.Net_Kind)), .sc (.int .i64 (v1.Net_One_Op)), .fz 3 (R aa (v1.Net_One_Args)), .fz 4 (R aq (v1.Net_Kids)), .fz 2 (R aE (v1.Coils)), .fz 6 (R aO (v1.Kids))], .sc (.bool (v2))] []
  (fun x σ' => x = .sc (.int .i64 (rz)) ∧ σ' = []) := by
 refine zCon hP 0 [0, 1, 2, 4, 5, 6, 7, 8, 14, 18, 23, 29, 38, 48, 53, 63] [.tmp 4] Tryz.func146 (by unfold Tryz.f146; rfl) fun Q hQ => ?_
 unfold df at h
 refine zS z0 (sC fun k2 hk2 => ?_)
 refine sC fun k3 hk3 => ?_
 rcases bE v2 with g4 | g4
 ·replace h := ak h g4
  obtain ⟨v3, c5H, h⟩ := bS h
  refine zU (zC1F (lF [] (ey _ _ c5H)) g4) (r_cN hk3 ?_)
  revert h; refine zI rfl ?_ ?_ <;> intro h
  ·refine zS z0 (ab ?_)
   refine r_cR hk2 ?_
   cases h
   refine zAR hQ
  ·refine ae (r_cN hk2 ?_)
   refine zCut (fun (x : Unit) => ⟨[(2, .pt 0 0)], [.rc [.sc (.int .i64 (v1.Net_Kind)), .sc (.int .i64 (v1.Net_One_Op)), .fz 3 (R aa (v1.Net_One_Args)), .fz 4 (R aq (v1.Net_Kids)), .fz 2 (R aE (v1.Coils)), .fz 6 (R aO (v1.Kids))]]⟩) (bk v1 v91_) rz ?_ ?_
   ·rintro _ _ h
    simp only [bk] at h
    refine zCut (fun (x : Unit) => ⟨[(2, .pt 0 0)], [.rc [.sc (.int .i64 (v1.Net_Kind)), .sc (.int .i64 (v1.Net_One_Op)), .fz 3 (R aa (v1.Net_One_Args)), .fz 4 (R aq (v1.Net_Kids)), .fz 2 (R aE (v1.Coils)), .fz 6 (R aO (v1.Kids))]]⟩) (bV v1 v91_) rz ?_ ?_
    ·rintro _ _ h
     simp only [bV] at h
     refine sC fun k40 hk40 => zS zR ?_
     revert h; refine zI rfl ?_ ?_ <;> intro h
     ·refine zS z0 (ab ?_)
      refine r_cR hk40 ?_
      cases h
      refine zAR hQ
     ·refine ae (r_cN hk40 ?_)
      refine zCut (fun (x : Unit) => ⟨[], []⟩) fX rz ?_ ?_
      ·rintro _ _ h
       simp only [fX] at h
       refine zS z0 (ab ?_)
       cases h
       refine zAR hQ
      ·intro k75 hk75 J74
       refine zS z0 (sB fun k77 hk77 => ?_)
       obtain ⟨oq96, hLq96, hKq96⟩ := bS h
       clear h
       refine ay [2, 7] (fun (_ : Unit) (x : Int) => (⟨[(2, .pt 0 0), (7, .sc (.int .i64 (x)))], [.rc [.sc (.int .i64 (v1.Net_Kind)), .sc (.int .i64 (v1.Net_One_Op)), .fz 3 (R aa (v1.Net_One_Args)), .fz 4 (R aq (v1.Net_Kids)), .fz 2 (R aE (v1.Coils)), .fz 6 (R aO (v1.Kids))]]⟩ : St)) (fun (_ : Unit) (x : Int) => True) (bX v1 v91_) () 0 hLq96 (by rfl) (by rfl) ⟨?_, trivial⟩ ?_
       ·exact zSa
       ·rintro nq96 _ v26 xq96 kq96 hkq96 - h hIq96 hEq96
        simp only [bX] at h
        refine sC fun k97 hk97 => zS z0 ?_
        revert h; refine zI rfl ?_ ?_ <;> intro h
        ·refine ae (r_cN hk97 ?_)
         refine sC fun k99 hk99 => sB fun k100 hk100 => ?_
         obtain ⟨v31, h, c102⟩ := bI h
         obtain ⟨v32, c103H, h⟩ := bS h
         refine zS (zC1F (lF [] (ihv9001 _ _ _ c103H)) c102) (zS z0 ?_)
         revert h; refine zI rfl ?_ ?_ <;> intro h
         ·refine zS z0 (ab ?_)
          refine r_bR hk100 (r_cR hk99 ?_)
          replace h := zX h hEq96 hKq96
          simp only [Sum.elim_inl, Sum.elim_inr] at h
          refine r_kR hkq96 (r_bR hk77 ?_)
          refine r_jR hk75 ?_
          cases h
          refine zAR hQ
         ·refine ae (r_bN hk100 ?_)
          refine r_cN hk99 (zU z0 ?_)
          refine zB hkq96 h hIq96 () trivial
        ·refine aK (r_cE hk97 ?_)
         replace h := zX h hEq96 hKq96
         simp only [Sum.elim_inl, Sum.elim_inr] at h
         refine r_kE hkq96 (r_bE hk77 ?_)
         refine zJ J74 [] () _ h
    ·intro k107 hk107 J106
     refine zS z0 (sB fun k109 hk109 => ?_)
     obtain ⟨oq126, hLq126, hKq126⟩ := bS h
     clear h
     refine ay [2, 6] (fun (_ : Unit) (x : Int) => (⟨[(2, .pt 0 0), (6, .sc (.int .i64 (x)))], [.rc [.sc (.int .i64 (v1.Net_Kind)), .sc (.int .i64 (v1.Net_One_Op)), .fz 3 (R aa (v1.Net_One_Args)), .fz 4 (R aq (v1.Net_Kids)), .fz 2 (R aE (v1.Coils)), .fz 6 (R aO (v1.Kids))]]⟩ : St)) (fun (_ : Unit) (x : Int) => True) (dL v1) () 0 hLq126 (by rfl) (by rfl) ⟨?_, trivial⟩ ?_
     ·exact zSa
     ·rintro nq126 _ v35 xq126 kq126 hkq126 - h hIq126 hEq126
      simp only [dL] at h
      refine sC fun k127 hk127 => zS z0 ?_
      revert h; refine zI rfl ?_ ?_ <;> intro h
      ·refine ae (r_cN hk127 ?_)
       refine sC fun k129 hk129 => sB fun k130 hk130 => ?_
       obtain ⟨v40, h, c132⟩ := bI h
       obtain ⟨v41, c133H, h⟩ := bS h
       refine zS (zC1F (lF [] (con_s_ElemIsCoil _ _ c133H)) c132) ?_
       revert h; refine zI rfl ?_ ?_ <;> intro h
       ·refine zS z0 (ab ?_)
        refine r_bR hk130 (r_cR hk129 ?_)
        replace h := zX h hEq126 hKq126
        simp only [Sum.elim_inl, Sum.elim_inr] at h
        refine r_kR hkq126 (r_bR hk109 ?_)
        refine r_jR hk107 ?_
        cases h
        refine zAR hQ
       ·refine ae (r_bN hk130 ?_)
        refine r_cN hk129 (zU z0 ?_)
        refine zB hkq126 h hIq126 () trivial
      ·refine aK (r_cE hk127 ?_)
       replace h := zX h hEq126 hKq126
       simp only [Sum.elim_inl, Sum.elim_inr] at h
       refine r_kE hkq126 (r_bE hk109 ?_)
       refine zJ J106 [2] () _ h
   ·intro k136 hk136 J135
    obtain ⟨v42, c138H, h⟩ := bS h
    refine zS (zC1 (lF [] (ey _ _ c138H))) ?_
    revert h; refine zI rfl ?_ ?_ <;> intro h
    ·obtain ⟨v43, c140H, h⟩ := bS h
     refine zS (zC1 (lF [] (con_s_l7NetWrong _ _ c140H))) (zS z0 ?_)
     revert h; refine zI rfl ?_ ?_ <;> intro h
     ·refine zS z0 (ab ?_)
      refine r_jR hk136 ?_
      cases h
      refine zAR hQ
     ·refine ae (zJ J135 [2] () _ h)
    ·refine ae (zJ J135 [2] () _ h)
 ·replace h := av h g4
  refine zU (zRF g4) (r_cN hk3 ?_)
  refine sem_ifF rfl ?_
  try replace h := av h rfl
  refine ae (r_cN hk2 ?_)
  refine zCut (fun (x : Unit) => ⟨[(2, .pt 0 0)], [.rc [.sc (.int .i64 (v1.Net_Kind)), .sc (.int .i64 (v1.Net_One_Op)), .fz 3 (R aa (v1.Net_One_Args)), .fz 4 (R aq (v1.Net_Kids)), .fz 2 (R aE (v1.Coils)), .fz 6 (R aO (v1.Kids))]]⟩) (bk v1 v91_) rz ?_ ?_
  ·rintro _ _ h
   simp only [bk] at h
   refine zCut (fun (x : Unit) => ⟨[(2, .pt 0 0)], [.rc [.sc (.int .i64 (v1.Net_Kind)), .sc (.int .i64 (v1.Net_One_Op)), .fz 3 (R aa (v1.Net_One_Args)), .fz 4 (R aq (v1.Net_Kids)), .fz 2 (R aE (v1.Coils)), .fz 6 (R aO (v1.Kids))]]⟩) (bV v1 v91_) rz ?_ ?_
   ·rintro _ _ h
    simp only [bV] at h
    refine sC fun k176 hk176 => zS zR ?_
    revert h; refine zI rfl ?_ ?_ <;> intro h
    ·refine zS z0 (ab ?_)
     refine r_cR hk176 ?_
     cases h
     refine zAR hQ
    ·refine ae (r_cN hk176 ?_)
     refine zCut (fun (x : Unit) => ⟨[], []⟩) fX rz ?_ ?_
     ·rintro _ _ h
      simp only [fX] at h
      refine zS z0 (ab ?_)
      cases h
      refine zAR hQ
     ·intro k211 hk211 J210
      refine zS z0 (sB fun k213 hk213 => ?_)
      obtain ⟨oq232, hLq232, hKq232⟩ := bS h
      clear h
      refine ay [2, 7] (fun (_ : Unit) (x : Int) => (⟨[(2, .pt 0 0), (7, .sc (.int .i64 (x)))], [.rc [.sc (.int .i64 (v1.Net_Kind)), .sc (.int .i64 (v1.Net_One_Op)), .fz 3 (R aa (v1.Net_One_Args)), .fz 4 (R aq (v1.Net_Kids)), .fz 2 (R aE (v1.Coils)), .fz 6 (R aO (v1.Kids))]]⟩ : St)) (fun (_ : Unit) (x : Int) => True) (bX v1 v91_) () 0 hLq232 (by rfl) (by rfl) ⟨?_, trivial⟩ ?_
      ·exact zSa
      ·rintro nq232 _ v66 xq232 kq232 hkq232 - h hIq232 hEq232
       simp only [bX] at h
       refine sC fun k233 hk233 => zS z0 ?_
       revert h; refine zI rfl ?_ ?_ <;> intro h
       ·refine ae (r_cN hk233 ?_)
        refine sC fun k235 hk235 => sB fun k236 hk236 => ?_
        obtain ⟨v71, h, c238⟩ := bI h
        obtain ⟨v72, c239H, h⟩ := bS h
        refine zS (zC1F (lF [] (ihv9001 _ _ _ c239H)) c238) (zS z0 ?_)
        revert h; refine zI rfl ?_ ?_ <;> intro h
        ·refine zS z0 (ab ?_)
         refine r_bR hk236 (r_cR hk235 ?_)
         replace h := zX h hEq232 hKq232
         simp only [Sum.elim_inl, Sum.elim_inr] at h
         refine r_kR hkq232 (r_bR hk213 ?_)
         refine r_jR hk211 ?_
         cases h
         refine zAR hQ
        ·refine ae (r_bN hk236 ?_)
         refine r_cN hk235 (zU z0 ?_)
         refine zB hkq232 h hIq232 () trivial
       ·refine aK (r_cE hk233 ?_)
        replace h := zX h hEq232 hKq232
        simp only [Sum.elim_inl, Sum.elim_inr] at h
        refine r_kE hkq232 (r_bE hk213 ?_)
        refine zJ J210 [] () _ h
   ·intro k243 hk243 J242
    refine zS z0 (sB fun k245 hk245 => ?_)
    obtain ⟨oq262, hLq262, hKq262⟩ := bS h
    clear h
    refine ay [2, 6] (fun (_ : Unit) (x : Int) => (⟨[(2, .pt 0 0), (6, .sc (.int .i64 (x)))], [.rc [.sc (.int .i64 (v1.Net_Kind)), .sc (.int .i64 (v1.Net_One_Op)), .fz 3 (R aa (v1.Net_One_Args)), .fz 4 (R aq (v1.Net_Kids)), .fz 2 (R aE (v1.Coils)), .fz 6 (R aO (v1.Kids))]]⟩ : St)) (fun (_ : Unit) (x : Int) => True) (dL v1) () 0 hLq262 (by rfl) (by rfl) ⟨?_, trivial⟩ ?_
    ·exact zSa
    ·rintro nq262 _ v75 xq262 kq262 hkq262 - h hIq262 hEq262
     simp only [dL] at h
     refine sC fun k263 hk263 => zS z0 ?_
     revert h; refine zI rfl ?_ ?_ <;> intro h
     ·refine ae (r_cN hk263 ?_)
      refine sC fun k265 hk265 => sB fun k266 hk266 => ?_
      obtain ⟨v80, h, c268⟩ := bI h
      obtain ⟨v81, c269H, h⟩ := bS h
      refine zS (zC1F (lF [] (con_s_ElemIsCoil _ _ c269H)) c268) ?_
      revert h; refine zI rfl ?_ ?_ <;> intro h
      ·refine zS z0 (ab ?_)
       refine r_bR hk266 (r_cR hk265 ?_)
       replace h := zX h hEq262 hKq262
       simp only [Sum.elim_inl, Sum.elim_inr] at h
       refine r_kR hkq262 (r_bR hk245 ?_)
       refine r_jR hk243 ?_
       cases h
       refine zAR hQ
      ·refine ae (r_bN hk266 ?_)
       refine r_cN hk265 (zU z0 ?_)
       refine zB hkq262 h hIq262 () trivial
     ·refine aK (r_cE hk263 ?_)
      replace h := zX h hEq262 hKq262
      simp only [Sum.elim_inl, Sum.elim_inr] at h
      refine r_kE hkq262 (r_bE hk245 ?_)
      refine zJ J242 [2] () _ h
  ·intro k272 hk272 J271
   obtain ⟨v82, c274H, h⟩ := bS h
   refine zS (zC1 (lF [] (ey _ _ c274H))) ?_
   revert h; refine zI rfl ?_ ?_ <;> intro h
   ·obtain ⟨v83, c276H, h⟩ := bS h
    refine zS (zC1 (lF [] (con_s_l7NetWrong _ _ c276H))) (zS z0 ?_)
    revert h; refine zI rfl ?_ ?_ <;> intro h
    ·refine zS z0 (ab ?_)
     refine r_jR hk272 ?_
     cases h
     refine zAR hQ
    ·refine ae (zJ J271 [2] () _ h)
   ·refine ae (zJ J271 [2] () _ h)
def bu : Nat → (Arm → Bool → Option Int)
 | 0 => fun _ _ => none
 | n + 1 => fun v1 v2 => df (bu n) v1 v2
theorem s_l7ArmWrong_scc_mono : ∀ n, (∀ (v1 : Arm) (v2 : Bool), le ((bu n) v1 v2) ((bu (n + 1)) v1 v2)) := by
 intro n
 induction n with
 | zero => exact fun _ _ => le_none _
 | succ n ih => exact fun v1 v2 => s_l7ArmWrong_rec_le ih v1 v2
def s_l7ArmWrong (v1 : Arm) (v2 : Bool) : Option Int := lim fun n => (bu n) v1 v2
theorem s_l7ArmWrong_up (v1 : Arm) (v2 : Bool) {n : Nat} {r : Int} (e : (bu n) v1 v2 = some r) : s_l7ArmWrong v1 v2 = some r := lim_eq (fun n => (s_l7ArmWrong_scc_mono n) v1 v2) e
theorem con_s_l7ArmWrong_scc : ∀ n, (∀ (v1 : Arm) (v2 : Bool) (rz : Int), (bu n) v1 v2 = some rz → Con Tryz.prog C0 146 [.agg [.sc (.int .i64 (v1.Net_Kind)), .sc (.int .i64 (v1.Net_One_Op)), .fz 3 (R aa (v1.Net_One_Args)), .fz 4 (R aq (v1.Net_Kids)), .fz 2 (R aE (v1.Coils)), .fz 6 (R aO (v1.Kids))], .sc (.bool (v2))] [] (fun x σ' => x = .sc (.int .i64 (rz)) ∧ σ' = [])) := by
 intro n
 induction n with
 | zero =>
  intro v1 v2 rz h; cases h
 | succ n ih =>
  exact fun v1 v2 rz h => con_s_l7ArmWrong_step (bu n) (ih) v1 v2 rz h
theorem con_s_l7ArmWrong (v1 : Arm) (v2 : Bool) (rz : Int) (h : s_l7ArmWrong v1 v2 = some rz) : Con Tryz.prog C0 146 [.agg [.sc (.int .i64 (v1.Net_Kind)), .sc (.int .i64 (v1.Net_One_Op)), .fz 3 (R aa (v1.Net_One_Args)), .fz 4 (R aq (v1.Net_Kids)), .fz 2 (R aE (v1.Coils)), .fz 6 (R aO (v1.Kids))], .sc (.bool (v2))] []
  (fun x σ' => x = .sc (.int .i64 (rz)) ∧ σ' = []) := by
 obtain ⟨n, hn⟩ := en h
 exact (con_s_l7ArmWrong_scc n) v1 v2 _ hn
def s_TreeCheck_j11 : Unit → Option TreeFault
 | () => (some (⟨0, 0⟩ : TreeFault))
def gz (v1 : (List Arm)) : Int → Option (Int ⊕ ((Int × Int) ⊕ Unit))
 | v14 => (cond (decide (v14 < ((v1).length : Int))) ((idx v1 (v14)).bind fun v19 => ((s_l7ArmWrong v19 true).bind fun v20 => (cond (decide (v20 > 0)) (some (.inr (.inl (v20, v14)))) (some (.inl (IntKind.i64.wrap (v14 + 1))))))) (some (.inr (.inr ()))))
def s_TreeCheck (v1 : (List Arm)) : Option TreeFault :=
 (cond (decide (((v1).length : Int) > 40)) (some (⟨1, 0⟩ : TreeFault)) ((s_TreeSize v1).bind fun v2 => (cond (decide (v2 > 400)) (some (⟨1, 0⟩ : TreeFault)) ((loop (gz v1) 0).bind (Sum.elim (fun v17 => (some (⟨v17.1, v17.2⟩ : TreeFault))) (fun v18 => (s_TreeCheck_j11 ())))))))
theorem con_s_TreeCheck (v1 : (List Arm)) (rz : TreeFault) (h : s_TreeCheck v1 = some rz) : Con Tryz.prog C0 72 [.fz 6 (R aO (v1))] []
  (fun x σ' => x = .agg [.sc (.int .i64 (rz.Code)), .sc (.int .i64 (rz.Rung))] ∧ σ' = []) := by
 refine zCon hP 0 [0, 2, 3, 4, 12, 17, 26] [.cell 2 53] Tryz.func72 (by unfold Tryz.f72; rfl) fun Q hQ => ?_
 unfold s_TreeCheck at h
 refine zS z0 (sC fun k2 hk2 => ?_)
 refine sC fun k3 hk3 => ?_
 rcases bE (decide (((v1).length : Int) > 40)) with g4 | g4
 ·replace h := ak h g4
  refine zU (zRF g4) (r_cN hk3 ?_)
  refine bM rfl ?_
  try replace h := ak h rfl
  refine zS z0 (ab ?_)
  refine r_cR hk2 ?_
  cases h
  refine zAR hQ
 ·replace h := av h g4
  obtain ⟨v2, c6H, h⟩ := bS h
  refine zU (zC1F (lF [] (con_s_TreeSize _ _ c6H)) g4) (r_cN hk3 ?_)
  revert h; refine zI rfl ?_ ?_ <;> intro h
  ·refine zS z0 (ab ?_)
   refine r_cR hk2 ?_
   cases h
   refine zAR hQ
  ·refine ae (r_cN hk2 ?_)
   refine zCut (fun (x : Unit) => ⟨[(2, .pt 0 0)], [.rc [.sc (.int .i64 (0)), .sc (.int .i64 (0))]]⟩) s_TreeCheck_j11 rz ?_ ?_
   ·rintro _ _ h
    simp only [s_TreeCheck_j11] at h
    refine zS z0 (ab ?_)
    cases h
    refine zAR hQ
   ·intro k40 hk40 J39
    refine zS z0 (sB fun k42 hk42 => ?_)
    obtain ⟨oq61, hLq61, hKq61⟩ := bS h
    clear h
    refine ay [0, 2, 3] (fun (_ : Unit) (x : Int) => (⟨[(0, .fz 6 (R aO (v1))), (2, .pt 0 0), (3, .sc (.int .i64 (x)))], [.rc [.sc (.int .i64 (0)), .sc (.int .i64 (0))]]⟩ : St)) (fun (_ : Unit) (x : Int) => True) (gz v1) () 0 hLq61 (by rfl) (by rfl) ⟨?_, trivial⟩ ?_
    ·exact zSa
    ·rintro nq61 _ v14 xq61 kq61 hkq61 - h hIq61 hEq61
     simp only [gz] at h
     refine sC fun k62 hk62 => zS z0 ?_
     revert h; refine zI rfl ?_ ?_ <;> intro h
     ·refine ae (r_cN hk62 ?_)
      refine sC fun k64 hk64 => sB fun k65 hk65 => ?_
      obtain ⟨v19, h, c67⟩ := bI h
      obtain ⟨v20, c68H, h⟩ := bS h
      refine zS (zC1F (lF [] (con_s_l7ArmWrong _ _ _ c68H)) c67) (zS z0 ?_)
      revert h; refine zI rfl ?_ ?_ <;> intro h
      ·refine zS z0 (ab ?_)
       refine r_bR hk65 (r_cR hk64 ?_)
       replace h := zX h hEq61 hKq61
       simp only [Sum.elim_inl, Sum.elim_inr] at h
       refine r_kR hkq61 (r_bR hk42 ?_)
       refine r_jR hk40 ?_
       cases h
       refine zAR hQ
      ·refine ae (r_bN hk65 ?_)
       refine r_cN hk64 (zU z0 ?_)
       refine zB hkq61 h hIq61 () trivial
     ·refine aK (r_cE hk62 ?_)
      replace h := zX h hEq61 hKq61
      simp only [Sum.elim_inl, Sum.elim_inr] at h
      refine r_kE hkq61 (r_bE hk42 ?_)
      refine zJ J39 [2] () _ h
def s_l9Coils_j5 : (List Elem) → Option (List Elem)
 | v8 => (some v8)
def s_l9Coils_s9 (v1 : (List Elem)) : ((List Elem) × Int) → Option (((List Elem) × Int) ⊕ (List Elem))
 | (v10, v11) => (cond (decide (v11 < ((v1).length : Int))) ((idx v1 (v11)).bind fun v14 => (gd (apOk (v14.Args).length 24) (gd (apOk ((v10 ++ [v14])).length 32) (some (.inl ((v10 ++ [v14]), (IntKind.i64.wrap (v11 + 1)))))))) (some (.inr v10)))
def s_l9Coils (v1 : (List Elem)) : Option (List Elem) :=
 ((loop (s_l9Coils_s9 v1) ([], 0)).bind (fun v13 => (s_l9Coils_j5 v13)))
theorem con_s_l9Coils (v1 : (List Elem)) (rz : (List Elem)) (h : s_l9Coils v1 = some rz) : Con Tryz.prog C0 270 [.fz 2 (R aE (v1))] []
  (fun x σ' => x = .sl 0 0 ((rz).length) ∧ σ' = [.arr true 2 (R aE (rz))]) := by
 refine zCon hP 0 [0, 2, 3, 4, 9] [.tmp 2] Tryz.func270 (by unfold Tryz.f270; rfl) fun Q hQ => ?_
 unfold s_l9Coils at h
 refine zS z0 (zS z0 ?_)
 refine zCut (fun (x : (List Elem)) => ⟨[(3, .sl 0 0 ((x).length))], [.arr true 2 (R aE (x))]⟩) s_l9Coils_j5 rz ?_ ?_
 ·rintro _ v8 h
  simp only [s_l9Coils_j5] at h
  refine zS z0 (ab ?_)
  cases h
  refine zOR hQ
 ·intro k29 hk29 J28
  refine zS z0 (sB fun k31 hk31 => ?_)
  obtain ⟨oq46, hLq46, hKq46⟩ := bS h
  clear h
  refine ay [0, 3, 4] (fun (_ : Unit) (x : ((List Elem) × Int)) => (⟨[(0, .fz 2 (R aE (v1))), (3, .sl 0 0 ((x.1).length)), (4, .sc (.int .i64 (x.2)))], [.arr true 2 (R aE (x.1))]⟩ : St)) (fun (_ : Unit) (x : ((List Elem) × Int)) => True) (s_l9Coils_s9 v1) () ([], 0) hLq46 (by rfl) (by rfl) ⟨?_, trivial⟩ ?_
  ·exact zSa
  ·rintro nq46 _ ⟨v10, v11⟩ xq46 kq46 hkq46 - h hIq46 hEq46
   simp only [s_l9Coils_s9] at h
   refine sC fun k47 hk47 => zS z0 ?_
   revert h; refine zI rfl ?_ ?_ <;> intro h
   ·refine ae (r_cN hk47 ?_)
    refine sC fun k49 hk49 => sB fun k50 hk50 => ?_
    obtain ⟨v14, h, c51⟩ := bI h
    obtain ⟨g52, h⟩ := gAp h
    obtain ⟨g53, h⟩ := gAp h
    refine zU (zPRF (.take 0 (.take 1 (.take 2 (.take 3 (.take 4 (.take 5 (.take 7 (.take 8 (.take 9 (.take 10 (.take 11 (.one 6 (.one 12 (.take 13 (.one 14 (.one 15 (.take 16 .done))))))))))))))))) [] (a3 c51 g52 g53)) (r_bN hk50 ?_)
    refine r_cN hk49 (zU z0 ?_)
    refine zB hkq46 h hIq46 () trivial
   ·refine aK (r_cE hk47 ?_)
    replace h := zX h hEq46 hKq46
    refine r_kE hkq46 (r_bE hk31 ?_)
    refine zJ J28 [3] () _ h
def gq (v1 : Net) (v91_ : (Net → Option Net)) (v92_ : (Int → (List Net) → Option Net)) : Bool → Option Net
 | v2 => (cond v2 ((v92_ v1.Kind v1.Kids).bind fun v3 => (some v3)) (cond (v1.Kind == 4) ((idx v1.Kids (0)).bind fun v4 => ((v91_ v4).bind fun v5 => (some (⟨v1.Kind, 0, [], [v5]⟩ : Net)))) (gd (apOk (v1.One_Args).length 24) (some (⟨v1.Kind, v1.One_Op, v1.One_Args, []⟩ : Net)))))
def gh (v91_ : (Net → Option Net)) (v92_ : (Int → (List Net) → Option Net)) (v1 : Net) : Option Net :=
 (cond (v1.Kind == 2) (gq v1 v91_ v92_ (v1.Kind == 2)) (gq v1 v91_ v92_ (v1.Kind == 3)))
theorem s_l9Net_j7_le {v91_ v91_' : (Net → Option Net)} (hv91_ : ∀ a0, le (v91_ a0) (v91_' a0)) {v92_ v92_' : (Int → (List Net) → Option Net)} (hv92_ : ∀ a0 a1, le (v92_ a0 a1) (v92_' a0 a1)) (v1 : Net) : ∀ x, le (gq v1 v91_ v92_ x) (gq v1 v91_' v92_' x) := by
 rintro v2
 simp only [gq]
 repeat' (first | (with_reducible exact le_refl _) | exact hv91_ _ | exact hv92_ _ _ | refine bj ?_ (fun _ => ?_) | refine bm ?_ ?_ | refine di ?_ | refine bn (fun _ => ?_) | refine bO (fun _ => ?_) (fun _ => ?_) _ | refine az ?_ _)
theorem s_l9Net_rec_le {v91_ v91_' : (Net → Option Net)} (hv91_ : ∀ a0, le (v91_ a0) (v91_' a0)) {v92_ v92_' : (Int → (List Net) → Option Net)} (hv92_ : ∀ a0 a1, le (v92_ a0 a1) (v92_' a0 a1)) (v1 : Net) : le (gh v91_ v92_ v1) (gh v91_' v92_' v1) := by
 unfold gh
 repeat' (first | (with_reducible exact le_refl _) | exact hv91_ _ | exact hv92_ _ _ | exact s_l9Net_j7_le hv91_ hv92_ _ _ | refine az (s_l9Net_j7_le hv91_ hv92_ _) _ | refine bj ?_ (fun _ => ?_) | refine bm ?_ ?_ | refine di ?_ | refine bn (fun _ => ?_) | refine bO (fun _ => ?_) (fun _ => ?_) _ | refine az ?_ _)
theorem con_s_l9Net_step (v91_ : (Net → Option Net)) (v92_ : (Int → (List Net) → Option Net)) (ihv9001 : ∀ (v1 : Net) (rz : Net), v91_ v1 = some rz → Con Tryz.prog C0 271 [.agg [.sc (.int .i64 (v1.Kind)), .sc (.int .i64 (v1.One_Op)), .fz 3 (R aa (v1.One_Args)), .fz 4 (R aq (v1.Kids))]] [] (fun x σ' => x = .agg [.sc (.int .i64 (rz.Kind)), .sc (.int .i64 (rz.One_Op)), .fz 3 (R aa (rz.One_Args)), .fz 4 (R aq (rz.Kids))] ∧ σ' = [])) (ihv9002 : ∀ (v1 : Int) (v2 : (List Net)) (rz : Net), v92_ v1 v2 = some rz → Con Tryz.prog C0 284 [.sc (.int .i64 (v1)), .fz 4 (R aq (v2))] [] (fun x σ' => x = .agg [.sc (.int .i64 (rz.Kind)), .sc (.int .i64 (rz.One_Op)), .fz 3 (R aa (rz.One_Args)), .fz 4 (R aq (rz.Kids))] ∧ σ' = [])) (v1 : Net) (rz : Net) (h : gh v91_ v92_ v1 = some rz) : Con Tryz.prog C0 271 [.agg [.sc (.int .i64 (v1.Kind)), .sc (.int .i64 (v1.One_Op)), .fz 3 (R aa (v1.One_Args)), .fz 4 (R aq (v1.Kids))]] []
  (fun x σ' => x = .agg [.sc (.int .i64 (rz.Kind)), .sc (.int .i64 (rz.One_Op)), .fz 3 (R aa (rz.One_Args)), .fz 4 (R aq (rz.Kids))] ∧ σ' = []) := by
 refine zCon hP 0 [0, 1, 2, 4, 5, 13] [.cell 2 133] Tryz.func271 (by unfold Tryz.f271; rfl) fun Q hQ => ?_
 unfold gh at h
 refine zS z0 (sC fun k2 hk2 => ?_)
 refine zS z0 (sB fun k4 hk4 => ?_)
 refine zCut (fun (x : Bool) => ⟨[(1, .pt 0 0), (2, .pt 1 0), (4, .sc (.int .i64 (v1.Kind))), (5, .sc (.bool (x)))], [.rc [.sc (.int .i64 (v1.Kind)), .sc (.int .i64 (v1.One_Op)), .fz 3 (R aa (v1.One_Args)), .fz 4 (R aq (v1.Kids))], .rc [.sc (.int .i64 (0)), .sc (.int .i64 (0)), .sc (.slice none 0 0), .sc (.slice none 0 0)]]⟩) (gq v1 v91_ v92_) rz ?_ ?_
 ·rintro _ v2 h
  simp only [gq] at h
  revert h; refine zI rfl ?_ ?_ <;> intro h
  ·obtain ⟨v3, c7H, h⟩ := bS h
   refine zS (zC1 (lC [] (ihv9002 _ _ _ c7H))) (ab ?_)
   refine r_bR hk4 (r_cR hk2 ?_)
   cases h
   refine zAR hQ
  ·refine zS z0 ?_
   revert h; refine zI rfl ?_ ?_ <;> intro h
   ·obtain ⟨v4, h, c10⟩ := bN 0 h
    obtain ⟨v5, c11H, h⟩ := bS h
    refine zS (zPC1F (.take 0 (.take 1 (.take 2 (.take 3 (.take 4 (.take 5 (.one 6 (.one 7 (.take 8 (.last 9 .done)))))))))) [0] (lC [] (ihv9001 _ _ c11H)) c10) (ab ?_)
    refine r_bR hk4 (r_cR hk2 ?_)
    cases h
    refine zARw hQ
   ·refine ae (r_bN hk4 ?_)
    refine r_cN hk2 ?_
    obtain ⟨g13, h⟩ := gAp h
    refine zS (zPRF (.take 0 (.take 1 (.take 2 (.take 3 (.take 4 (.take 6 (.take 7 (.take 8 (.one 5 (.one 9 (.take 10 (.take 11 (.last 12 .done))))))))))))) [0] g13) (ab ?_)
    cases h
    refine zARw hQ
 ·intro k15 hk15 J14
  refine zS z0 ?_
  revert h; refine zI rfl ?_ ?_ <;> intro h
  ·refine ae (zJ J14 [1, 2, 4, 5] () _ h)
  ·refine zU z0 (zJ J14 [1, 2, 4, 5] () _ h)
def s_l9Flat_j5 (v1 : Int) : (List Net) → Option Net
 | v21 => (cond ((((v21).length : Nat) : Int) == 1) ((idx v21 (0)).bind fun v22 => (some v22)) (some (⟨v1, 0, [], v21⟩ : Net)))
def s_l9Flat_j16 (v29 : Int) : (List Net) → Option (((List Net) × Int) ⊕ (List Net))
 | v38 => (some (.inl (v38, (IntKind.i64.wrap (v29 + 1)))))
def gf (v1 : Int) (v2 : (List Net)) (v91_ : (Net → Option Net)) : ((List Net) × Int) → Option (((List Net) × Int) ⊕ (List Net))
 | (v28, v29) => (cond (decide (v29 < ((v2).length : Int))) ((idx v2 (v29)).bind fun v39 => ((v91_ v39).bind fun v40 => (cond (v40.Kind == v1) (gd (apOk ((v28 ++ v40.Kids)).length 64) (s_l9Flat_j16 v29 (v28 ++ v40.Kids))) (gd (apOk ((v28 ++ [v40])).length 64) (s_l9Flat_j16 v29 (v28 ++ [v40])))))) (some (.inr v28)))
def fe (v91_ : (Net → Option Net)) (v1 : Int) (v2 : (List Net)) : Option Net :=
 ((loop (gf v1 v2 v91_) ([], 0)).bind (fun v35 => (s_l9Flat_j5 v1 v35)))
theorem s_l9Flat_s9_le {v91_ v91_' : (Net → Option Net)} (hv91_ : ∀ a0, le (v91_ a0) (v91_' a0)) (v1 : Int) (v2 : (List Net)) : ∀ x, le (gf v1 v2 v91_ x) (gf v1 v2 v91_' x) := by
 rintro ⟨v28, v29⟩
 simp only [gf]
 repeat' (first | (with_reducible exact le_refl _) | exact hv91_ _ | refine bj ?_ (fun _ => ?_) | refine bm ?_ ?_ | refine di ?_ | refine bn (fun _ => ?_) | refine bO (fun _ => ?_) (fun _ => ?_) _ | refine az ?_ _)
theorem s_l9Flat_rec_le {v91_ v91_' : (Net → Option Net)} (hv91_ : ∀ a0, le (v91_ a0) (v91_' a0)) (v1 : Int) (v2 : (List Net)) : le (fe v91_ v1 v2) (fe v91_' v1 v2) := by
 unfold fe
 repeat' (first | (with_reducible exact le_refl _) | exact hv91_ _ | exact s_l9Flat_s9_le hv91_ _ _ _ | refine az (s_l9Flat_s9_le hv91_ _ _) _ | refine bj ?_ (fun _ => ?_) | refine bm ?_ ?_ | refine di ?_ | refine bn (fun _ => ?_) | refine bO (fun _ => ?_) (fun _ => ?_) _ | refine az ?_ _)
theorem con_s_l9Flat_step (v91_ : (Net → Option Net)) (ihv9001 : ∀ (v1 : Net) (rz : Net), v91_ v1 = some rz → Con Tryz.prog C0 271 [.agg [.sc (.int .i64 (v1.Kind)), .sc (.int .i64 (v1.One_Op)), .fz 3 (R aa (v1.One_Args)), .fz 4 (R aq (v1.Kids))]] [] (fun x σ' => x = .agg [.sc (.int .i64 (rz.Kind)), .sc (.int .i64 (rz.One_Op)), .fz 3 (R aa (rz.One_Args)), .fz 4 (R aq (rz.Kids))] ∧ σ' = [])) (v1 : Int) (v2 : (List Net)) (rz : Net) (h : fe v91_ v1 v2 = some rz) : Con Tryz.prog C0 284 [.sc (.int .i64 (v1)), .fz 4 (R aq (v2))] []
  (fun x σ' => x = .agg [.sc (.int .i64 (rz.Kind)), .sc (.int .i64 (rz.One_Op)), .fz 3 (R aa (rz.One_Args)), .fz 4 (R aq (rz.Kids))] ∧ σ' = []) := by
 refine zCon hP 0 [0, 1, 4, 5, 6, 7, 13, 24, 40] [.cell 4 133] Tryz.func284 (by unfold Tryz.f284; rfl) fun Q hQ => ?_
 unfold fe at h
 refine zS z0 (zS z0 ?_)
 refine zCut (fun (x : (List Net)) => ⟨[(4, .pt 0 0), (5, .pt 1 0)], [.rc [.sc (.int .i64 (0)), .sc (.int .i64 (0)), .sc (.slice none 0 0), .sc (.slice none 0 0)], .rc [.sc (.int .i64 (v1)), .sc (.int .i64 (0)), .sc (.slice none 0 0), .sl 2 0 ((x).length)], .arr true 4 (R aq (x))]⟩) (s_l9Flat_j5 v1) rz ?_ ?_
 ·rintro _ v21 h
  simp only [s_l9Flat_j5] at h
  refine sC fun k64 hk64 => zS z0 ?_
  revert h; refine zI rfl ?_ ?_ <;> intro h
  ·obtain ⟨v22, h, c67⟩ := bN 0 h
   refine zS (zRF c67) (ab ?_)
   refine r_cR hk64 ?_
   cases h
   refine zAR hQ
  ·refine ae (r_cN hk64 ?_)
   refine zS z0 (ab ?_)
   cases h
   refine zARw hQ
 ·intro k70 hk70 J69
  refine zS z0 (sB fun k72 hk72 => ?_)
  obtain ⟨oq113, hLq113, hKq113⟩ := bS h
  clear h
  refine eg [0, 1, 4, 5, 6] [0, 1, 2000003] (fun (_ : Unit) (x : ((List Net) × Int)) => (⟨[(0, .sc (.int .i64 (v1))), (1, .fz 4 (R aq (v2))), (4, .pt 0 0), (5, .pt 1 0), (6, .sc (.int .i64 (x.2)))], [.rc [.sc (.int .i64 (0)), .sc (.int .i64 (0)), .sc (.slice none 0 0), .sc (.slice none 0 0)], .rc [.sc (.int .i64 (v1)), .sc (.int .i64 (0)), .sc (.slice none 0 0), .sl 2 0 ((x.1).length)], .arr true 4 (R aq (x.1))]⟩ : St)) (fun (_ : Unit) (x : ((List Net) × Int)) => True) (gf v1 v2 v91_) () ([], 0) hLq113 (by rfl) (by rfl) ⟨?_, trivial⟩ ?_
  ·exact zSd
  ·rintro nq113 _ ⟨v28, v29⟩ xq113 kq113 hkq113 - h hIq113 hEq113
   simp only [gf] at h
   refine sC fun k114 hk114 => zS z0 ?_
   revert h; refine zI rfl ?_ ?_ <;> intro h
   ·refine ae (r_cN hk114 ?_)
    refine zCut (fun (x : (List Net)) => ⟨[(0, .sc (.int .i64 (v1))), (1, .fz 4 (R aq (v2))), (4, .pt 0 0), (5, .pt 1 0), (6, .sc (.int .i64 (v29)))], [.rc [.sc (.int .i64 (0)), .sc (.int .i64 (0)), .sc (.slice none 0 0), .sc (.slice none 0 0)], .rc [.sc (.int .i64 (v1)), .sc (.int .i64 (0)), .sc (.slice none 0 0), .sl 2 0 ((x).length)], .arr true 4 (R aq (x))]⟩) (s_l9Flat_j16 v29) xq113 ?_ ?_
    ·rintro _ v38 h
     simp only [s_l9Flat_j16] at h
     refine zU z0 (zB hkq113 h hIq113 () trivial)
    ·intro k124 hk124 J123
     refine sB fun k125 hk125 => ?_
     obtain ⟨v39, h, c127⟩ := bI h
     obtain ⟨v40, c128H, h⟩ := bS h
     refine zS (zC1F (lC [] (ihv9001 _ _ c128H)) c127) (zS z0 ?_)
     revert h; refine zI rfl ?_ ?_ <;> intro h
     ·obtain ⟨g130, h⟩ := gAp h
      refine zU (zRF g130) (r_bN hk125 ?_)
      refine zJ J123 [0, 1, 4, 5, 6] () _ h
     ·obtain ⟨g131, h⟩ := gAp h
      refine zU (zRF g131) (r_bN hk125 ?_)
      refine zJ J123 [0, 1, 4, 5, 6] () _ h
   ·refine aK (r_cE hk114 ?_)
    replace h := zX h hEq113 hKq113
    refine r_kE hkq113 (r_bE hk72 ?_)
    refine zJ J69 [4, 5] () _ h
def bg : Nat → (Net → Option Net) × (Int → (List Net) → Option Net)
 | 0 => (fun _ => none, fun _ _ => none)
 | n + 1 => (fun v1 => gh ((bg n).1) ((bg n).2) v1, fun v1 v2 => fe ((bg n).1) v1 v2)
theorem s_l9Net_scc_mono : ∀ n, (∀ (v1 : Net), le ((bg n).1 v1) ((bg (n + 1)).1 v1)) ∧ (∀ (v1 : Int) (v2 : (List Net)), le ((bg n).2 v1 v2) ((bg (n + 1)).2 v1 v2)) := by
 intro n
 induction n with
 | zero => exact ⟨fun _ => le_none _, fun _ _ => le_none _⟩
 | succ n ih => exact ⟨fun v1 => s_l9Net_rec_le ih.1 ih.2 v1, fun v1 v2 => s_l9Flat_rec_le ih.1 v1 v2⟩
def s_l9Net (v1 : Net) : Option Net := lim fun n => (bg n).1 v1
theorem s_l9Net_up (v1 : Net) {n : Nat} {r : Net} (e : (bg n).1 v1 = some r) : s_l9Net v1 = some r := lim_eq (fun n => (s_l9Net_scc_mono n).1 v1) e
def s_l9Flat (v1 : Int) (v2 : (List Net)) : Option Net := lim fun n => (bg n).2 v1 v2
theorem s_l9Flat_up (v1 : Int) (v2 : (List Net)) {n : Nat} {r : Net} (e : (bg n).2 v1 v2 = some r) : s_l9Flat v1 v2 = some r := lim_eq (fun n => (s_l9Net_scc_mono n).2 v1 v2) e
theorem con_s_l9Net_scc : ∀ n, (∀ (v1 : Net) (rz : Net), (bg n).1 v1 = some rz → Con Tryz.prog C0 271 [.agg [.sc (.int .i64 (v1.Kind)), .sc (.int .i64 (v1.One_Op)), .fz 3 (R aa (v1.One_Args)), .fz 4 (R aq (v1.Kids))]] [] (fun x σ' => x = .agg [.sc (.int .i64 (rz.Kind)), .sc (.int .i64 (rz.One_Op)), .fz 3 (R aa (rz.One_Args)), .fz 4 (R aq (rz.Kids))] ∧ σ' = [])) ∧ (∀ (v1 : Int) (v2 : (List Net)) (rz : Net), (bg n).2 v1 v2 = some rz → Con Tryz.prog C0 284 [.sc (.int .i64 (v1)), .fz 4 (R aq (v2))] [] (fun x σ' => x = .agg [.sc (.int .i64 (rz.Kind)), .sc (.int .i64 (rz.One_Op)), .fz 3 (R aa (rz.One_Args)), .fz 4 (R aq (rz.Kids))] ∧ σ' = [])) := by
 intro n
 induction n with
 | zero =>
  refine ⟨?_, ?_⟩
  ·intro v1 rz h; cases h
  ·intro v1 v2 rz h; cases h
 | succ n ih =>
  refine ⟨?_, ?_⟩
  ·exact fun v1 rz h => con_s_l9Net_step ((bg n).1) ((bg n).2) (ih.1) (ih.2) v1 rz h
  ·exact fun v1 v2 rz h => con_s_l9Flat_step ((bg n).1) (ih.1) v1 v2 rz h
theorem con_s_l9Net (v1 : Net) (rz : Net) (h : s_l9Net v1 = some rz) : Con Tryz.prog C0 271 [.agg [.sc (.int .i64 (v1.Kind)), .sc (.int .i64 (v1.One_Op)), .fz 3 (R aa (v1.One_Args)), .fz 4 (R aq (v1.Kids))]] []
  (fun x σ' => x = .agg [.sc (.int .i64 (rz.Kind)), .sc (.int .i64 (rz.One_Op)), .fz 3 (R aa (rz.One_Args)), .fz 4 (R aq (rz.Kids))] ∧ σ' = []) := by
 obtain ⟨n, hn⟩ := en h
 exact (con_s_l9Net_scc n).1 v1 _ hn
theorem con_s_l9Flat (v1 : Int) (v2 : (List Net)) (rz : Net) (h : s_l9Flat v1 v2 = some rz) : Con Tryz.prog C0 284 [.sc (.int .i64 (v1)), .fz 4 (R aq (v2))] []
  (fun x σ' => x = .agg [.sc (.int .i64 (rz.Kind)), .sc (.int .i64 (rz.One_Op)), .fz 3 (R aa (rz.One_Args)), .fz 4 (R aq (rz.Kids))] ∧ σ' = []) := by
 obtain ⟨n, hn⟩ := en h
 exact (con_s_l9Net_scc n).2 v1 v2 _ hn
def s_l9Join (v1 : Net) (v2 : Net) : Option Net :=
 ((gG v1).bind fun v3 => (cond v3 (some v2) ((gG v2).bind fun v4 => (cond v4 (some v1) ((s_l9Flat 2 [v1, v2]).bind fun v5 => (some v5))))))
theorem con_s_l9Join (v1 : Net) (v2 : Net) (rz : Net) (h : s_l9Join v1 v2 = some rz) : Con Tryz.prog C0 272 [.agg [.sc (.int .i64 (v1.Kind)), .sc (.int .i64 (v1.One_Op)), .fz 3 (R aa (v1.One_Args)), .fz 4 (R aq (v1.Kids))], .agg [.sc (.int .i64 (v2.Kind)), .sc (.int .i64 (v2.One_Op)), .fz 3 (R aa (v2.One_Args)), .fz 4 (R aq (v2.Kids))]] []
  (fun x σ' => x = .agg [.sc (.int .i64 (rz.Kind)), .sc (.int .i64 (rz.One_Op)), .fz 3 (R aa (rz.One_Args)), .fz 4 (R aq (rz.Kids))] ∧ σ' = []) := by
 refine zCon hP 0 [0, 1, 2, 3, 4, 6, 9] [.cell 4 133] Tryz.func272 (by unfold Tryz.f272; rfl) fun Q hQ => ?_
 unfold s_l9Join at h
 refine zS z0 (sC fun k2 hk2 => ?_)
 obtain ⟨v3, c4H, h⟩ := bS h
 refine zS (zC1 (lF [] (ey _ _ c4H))) ?_
 revert h; refine zI rfl ?_ ?_ <;> intro h
 ·refine zS z0 (ab ?_)
  refine r_cR hk2 ?_
  cases h
  refine zAR hQ
 ·refine ae (r_cN hk2 ?_)
  refine sC fun k6 hk6 => ?_
  obtain ⟨v4, c8H, h⟩ := bS h
  refine zS (zC1 (lF [] (ey _ _ c8H))) ?_
  revert h; refine zI rfl ?_ ?_ <;> intro h
  ·refine zS z0 (ab ?_)
   refine r_cR hk6 ?_
   cases h
   refine zAR hQ
  ·refine ae (r_cN hk6 ?_)
   obtain ⟨v5, c11H, h⟩ := bS h
   refine zS (zC1 (lC [] (con_s_l9Flat _ _ _ c11H))) (ab ?_)
   cases h
   refine zAR hQ
def s_l9Arm_j26 : (Int × Int × (List DevArg) × (List Net) × (List Elem) × (List Arm)) → Option Arm
 | (v44, v45, v46, v47, v48, v49) => (some (⟨v44, v45, v46, v47, v48, v49⟩ : Arm))
def s_l9Arm_s28 : (Int × Int × (List DevArg) × (List Net) × (List Elem) × (List Arm)) → Option ((Int × Int × (List DevArg) × (List Net) × (List Elem) × (List Arm)) ⊕ (Int × Int × (List DevArg) × (List Net) × (List Elem) × (List Arm)))
 | (v56, v57, v58, v59, v60, v61) => (cond (((v61).length : Int) == 1) (cond ((((v60).length : Nat) : Int) == 0) ((idx v61 (0)).bind fun v71 => ((s_l9Join (⟨v56, v57, v58, v59⟩ : Net) (⟨v71.Net_Kind, v71.Net_One_Op, v71.Net_One_Args, v71.Net_Kids⟩ : Net)).bind fun v72 => (gd (apOk ((v60 ++ v71.Coils)).length 32) (some (.inl (v72.Kind, v72.One_Op, v72.One_Args, v72.Kids, (v60 ++ v71.Coils), v71.Kids)))))) ((idx v61 (0)).bind fun v69 => ((gG (⟨v69.Net_Kind, v69.Net_One_Op, v69.Net_One_Args, v69.Net_Kids⟩ : Net)).bind fun v70 => (cond v70 ((idx v61 (0)).bind fun v73 => ((s_l9Join (⟨v56, v57, v58, v59⟩ : Net) (⟨v73.Net_Kind, v73.Net_One_Op, v73.Net_One_Args, v73.Net_Kids⟩ : Net)).bind fun v74 => (gd (apOk ((v60 ++ v73.Coils)).length 32) (some (.inl (v74.Kind, v74.One_Op, v74.One_Args, v74.Kids, (v60 ++ v73.Coils), v73.Kids)))))) (some (.inr (v56, v57, v58, v59, v60, v61))))))) (some (.inr (v56, v57, v58, v59, v60, v61))))
def s_l9Arm_j11 (v2 : (List Elem)) (v5 : Int) (v6 : Int) (v7 : (List DevArg)) (v8 : (List Net)) : (List Arm) → Option Arm
 | v18 => ((loop s_l9Arm_s28 (v5, v6, v7, v8, v2, v18)).bind (fun v68 => (s_l9Arm_j26 (v68.1, v68.2.1, v68.2.2.1, v68.2.2.2.1, v68.2.2.2.2.1, v68.2.2.2.2.2))))
def fY (v1 : Arm) (v91_ : (Arm → Option Arm)) : ((List Arm) × Int) → Option (((List Arm) × Int) ⊕ (List Arm))
 | (v77, v78) => (cond (decide (v78 < ((v1.Kids).length : Int))) ((idx v1.Kids (v78)).bind fun v82 => ((v91_ v82).bind fun v83 => (gd (apOk ((v77 ++ [v83])).length 112) (some (.inl ((v77 ++ [v83]), (IntKind.i64.wrap (v78 + 1)))))))) (some (.inr v77)))
def gm (v1 : Arm) (v2 : (List Elem)) (v91_ : (Arm → Option Arm)) : (Int × Int × (List DevArg) × (List Net)) → Option Arm
 | (v5, v6, v7, v8) => ((loop (fY v1 v91_) ([], 0)).bind (fun v81 => (s_l9Arm_j11 v2 v5 v6 v7 v8 v81)))
def gj (v91_ : (Arm → Option Arm)) (v1 : Arm) : Option Arm :=
 ((s_l9Coils v1.Coils).bind fun v2 => ((gG (⟨v1.Net_Kind, v1.Net_One_Op, v1.Net_One_Args, v1.Net_Kids⟩ : Net)).bind fun v84 => (cond (!v84) ((s_l9Net (⟨v1.Net_Kind, v1.Net_One_Op, v1.Net_One_Args, v1.Net_Kids⟩ : Net)).bind fun v85 => (gm v1 v2 v91_ (v85.Kind, v85.One_Op, v85.One_Args, v85.Kids))) (gm v1 v2 v91_ (0, 0, [], [])))))
theorem s_l9Arm_s15_le {v91_ v91_' : (Arm → Option Arm)} (hv91_ : ∀ a0, le (v91_ a0) (v91_' a0)) (v1 : Arm) : ∀ x, le (fY v1 v91_ x) (fY v1 v91_' x) := by
 rintro ⟨v77, v78⟩
 simp only [fY]
 repeat' (first | (with_reducible exact le_refl _) | exact hv91_ _ | refine bj ?_ (fun _ => ?_) | refine bm ?_ ?_ | refine di ?_ | refine bn (fun _ => ?_) | refine bO (fun _ => ?_) (fun _ => ?_) _ | refine az ?_ _)
theorem s_l9Arm_j5_le {v91_ v91_' : (Arm → Option Arm)} (hv91_ : ∀ a0, le (v91_ a0) (v91_' a0)) (v1 : Arm) (v2 : (List Elem)) : ∀ x, le (gm v1 v2 v91_ x) (gm v1 v2 v91_' x) := by
 rintro ⟨v5, v6, v7, v8⟩
 simp only [gm]
 repeat' (first | (with_reducible exact le_refl _) | exact hv91_ _ | exact s_l9Arm_s15_le hv91_ _ _ | refine az (s_l9Arm_s15_le hv91_ _) _ | refine bj ?_ (fun _ => ?_) | refine bm ?_ ?_ | refine di ?_ | refine bn (fun _ => ?_) | refine bO (fun _ => ?_) (fun _ => ?_) _ | refine az ?_ _)
theorem s_l9Arm_rec_le {v91_ v91_' : (Arm → Option Arm)} (hv91_ : ∀ a0, le (v91_ a0) (v91_' a0)) (v1 : Arm) : le (gj v91_ v1) (gj v91_' v1) := by
 unfold gj
 repeat' (first | (with_reducible exact le_refl _) | exact hv91_ _ | exact s_l9Arm_s15_le hv91_ _ _ | refine az (s_l9Arm_s15_le hv91_ _) _ | exact s_l9Arm_j5_le hv91_ _ _ _ | refine az (s_l9Arm_j5_le hv91_ _ _) _ | refine bj ?_ (fun _ => ?_) | refine bm ?_ ?_ | refine di ?_ | refine bn (fun _ => ?_) | refine bO (fun _ => ?_) (fun _ => ?_) _ | refine az ?_ _)
theorem con_s_l9Arm_step (v91_ : (Arm → Option Arm)) (ihv9001 : ∀ (v1 : Arm) (rz : Arm), v91_ v1 = some rz → Con Tryz.prog C0 248 [.agg [.sc (.int .i64 (v1.Net_Kind)), .sc (.int .i64 (v1.Net_One_Op)), .fz 3 (R aa (v1.Net_One_Args)), .fz 4 (R aq (v1.Net_Kids)), .fz 2 (R aE (v1.Coils)), .fz 6 (R aO (v1.Kids))]] [] (fun x σ' => x = .agg [.sc (.int .i64 (rz.Net_Kind)), .sc (.int .i64 (rz.Net_One_Op)), .fz 3 (R aa (rz.Net_One_Args)), .fz 4 (R aq (rz.Net_Kids)), .fz 2 (R aE (rz.Coils)), .fz 6 (R aO (rz.Kids))] ∧ σ' = [])) (v1 : Arm) (rz : Arm) (h : gj v91_ v1 = some rz) : Con Tryz.prog C0 248 [.agg [.sc (.int .i64 (v1.Net_Kind)), .sc (.int .i64 (v1.Net_One_Op)), .fz 3 (R aa (v1.Net_One_Args)), .fz 4 (R aq (v1.Net_Kids)), .fz 2 (R aE (v1.Coils)), .fz 6 (R aO (v1.Kids))]] []
  (fun x σ' => x = .agg [.sc (.int .i64 (rz.Net_Kind)), .sc (.int .i64 (rz.Net_One_Op)), .fz 3 (R aa (rz.Net_One_Args)), .fz 4 (R aq (rz.Net_Kids)), .fz 2 (R aE (rz.Coils)), .fz 6 (R aO (rz.Kids))] ∧ σ' = []) := by
 refine zCon hP 0 [0, 1, 2, 3, 4, 5, 13, 22, 53] [.cell 2 136] Tryz.func248 (by unfold Tryz.f248; rfl) fun Q hQ => ?_
 unfold gj at h
 refine zS z0 ?_
 obtain ⟨v2, c3H, h⟩ := bS h
 refine zS (zC1 (lC [] (con_s_l9Coils _ _ c3H))) (zCut (fun (x : (Int × Int × (List DevArg) × (List Net))) => ⟨[(1, .pt 0 0), (2, .pt 1 0), (3, .pt 2 0)], [.rc [.sc (.int .i64 (v1.Net_Kind)), .sc (.int .i64 (v1.Net_One_Op)), .fz 3 (R aa (v1.Net_One_Args)), .fz 4 (R aq (v1.Net_Kids)), .fz 2 (R aE (v1.Coils)), .fz 6 (R aO (v1.Kids))], .rc [.sc (.int .i64 (0)), .sc (.int .i64 (0)), .sc (.slice none 0 0), .sc (.slice none 0 0), .sc (.slice none 0 0), .sc (.slice none 0 0)], .rc [.sc (.int .i64 (x.1)), .sc (.int .i64 (x.2.1)), .fz 3 (R aa (x.2.2.1)), .fz 4 (R aq (x.2.2.2)), .sl 3 0 ((v2).length), .sc (.slice none 0 0)], .arr true 2 (R aE (v2))]⟩) (gm v1 v2 v91_) rz ?_ ?_)
 ·rintro _ ⟨v5, v6, v7, v8⟩ h
  simp only [gm] at h
  refine zCut (fun (x : (List Arm)) => ⟨[(2, .pt 0 0), (3, .pt 1 0)], [.rc [.sc (.int .i64 (0)), .sc (.int .i64 (0)), .sc (.slice none 0 0), .sc (.slice none 0 0), .sc (.slice none 0 0), .sc (.slice none 0 0)], .rc [.sc (.int .i64 (v5)), .sc (.int .i64 (v6)), .fz 3 (R aa (v7)), .fz 4 (R aq (v8)), .sl 2 0 ((v2).length), .sl 3 0 ((x).length)], .arr true 2 (R aE (v2)), .arr true 6 (R aO (x))]⟩) (s_l9Arm_j11 v2 v5 v6 v7 v8) rz ?_ ?_
  ·rintro _ v18 h
   simp only [s_l9Arm_j11] at h
   refine zCut (fun (x : (Int × Int × (List DevArg) × (List Net) × (List Elem) × (List Arm))) => ⟨[(2, .pt 0 0), (3, .pt 1 0)], [.rc [.sc (.int .i64 (0)), .sc (.int .i64 (0)), .sc (.slice none 0 0), .sc (.slice none 0 0), .sc (.slice none 0 0), .sc (.slice none 0 0)], .rc [.sc (.int .i64 (x.1)), .sc (.int .i64 (x.2.1)), .fz 3 (R aa (x.2.2.1)), .fz 4 (R aq (x.2.2.2.1)), .sl 2 0 ((x.2.2.2.2.1).length), .fz 6 (R aO (x.2.2.2.2.2))], .arr true 2 (R aE (x.2.2.2.2.1))]⟩) s_l9Arm_j26 rz ?_ ?_
   ·rintro _ ⟨v44, v45, v46, v47, v48, v49⟩ h
    simp only [s_l9Arm_j26] at h
    refine zS z0 (ab ?_)
    cases h
    refine zAR hQ
   ·intro k95 hk95 J94
    refine sB fun k96 hk96 => ?_
    obtain ⟨oq137, hLq137, hKq137⟩ := bS h
    clear h
    refine eg [2, 3] [0, 1, 2] (fun (_ : Unit) (x : (Int × Int × (List DevArg) × (List Net) × (List Elem) × (List Arm))) => (⟨[(2, .pt 0 0), (3, .pt 1 0)], [.rc [.sc (.int .i64 (0)), .sc (.int .i64 (0)), .sc (.slice none 0 0), .sc (.slice none 0 0), .sc (.slice none 0 0), .sc (.slice none 0 0)], .rc [.sc (.int .i64 (x.1)), .sc (.int .i64 (x.2.1)), .fz 3 (R aa (x.2.2.1)), .fz 4 (R aq (x.2.2.2.1)), .sl 2 0 ((x.2.2.2.2.1).length), .fz 6 (R aO (x.2.2.2.2.2))], .arr true 2 (R aE (x.2.2.2.2.1))]⟩ : St)) (fun (_ : Unit) (x : (Int × Int × (List DevArg) × (List Net) × (List Elem) × (List Arm))) => True) s_l9Arm_s28 () (v5, v6, v7, v8, v2, v18) hLq137 (by rfl) (by rfl) ⟨?_, trivial⟩ ?_
    ·exact zSd
    ·rintro nq137 _ ⟨v56, v57, v58, v59, v60, v61⟩ xq137 kq137 hkq137 - h hIq137 hEq137
     simp only [s_l9Arm_s28] at h
     refine sC fun k138 hk138 => sC fun k139 hk139 => ?_
     rcases bE (((v61).length : Int) == 1) with g140 | g140
     ·replace h := ak h g140
      rcases bE ((((v60).length : Nat) : Int) == 0) with g141 | g141
      ·replace h := ak h g141
       refine zU (zRF (a2 g140 g141)) (r_cN hk139 ?_)
       refine bM rfl ?_
       try replace h := ak h rfl
       refine ae (r_cN hk138 ?_)
       refine sB fun k142 hk142 => ?_
       obtain ⟨v71, h, c144⟩ := bN 0 h
       refine zS (zRF c144) ?_
       obtain ⟨v72, c146H, h⟩ := bS h
       refine zS (zC1 (lC [] (con_s_l9Join _ _ _ c146H))) ?_
       obtain ⟨g148, h⟩ := gAp h
       refine zS (zRF g148) (zU z0 ?_)
       refine r_bN hk142 (zB hkq137 h hIq137 () trivial)
      ·replace h := av h g141
       obtain ⟨v69, h, c149⟩ := bN 0 h
       obtain ⟨v70, c150H, h⟩ := bS h
       refine zU (zC1F (lF [] (ey _ _ c150H)) (a3 g140 g141 c149)) (r_cN hk139 ?_)
       revert h; refine zI rfl ?_ ?_ <;> intro h
       ·refine ae (r_cN hk138 ?_)
        refine sB fun k151 hk151 => ?_
        obtain ⟨v73, h, c153⟩ := bN 0 h
        refine zS (zRF c153) ?_
        obtain ⟨v74, c155H, h⟩ := bS h
        refine zS (zC1 (lC [] (con_s_l9Join _ _ _ c155H))) ?_
        obtain ⟨g157, h⟩ := gAp h
        refine zS (zRF g157) (zU z0 ?_)
        refine r_bN hk151 (zB hkq137 h hIq137 () trivial)
       ·refine aK (r_cE hk138 ?_)
        replace h := zX h hEq137 hKq137
        refine r_kE hkq137 (r_bE hk96 ?_)
        refine zJ J94 [2, 3] () _ h
     ·replace h := av h g140
      refine zU (zRF g140) (r_cN hk139 ?_)
      refine sem_ifF rfl ?_
      try replace h := av h rfl
      refine aK (r_cE hk138 ?_)
      replace h := zX h hEq137 hKq137
      refine r_kE hkq137 (r_bE hk96 ?_)
      refine zJ J94 [2, 3] () _ h
  ·intro k159 hk159 J158
   refine zS z0 (sB fun k161 hk161 => ?_)
   obtain ⟨oq176, hLq176, hKq176⟩ := bS h
   clear h
   refine eg [1, 2, 3, 4] [0, 1, 2, 3, 2000005] (fun (_ : Unit) (x : ((List Arm) × Int)) => (⟨[(1, .pt 0 0), (2, .pt 1 0), (3, .pt 2 0), (4, .sc (.int .i64 (x.2)))], [.rc [.sc (.int .i64 (v1.Net_Kind)), .sc (.int .i64 (v1.Net_One_Op)), .fz 3 (R aa (v1.Net_One_Args)), .fz 4 (R aq (v1.Net_Kids)), .fz 2 (R aE (v1.Coils)), .fz 6 (R aO (v1.Kids))], .rc [.sc (.int .i64 (0)), .sc (.int .i64 (0)), .sc (.slice none 0 0), .sc (.slice none 0 0), .sc (.slice none 0 0), .sc (.slice none 0 0)], .rc [.sc (.int .i64 (v5)), .sc (.int .i64 (v6)), .fz 3 (R aa (v7)), .fz 4 (R aq (v8)), .sl 3 0 ((v2).length), .sl 4 0 ((x.1).length)], .arr true 2 (R aE (v2)), .arr true 6 (R aO (x.1))]⟩ : St)) (fun (_ : Unit) (x : ((List Arm) × Int)) => True) (fY v1 v91_) () ([], 0) hLq176 (by rfl) (by rfl) ⟨?_, trivial⟩ ?_
   ·exact zSd
   ·rintro nq176 _ ⟨v77, v78⟩ xq176 kq176 hkq176 - h hIq176 hEq176
    simp only [fY] at h
    refine sC fun k177 hk177 => zS z0 ?_
    revert h; refine zI rfl ?_ ?_ <;> intro h
    ·refine ae (r_cN hk177 ?_)
     refine sC fun k179 hk179 => sB fun k180 hk180 => ?_
     obtain ⟨v82, h, c181⟩ := bI h
     obtain ⟨v83, c182H, h⟩ := bS h
     obtain ⟨g183, h⟩ := gAp h
     refine zU (zPC1F (.take 0 (.take 1 (.take 2 (.take 3 (.take 4 (.take 5 (.take 6 (.one 7 (.one 8 (.one 9 (.take 10 (.last 11 .done)))))))))))) [0, 2] (lC [] (ihv9001 _ _ c182H)) (a2 c181 g183)) (r_bN hk180 ?_)
     refine r_cN hk179 (zU z0 ?_)
     refine zB hkq176 h hIq176 () trivial
    ·refine aK (r_cE hk177 ?_)
     replace h := zX h hEq176 hKq176
     refine r_kE hkq176 (r_bE hk161 ?_)
     refine zJ J158 [2, 3] () _ h
 ·intro k185 hk185 J184
  obtain ⟨v84, c187H, h⟩ := bS h
  refine zS (zC1 (lF [] (ey _ _ c187H))) ?_
  revert h; refine zI rfl ?_ ?_ <;> intro h
  ·obtain ⟨v85, c188H, h⟩ := bS h
   refine zU (zC1 (lC [] (con_s_l9Net _ _ c188H))) (zJ J184 [1, 2, 3] () _ h)
  ·refine ae (zJw J184 [1, 2, 3] () _ h)
def eH : Nat → (Arm → Option Arm)
 | 0 => fun _ => none
 | n + 1 => fun v1 => gj (eH n) v1
theorem s_l9Arm_scc_mono : ∀ n, (∀ (v1 : Arm), le ((eH n) v1) ((eH (n + 1)) v1)) := by
 intro n
 induction n with
 | zero => exact fun _ => le_none _
 | succ n ih => exact fun v1 => s_l9Arm_rec_le ih v1
def s_l9Arm (v1 : Arm) : Option Arm := lim fun n => (eH n) v1
theorem s_l9Arm_up (v1 : Arm) {n : Nat} {r : Arm} (e : (eH n) v1 = some r) : s_l9Arm v1 = some r := lim_eq (fun n => (s_l9Arm_scc_mono n) v1) e
theorem con_s_l9Arm_scc : ∀ n, (∀ (v1 : Arm) (rz : Arm), (eH n) v1 = some rz → Con Tryz.prog C0 248 [.agg [.sc (.int .i64 (v1.Net_Kind)), .sc (.int .i64 (v1.Net_One_Op)), .fz 3 (R aa (v1.Net_One_Args)), .fz 4 (R aq (v1.Net_Kids)), .fz 2 (R aE (v1.Coils)), .fz 6 (R aO (v1.Kids))]] [] (fun x σ' => x = .agg [.sc (.int .i64 (rz.Net_Kind)), .sc (.int .i64 (rz.Net_One_Op)), .fz 3 (R aa (rz.Net_One_Args)), .fz 4 (R aq (rz.Net_Kids)), .fz 2 (R aE (rz.Coils)), .fz 6 (R aO (rz.Kids))] ∧ σ' = [])) := by
 intro n
 induction n with
 | zero =>
  intro v1 rz h; cases h
 | succ n ih =>
  exact fun v1 rz h => con_s_l9Arm_step (eH n) (ih) v1 rz h
theorem con_s_l9Arm (v1 : Arm) (rz : Arm) (h : s_l9Arm v1 = some rz) : Con Tryz.prog C0 248 [.agg [.sc (.int .i64 (v1.Net_Kind)), .sc (.int .i64 (v1.Net_One_Op)), .fz 3 (R aa (v1.Net_One_Args)), .fz 4 (R aq (v1.Net_Kids)), .fz 2 (R aE (v1.Coils)), .fz 6 (R aO (v1.Kids))]] []
  (fun x σ' => x = .agg [.sc (.int .i64 (rz.Net_Kind)), .sc (.int .i64 (rz.Net_One_Op)), .fz 3 (R aa (rz.Net_One_Args)), .fz 4 (R aq (rz.Net_Kids)), .fz 2 (R aE (rz.Coils)), .fz 6 (R aO (rz.Kids))] ∧ σ' = []) := by
 obtain ⟨n, hn⟩ := en h
 exact (con_s_l9Arm_scc n) v1 _ hn
def s_NormMake_j13 : (List Arm) → Option (List Arm)
 | v12 => (some v12)
def hY (v1 : (List Arm)) : ((List Arm) × Int) → Option (((List Arm) × Int) ⊕ (List Arm))
 | (v15, v16) => (cond (decide (v16 < ((v1).length : Int))) ((idx v1 (v16)).bind fun v20 => ((s_l9Arm v20).bind fun v21 => (gd (apOk ((v15 ++ [v21])).length 112) (some (.inl ((v15 ++ [v21]), (IntKind.i64.wrap (v16 + 1)))))))) (some (.inr v15)))
def s_NormMake (v1 : (List Arm)) : Option (List Arm) :=
 ((s_TreeCheck v1).bind fun v2 => (cond (decide (v2.Code > 0)) (some []) ((loop (hY v1) ([], 0)).bind (fun v19 => (s_NormMake_j13 v19)))))
theorem con_s_NormMake (v1 : (List Arm)) (rz : (List Arm)) (h : s_NormMake v1 = some rz) : Con Tryz.prog C0 199 [.fz 6 (R aO (v1))] []
  (fun x σ' => x = .sl 0 0 ((rz).length) ∧ σ' = [.arr true 6 (R aO (rz))]) := by
 refine zCon hP 0 [0, 2, 3, 4, 8, 13] [.tmp 2] Tryz.func199 (by unfold Tryz.f199; rfl) fun Q hQ => ?_
 unfold s_NormMake at h
 refine zS z0 (sC fun k2 hk2 => ?_)
 obtain ⟨v2, c4H, h⟩ := bS h
 refine zS (zC1 (lF [] (con_s_TreeCheck _ _ c4H))) ?_
 revert h; refine zI rfl ?_ ?_ <;> intro h
 ·refine zS z0 (ab ?_)
  refine r_cR hk2 ?_
  cases h
  refine zVRw [2000005] hQ
 ·refine ae (r_cN hk2 ?_)
  refine zS z0 (zCut (fun (x : (List Arm)) => ⟨[(3, .sl 0 0 ((x).length))], [.arr true 6 (R aO (x))]⟩) s_NormMake_j13 rz ?_ ?_)
  ·rintro _ v12 h
   simp only [s_NormMake_j13] at h
   refine zS z0 (ab ?_)
   cases h
   refine zOR hQ
  ·intro k33 hk33 J32
   refine zS z0 (sB fun k35 hk35 => ?_)
   obtain ⟨oq50, hLq50, hKq50⟩ := bS h
   clear h
   refine ay [0, 3, 4] (fun (_ : Unit) (x : ((List Arm) × Int)) => (⟨[(0, .fz 6 (R aO (v1))), (3, .sl 0 0 ((x.1).length)), (4, .sc (.int .i64 (x.2)))], [.arr true 6 (R aO (x.1))]⟩ : St)) (fun (_ : Unit) (x : ((List Arm) × Int)) => True) (hY v1) () ([], 0) hLq50 (by rfl) (by rfl) ⟨?_, trivial⟩ ?_
   ·exact zSa
   ·rintro nq50 _ ⟨v15, v16⟩ xq50 kq50 hkq50 - h hIq50 hEq50
    simp only [hY] at h
    refine sC fun k51 hk51 => zS z0 ?_
    revert h; refine zI rfl ?_ ?_ <;> intro h
    ·refine ae (r_cN hk51 ?_)
     refine sC fun k53 hk53 => sB fun k54 hk54 => ?_
     obtain ⟨v20, h, c55⟩ := bI h
     obtain ⟨v21, c56H, h⟩ := bS h
     obtain ⟨g57, h⟩ := gAp h
     refine zU (zC1F (lC [] (con_s_l9Arm _ _ c56H)) (a2 c55 g57)) (r_bN hk54 ?_)
     refine r_cN hk53 (zU z0 ?_)
     refine zB hkq50 h hIq50 () trivial
    ·refine aK (r_cE hk51 ?_)
     replace h := zX h hEq50 hKq50
     refine r_kE hkq50 (r_bE hk35 ?_)
     refine zJ J32 [3] () _ h
def cI (v1 : Int) (v2 : Int) : Option Int :=
 (cond (decide (v1 > v2)) (some v1) (some v2))
theorem da (v1 : Int) (v2 : Int) (rz : Int) (h : cI v1 v2 = some rz) : Con Tryz.prog C0 200 [.sc (.int .i64 (v1)), .sc (.int .i64 (v2))] []
  (fun x σ' => x = .sc (.int .i64 (rz)) ∧ σ' = []) := by
 refine zCon hP 0 [0, 1, 4, 7] [.tmp 4] Tryz.func200 (by unfold Tryz.f200; rfl) fun Q hQ => ?_
 unfold cI at h
 refine zS z0 (sC fun k2 hk2 => ?_)
 refine zS z0 ?_
 revert h; refine zI rfl ?_ ?_ <;> intro h
 ·refine zS z0 (ab ?_)
  refine r_cR hk2 ?_
  cases h
  refine zAR hQ
 ·refine ae (r_cN hk2 ?_)
  refine zS z0 (ab ?_)
  cases h
  refine zAR hQ
def s_l14NetBits_j22 : Int → Option Int
 | v18 => (some v18)
def cS (v1 : Net) (v92_ : (Net → Option Int)) : (Int × Int) → Option ((Int × Int) ⊕ Int)
 | (v22, v23) => (cond (decide (v23 < ((v1.Kids).length : Int))) ((idx v1.Kids (v23)).bind fun v28 => ((v92_ v28).bind fun v29 => ((cI v22 v29).bind fun v30 => (some (.inl (v30, (IntKind.i64.wrap (v23 + 1)))))))) (some (.inr v22)))
def cU (v91_ : (Net → Option Int)) (v92_ : (Net → Option Int)) (v1 : Net) : Option Int :=
 (cond (v1.Kind == 1) (some 1) (cond (v1.Kind == 4) ((idx v1.Kids (0)).bind fun v2 => ((v91_ v2).bind fun v3 => (some v3))) ((idx v1.Kids (0)).bind fun v4 => ((v91_ v4).bind fun v5 => ((loop (cS v1 v92_) (v5, 1)).bind (fun v27 => (s_l14NetBits_j22 v27)))))))
theorem s_l14NetBits_s26_le {v92_ v92_' : (Net → Option Int)} (hv92_ : ∀ a0, le (v92_ a0) (v92_' a0)) (v1 : Net) : ∀ x, le (cS v1 v92_ x) (cS v1 v92_' x) := by
 rintro ⟨v22, v23⟩
 simp only [cS]
 repeat' (first | (with_reducible exact le_refl _) | exact hv92_ _ | refine bj ?_ (fun _ => ?_) | refine bm ?_ ?_ | refine di ?_ | refine bn (fun _ => ?_) | refine bO (fun _ => ?_) (fun _ => ?_) _ | refine az ?_ _)
theorem s_l14NetBits_rec_le {v91_ v91_' : (Net → Option Int)} (hv91_ : ∀ a0, le (v91_ a0) (v91_' a0)) {v92_ v92_' : (Net → Option Int)} (hv92_ : ∀ a0, le (v92_ a0) (v92_' a0)) (v1 : Net) : le (cU v91_ v92_ v1) (cU v91_' v92_' v1) := by
 unfold cU
 repeat' (first | (with_reducible exact le_refl _) | exact hv91_ _ | exact hv92_ _ | exact s_l14NetBits_s26_le hv92_ _ _ | refine az (s_l14NetBits_s26_le hv92_ _) _ | refine bj ?_ (fun _ => ?_) | refine bm ?_ ?_ | refine di ?_ | refine bn (fun _ => ?_) | refine bO (fun _ => ?_) (fun _ => ?_) _ | refine az ?_ _)
theorem con_s_l14NetBits_step (v91_ : (Net → Option Int)) (v92_ : (Net → Option Int)) (ihv9001 : ∀ (v1 : Net) (rz : Int), v91_ v1 = some rz → Con Tryz.prog C0 201 [.agg [.sc (.int .i64 (v1.Kind)), .sc (.int .i64 (v1.One_Op)), .fz 3 (R aa (v1.One_Args)), .fz 4 (R aq (v1.Kids))]] [] (fun x σ' => x = .sc (.int .i64 (rz)) ∧ σ' = [])) (ihv9002 : ∀ (v1 : Net) (rz : Int), v92_ v1 = some rz → Con Tryz.prog C0 249 [.agg [.sc (.int .i64 (v1.Kind)), .sc (.int .i64 (v1.One_Op)), .fz 3 (R aa (v1.One_Args)), .fz 4 (R aq (v1.Kids))]] [] (fun x σ' => x = .sc (.int .i64 (rz)) ∧ σ' = [])) (v1 : Net) (rz : Int) (h : cU v91_ v92_ v1 = some rz) : Con Tryz.prog C0 201 [.agg [.sc (.int .i64 (v1.Kind)), .sc (.int .i64 (v1.One_Op)), .fz 3 (R aa (v1.One_Args)), .fz 4 (R aq (v1.Kids))]] []
  (fun x σ' => x = .sc (.int .i64 (rz)) ∧ σ' = []) := by
 refine zCon hP 0 [0, 1, 2, 3, 4, 6, 7, 9, 25] [.tmp 2] Tryz.func201 (by unfold Tryz.f201; rfl) fun Q hQ => ?_
 unfold cU at h
 refine zS z0 (sC fun k2 hk2 => ?_)
 refine zS z0 (sB fun k4 hk4 => ?_)
 refine zS z0 ?_
 revert h; refine zI rfl ?_ ?_ <;> intro h
 ·refine zS z0 (ab ?_)
  refine r_bR hk4 (r_cR hk2 ?_)
  cases h
  refine zAR hQ
 ·refine zS z0 ?_
  revert h; refine zI rfl ?_ ?_ <;> intro h
  ·obtain ⟨v2, h, c9⟩ := bN 0 h
   obtain ⟨v3, c10H, h⟩ := bS h
   refine zS (zC1F (lF [] (ihv9001 _ _ c10H)) c9) (ab ?_)
   refine r_bR hk4 (r_cR hk2 ?_)
   cases h
   refine zAR hQ
  ·refine ae (r_bN hk4 ?_)
   refine r_cN hk2 ?_
   obtain ⟨v4, h, c12⟩ := bN 0 h
   obtain ⟨v5, c13H, h⟩ := bS h
   refine zS (zC1F (lF [] (ihv9001 _ _ c13H)) c12) (zCut (fun (x : Int) => ⟨[(3, .sc (.int .i64 (x)))], []⟩) s_l14NetBits_j22 rz ?_ ?_)
   ·rintro _ v18 h
    simp only [s_l14NetBits_j22] at h
    refine zS z0 (ab ?_)
    cases h
    refine zAR hQ
   ·intro k40 hk40 J39
    refine zS z0 (sB fun k42 hk42 => ?_)
    obtain ⟨oq57, hLq57, hKq57⟩ := bS h
    clear h
    refine ay [1, 3, 4] (fun (_ : Unit) (x : (Int × Int)) => (⟨[(1, .pt 0 0), (3, .sc (.int .i64 (x.1))), (4, .sc (.int .i64 (x.2)))], [.rc [.sc (.int .i64 (v1.Kind)), .sc (.int .i64 (v1.One_Op)), .fz 3 (R aa (v1.One_Args)), .fz 4 (R aq (v1.Kids))]]⟩ : St)) (fun (_ : Unit) (x : (Int × Int)) => True) (cS v1 v92_) () (v5, 1) hLq57 (by rfl) (by rfl) ⟨?_, trivial⟩ ?_
    ·exact zSa
    ·rintro nq57 _ ⟨v22, v23⟩ xq57 kq57 hkq57 - h hIq57 hEq57
     simp only [cS] at h
     refine sC fun k58 hk58 => zS z0 ?_
     revert h; refine zI rfl ?_ ?_ <;> intro h
     ·refine ae (r_cN hk58 ?_)
      refine sC fun k60 hk60 => sB fun k61 hk61 => ?_
      obtain ⟨v28, h, c62⟩ := bI h
      obtain ⟨v29, c63H, h⟩ := bS h
      obtain ⟨v30, c64H, h⟩ := bS h
      refine zU (zC2F (lF [] (ihv9002 _ _ c63H)) (lF [] (da _ _ _ c64H)) c62) (r_bN hk61 ?_)
      refine r_cN hk60 (zU z0 ?_)
      refine zB hkq57 h hIq57 () trivial
     ·refine aK (r_cE hk58 ?_)
      replace h := zX h hEq57 hKq57
      refine r_kE hkq57 (r_bE hk42 ?_)
      refine zJ J39 [3] () _ h
def cz (v91_ : (Net → Option Int)) (v1 : Net) : Option Int :=
 (cond (v1.Kind == 1) (some 1) ((v91_ v1).bind fun v2 => (some (IntKind.i64.wrap (1 + v2)))))
theorem s_l14MoreBits_rec_le {v91_ v91_' : (Net → Option Int)} (hv91_ : ∀ a0, le (v91_ a0) (v91_' a0)) (v1 : Net) : le (cz v91_ v1) (cz v91_' v1) := by
 unfold cz
 repeat' (first | (with_reducible exact le_refl _) | exact hv91_ _ | refine bj ?_ (fun _ => ?_) | refine bm ?_ ?_ | refine di ?_ | refine bn (fun _ => ?_) | refine bO (fun _ => ?_) (fun _ => ?_) _ | refine az ?_ _)
theorem con_s_l14MoreBits_step (v91_ : (Net → Option Int)) (ihv9001 : ∀ (v1 : Net) (rz : Int), v91_ v1 = some rz → Con Tryz.prog C0 201 [.agg [.sc (.int .i64 (v1.Kind)), .sc (.int .i64 (v1.One_Op)), .fz 3 (R aa (v1.One_Args)), .fz 4 (R aq (v1.Kids))]] [] (fun x σ' => x = .sc (.int .i64 (rz)) ∧ σ' = [])) (v1 : Net) (rz : Int) (h : cz v91_ v1 = some rz) : Con Tryz.prog C0 249 [.agg [.sc (.int .i64 (v1.Kind)), .sc (.int .i64 (v1.One_Op)), .fz 3 (R aa (v1.One_Args)), .fz 4 (R aq (v1.Kids))]] []
  (fun x σ' => x = .sc (.int .i64 (rz)) ∧ σ' = []) := by
 refine zCon hP 0 [0, 1, 2, 5] [.tmp 2] Tryz.func249 (by unfold Tryz.f249; rfl) fun Q hQ => ?_
 unfold cz at h
 refine zS z0 (sC fun k2 hk2 => ?_)
 refine zS z0 ?_
 revert h; refine zI rfl ?_ ?_ <;> intro h
 ·refine zS z0 (ab ?_)
  refine r_cR hk2 ?_
  cases h
  refine zAR hQ
 ·refine ae (r_cN hk2 ?_)
  obtain ⟨v2, c6H, h⟩ := bS h
  refine zS (zC1 (lF [] (ihv9001 _ _ c6H))) (ab ?_)
  cases h
  refine zAR hQ
def aG : Nat → (Net → Option Int) × (Net → Option Int)
 | 0 => (fun _ => none, fun _ => none)
 | n + 1 => (fun v1 => cU ((aG n).1) ((aG n).2) v1, fun v1 => cz ((aG n).1) v1)
theorem s_l14NetBits_scc_mono : ∀ n, (∀ (v1 : Net), le ((aG n).1 v1) ((aG (n + 1)).1 v1)) ∧ (∀ (v1 : Net), le ((aG n).2 v1) ((aG (n + 1)).2 v1)) := by
 intro n
 induction n with
 | zero => exact ⟨fun _ => le_none _, fun _ => le_none _⟩
 | succ n ih => exact ⟨fun v1 => s_l14NetBits_rec_le ih.1 ih.2 v1, fun v1 => s_l14MoreBits_rec_le ih.1 v1⟩
def s_l14NetBits (v1 : Net) : Option Int := lim fun n => (aG n).1 v1
theorem s_l14NetBits_up (v1 : Net) {n : Nat} {r : Int} (e : (aG n).1 v1 = some r) : s_l14NetBits v1 = some r := lim_eq (fun n => (s_l14NetBits_scc_mono n).1 v1) e
def iE (v1 : Net) : Option Int := lim fun n => (aG n).2 v1
theorem s_l14MoreBits_up (v1 : Net) {n : Nat} {r : Int} (e : (aG n).2 v1 = some r) : iE v1 = some r := lim_eq (fun n => (s_l14NetBits_scc_mono n).2 v1) e
theorem con_s_l14NetBits_scc : ∀ n, (∀ (v1 : Net) (rz : Int), (aG n).1 v1 = some rz → Con Tryz.prog C0 201 [.agg [.sc (.int .i64 (v1.Kind)), .sc (.int .i64 (v1.One_Op)), .fz 3 (R aa (v1.One_Args)), .fz 4 (R aq (v1.Kids))]] [] (fun x σ' => x = .sc (.int .i64 (rz)) ∧ σ' = [])) ∧ (∀ (v1 : Net) (rz : Int), (aG n).2 v1 = some rz → Con Tryz.prog C0 249 [.agg [.sc (.int .i64 (v1.Kind)), .sc (.int .i64 (v1.One_Op)), .fz 3 (R aa (v1.One_Args)), .fz 4 (R aq (v1.Kids))]] [] (fun x σ' => x = .sc (.int .i64 (rz)) ∧ σ' = [])) := by
 intro n
 induction n with
 | zero =>
  refine ⟨?_, ?_⟩
  ·intro v1 rz h; cases h
  ·intro v1 rz h; cases h
 | succ n ih =>
  refine ⟨?_, ?_⟩
  ·exact fun v1 rz h => con_s_l14NetBits_step ((aG n).1) ((aG n).2) (ih.1) (ih.2) v1 rz h
  ·exact fun v1 rz h => con_s_l14MoreBits_step ((aG n).1) (ih.1) v1 rz h
theorem con_s_l14NetBits (v1 : Net) (rz : Int) (h : s_l14NetBits v1 = some rz) : Con Tryz.prog C0 201 [.agg [.sc (.int .i64 (v1.Kind)), .sc (.int .i64 (v1.One_Op)), .fz 3 (R aa (v1.One_Args)), .fz 4 (R aq (v1.Kids))]] []
  (fun x σ' => x = .sc (.int .i64 (rz)) ∧ σ' = []) := by
 obtain ⟨n, hn⟩ := en h
 exact (con_s_l14NetBits_scc n).1 v1 _ hn
theorem con_s_l14MoreBits (v1 : Net) (rz : Int) (h : iE v1 = some rz) : Con Tryz.prog C0 249 [.agg [.sc (.int .i64 (v1.Kind)), .sc (.int .i64 (v1.One_Op)), .fz 3 (R aa (v1.One_Args)), .fz 4 (R aq (v1.Kids))]] []
  (fun x σ' => x = .sc (.int .i64 (rz)) ∧ σ' = []) := by
 obtain ⟨n, hn⟩ := en h
 exact (con_s_l14NetBits_scc n).2 v1 _ hn
def s_l14KidsBits_j5 : Int → Option Int
 | v206 => (some v206)
def gQ (v275 : Int) : Int → Option ((Int × Int) ⊕ Int)
 | v377 => (some (.inl (v377, (IntKind.i64.wrap (v275 + 1)))))
def bL (v1 : Arm) (v275 : Int) (v91_ : (Arm → Option Int)) : Int → Option ((Int × Int) ⊕ Int)
 | v393 => ((idx v1.Kids (v275)).bind fun v394 => ((v91_ v394).bind fun v395 => ((cI v393 v395).bind fun v396 => (gQ v275 v396))))
def fo (v378 : Arm) : (Int × Int) → Option ((Int × Int) ⊕ Int)
 | (v400, v401) => (cond (decide (v401 < ((v378.Net_Kids).length : Int))) ((idx v378.Net_Kids (v401)).bind fun v406 => ((iE v406).bind fun v407 => ((cI v400 v407).bind fun v408 => (some (.inl (v408, (IntKind.i64.wrap (v401 + 1)))))))) (some (.inr v400)))
def c0 (v1 : Arm) (v91_ : (Arm → Option Int)) : (Int × Int) → Option ((Int × Int) ⊕ Int)
 | (v274, v275) => (cond (decide (v275 < ((v1.Kids).length : Int))) ((idx v1.Kids (v275)).bind fun v378 => (cond (v378.Net_Kind == 0) (bL v1 v275 v91_ v274) (cond (v378.Net_Kind == 2) ((loop (fo v378) (v274, 0)).bind (fun v405 => (bL v1 v275 v91_ v405))) ((iE (⟨v378.Net_Kind, v378.Net_One_Op, v378.Net_One_Args, v378.Net_Kids⟩ : Net)).bind fun v409 => ((cI v274 v409).bind fun v410 => (bL v1 v275 v91_ v410)))))) (some (.inr v274)))
def cC (v91_ : (Arm → Option Int)) (v1 : Arm) : Option Int :=
 ((loop (c0 v1 v91_) (1, 0)).bind (fun v343 => (s_l14KidsBits_j5 v343)))
theorem fu {v91_ v91_' : (Arm → Option Int)} (hv91_ : ∀ a0, le (v91_ a0) (v91_' a0)) (v1 : Arm) (v275 : Int) : ∀ x, le (bL v1 v275 v91_ x) (bL v1 v275 v91_' x) := by
 rintro v393
 simp only [bL]
 repeat' (first | (with_reducible exact le_refl _) | exact hv91_ _ | refine bj ?_ (fun _ => ?_) | refine bm ?_ ?_ | refine di ?_ | refine bn (fun _ => ?_) | refine bO (fun _ => ?_) (fun _ => ?_) _ | refine az ?_ _)
theorem s_l14KidsBits_s9_le {v91_ v91_' : (Arm → Option Int)} (hv91_ : ∀ a0, le (v91_ a0) (v91_' a0)) (v1 : Arm) : ∀ x, le (c0 v1 v91_ x) (c0 v1 v91_' x) := by
 rintro ⟨v274, v275⟩
 simp only [c0]
 repeat' (first | (with_reducible exact le_refl _) | exact hv91_ _ | exact fu hv91_ _ _ _ | refine az (fu hv91_ _ _) _ | refine bj ?_ (fun _ => ?_) | refine bm ?_ ?_ | refine di ?_ | refine bn (fun _ => ?_) | refine bO (fun _ => ?_) (fun _ => ?_) _ | refine az ?_ _)
theorem s_l14KidsBits_rec_le {v91_ v91_' : (Arm → Option Int)} (hv91_ : ∀ a0, le (v91_ a0) (v91_' a0)) (v1 : Arm) : le (cC v91_ v1) (cC v91_' v1) := by
 unfold cC
 repeat' (first | (with_reducible exact le_refl _) | exact hv91_ _ | exact fu hv91_ _ _ _ | refine az (fu hv91_ _ _) _ | exact s_l14KidsBits_s9_le hv91_ _ _ | refine az (s_l14KidsBits_s9_le hv91_ _) _ | refine bj ?_ (fun _ => ?_) | refine bm ?_ ?_ | refine di ?_ | refine bn (fun _ => ?_) | refine bO (fun _ => ?_) (fun _ => ?_) _ | refine az ?_ _)
theorem con_s_l14KidsBits_step (v91_ : (Arm → Option Int)) (ihv9001 : ∀ (v1 : Arm) (rz : Int), v91_ v1 = some rz → Con Tryz.prog C0 202 [.agg [.sc (.int .i64 (v1.Net_Kind)), .sc (.int .i64 (v1.Net_One_Op)), .fz 3 (R aa (v1.Net_One_Args)), .fz 4 (R aq (v1.Net_Kids)), .fz 2 (R aE (v1.Coils)), .fz 6 (R aO (v1.Kids))]] [] (fun x σ' => x = .sc (.int .i64 (rz)) ∧ σ' = [])) (v1 : Arm) (rz : Int) (h : cC v91_ v1 = some rz) : Con Tryz.prog C0 202 [.agg [.sc (.int .i64 (v1.Net_Kind)), .sc (.int .i64 (v1.Net_One_Op)), .fz 3 (R aa (v1.Net_One_Args)), .fz 4 (R aq (v1.Net_Kids)), .fz 2 (R aE (v1.Coils)), .fz 6 (R aO (v1.Kids))]] []
  (fun x σ' => x = .sc (.int .i64 (rz)) ∧ σ' = []) := by
 refine zCon hP 0 [0, 1, 2, 3, 4, 5, 6, 11, 21, 26, 28, 34] [.tmp 2] Tryz.func202 (by unfold Tryz.f202; rfl) fun Q hQ => ?_
 unfold cC at h
 refine zS z0 (zS z0 ?_)
 refine zCut (fun (x : Int) => ⟨[(3, .sc (.int .i64 (x)))], []⟩) s_l14KidsBits_j5 rz ?_ ?_
 ·rintro _ v206 h
  simp only [s_l14KidsBits_j5] at h
  refine zS z0 (ab ?_)
  cases h
  refine zAR hQ
 ·intro k428 hk428 J427
  refine zS z0 (sB fun k430 hk430 => ?_)
  obtain ⟨oq711, hLq711, hKq711⟩ := bS h
  clear h
  refine ay [1, 3, 4] (fun (_ : Unit) (x : (Int × Int)) => (⟨[(1, .pt 0 0), (3, .sc (.int .i64 (x.1))), (4, .sc (.int .i64 (x.2)))], [.rc [.sc (.int .i64 (v1.Net_Kind)), .sc (.int .i64 (v1.Net_One_Op)), .fz 3 (R aa (v1.Net_One_Args)), .fz 4 (R aq (v1.Net_Kids)), .fz 2 (R aE (v1.Coils)), .fz 6 (R aO (v1.Kids))]]⟩ : St)) (fun (_ : Unit) (x : (Int × Int)) => True) (c0 v1 v91_) () (1, 0) hLq711 (by rfl) (by rfl) ⟨?_, trivial⟩ ?_
  ·exact zSa
  ·rintro nq711 _ ⟨v274, v275⟩ xq711 kq711 hkq711 - h hIq711 hEq711
   simp only [c0] at h
   refine sC fun k712 hk712 => zS z0 ?_
   revert h; refine zI rfl ?_ ?_ <;> intro h
   ·refine ae (r_cN hk712 ?_)
    refine zCut (fun (x : Int) => ⟨[(1, .pt 0 0), (3, .sc (.int .i64 (x))), (4, .sc (.int .i64 (v275)))], [.rc [.sc (.int .i64 (v1.Net_Kind)), .sc (.int .i64 (v1.Net_One_Op)), .fz 3 (R aa (v1.Net_One_Args)), .fz 4 (R aq (v1.Net_Kids)), .fz 2 (R aE (v1.Coils)), .fz 6 (R aO (v1.Kids))]]⟩) (gQ v275) xq711 ?_ ?_
    ·rintro _ v377 h
     simp only [gQ] at h
     refine zU z0 (zB hkq711 h hIq711 () trivial)
    ·intro k783 hk783 J782
     refine sB fun k784 hk784 => ?_
     obtain ⟨v378, h, c786⟩ := bI h
     refine zS (zRF c786) (zCut (fun (x : Int) => ⟨[(1, .pt 0 0), (3, .sc (.int .i64 (x))), (4, .sc (.int .i64 (v275)))], [.rc [.sc (.int .i64 (v1.Net_Kind)), .sc (.int .i64 (v1.Net_One_Op)), .fz 3 (R aa (v1.Net_One_Args)), .fz 4 (R aq (v1.Net_Kids)), .fz 2 (R aE (v1.Coils)), .fz 6 (R aO (v1.Kids))]]⟩) (bL v1 v275 v91_) xq711 ?_ ?_)
     ·rintro _ v393 h
      simp only [bL] at h
      obtain ⟨v394, h, c817⟩ := bI h
      obtain ⟨v395, c818H, h⟩ := bS h
      obtain ⟨v396, c819H, h⟩ := bS h
      refine zU (zC2F (lF [] (ihv9001 _ _ c818H)) (lF [] (da _ _ _ c819H)) c817) (r_bN hk784 ?_)
      refine zJ J782 [1, 3, 4] () _ h
     ·intro k821 hk821 J820
      refine zS z0 (sB fun k823 hk823 => ?_)
      refine zS z0 ?_
      revert h; refine zI rfl ?_ ?_ <;> intro h
      ·refine ae (r_bN hk823 ?_)
       refine zJ J820 [1, 3, 4] () _ h
      ·refine zS z0 ?_
       revert h; refine zI rfl ?_ ?_ <;> intro h
       ·refine zS z0 (sB fun k827 hk827 => ?_)
        obtain ⟨oq842, hLq842, hKq842⟩ := bS h
        clear h
        refine ay [1, 3, 4, 5, 6] (fun (_ : Unit) (x : (Int × Int)) => (⟨[(1, .pt 0 0), (3, .sc (.int .i64 (x.1))), (4, .sc (.int .i64 (v275))), (5, .pt 1 0), (6, .sc (.int .i64 (x.2)))], [.rc [.sc (.int .i64 (v1.Net_Kind)), .sc (.int .i64 (v1.Net_One_Op)), .fz 3 (R aa (v1.Net_One_Args)), .fz 4 (R aq (v1.Net_Kids)), .fz 2 (R aE (v1.Coils)), .fz 6 (R aO (v1.Kids))], .rc [.sc (.int .i64 (v378.Net_Kind)), .sc (.int .i64 (v378.Net_One_Op)), .fz 3 (R aa (v378.Net_One_Args)), .fz 4 (R aq (v378.Net_Kids))]]⟩ : St)) (fun (_ : Unit) (x : (Int × Int)) => True) (fo v378) () (v274, 0) hLq842 (by rfl) (by rfl) ⟨?_, trivial⟩ ?_
        ·exact zSa
        ·rintro nq842 _ ⟨v400, v401⟩ xq842 kq842 hkq842 - h hIq842 hEq842
         simp only [fo] at h
         refine sC fun k843 hk843 => zS z0 ?_
         revert h; refine zI rfl ?_ ?_ <;> intro h
         ·refine ae (r_cN hk843 ?_)
          refine sC fun k845 hk845 => sB fun k846 hk846 => ?_
          obtain ⟨v406, h, c847⟩ := bI h
          obtain ⟨v407, c848H, h⟩ := bS h
          obtain ⟨v408, c849H, h⟩ := bS h
          refine zU (zC2F (lF [] (con_s_l14MoreBits _ _ c848H)) (lF [] (da _ _ _ c849H)) c847) (r_bN hk846 ?_)
          refine r_cN hk845 (zU z0 ?_)
          refine zB hkq842 h hIq842 () trivial
         ·refine aK (r_cE hk843 ?_)
          replace h := zX h hEq842 hKq842
          refine r_kE hkq842 (r_bE hk827 ?_)
          refine r_bN hk823 (zJ J820 [1, 3, 4] () _ h)
       ·obtain ⟨v409, c850H, h⟩ := bS h
        obtain ⟨v410, c851H, h⟩ := bS h
        refine zU (zC2 (lF [] (con_s_l14MoreBits _ _ c850H)) (lF [] (da _ _ _ c851H))) (r_bN hk823 ?_)
        refine zJ J820 [1, 3, 4] () _ h
   ·refine aK (r_cE hk712 ?_)
    replace h := zX h hEq711 hKq711
    refine r_kE hkq711 (r_bE hk430 ?_)
    refine zJ J427 [3] () _ h
def bK : Nat → (Arm → Option Int)
 | 0 => fun _ => none
 | n + 1 => fun v1 => cC (bK n) v1
theorem s_l14KidsBits_scc_mono : ∀ n, (∀ (v1 : Arm), le ((bK n) v1) ((bK (n + 1)) v1)) := by
 intro n
 induction n with
 | zero => exact fun _ => le_none _
 | succ n ih => exact fun v1 => s_l14KidsBits_rec_le ih v1
def s_l14KidsBits (v1 : Arm) : Option Int := lim fun n => (bK n) v1
theorem s_l14KidsBits_up (v1 : Arm) {n : Nat} {r : Int} (e : (bK n) v1 = some r) : s_l14KidsBits v1 = some r := lim_eq (fun n => (s_l14KidsBits_scc_mono n) v1) e
theorem con_s_l14KidsBits_scc : ∀ n, (∀ (v1 : Arm) (rz : Int), (bK n) v1 = some rz → Con Tryz.prog C0 202 [.agg [.sc (.int .i64 (v1.Net_Kind)), .sc (.int .i64 (v1.Net_One_Op)), .fz 3 (R aa (v1.Net_One_Args)), .fz 4 (R aq (v1.Net_Kids)), .fz 2 (R aE (v1.Coils)), .fz 6 (R aO (v1.Kids))]] [] (fun x σ' => x = .sc (.int .i64 (rz)) ∧ σ' = [])) := by
 intro n
 induction n with
 | zero =>
  intro v1 rz h; cases h
 | succ n ih =>
  exact fun v1 rz h => con_s_l14KidsBits_step (bK n) (ih) v1 rz h
theorem con_s_l14KidsBits (v1 : Arm) (rz : Int) (h : s_l14KidsBits v1 = some rz) : Con Tryz.prog C0 202 [.agg [.sc (.int .i64 (v1.Net_Kind)), .sc (.int .i64 (v1.Net_One_Op)), .fz 3 (R aa (v1.Net_One_Args)), .fz 4 (R aq (v1.Net_Kids)), .fz 2 (R aE (v1.Coils)), .fz 6 (R aO (v1.Kids))]] []
  (fun x σ' => x = .sc (.int .i64 (rz)) ∧ σ' = []) := by
 obtain ⟨n, hn⟩ := en h
 exact (con_s_l14KidsBits_scc n) v1 _ hn
def s_WayBits_j7 : Int → Option Int
 | v21 => (some v21)
def iG (v2 : (List Arm)) : (Int × Int) → Option ((Int × Int) ⊕ Int)
 | (v27, v28) => (cond (decide (v28 < (((v2).length : Nat) : Int))) ((idx v2 (v28)).bind fun v35 => ((s_l14NetBits (⟨v35.Net_Kind, v35.Net_One_Op, v35.Net_One_Args, v35.Net_Kids⟩ : Net)).bind fun v36 => ((s_l14KidsBits v35).bind fun v37 => ((cI v36 v37).bind fun v38 => ((cI v27 v38).bind fun v39 => (some (.inl (v39, (IntKind.i64.wrap (v28 + 1)))))))))) (some (.inr v27)))
def s_WayBits (v1 : (List Arm)) : Option Int :=
 ((s_NormMake v1).bind fun v2 => ((loop (iG v2) (0, 0)).bind (fun v34 => (s_WayBits_j7 v34))))
theorem con_s_WayBits (v1 : (List Arm)) (rz : Int) (h : s_WayBits v1 = some rz) : Con Tryz.prog C0 127 [.fz 6 (R aO (v1))] []
  (fun x σ' => x = .sc (.int .i64 (rz)) ∧ σ' = []) := by
 refine zCon hP 0 [0, 2, 3, 4, 5, 11] [.tmp 2] Tryz.func127 (by unfold Tryz.f127; rfl) fun Q hQ => ?_
 unfold s_WayBits at h
 refine zS z0 ?_
 obtain ⟨v2, c3H, h⟩ := bS h
 refine zS (zC1 (lC [] (con_s_NormMake _ _ c3H))) (zS z0 ?_)
 refine zCut (fun (x : Int) => ⟨[(4, .sc (.int .i64 (x)))], []⟩) s_WayBits_j7 rz ?_ ?_
 ·rintro _ v21 h
  simp only [s_WayBits_j7] at h
  refine zS z0 (ab ?_)
  cases h
  refine zAR hQ
 ·intro k37 hk37 J36
  refine zS z0 (sB fun k39 hk39 => ?_)
  obtain ⟨oq58, hLq58, hKq58⟩ := bS h
  clear h
  refine ay [3, 4, 5] (fun (_ : Unit) (x : (Int × Int)) => (⟨[(3, .sl 0 0 ((v2).length)), (4, .sc (.int .i64 (x.1))), (5, .sc (.int .i64 (x.2)))], [.arr true 6 (R aO (v2))]⟩ : St)) (fun (_ : Unit) (x : (Int × Int)) => True) (iG v2) () (0, 0) hLq58 (by rfl) (by rfl) ⟨?_, trivial⟩ ?_
  ·exact zSa
  ·rintro nq58 _ ⟨v27, v28⟩ xq58 kq58 hkq58 - h hIq58 hEq58
   simp only [iG] at h
   refine sC fun k59 hk59 => zS z0 ?_
   revert h; refine zI rfl ?_ ?_ <;> intro h
   ·refine ae (r_cN hk59 ?_)
    refine sC fun k61 hk61 => sB fun k62 hk62 => ?_
    obtain ⟨v35, h, c63⟩ := bI h
    obtain ⟨v36, c64H, h⟩ := bS h
    obtain ⟨v37, c65H, h⟩ := bS h
    obtain ⟨v38, c66H, h⟩ := bS h
    obtain ⟨v39, c67H, h⟩ := bS h
    refine zU (zPC4F (.take 0 (.take 1 (.take 2 (.take 3 (.take 4 (.take 5 (.take 7 (.take 8 (.take 9 (.take 10 (.one 6 (.one 11 (.one 12 (.one 13 (.take 14 .done))))))))))))))) [0] (lF [] (con_s_l14NetBits _ _ c64H)) (lF [] (con_s_l14KidsBits _ _ c65H)) (lF [] (da _ _ _ c66H)) (lF [] (da _ _ _ c67H)) c63) (r_bN hk62 ?_)
    refine r_cN hk61 (zU z0 ?_)
    refine zB hkq58 h hIq58 () trivial
   ·refine aK (r_cE hk59 ?_)
    replace h := zX h hEq58 hKq58
    refine r_kE hkq58 (r_bE hk39 ?_)
    refine zJ J36 [4] () _ h
def s_l14Forks_j7 : Int → Option Int
 | v17 => (some v17)
def fP (v22 : Int) (v23 : Int) : Int → Option ((Int × Int) ⊕ Int)
 | v31 => ((cI v22 v31).bind fun v32 => (some (.inl (v32, (IntKind.i64.wrap (v23 + 1))))))
def eb (v1 : Arm) (v91_ : (Arm → Option Int)) : (Int × Int) → Option ((Int × Int) ⊕ Int)
 | (v22, v23) => (cond (decide (v23 < ((v1.Kids).length : Int))) ((idx v1.Kids (v23)).bind fun v29 => ((v91_ v29).bind fun v30 => (cond (decide (v23 < (IntKind.i64.wrap (((v1.Kids).length : Int) - 1)))) (fP v22 v23 (IntKind.i64.wrap (v30 + 1))) (fP v22 v23 v30)))) (some (.inr v22)))
def dT (v91_ : (Arm → Option Int)) (v1 : Arm) : Option Int :=
 ((loop (eb v1 v91_) (0, 0)).bind (fun v28 => (s_l14Forks_j7 v28)))
theorem s_l14Forks_s11_le {v91_ v91_' : (Arm → Option Int)} (hv91_ : ∀ a0, le (v91_ a0) (v91_' a0)) (v1 : Arm) : ∀ x, le (eb v1 v91_ x) (eb v1 v91_' x) := by
 rintro ⟨v22, v23⟩
 simp only [eb]
 repeat' (first | (with_reducible exact le_refl _) | exact hv91_ _ | refine bj ?_ (fun _ => ?_) | refine bm ?_ ?_ | refine di ?_ | refine bn (fun _ => ?_) | refine bO (fun _ => ?_) (fun _ => ?_) _ | refine az ?_ _)
theorem s_l14Forks_rec_le {v91_ v91_' : (Arm → Option Int)} (hv91_ : ∀ a0, le (v91_ a0) (v91_' a0)) (v1 : Arm) : le (dT v91_ v1) (dT v91_' v1) := by
 unfold dT
 repeat' (first | (with_reducible exact le_refl _) | exact hv91_ _ | exact s_l14Forks_s11_le hv91_ _ _ | refine az (s_l14Forks_s11_le hv91_ _) _ | refine bj ?_ (fun _ => ?_) | refine bm ?_ ?_ | refine di ?_ | refine bn (fun _ => ?_) | refine bO (fun _ => ?_) (fun _ => ?_) _ | refine az ?_ _)
theorem con_s_l14Forks_step (v91_ : (Arm → Option Int)) (ihv9001 : ∀ (v1 : Arm) (rz : Int), v91_ v1 = some rz → Con Tryz.prog C0 203 [.agg [.sc (.int .i64 (v1.Net_Kind)), .sc (.int .i64 (v1.Net_One_Op)), .fz 3 (R aa (v1.Net_One_Args)), .fz 4 (R aq (v1.Net_Kids)), .fz 2 (R aE (v1.Coils)), .fz 6 (R aO (v1.Kids))]] [] (fun x σ' => x = .sc (.int .i64 (rz)) ∧ σ' = [])) (v1 : Arm) (rz : Int) (h : dT v91_ v1 = some rz) : Con Tryz.prog C0 203 [.agg [.sc (.int .i64 (v1.Net_Kind)), .sc (.int .i64 (v1.Net_One_Op)), .fz 3 (R aa (v1.Net_One_Args)), .fz 4 (R aq (v1.Net_Kids)), .fz 2 (R aE (v1.Coils)), .fz 6 (R aO (v1.Kids))]] []
  (fun x σ' => x = .sc (.int .i64 (rz)) ∧ σ' = []) := by
 refine zCon hP 0 [0, 1, 2, 3, 4, 5, 6, 12, 24] [.tmp 2] Tryz.func203 (by unfold Tryz.f203; rfl) fun Q hQ => ?_
 unfold dT at h
 refine zS z0 (zS z0 ?_)
 refine zS z0 (zCut (fun (x : Int) => ⟨[(3, .sc (.int .i64 (x)))], []⟩) s_l14Forks_j7 rz ?_ ?_)
 ·rintro _ v17 h
  simp only [s_l14Forks_j7] at h
  refine zS z0 (ab ?_)
  cases h
  refine zAR hQ
 ·intro k45 hk45 J44
  refine zS z0 (sB fun k47 hk47 => ?_)
  obtain ⟨oq72, hLq72, hKq72⟩ := bS h
  clear h
  refine ay [1, 3, 4, 5] (fun (_ : Unit) (x : (Int × Int)) => (⟨[(1, .pt 0 0), (3, .sc (.int .i64 (x.1))), (4, .sc (.int .i64 (((v1.Kids).length : Int)))), (5, .sc (.int .i64 (x.2)))], [.rc [.sc (.int .i64 (v1.Net_Kind)), .sc (.int .i64 (v1.Net_One_Op)), .fz 3 (R aa (v1.Net_One_Args)), .fz 4 (R aq (v1.Net_Kids)), .fz 2 (R aE (v1.Coils)), .fz 6 (R aO (v1.Kids))]]⟩ : St)) (fun (_ : Unit) (x : (Int × Int)) => True) (eb v1 v91_) () (0, 0) hLq72 (by rfl) (by rfl) ⟨?_, trivial⟩ ?_
  ·exact zSa
  ·rintro nq72 _ ⟨v22, v23⟩ xq72 kq72 hkq72 - h hIq72 hEq72
   simp only [eb] at h
   refine sC fun k73 hk73 => zS z0 ?_
   revert h; refine zI rfl ?_ ?_ <;> intro h
   ·refine ae (r_cN hk73 ?_)
    refine sC fun k75 hk75 => sB fun k76 hk76 => ?_
    obtain ⟨v29, h, c78⟩ := bI h
    obtain ⟨v30, c79H, h⟩ := bS h
    refine zS (zC1F (lF [] (ihv9001 _ _ c79H)) c78) (zCut (fun (x : Int) => ⟨[(1, .pt 0 0), (3, .sc (.int .i64 (v22))), (4, .sc (.int .i64 (((v1.Kids).length : Int)))), (5, .sc (.int .i64 (v23))), (6, .sc (.int .i64 (x)))], [.rc [.sc (.int .i64 (v1.Net_Kind)), .sc (.int .i64 (v1.Net_One_Op)), .fz 3 (R aa (v1.Net_One_Args)), .fz 4 (R aq (v1.Net_Kids)), .fz 2 (R aE (v1.Coils)), .fz 6 (R aO (v1.Kids))]]⟩) (fP v22 v23) xq72 ?_ ?_)
    ·rintro _ v31 h
     simp only [fP] at h
     obtain ⟨v32, c81H, h⟩ := bS h
     refine zU (zC1 (lF [] (da _ _ _ c81H))) (r_bN hk76 ?_)
     refine r_cN hk75 (zU z0 ?_)
     refine zB hkq72 h hIq72 () trivial
    ·intro k83 hk83 J82
     refine zS z0 ?_
     revert h; refine zI rfl ?_ ?_ <;> intro h
     ·refine zU z0 (zJ J82 [1, 3, 4, 5, 6] () _ h)
     ·refine ae (zJ J82 [1, 3, 4, 5, 6] () _ h)
   ·refine aK (r_cE hk73 ?_)
    replace h := zX h hEq72 hKq72
    refine r_kE hkq72 (r_bE hk47 ?_)
    refine zJ J44 [3] () _ h
def dw : Nat → (Arm → Option Int)
 | 0 => fun _ => none
 | n + 1 => fun v1 => dT (dw n) v1
theorem s_l14Forks_scc_mono : ∀ n, (∀ (v1 : Arm), le ((dw n) v1) ((dw (n + 1)) v1)) := by
 intro n
 induction n with
 | zero => exact fun _ => le_none _
 | succ n ih => exact fun v1 => s_l14Forks_rec_le ih v1
def s_l14Forks (v1 : Arm) : Option Int := lim fun n => (dw n) v1
theorem s_l14Forks_up (v1 : Arm) {n : Nat} {r : Int} (e : (dw n) v1 = some r) : s_l14Forks v1 = some r := lim_eq (fun n => (s_l14Forks_scc_mono n) v1) e
theorem con_s_l14Forks_scc : ∀ n, (∀ (v1 : Arm) (rz : Int), (dw n) v1 = some rz → Con Tryz.prog C0 203 [.agg [.sc (.int .i64 (v1.Net_Kind)), .sc (.int .i64 (v1.Net_One_Op)), .fz 3 (R aa (v1.Net_One_Args)), .fz 4 (R aq (v1.Net_Kids)), .fz 2 (R aE (v1.Coils)), .fz 6 (R aO (v1.Kids))]] [] (fun x σ' => x = .sc (.int .i64 (rz)) ∧ σ' = [])) := by
 intro n
 induction n with
 | zero =>
  intro v1 rz h; cases h
 | succ n ih =>
  exact fun v1 rz h => con_s_l14Forks_step (dw n) (ih) v1 rz h
theorem con_s_l14Forks (v1 : Arm) (rz : Int) (h : s_l14Forks v1 = some rz) : Con Tryz.prog C0 203 [.agg [.sc (.int .i64 (v1.Net_Kind)), .sc (.int .i64 (v1.Net_One_Op)), .fz 3 (R aa (v1.Net_One_Args)), .fz 4 (R aq (v1.Net_Kids)), .fz 2 (R aE (v1.Coils)), .fz 6 (R aO (v1.Kids))]] []
  (fun x σ' => x = .sc (.int .i64 (rz)) ∧ σ' = []) := by
 obtain ⟨n, hn⟩ := en h
 exact (con_s_l14Forks_scc n) v1 _ hn
def s_WayForks_j7 : Int → Option Int
 | v15 => (some v15)
def gS (v2 : (List Arm)) : (Int × Int) → Option ((Int × Int) ⊕ Int)
 | (v19, v20) => (cond (decide (v20 < (((v2).length : Nat) : Int))) ((idx v2 (v20)).bind fun v25 => ((s_l14Forks v25).bind fun v26 => ((cI v19 v26).bind fun v27 => (some (.inl (v27, (IntKind.i64.wrap (v20 + 1)))))))) (some (.inr v19)))
def s_WayForks (v1 : (List Arm)) : Option Int :=
 ((s_NormMake v1).bind fun v2 => ((loop (gS v2) (0, 0)).bind (fun v24 => (s_WayForks_j7 v24))))
theorem con_s_WayForks (v1 : (List Arm)) (rz : Int) (h : s_WayForks v1 = some rz) : Con Tryz.prog C0 128 [.fz 6 (R aO (v1))] []
  (fun x σ' => x = .sc (.int .i64 (rz)) ∧ σ' = []) := by
 refine zCon hP 0 [0, 2, 3, 4, 5, 11] [.tmp 2] Tryz.func128 (by unfold Tryz.f128; rfl) fun Q hQ => ?_
 unfold s_WayForks at h
 refine zS z0 ?_
 obtain ⟨v2, c3H, h⟩ := bS h
 refine zS (zC1 (lC [] (con_s_NormMake _ _ c3H))) (zS z0 ?_)
 refine zCut (fun (x : Int) => ⟨[(4, .sc (.int .i64 (x)))], []⟩) s_WayForks_j7 rz ?_ ?_
 ·rintro _ v15 h
  simp only [s_WayForks_j7] at h
  refine zS z0 (ab ?_)
  cases h
  refine zAR hQ
 ·intro k31 hk31 J30
  refine zS z0 (sB fun k33 hk33 => ?_)
  obtain ⟨oq48, hLq48, hKq48⟩ := bS h
  clear h
  refine ay [3, 4, 5] (fun (_ : Unit) (x : (Int × Int)) => (⟨[(3, .sl 0 0 ((v2).length)), (4, .sc (.int .i64 (x.1))), (5, .sc (.int .i64 (x.2)))], [.arr true 6 (R aO (v2))]⟩ : St)) (fun (_ : Unit) (x : (Int × Int)) => True) (gS v2) () (0, 0) hLq48 (by rfl) (by rfl) ⟨?_, trivial⟩ ?_
  ·exact zSa
  ·rintro nq48 _ ⟨v19, v20⟩ xq48 kq48 hkq48 - h hIq48 hEq48
   simp only [gS] at h
   refine sC fun k49 hk49 => zS z0 ?_
   revert h; refine zI rfl ?_ ?_ <;> intro h
   ·refine ae (r_cN hk49 ?_)
    refine sC fun k51 hk51 => sB fun k52 hk52 => ?_
    obtain ⟨v25, h, c53⟩ := bI h
    obtain ⟨v26, c54H, h⟩ := bS h
    obtain ⟨v27, c55H, h⟩ := bS h
    refine zU (zC2F (lF [] (con_s_l14Forks _ _ c54H)) (lF [] (da _ _ _ c55H)) c53) (r_bN hk52 ?_)
    refine r_cN hk51 (zU z0 ?_)
    refine zB hkq48 h hIq48 () trivial
   ·refine aK (r_cE hk49 ?_)
    replace h := zX h hEq48 hKq48
    refine r_kE hkq48 (r_bE hk33 ?_)
    refine zJ J30 [4] () _ h
def s_l14Copy (v1 : Elem) : Option Elem :=
 (gd (apOk (v1.Args).length 24) (some v1))
theorem con_s_l14Copy (v1 : Elem) (rz : Elem) (h : s_l14Copy v1 = some rz) : Con Tryz.prog C0 145 [.agg [.sc (.int .i64 (v1.Op)), .fz 3 (R aa (v1.Args))]] []
  (fun x σ' => x = .agg [.sc (.int .i64 (rz.Op)), .sl 0 0 ((rz.Args).length)] ∧ σ' = [.arr true 3 (R aa (rz.Args))]) := by
 refine zCon hP 0 [0, 1, 2] [.cell 2 87] Tryz.func145 (by unfold Tryz.f145; rfl) fun Q hQ => ?_
 unfold s_l14Copy at h
 refine zS z0 ?_
 obtain ⟨g3, h⟩ := gAp h
 refine zS (zPRF (.take 0 (.take 1 (.take 3 (.take 4 (.one 2 (.one 5 (.take 6 (.last 7 .done)))))))) [0] g3) (ab ?_)
 cases h
 refine zOR hQ
def s_l14Net_j22 : (List Inst) → Option (List Inst)
 | v16 => (some v16)
def fB (v1 : Net) (v92_ : (Int → Net → Option (List Inst))) : ((List Inst) × Int) → Option (((List Inst) × Int) ⊕ (List Inst))
 | (v19, v20) => (cond (decide (v20 < ((v1.Kids).length : Int))) ((idx v1.Kids (v20)).bind fun v24 => ((v92_ v1.Kind v24).bind fun v25 => (gd (apOk ((v19 ++ v25)).length 40) (some (.inl ((v19 ++ v25), (IntKind.i64.wrap (v20 + 1)))))))) (some (.inr v19)))
def fy (v91_ : (Net → Option (List Inst))) (v92_ : (Int → Net → Option (List Inst))) (v1 : Net) : Option (List Inst) :=
 (cond (v1.Kind == 1) ((s_l14Copy (⟨v1.One_Op, v1.One_Args⟩ : Elem)).bind fun v2 => (some [(⟨1, v2.Op, v2.Args⟩ : Inst)])) (cond (v1.Kind == 4) ((idx v1.Kids (0)).bind fun v3 => ((v91_ v3).bind fun v4 => (gd (apOk ((v4 ++ [(⟨6, 0, []⟩ : Inst)])).length 40) (some (v4 ++ [(⟨6, 0, []⟩ : Inst)]))))) ((idx v1.Kids (0)).bind fun v5 => ((v91_ v5).bind fun v6 => ((loop (fB v1 v92_) (v6, 1)).bind (fun v23 => (s_l14Net_j22 v23)))))))
theorem s_l14Net_s26_le {v92_ v92_' : (Int → Net → Option (List Inst))} (hv92_ : ∀ a0 a1, le (v92_ a0 a1) (v92_' a0 a1)) (v1 : Net) : ∀ x, le (fB v1 v92_ x) (fB v1 v92_' x) := by
 rintro ⟨v19, v20⟩
 simp only [fB]
 repeat' (first | (with_reducible exact le_refl _) | exact hv92_ _ _ | refine bj ?_ (fun _ => ?_) | refine bm ?_ ?_ | refine di ?_ | refine bn (fun _ => ?_) | refine bO (fun _ => ?_) (fun _ => ?_) _ | refine az ?_ _)
theorem s_l14Net_rec_le {v91_ v91_' : (Net → Option (List Inst))} (hv91_ : ∀ a0, le (v91_ a0) (v91_' a0)) {v92_ v92_' : (Int → Net → Option (List Inst))} (hv92_ : ∀ a0 a1, le (v92_ a0 a1) (v92_' a0 a1)) (v1 : Net) : le (fy v91_ v92_ v1) (fy v91_' v92_' v1) := by
 unfold fy
 repeat' (first | (with_reducible exact le_refl _) | exact hv91_ _ | exact hv92_ _ _ | exact s_l14Net_s26_le hv92_ _ _ | refine az (s_l14Net_s26_le hv92_ _) _ | refine bj ?_ (fun _ => ?_) | refine bm ?_ ?_ | refine di ?_ | refine bn (fun _ => ?_) | refine bO (fun _ => ?_) (fun _ => ?_) _ | refine az ?_ _)
theorem con_s_l14Net_step (v91_ : (Net → Option (List Inst))) (v92_ : (Int → Net → Option (List Inst))) (ihv9001 : ∀ (v1 : Net) (rz : (List Inst)), v91_ v1 = some rz → Con Tryz.prog C0 204 [.agg [.sc (.int .i64 (v1.Kind)), .sc (.int .i64 (v1.One_Op)), .fz 3 (R aa (v1.One_Args)), .fz 4 (R aq (v1.Kids))]] [] (fun x σ' => x = .sl 0 0 ((rz).length) ∧ σ' = [.arr true 3 (R ao (rz))])) (ihv9002 : ∀ (v1 : Int) (v2 : Net) (rz : (List Inst)), v92_ v1 v2 = some rz → Con Tryz.prog C0 250 [.sc (.int .i64 (v1)), .agg [.sc (.int .i64 (v2.Kind)), .sc (.int .i64 (v2.One_Op)), .fz 3 (R aa (v2.One_Args)), .fz 4 (R aq (v2.Kids))]] [] (fun x σ' => x = .sl 0 0 ((rz).length) ∧ σ' = [.arr true 3 (R ao (rz))])) (v1 : Net) (rz : (List Inst)) (h : fy v91_ v92_ v1 = some rz) : Con Tryz.prog C0 204 [.agg [.sc (.int .i64 (v1.Kind)), .sc (.int .i64 (v1.One_Op)), .fz 3 (R aa (v1.One_Args)), .fz 4 (R aq (v1.Kids))]] []
  (fun x σ' => x = .sl 0 0 ((rz).length) ∧ σ' = [.arr true 3 (R ao (rz))]) := by
 refine zCon hP 0 [0, 1, 2, 3, 4, 6, 7, 14, 33] [.tmp 2] Tryz.func204 (by unfold Tryz.f204; rfl) fun Q hQ => ?_
 unfold fy at h
 refine zS z0 (sC fun k2 hk2 => ?_)
 refine zS z0 (sB fun k4 hk4 => ?_)
 refine zS z0 ?_
 revert h; refine zI rfl ?_ ?_ <;> intro h
 ·obtain ⟨v2, c7H, h⟩ := bS h
  refine zS (zC1 (lF [] (con_s_l14Copy _ _ c7H))) (ab ?_)
  refine r_bR hk4 (r_cR hk2 ?_)
  cases h
  refine zOR hQ
 ·refine zS z0 ?_
  revert h; refine zI rfl ?_ ?_ <;> intro h
  ·obtain ⟨v3, h, c10⟩ := bN 0 h
   obtain ⟨v4, c11H, h⟩ := bS h
   obtain ⟨g12, h⟩ := gAp h
   refine zS (zC1Fn (lC [] (ihv9001 _ _ c11H)) (a2 c10 g12)) (ab ?_)
   refine r_bR hk4 (r_cR hk2 ?_)
   cases h
   refine zORd hQ
  ·refine ae (r_bN hk4 ?_)
   refine r_cN hk2 ?_
   obtain ⟨v5, h, c14⟩ := bN 0 h
   obtain ⟨v6, c15H, h⟩ := bS h
   refine zS (zC1F (lC [] (ihv9001 _ _ c15H)) c14) (zCut (fun (x : (List Inst)) => ⟨[(3, .sl 0 0 ((x).length))], [.arr true 3 (R ao (x))]⟩) s_l14Net_j22 rz ?_ ?_)
   ·rintro _ v16 h
    simp only [s_l14Net_j22] at h
    refine zS z0 (ab ?_)
    cases h
    refine zOR hQ
   ·intro k42 hk42 J41
    refine zS z0 (sB fun k44 hk44 => ?_)
    obtain ⟨oq59, hLq59, hKq59⟩ := bS h
    clear h
    refine ay [1, 3, 4] (fun (_ : Unit) (x : ((List Inst) × Int)) => (⟨[(1, .pt 0 0), (3, .sl 1 0 ((x.1).length)), (4, .sc (.int .i64 (x.2)))], [.rc [.sc (.int .i64 (v1.Kind)), .sc (.int .i64 (v1.One_Op)), .fz 3 (R aa (v1.One_Args)), .fz 4 (R aq (v1.Kids))], .arr true 3 (R ao (x.1))]⟩ : St)) (fun (_ : Unit) (x : ((List Inst) × Int)) => True) (fB v1 v92_) () (v6, 1) hLq59 (by rfl) (by rfl) ⟨?_, trivial⟩ ?_
    ·exact zSa
    ·rintro nq59 _ ⟨v19, v20⟩ xq59 kq59 hkq59 - h hIq59 hEq59
     simp only [fB] at h
     refine sC fun k60 hk60 => zS z0 ?_
     revert h; refine zI rfl ?_ ?_ <;> intro h
     ·refine ae (r_cN hk60 ?_)
      refine sC fun k62 hk62 => sB fun k63 hk63 => ?_
      obtain ⟨v24, h, c64⟩ := bI h
      obtain ⟨v25, c65H, h⟩ := bS h
      obtain ⟨g66, h⟩ := gAp h
      refine zU (zPC1F (.take 0 (.take 1 (.take 2 (.take 3 (.take 4 (.take 5 (.take 6 (.take 7 (.one 8 (.one 9 (.take 10 .done))))))))))) [0] (lC [] (ihv9002 _ _ _ c65H)) (a2 c64 g66)) (r_bN hk63 ?_)
      refine r_cN hk62 (zU z0 ?_)
      refine zB hkq59 h hIq59 () trivial
     ·refine aK (r_cE hk60 ?_)
      replace h := zX h hEq59 hKq59
      refine r_kE hkq59 (r_bE hk44 ?_)
      refine zJ J41 [3] () _ h
def eC (v91_ : (Net → Option (List Inst))) (v1 : Int) (v2 : Net) : Option (List Inst) :=
 (cond (v2.Kind == 1) ((s_l14Copy (⟨v2.One_Op, v2.One_Args⟩ : Elem)).bind fun v3 => (some [(⟨(IntKind.i64.wrap (2 + (IntKind.i64.wrap (v1 - 2)))), v3.Op, v3.Args⟩ : Inst)])) ((v91_ v2).bind fun v4 => (gd (apOk ((v4 ++ [(⟨(IntKind.i64.wrap (4 + (IntKind.i64.wrap (v1 - 2)))), 0, []⟩ : Inst)])).length 40) (some (v4 ++ [(⟨(IntKind.i64.wrap (4 + (IntKind.i64.wrap (v1 - 2)))), 0, []⟩ : Inst)])))))
theorem s_l14More_rec_le {v91_ v91_' : (Net → Option (List Inst))} (hv91_ : ∀ a0, le (v91_ a0) (v91_' a0)) (v1 : Int) (v2 : Net) : le (eC v91_ v1 v2) (eC v91_' v1 v2) := by
 unfold eC
 repeat' (first | (with_reducible exact le_refl _) | exact hv91_ _ | refine bj ?_ (fun _ => ?_) | refine bm ?_ ?_ | refine di ?_ | refine bn (fun _ => ?_) | refine bO (fun _ => ?_) (fun _ => ?_) _ | refine az ?_ _)
theorem con_s_l14More_step (v91_ : (Net → Option (List Inst))) (ihv9001 : ∀ (v1 : Net) (rz : (List Inst)), v91_ v1 = some rz → Con Tryz.prog C0 204 [.agg [.sc (.int .i64 (v1.Kind)), .sc (.int .i64 (v1.One_Op)), .fz 3 (R aa (v1.One_Args)), .fz 4 (R aq (v1.Kids))]] [] (fun x σ' => x = .sl 0 0 ((rz).length) ∧ σ' = [.arr true 3 (R ao (rz))])) (v1 : Int) (v2 : Net) (rz : (List Inst)) (h : eC v91_ v1 v2 = some rz) : Con Tryz.prog C0 250 [.sc (.int .i64 (v1)), .agg [.sc (.int .i64 (v2.Kind)), .sc (.int .i64 (v2.One_Op)), .fz 3 (R aa (v2.One_Args)), .fz 4 (R aq (v2.Kids))]] []
  (fun x σ' => x = .sl 0 0 ((rz).length) ∧ σ' = [.arr true 3 (R ao (rz))]) := by
 refine zCon hP 0 [0, 1, 3, 4, 5, 10] [.tmp 4] Tryz.func250 (by unfold Tryz.f250; rfl) fun Q hQ => ?_
 unfold eC at h
 refine zS z0 (zS z0 ?_)
 refine sC fun k3 hk3 => zS z0 ?_
 revert h; refine zI rfl ?_ ?_ <;> intro h
 ·obtain ⟨v3, c6H, h⟩ := bS h
  refine zS (zC1 (lF [] (con_s_l14Copy _ _ c6H))) (ab ?_)
  refine r_cR hk3 ?_
  cases h
  refine zOR hQ
 ·refine ae (r_cN hk3 ?_)
  obtain ⟨v4, c8H, h⟩ := bS h
  obtain ⟨g9, h⟩ := gAp h
  refine zS (zC1Fn (lC [] (ihv9001 _ _ c8H)) g9) (ab ?_)
  cases h
  refine zORd hQ
def bf : Nat → (Net → Option (List Inst)) × (Int → Net → Option (List Inst))
 | 0 => (fun _ => none, fun _ _ => none)
 | n + 1 => (fun v1 => fy ((bf n).1) ((bf n).2) v1, fun v1 v2 => eC ((bf n).1) v1 v2)
theorem s_l14Net_scc_mono : ∀ n, (∀ (v1 : Net), le ((bf n).1 v1) ((bf (n + 1)).1 v1)) ∧ (∀ (v1 : Int) (v2 : Net), le ((bf n).2 v1 v2) ((bf (n + 1)).2 v1 v2)) := by
 intro n
 induction n with
 | zero => exact ⟨fun _ => le_none _, fun _ _ => le_none _⟩
 | succ n ih => exact ⟨fun v1 => s_l14Net_rec_le ih.1 ih.2 v1, fun v1 v2 => s_l14More_rec_le ih.1 v1 v2⟩
def s_l14Net (v1 : Net) : Option (List Inst) := lim fun n => (bf n).1 v1
theorem s_l14Net_up (v1 : Net) {n : Nat} {r : (List Inst)} (e : (bf n).1 v1 = some r) : s_l14Net v1 = some r := lim_eq (fun n => (s_l14Net_scc_mono n).1 v1) e
def s_l14More (v1 : Int) (v2 : Net) : Option (List Inst) := lim fun n => (bf n).2 v1 v2
theorem s_l14More_up (v1 : Int) (v2 : Net) {n : Nat} {r : (List Inst)} (e : (bf n).2 v1 v2 = some r) : s_l14More v1 v2 = some r := lim_eq (fun n => (s_l14Net_scc_mono n).2 v1 v2) e
theorem con_s_l14Net_scc : ∀ n, (∀ (v1 : Net) (rz : (List Inst)), (bf n).1 v1 = some rz → Con Tryz.prog C0 204 [.agg [.sc (.int .i64 (v1.Kind)), .sc (.int .i64 (v1.One_Op)), .fz 3 (R aa (v1.One_Args)), .fz 4 (R aq (v1.Kids))]] [] (fun x σ' => x = .sl 0 0 ((rz).length) ∧ σ' = [.arr true 3 (R ao (rz))])) ∧ (∀ (v1 : Int) (v2 : Net) (rz : (List Inst)), (bf n).2 v1 v2 = some rz → Con Tryz.prog C0 250 [.sc (.int .i64 (v1)), .agg [.sc (.int .i64 (v2.Kind)), .sc (.int .i64 (v2.One_Op)), .fz 3 (R aa (v2.One_Args)), .fz 4 (R aq (v2.Kids))]] [] (fun x σ' => x = .sl 0 0 ((rz).length) ∧ σ' = [.arr true 3 (R ao (rz))])) := by
 intro n
 induction n with
 | zero =>
  refine ⟨?_, ?_⟩
  ·intro v1 rz h; cases h
  ·intro v1 v2 rz h; cases h
 | succ n ih =>
  refine ⟨?_, ?_⟩
  ·exact fun v1 rz h => con_s_l14Net_step ((bf n).1) ((bf n).2) (ih.1) (ih.2) v1 rz h
  ·exact fun v1 v2 rz h => con_s_l14More_step ((bf n).1) (ih.1) v1 v2 rz h
theorem con_s_l14Net (v1 : Net) (rz : (List Inst)) (h : s_l14Net v1 = some rz) : Con Tryz.prog C0 204 [.agg [.sc (.int .i64 (v1.Kind)), .sc (.int .i64 (v1.One_Op)), .fz 3 (R aa (v1.One_Args)), .fz 4 (R aq (v1.Kids))]] []
  (fun x σ' => x = .sl 0 0 ((rz).length) ∧ σ' = [.arr true 3 (R ao (rz))]) := by
 obtain ⟨n, hn⟩ := en h
 exact (con_s_l14Net_scc n).1 v1 _ hn
theorem con_s_l14More (v1 : Int) (v2 : Net) (rz : (List Inst)) (h : s_l14More v1 v2 = some rz) : Con Tryz.prog C0 250 [.sc (.int .i64 (v1)), .agg [.sc (.int .i64 (v2.Kind)), .sc (.int .i64 (v2.One_Op)), .fz 3 (R aa (v2.One_Args)), .fz 4 (R aq (v2.Kids))]] []
  (fun x σ' => x = .sl 0 0 ((rz).length) ∧ σ' = [.arr true 3 (R ao (rz))]) := by
 obtain ⟨n, hn⟩ := en h
 exact (con_s_l14Net_scc n).2 v1 v2 _ hn
def s_l14Behind_j21 : (List Inst) → Option (List Inst)
 | v13 => (some v13)
def gE (v1 : Net) : ((List Inst) × Int) → Option (((List Inst) × Int) ⊕ (List Inst))
 | (v16, v17) => (cond (decide (v17 < ((v1.Kids).length : Int))) ((idx v1.Kids (v17)).bind fun v21 => ((s_l14More 2 v21).bind fun v22 => (gd (apOk ((v16 ++ v22)).length 40) (some (.inl ((v16 ++ v22), (IntKind.i64.wrap (v17 + 1)))))))) (some (.inr v16)))
def s_l14Behind (v1 : Net) : Option (List Inst) :=
 ((gG v1).bind fun v2 => (cond v2 (some []) (cond (v1.Kind != 2) ((s_l14More 2 v1).bind fun v3 => (some v3)) ((loop (gE v1) ([], 0)).bind (fun v20 => (s_l14Behind_j21 v20))))))
theorem con_s_l14Behind (v1 : Net) (rz : (List Inst)) (h : s_l14Behind v1 = some rz) : Con Tryz.prog C0 251 [.agg [.sc (.int .i64 (v1.Kind)), .sc (.int .i64 (v1.One_Op)), .fz 3 (R aa (v1.One_Args)), .fz 4 (R aq (v1.Kids))]] []
  (fun x σ' => x = .sl 0 0 ((rz).length) ∧ σ' = [.arr true 3 (R ao (rz))]) := by
 refine zCon hP 0 [0, 1, 2, 3, 4, 6, 9, 17] [.tmp 2] Tryz.func251 (by unfold Tryz.f251; rfl) fun Q hQ => ?_
 unfold s_l14Behind at h
 refine zS z0 (sC fun k2 hk2 => ?_)
 obtain ⟨v2, c4H, h⟩ := bS h
 refine zS (zC1 (lF [] (ey _ _ c4H))) ?_
 revert h; refine zI rfl ?_ ?_ <;> intro h
 ·refine zS z0 (ab ?_)
  refine r_cR hk2 ?_
  cases h
  refine zVRw [2000002] hQ
 ·refine ae (r_cN hk2 ?_)
  refine sC fun k6 hk6 => zS z0 ?_
  revert h; refine zI rfl ?_ ?_ <;> intro h
  ·obtain ⟨v3, c9H, h⟩ := bS h
   refine zS (zC1 (lC [] (con_s_l14More _ _ _ c9H))) (ab ?_)
   refine r_cR hk6 ?_
   cases h
   refine zOR hQ
  ·refine ae (r_cN hk6 ?_)
   refine zS z0 (zCut (fun (x : (List Inst)) => ⟨[(3, .sl 0 0 ((x).length))], [.arr true 3 (R ao (x))]⟩) s_l14Behind_j21 rz ?_ ?_)
   ·rintro _ v13 h
    simp only [s_l14Behind_j21] at h
    refine zS z0 (ab ?_)
    cases h
    refine zOR hQ
   ·intro k37 hk37 J36
    refine zS z0 (sB fun k39 hk39 => ?_)
    obtain ⟨oq54, hLq54, hKq54⟩ := bS h
    clear h
    refine ay [1, 3, 4] (fun (_ : Unit) (x : ((List Inst) × Int)) => (⟨[(1, .pt 0 0), (3, .sl 1 0 ((x.1).length)), (4, .sc (.int .i64 (x.2)))], [.rc [.sc (.int .i64 (v1.Kind)), .sc (.int .i64 (v1.One_Op)), .fz 3 (R aa (v1.One_Args)), .fz 4 (R aq (v1.Kids))], .arr true 3 (R ao (x.1))]⟩ : St)) (fun (_ : Unit) (x : ((List Inst) × Int)) => True) (gE v1) () ([], 0) hLq54 (by rfl) (by rfl) ⟨?_, trivial⟩ ?_
    ·exact zSa
    ·rintro nq54 _ ⟨v16, v17⟩ xq54 kq54 hkq54 - h hIq54 hEq54
     simp only [gE] at h
     refine sC fun k55 hk55 => zS z0 ?_
     revert h; refine zI rfl ?_ ?_ <;> intro h
     ·refine ae (r_cN hk55 ?_)
      refine sC fun k57 hk57 => sB fun k58 hk58 => ?_
      obtain ⟨v21, h, c59⟩ := bI h
      obtain ⟨v22, c60H, h⟩ := bS h
      obtain ⟨g61, h⟩ := gAp h
      refine zU (zC1F (lC [] (con_s_l14More _ _ _ c60H)) (a2 c59 g61)) (r_bN hk58 ?_)
      refine r_cN hk57 (zU z0 ?_)
      refine zB hkq54 h hIq54 () trivial
     ·refine aK (r_cE hk55 ?_)
      replace h := zX h hEq54 hKq54
      refine r_kE hkq54 (r_bE hk39 ?_)
      refine zJ J36 [3] () _ h
def s_l14Tail_j22 : (List Inst) → Option (List Inst)
 | v30 => (some v30)
def cm (v1 : Arm) (v37 : Int) (v91_ : (Arm → Option (List Inst))) : (List Inst) → Option (((List Inst) × Int) ⊕ (List Inst))
 | v44 => ((idx v1.Kids (v37)).bind fun v45 => ((s_l14Behind (⟨v45.Net_Kind, v45.Net_One_Op, v45.Net_One_Args, v45.Net_Kids⟩ : Net)).bind fun v46 => (gd (apOk ((v44 ++ v46)).length 40) ((idx v1.Kids (v37)).bind fun v47 => ((v91_ v47).bind fun v48 => (gd (apOk (((v44 ++ v46) ++ v48)).length 40) (some (.inl (((v44 ++ v46) ++ v48), (IntKind.i64.wrap (v37 + 1)))))))))))
def eD (v1 : Arm) (v91_ : (Arm → Option (List Inst))) : ((List Inst) × Int) → Option (((List Inst) × Int) ⊕ (List Inst))
 | (v36, v37) => (cond (decide (v37 < ((v1.Kids).length : Int))) (cond (((v1.Kids).length : Int) == 1) (cm v1 v37 v91_ v36) (cond (v37 == 0) (gd (apOk ((v36 ++ [(⟨7, 0, []⟩ : Inst)])).length 40) (cm v1 v37 v91_ (v36 ++ [(⟨7, 0, []⟩ : Inst)]))) (cond (v37 == (IntKind.i64.wrap (((v1.Kids).length : Int) - 1))) (gd (apOk ((v36 ++ [(⟨9, 0, []⟩ : Inst)])).length 40) (cm v1 v37 v91_ (v36 ++ [(⟨9, 0, []⟩ : Inst)]))) (gd (apOk ((v36 ++ [(⟨8, 0, []⟩ : Inst)])).length 40) (cm v1 v37 v91_ (v36 ++ [(⟨8, 0, []⟩ : Inst)])))))) (some (.inr v36)))
def gu (v1 : Arm) (v91_ : (Arm → Option (List Inst))) : (List Inst) → Option (List Inst)
 | v11 => ((loop (eD v1 v91_) (v11, 0)).bind (fun v43 => (s_l14Tail_j22 v43)))
def s_l14Tail_s9 (v1 : Arm) : ((List Inst) × Int) → Option (((List Inst) × Int) ⊕ (List Inst))
 | (v51, v52) => (cond (decide (v52 < ((v1.Coils).length : Int))) ((idx v1.Coils (v52)).bind fun v56 => ((s_l14Copy v56).bind fun v57 => (gd (apOk ((v51 ++ [(⟨10, v57.Op, v57.Args⟩ : Inst)])).length 40) (some (.inl ((v51 ++ [(⟨10, v57.Op, v57.Args⟩ : Inst)]), (IntKind.i64.wrap (v52 + 1)))))))) (some (.inr v51)))
def eA (v91_ : (Arm → Option (List Inst))) (v1 : Arm) : Option (List Inst) :=
 ((loop (s_l14Tail_s9 v1) ([], 0)).bind (fun v55 => (gu v1 v91_ v55)))
theorem eN {v91_ v91_' : (Arm → Option (List Inst))} (hv91_ : ∀ a0, le (v91_ a0) (v91_' a0)) (v1 : Arm) (v37 : Int) : ∀ x, le (cm v1 v37 v91_ x) (cm v1 v37 v91_' x) := by
 rintro v44
 simp only [cm]
 repeat' (first | (with_reducible exact le_refl _) | exact hv91_ _ | refine bj ?_ (fun _ => ?_) | refine bm ?_ ?_ | refine di ?_ | refine bn (fun _ => ?_) | refine bO (fun _ => ?_) (fun _ => ?_) _ | refine az ?_ _)
theorem iq {v91_ v91_' : (Arm → Option (List Inst))} (hv91_ : ∀ a0, le (v91_ a0) (v91_' a0)) (v1 : Arm) : ∀ x, le (eD v1 v91_ x) (eD v1 v91_' x) := by
 rintro ⟨v36, v37⟩
 simp only [eD]
 repeat' (first | (with_reducible exact le_refl _) | exact hv91_ _ | exact eN hv91_ _ _ _ | refine az (eN hv91_ _ _) _ | refine bj ?_ (fun _ => ?_) | refine bm ?_ ?_ | refine di ?_ | refine bn (fun _ => ?_) | refine bO (fun _ => ?_) (fun _ => ?_) _ | refine az ?_ _)
theorem s_l14Tail_j5_le {v91_ v91_' : (Arm → Option (List Inst))} (hv91_ : ∀ a0, le (v91_ a0) (v91_' a0)) (v1 : Arm) : ∀ x, le (gu v1 v91_ x) (gu v1 v91_' x) := by
 rintro v11
 simp only [gu]
 repeat' (first | (with_reducible exact le_refl _) | exact hv91_ _ | exact eN hv91_ _ _ _ | refine az (eN hv91_ _ _) _ | exact iq hv91_ _ _ | refine az (iq hv91_ _) _ | refine bj ?_ (fun _ => ?_) | refine bm ?_ ?_ | refine di ?_ | refine bn (fun _ => ?_) | refine bO (fun _ => ?_) (fun _ => ?_) _ | refine az ?_ _)
theorem s_l14Tail_rec_le {v91_ v91_' : (Arm → Option (List Inst))} (hv91_ : ∀ a0, le (v91_ a0) (v91_' a0)) (v1 : Arm) : le (eA v91_ v1) (eA v91_' v1) := by
 unfold eA
 repeat' (first | (with_reducible exact le_refl _) | exact hv91_ _ | exact eN hv91_ _ _ _ | refine az (eN hv91_ _ _) _ | exact iq hv91_ _ _ | refine az (iq hv91_ _) _ | exact s_l14Tail_j5_le hv91_ _ _ | refine az (s_l14Tail_j5_le hv91_ _) _ | refine bj ?_ (fun _ => ?_) | refine bm ?_ ?_ | refine di ?_ | refine bn (fun _ => ?_) | refine bO (fun _ => ?_) (fun _ => ?_) _ | refine az ?_ _)
theorem con_s_l14Tail_step (v91_ : (Arm → Option (List Inst))) (ihv9001 : ∀ (v1 : Arm) (rz : (List Inst)), v91_ v1 = some rz → Con Tryz.prog C0 205 [.agg [.sc (.int .i64 (v1.Net_Kind)), .sc (.int .i64 (v1.Net_One_Op)), .fz 3 (R aa (v1.Net_One_Args)), .fz 4 (R aq (v1.Net_Kids)), .fz 2 (R aE (v1.Coils)), .fz 6 (R aO (v1.Kids))]] [] (fun x σ' => x = .sl 0 0 ((rz).length) ∧ σ' = [.arr true 3 (R ao (rz))])) (v1 : Arm) (rz : (List Inst)) (h : eA v91_ v1 = some rz) : Con Tryz.prog C0 205 [.agg [.sc (.int .i64 (v1.Net_Kind)), .sc (.int .i64 (v1.Net_One_Op)), .fz 3 (R aa (v1.Net_One_Args)), .fz 4 (R aq (v1.Net_Kids)), .fz 2 (R aE (v1.Coils)), .fz 6 (R aO (v1.Kids))]] []
  (fun x σ' => x = .sl 0 0 ((rz).length) ∧ σ' = [.arr true 3 (R ao (rz))]) := by
 refine zCon hP 0 [0, 1, 2, 3, 4, 5, 6, 12, 30, 37, 40, 47] [.tmp 2] Tryz.func205 (by unfold Tryz.f205; rfl) fun Q hQ => ?_
 unfold eA at h
 refine zS z0 (zS z0 ?_)
 refine zCut (fun (x : (List Inst)) => ⟨[(1, .pt 0 0), (3, .sl 1 0 ((x).length))], [.rc [.sc (.int .i64 (v1.Net_Kind)), .sc (.int .i64 (v1.Net_One_Op)), .fz 3 (R aa (v1.Net_One_Args)), .fz 4 (R aq (v1.Net_Kids)), .fz 2 (R aE (v1.Coils)), .fz 6 (R aO (v1.Kids))], .arr true 3 (R ao (x))]⟩) (gu v1 v91_) rz ?_ ?_
 ·rintro _ v11 h
  simp only [gu] at h
  refine zS z0 (zCut (fun (x : (List Inst)) => ⟨[(3, .sl 0 0 ((x).length))], [.arr true 3 (R ao (x))]⟩) s_l14Tail_j22 rz ?_ ?_)
  ·rintro _ v30 h
   simp only [s_l14Tail_j22] at h
   refine zS z0 (ab ?_)
   cases h
   refine zOR hQ
  ·intro k108 hk108 J107
   refine zS z0 (sB fun k110 hk110 => ?_)
   obtain ⟨oq159, hLq159, hKq159⟩ := bS h
   clear h
   refine ay [1, 3, 5, 6] (fun (_ : Unit) (x : ((List Inst) × Int)) => (⟨[(1, .pt 0 0), (3, .sl 1 0 ((x.1).length)), (5, .sc (.int .i64 (((v1.Kids).length : Int)))), (6, .sc (.int .i64 (x.2)))], [.rc [.sc (.int .i64 (v1.Net_Kind)), .sc (.int .i64 (v1.Net_One_Op)), .fz 3 (R aa (v1.Net_One_Args)), .fz 4 (R aq (v1.Net_Kids)), .fz 2 (R aE (v1.Coils)), .fz 6 (R aO (v1.Kids))], .arr true 3 (R ao (x.1))]⟩ : St)) (fun (_ : Unit) (x : ((List Inst) × Int)) => True) (eD v1 v91_) () (v11, 0) hLq159 (by rfl) (by rfl) ⟨?_, trivial⟩ ?_
   ·exact zSa
   ·rintro nq159 _ ⟨v36, v37⟩ xq159 kq159 hkq159 - h hIq159 hEq159
    simp only [eD] at h
    refine sC fun k160 hk160 => zS z0 ?_
    revert h; refine zI rfl ?_ ?_ <;> intro h
    ·refine ae (r_cN hk160 ?_)
     refine sC fun k162 hk162 => sB fun k163 hk163 => zCut (fun (x : (List Inst)) => ⟨[(1, .pt 0 0), (3, .sl 1 0 ((x).length)), (5, .sc (.int .i64 (((v1.Kids).length : Int)))), (6, .sc (.int .i64 (v37)))], [.rc [.sc (.int .i64 (v1.Net_Kind)), .sc (.int .i64 (v1.Net_One_Op)), .fz 3 (R aa (v1.Net_One_Args)), .fz 4 (R aq (v1.Net_Kids)), .fz 2 (R aE (v1.Coils)), .fz 6 (R aO (v1.Kids))], .arr true 3 (R ao (x))]⟩) (cm v1 v37 v91_) xq159 ?_ ?_
     ·rintro _ v44 h
      simp only [cm] at h
      obtain ⟨v45, h, c172⟩ := bI h
      obtain ⟨v46, c173H, h⟩ := bS h
      obtain ⟨g174, h⟩ := gAp h
      refine zS (zC1F (lC [] (con_s_l14Behind _ _ c173H)) (a2 c172 g174)) ?_
      obtain ⟨v47, h, c175⟩ := bI h
      obtain ⟨v48, c176H, h⟩ := bS h
      obtain ⟨g177, h⟩ := gAp h
      refine zU (zC1F (lC [] (ihv9001 _ _ c176H)) (a2 c175 g177)) (r_bN hk163 ?_)
      refine r_cN hk162 (zU z0 ?_)
      refine zB hkq159 h hIq159 () trivial
     ·intro k179 hk179 J178
      refine sB fun k180 hk180 => zS z0 ?_
      revert h; refine zI rfl ?_ ?_ <;> intro h
      ·refine ae (r_bN hk180 ?_)
       refine zJ J178 [1, 3, 5, 6] () _ h
      ·refine zS z0 ?_
       revert h; refine zI rfl ?_ ?_ <;> intro h
       ·obtain ⟨g183, h⟩ := gAp h
        refine zU (zRFn g183) (r_bN hk180 ?_)
        refine zJd J178 [1, 3, 5, 6] () _ h
       ·refine zS z0 ?_
        revert h; refine zI rfl ?_ ?_ <;> intro h
        ·obtain ⟨g185, h⟩ := gAp h
         refine zU (zRFn g185) (r_bN hk180 ?_)
         refine zJd J178 [1, 3, 5, 6] () _ h
        ·obtain ⟨g186, h⟩ := gAp h
         refine zU (zRFn g186) (r_bN hk180 ?_)
         refine zJd J178 [1, 3, 5, 6] () _ h
    ·refine aK (r_cE hk160 ?_)
     replace h := zX h hEq159 hKq159
     refine r_kE hkq159 (r_bE hk110 ?_)
     refine zJ J107 [3] () _ h
 ·intro k188 hk188 J187
  refine zS z0 (sB fun k190 hk190 => ?_)
  obtain ⟨oq205, hLq205, hKq205⟩ := bS h
  clear h
  refine ay [1, 3, 4] (fun (_ : Unit) (x : ((List Inst) × Int)) => (⟨[(1, .pt 0 0), (3, .sl 1 0 ((x.1).length)), (4, .sc (.int .i64 (x.2)))], [.rc [.sc (.int .i64 (v1.Net_Kind)), .sc (.int .i64 (v1.Net_One_Op)), .fz 3 (R aa (v1.Net_One_Args)), .fz 4 (R aq (v1.Net_Kids)), .fz 2 (R aE (v1.Coils)), .fz 6 (R aO (v1.Kids))], .arr true 3 (R ao (x.1))]⟩ : St)) (fun (_ : Unit) (x : ((List Inst) × Int)) => True) (s_l14Tail_s9 v1) () ([], 0) hLq205 (by rfl) (by rfl) ⟨?_, trivial⟩ ?_
  ·exact zSa
  ·rintro nq205 _ ⟨v51, v52⟩ xq205 kq205 hkq205 - h hIq205 hEq205
   simp only [s_l14Tail_s9] at h
   refine sC fun k206 hk206 => zS z0 ?_
   revert h; refine zI rfl ?_ ?_ <;> intro h
   ·refine ae (r_cN hk206 ?_)
    refine sC fun k208 hk208 => sB fun k209 hk209 => ?_
    obtain ⟨v56, h, c210⟩ := bI h
    obtain ⟨v57, c211H, h⟩ := bS h
    obtain ⟨g212, h⟩ := gAp h
    refine zU (zC1F (lF [] (con_s_l14Copy _ _ c211H)) (a2 c210 g212)) (r_bN hk209 ?_)
    refine r_cN hk208 (zU z0 ?_)
    refine zB hkq205 h hIq205 () trivial
   ·refine aK (r_cE hk206 ?_)
    replace h := zX h hEq205 hKq205
    refine r_kE hkq205 (r_bE hk190 ?_)
    refine zJ J187 [1, 3] () _ h
def cG : Nat → (Arm → Option (List Inst))
 | 0 => fun _ => none
 | n + 1 => fun v1 => eA (cG n) v1
theorem s_l14Tail_scc_mono : ∀ n, (∀ (v1 : Arm), le ((cG n) v1) ((cG (n + 1)) v1)) := by
 intro n
 induction n with
 | zero => exact fun _ => le_none _
 | succ n ih => exact fun v1 => s_l14Tail_rec_le ih v1
def s_l14Tail (v1 : Arm) : Option (List Inst) := lim fun n => (cG n) v1
theorem s_l14Tail_up (v1 : Arm) {n : Nat} {r : (List Inst)} (e : (cG n) v1 = some r) : s_l14Tail v1 = some r := lim_eq (fun n => (s_l14Tail_scc_mono n) v1) e
theorem con_s_l14Tail_scc : ∀ n, (∀ (v1 : Arm) (rz : (List Inst)), (cG n) v1 = some rz → Con Tryz.prog C0 205 [.agg [.sc (.int .i64 (v1.Net_Kind)), .sc (.int .i64 (v1.Net_One_Op)), .fz 3 (R aa (v1.Net_One_Args)), .fz 4 (R aq (v1.Net_Kids)), .fz 2 (R aE (v1.Coils)), .fz 6 (R aO (v1.Kids))]] [] (fun x σ' => x = .sl 0 0 ((rz).length) ∧ σ' = [.arr true 3 (R ao (rz))])) := by
 intro n
 induction n with
 | zero =>
  intro v1 rz h; cases h
 | succ n ih =>
  exact fun v1 rz h => con_s_l14Tail_step (cG n) (ih) v1 rz h
theorem con_s_l14Tail (v1 : Arm) (rz : (List Inst)) (h : s_l14Tail v1 = some rz) : Con Tryz.prog C0 205 [.agg [.sc (.int .i64 (v1.Net_Kind)), .sc (.int .i64 (v1.Net_One_Op)), .fz 3 (R aa (v1.Net_One_Args)), .fz 4 (R aq (v1.Net_Kids)), .fz 2 (R aE (v1.Coils)), .fz 6 (R aO (v1.Kids))]] []
  (fun x σ' => x = .sl 0 0 ((rz).length) ∧ σ' = [.arr true 3 (R ao (rz))]) := by
 obtain ⟨n, hn⟩ := en h
 exact (con_s_l14Tail_scc n) v1 _ hn
def s_WayPlain_j7 : (List Inst) → Option (List Inst)
 | v18 => (some v18)
def gX (v2 : (List Arm)) : ((List Inst) × Int) → Option (((List Inst) × Int) ⊕ (List Inst))
 | (v23, v24) => (cond (decide (v24 < (((v2).length : Nat) : Int))) ((idx v2 (v24)).bind fun v30 => ((s_l14Net (⟨v30.Net_Kind, v30.Net_One_Op, v30.Net_One_Args, v30.Net_Kids⟩ : Net)).bind fun v31 => (gd (apOk ((v23 ++ v31)).length 40) ((idx v2 (v24)).bind fun v32 => ((s_l14Tail v32).bind fun v33 => (gd (apOk (((v23 ++ v31) ++ v33)).length 40) (gd (apOk ((((v23 ++ v31) ++ v33) ++ [(⟨11, 0, []⟩ : Inst)])).length 40) (some (.inl ((((v23 ++ v31) ++ v33) ++ [(⟨11, 0, []⟩ : Inst)]), (IntKind.i64.wrap (v24 + 1)))))))))))) (some (.inr v23)))
def s_WayPlain (v1 : (List Arm)) : Option (List Inst) :=
 ((s_NormMake v1).bind fun v2 => ((loop (gX v2) ([], 0)).bind (fun v29 => (s_WayPlain_j7 v29))))
theorem con_s_WayPlain (v1 : (List Arm)) (rz : (List Inst)) (h : s_WayPlain v1 = some rz) : Con Tryz.prog C0 129 [.fz 6 (R aO (v1))] []
  (fun x σ' => x = .sl 0 0 ((rz).length) ∧ σ' = [.arr true 3 (R ao (rz))]) := by
 refine zCon hP 0 [0, 2, 3, 4, 5, 12] [.tmp 2] Tryz.func129 (by unfold Tryz.f129; rfl) fun Q hQ => ?_
 unfold s_WayPlain at h
 refine zS z0 ?_
 obtain ⟨v2, c3H, h⟩ := bS h
 refine zS (zC1 (lC [] (con_s_NormMake _ _ c3H))) (zS z0 ?_)
 refine zCut (fun (x : (List Inst)) => ⟨[(4, .sl 0 0 ((x).length))], [.arr true 3 (R ao (x))]⟩) s_WayPlain_j7 rz ?_ ?_
 ·rintro _ v18 h
  simp only [s_WayPlain_j7] at h
  refine zS z0 (ab ?_)
  cases h
  refine zOR hQ
 ·intro k49 hk49 J48
  refine zS z0 (sB fun k51 hk51 => ?_)
  obtain ⟨oq78, hLq78, hKq78⟩ := bS h
  clear h
  refine ay [3, 4, 5] (fun (_ : Unit) (x : ((List Inst) × Int)) => (⟨[(3, .sl 0 0 ((v2).length)), (4, .sl 1 0 ((x.1).length)), (5, .sc (.int .i64 (x.2)))], [.arr true 6 (R aO (v2)), .arr true 3 (R ao (x.1))]⟩ : St)) (fun (_ : Unit) (x : ((List Inst) × Int)) => True) (gX v2) () ([], 0) hLq78 (by rfl) (by rfl) ⟨?_, trivial⟩ ?_
  ·exact zSa
  ·rintro nq78 _ ⟨v23, v24⟩ xq78 kq78 hkq78 - h hIq78 hEq78
   simp only [gX] at h
   refine sC fun k79 hk79 => zS z0 ?_
   revert h; refine zI rfl ?_ ?_ <;> intro h
   ·refine ae (r_cN hk79 ?_)
    refine sC fun k81 hk81 => sB fun k82 hk82 => ?_
    obtain ⟨v30, h, c84⟩ := bI h
    obtain ⟨v31, c85H, h⟩ := bS h
    obtain ⟨g86, h⟩ := gAp h
    refine zS (zC1F (lC [] (con_s_l14Net _ _ c85H)) (a2 c84 g86)) ?_
    obtain ⟨v32, h, c88⟩ := bI h
    obtain ⟨v33, c89H, h⟩ := bS h
    obtain ⟨g90, h⟩ := gAp h
    refine zS (zC1F (lC [] (con_s_l14Tail _ _ c89H)) (a2 c88 g90)) ?_
    obtain ⟨g91, h⟩ := gAp h
    refine zU (zRFn g91) (r_bN hk82 ?_)
    refine r_cN hk81 (zU z0 ?_)
    refine zBd hkq78 h hIq78 () trivial
   ·refine aK (r_cE hk79 ?_)
    replace h := zX h hEq78 hKq78
    refine r_kE hkq78 (r_bE hk51 ?_)
    refine zJ J48 [4] () _ h

end
end Go.AM
