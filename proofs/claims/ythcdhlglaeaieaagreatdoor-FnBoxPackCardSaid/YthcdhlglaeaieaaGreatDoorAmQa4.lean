/- Pure functions and their contracts. Conditions: none. -/
import Derived.Test.YthcdhlglaeaieaaGreatDoorAmQa3
set_option linter.unusedSimpArgs false
set_option linter.unusedVariables false
set_option maxRecDepth 10000
set_option maxHeartbeats 4000000
namespace Go.AM
open Go Go.Proofs
noncomputable section
def m_needs_j13 : Bool → Option Int
 | v2 => (cond v2 (some 2) (some 1))
def m_needs (v1 : Int) : Option Int :=
 (cond (v1 == 1) (some 0) (cond (v1 == 4) (m_needs_j13 (v1 == 4)) (m_needs_j13 (v1 == 5))))
theorem con_m_needs (v1 : Int) (rz : Int) (h : m_needs v1 = some rz) : Con Tryz.prog C0 121 [.sc (.int .i64 (v1))] []
  (fun x σ' => x = .sc (.int .i64 (rz)) ∧ σ' = []) := by
 refine zCon hP 0 [0, 2, 3, 4, 6] [.tmp 2] Tryz.func121 (by unfold Tryz.f121; rfl) fun Q hQ => ?_
 unfold m_needs at h
 refine zS z0 (sC fun k2 hk2 => ?_)
 refine zS z0 (sB fun k4 hk4 => ?_)
 refine zS z0 ?_
 revert h; refine zI rfl ?_ ?_ <;> intro h
 ·refine zS z0 (ab ?_)
  refine r_bR hk4 (r_cR hk2 ?_)
  cases h
  refine zAR hQ
 ·refine zCut (fun (x : Bool) => ⟨[(6, .sc (.bool (x)))], []⟩) m_needs_j13 rz ?_ ?_
  ·rintro _ v2 h
   simp only [m_needs_j13] at h
   revert h; refine zI rfl ?_ ?_ <;> intro h
   ·refine zS z0 (ab ?_)
    refine r_bR hk4 (r_cR hk2 ?_)
    cases h
    refine zAR hQ
   ·refine ae (r_bN hk4 ?_)
    refine r_cN hk2 (zS z0 ?_)
    refine ab ?_
    cases h
    refine zAR hQ
  ·intro k11 hk11 J10
   refine zS z0 ?_
   revert h; refine zI rfl ?_ ?_ <;> intro h
   ·refine ae (zJ J10 [6] () _ h)
   ·refine zU z0 (zJ J10 [6] () _ h)
def cD (v2 : Inst) (v4 : Bool) : Bool → Option Int
 | v7 => (cond v7 (some 7) (cond ((((v2.Code == 8) || (v2.Code == 9)) || (v2.Code == 11)) && (!v4)) (some 8) (some 0)))
def fh (v1 : SureState) (v2 : Inst) (v3 : Bool) (v4 : Bool) : Option Int :=
 ((m_ListOk v2).bind fun v5 => (cond (!v5) (some 2) ((m_needs v2.Code).bind fun v6 => (cond (decide (v1.Bits < v6)) (some 3) (cond ((v2.Code == 1) && (decide (v1.Bits ≥ 16))) (some 4) (cond ((decide (v2.Code ≥ 7)) && (decide (v1.Bits > 1))) (some 5) (cond (v3 && ((((v2.Code == 3) || (v2.Code == 6)) && (v1.Bits == 1)) || ((v2.Code == 5) && (v1.Bits == 2)))) (some 6) (cond ((v2.Code == 7) && (decide (v1.Forks ≥ 8))) (cD v2 v4 ((v2.Code == 7) && (decide (v1.Forks ≥ 8)))) (cond (((v2.Code == 8) || (v2.Code == 9)) && (v1.Forks == 0)) (cD v2 v4 (((v2.Code == 8) || (v2.Code == 9)) && (v1.Forks == 0))) (cD v2 v4 ((v2.Code == 11) && (v1.Forks != 0))))))))))))
theorem con_m_SureState_wrong (v1 : SureState) (v2 : Inst) (v3 : Bool) (v4 : Bool) (rz : Int) (h : fh v1 v2 v3 v4 = some rz) : Con Tryz.prog C0 57 [.agg [.sc (.int .i64 (v1.Bits)), .sc (.int .i64 (v1.Forks))], .agg [.sc (.int .i64 (v2.Code)), .sc (.int .i64 (v2.One_Op)), .fz 3 (R aa (v2.One_Args))], .sc (.bool (v3)), .sc (.bool (v4))] []
  (fun x σ' => x = .sc (.int .i64 (rz)) ∧ σ' = []) := by
 refine zCon hP 0 [0, 1, 2, 3, 4, 5, 8, 9, 12, 16, 22, 30, 38, 62, 88] [.tmp 8] Tryz.func57 (by unfold Tryz.f57; rfl) fun Q hQ => ?_
 unfold fh at h
 refine zS z0 (zS z0 ?_)
 refine sC fun k3 hk3 => sB fun k4 hk4 => ?_
 obtain ⟨v5, c6H, h⟩ := bS h
 refine zS (zC1 (lF [] (con_m_ListOk _ _ c6H))) ?_
 revert h; refine zI rfl ?_ ?_ <;> intro h
 ·refine zS z0 (ab ?_)
  refine r_bR hk4 (r_cR hk3 ?_)
  cases h
  refine zAR hQ
 ·obtain ⟨v6, c9H, h⟩ := bS h
  refine zS (zPC1 (.take 0 (.take 1 (.take 2 (.one 3 (.take 4 (.take 5 .done)))))) [0] (lF [] (con_m_needs _ _ c9H))) ?_
  revert h; refine zI rfl ?_ ?_ <;> intro h
  ·refine zS z0 (ab ?_)
   refine r_bR hk4 (r_cR hk3 ?_)
   cases h
   refine zAR hQ
  ·refine zS zR ?_
   revert h; refine zI rfl ?_ ?_ <;> intro h
   ·refine zS z0 (ab ?_)
    refine r_bR hk4 (r_cR hk3 ?_)
    cases h
    refine zAR hQ
   ·refine zS zR ?_
    revert h; refine zI rfl ?_ ?_ <;> intro h
    ·refine zS z0 (ab ?_)
     refine r_bR hk4 (r_cR hk3 ?_)
     cases h
     refine zAR hQ
    ·refine zS zR ?_
     revert h; refine zI rfl ?_ ?_ <;> intro h
     ·refine zS z0 (ab ?_)
      refine r_bR hk4 (r_cR hk3 ?_)
      cases h
      refine zAR hQ
     ·refine zCut (fun (x : Bool) => ⟨[(3, .sc (.bool (v4))), (9, .sc (.int .i64 (v2.Code))), (62, .sc (.bool (x)))], []⟩) (cD v2 v4) rz ?_ ?_
      ·rintro _ v7 h
       simp only [cD] at h
       revert h; refine zI rfl ?_ ?_ <;> intro h
       ·refine zS z0 (ab ?_)
        refine r_bR hk4 (r_cR hk3 ?_)
        cases h
        refine zAR hQ
       ·refine zS zR ?_
        revert h; refine zI rfl ?_ ?_ <;> intro h
        ·refine zS z0 (ab ?_)
         refine r_bR hk4 (r_cR hk3 ?_)
         cases h
         refine zAR hQ
        ·refine ae (r_bN hk4 ?_)
         refine r_cN hk3 (zS z0 ?_)
         refine ab ?_
         cases h
         refine zAR hQ
      ·intro k24 hk24 J23
       refine zS zR ?_
       revert h; refine zI rfl ?_ ?_ <;> intro h
       ·refine ae (zJ J23 [3, 9, 62] () _ h)
       ·refine zS zR ?_
        revert h; refine zI rfl ?_ ?_ <;> intro h
        ·refine ae (zJ J23 [3, 9, 62] () _ h)
        ·refine zU zR (zJ J23 [3, 9, 62] () _ h)
def bB : (Int × Int) → Option SureState
 | (v4, v5) => (some (⟨v4, v5⟩ : SureState))
def ct (v1 : SureState) (v2 : Int) : Bool → Option SureState
 | v6 => (cond v6 (bB ((IntKind.i64.wrap (v1.Bits - 1)), v1.Forks)) (cond (v2 == 7) (bB (v1.Bits, (IntKind.i64.wrap (v1.Forks + 1)))) (cond (v2 == 9) (bB (v1.Bits, (IntKind.i64.wrap (v1.Forks - 1)))) (bB (v1.Bits, v1.Forks)))))
def eV (v1 : SureState) (v2 : Int) : Option SureState :=
 (cond (v2 == 1) (bB ((IntKind.i64.wrap (v1.Bits + 1)), v1.Forks)) (cond (v2 == 4) (ct v1 v2 (v2 == 4)) (cond (v2 == 5) (ct v1 v2 (v2 == 5)) (ct v1 v2 (v2 == 11)))))
theorem con_m_SureState_behind (v1 : SureState) (v2 : Int) (rz : SureState) (h : eV v1 v2 = some rz) : Con Tryz.prog C0 58 [.agg [.sc (.int .i64 (v1.Bits)), .sc (.int .i64 (v1.Forks))], .sc (.int .i64 (v2))] []
  (fun x σ' => x = .agg [.sc (.int .i64 (rz.Bits)), .sc (.int .i64 (rz.Forks))] ∧ σ' = []) := by
 refine zCon hP 0 [0, 1, 2, 4, 5, 6, 12, 20, 26] [.cell 4 50] Tryz.func58 (by unfold Tryz.f58; rfl) fun Q hQ => ?_
 unfold eV at h
 refine zS z0 (zCut (fun (x : (Int × Int)) => ⟨[(2, .pt 0 0), (4, .pt 1 0)], [.rc [.sc (.int .i64 (x.1)), .sc (.int .i64 (x.2))], .rc [.sc (.int .i64 (0)), .sc (.int .i64 (0))]]⟩) bB rz ?_ ?_)
 ·rintro _ ⟨v4, v5⟩ h
  simp only [bB] at h
  refine zS z0 (ab ?_)
  cases h
  refine zAR hQ
 ·intro k15 hk15 J14
  refine zS z0 (sB fun k17 hk17 => ?_)
  refine zS z0 ?_
  revert h; refine zI rfl ?_ ?_ <;> intro h
  ·refine zU z0 (r_bN hk17 ?_)
   refine zJ J14 [2, 4] () _ h
  ·refine zCut (fun (x : Bool) => ⟨[(2, .pt 0 0), (4, .pt 1 0), (5, .sc (.int .i64 (v2))), (12, .sc (.bool (x)))], [.rc [.sc (.int .i64 (v1.Bits)), .sc (.int .i64 (v1.Forks))], .rc [.sc (.int .i64 (0)), .sc (.int .i64 (0))]]⟩) (ct v1 v2) rz ?_ ?_
   ·rintro _ v6 h
    simp only [ct] at h
    revert h; refine zI rfl ?_ ?_ <;> intro h
    ·refine zU z0 (r_bN hk17 ?_)
     refine zJ J14 [2, 4] () _ h
    ·refine zS z0 ?_
     revert h; refine zI rfl ?_ ?_ <;> intro h
     ·refine zU z0 (r_bN hk17 ?_)
      refine zJ J14 [2, 4] () _ h
     ·refine zS z0 ?_
      revert h; refine zI rfl ?_ ?_ <;> intro h
      ·refine zU z0 (r_bN hk17 ?_)
       refine zJ J14 [2, 4] () _ h
      ·refine ae (r_bN hk17 ?_)
       refine zJ J14 [2, 4] () _ h
   ·intro k24 hk24 J23
    refine zS z0 ?_
    revert h; refine zI rfl ?_ ?_ <;> intro h
    ·refine ae (zJ J23 [2, 4, 5, 12] () _ h)
    ·refine zS z0 ?_
     revert h; refine zI rfl ?_ ?_ <;> intro h
     ·refine ae (zJ J23 [2, 4, 5, 12] () _ h)
     ·refine zU z0 (zJ J23 [2, 4, 5, 12] () _ h)
def iT (v1 : (List Inst)) : (Int × Int) → Option SureFault
 | (v18, v19) => (cond (v18 != 0) (some (⟨9, ((v1).length : Int)⟩ : SureFault)) (some (⟨0, 0⟩ : SureFault)))
def iU (v1 : (List Inst)) : (Int × Int × Bool × Bool × Int) → Option ((Int × Int × Bool × Bool × Int) ⊕ ((Int × Int) ⊕ (Int × Int)))
 | (v23, v24, v25, v26, v27) => (cond (decide (v27 < ((v1).length : Int))) ((idx v1 (v27)).bind fun v33 => ((fh (⟨v23, v24⟩ : SureState) v33 v25 v26).bind fun v34 => (cond (v34 != 0) (some (.inr (.inl (v34, v27)))) ((eV (⟨v23, v24⟩ : SureState) v33.Code).bind fun v35 => (some (.inl (v35.Bits, v35.Forks, ((v33.Code != 11) && ((v25 || (v33.Code == 10)) || (v33.Code == 7))), (v33.Code == 10), (IntKind.i64.wrap (v27 + 1))))))))) (some (.inr (.inr (v23, v24)))))
def fq (v1 : (List Inst)) : Option SureFault :=
 (cond (decide (((v1).length : Int) > 1000)) (some (⟨1, 0⟩ : SureFault)) ((loop (iU v1) (0, 0, false, false, 0)).bind (Sum.elim (fun v31 => (some (⟨v31.1, v31.2⟩ : SureFault))) (fun v32 => (iT v1 (v32.1, v32.2))))))
theorem iS (v1 : (List Inst)) (rz : SureFault) (h : fq v1 = some rz) : Con Tryz.prog C0 17 [.fz 3 (R ao (v1))] []
  (fun x σ' => x = .agg [.sc (.int .i64 (rz.Code)), .sc (.int .i64 (rz.At))] ∧ σ' = []) := by
 refine zCon hP 0 [0, 2, 3, 4, 5, 6, 7, 8, 11, 14, 15, 16, 17, 27, 55] [.cell 2 34] Tryz.func17 (by unfold Tryz.f17; rfl) fun Q hQ => ?_
 unfold fq at h
 refine zS z0 (sC fun k2 hk2 => ?_)
 refine zS z0 ?_
 revert h; refine zI rfl ?_ ?_ <;> intro h
 ·refine zS z0 (ab ?_)
  refine r_cR hk2 ?_
  cases h
  refine zAR hQ
 ·refine ae (r_cN hk2 ?_)
  refine zS z0 (zS z0 ?_)
  refine zCut (fun (x : (Int × Int)) => ⟨[(0, .fz 3 (R ao (v1))), (2, .pt 0 0), (3, .pt 1 0)], [.rc [.sc (.int .i64 (0)), .sc (.int .i64 (0))], .rc [.sc (.int .i64 (x.1)), .sc (.int .i64 (x.2))]]⟩) (iT v1) rz ?_ ?_
  ·rintro _ ⟨v18, v19⟩ h
   simp only [iT] at h
   refine sC fun k52 hk52 => zS z0 ?_
   revert h; refine zI rfl ?_ ?_ <;> intro h
   ·refine zS z0 (ab ?_)
    refine r_cR hk52 ?_
    cases h
    refine zAR hQ
   ·refine ae (r_cN hk52 ?_)
    refine zS z0 (ab ?_)
    cases h
    refine zAR hQ
  ·intro k57 hk57 J56
   refine zS z0 (sB fun k59 hk59 => ?_)
   obtain ⟨oq88, hLq88, hKq88⟩ := bS h
   clear h
   refine ay [0, 2, 3, 4, 5, 14, 15, 16] (fun (_ : Unit) (x : (Int × Int × Bool × Bool × Int)) => (⟨[(0, .fz 3 (R ao (v1))), (2, .pt 0 0), (3, .pt 1 0), (4, .sc (.bool (x.2.2.1))), (5, .sc (.bool (x.2.2.2.1))), (14, .fz 3 (R ao (v1))), (15, .sc (.int .i64 (((v1).length : Int)))), (16, .sc (.int .i64 (x.2.2.2.2)))], [.rc [.sc (.int .i64 (0)), .sc (.int .i64 (0))], .rc [.sc (.int .i64 (x.1)), .sc (.int .i64 (x.2.1))]]⟩ : St)) (fun (_ : Unit) (x : (Int × Int × Bool × Bool × Int)) => True) (iU v1) () (0, 0, false, false, 0) hLq88 (by rfl) (by rfl) ⟨?_, trivial⟩ ?_
   ·exact zSa
   ·rintro nq88 _ ⟨v23, v24, v25, v26, v27⟩ xq88 kq88 hkq88 - h hIq88 hEq88
    simp only [iU] at h
    refine zS z0 (sC fun k90 hk90 => ?_)
    revert h; refine zI rfl ?_ ?_ <;> intro h
    ·refine ae (r_cN hk90 ?_)
     refine sC fun k91 hk91 => sB fun k92 hk92 => ?_
     obtain ⟨v33, h, c94⟩ := bI h
     refine zS (zRF c94) (sC fun k95 hk95 => ?_)
     obtain ⟨v34, c97H, h⟩ := bS h
     refine zS (zC1 (lF [] (con_m_SureState_wrong _ _ _ _ _ c97H))) (zS z0 ?_)
     revert h; refine zI rfl ?_ ?_ <;> intro h
     ·refine zS z0 (ab ?_)
      refine r_cR hk95 (r_bR hk92 ?_)
      refine r_cR hk91 ?_
      replace h := zX h hEq88 hKq88
      simp only [Sum.elim_inl, Sum.elim_inr] at h
      refine r_kR hkq88 (r_bR hk59 ?_)
      refine r_jR hk57 ?_
      cases h
      refine zAR hQ
     ·refine ae (r_cN hk95 ?_)
      obtain ⟨v35, c101H, h⟩ := bS h
      refine zS (zC1 (lF [] (con_m_SureState_behind _ _ _ c101H))) (zS z0 ?_)
      refine zU zR (r_bN hk92 ?_)
      refine r_cN hk91 (zU z0 ?_)
      refine zB hkq88 h hIq88 () trivial
    ·refine aK (r_cE hk90 ?_)
     replace h := zX h hEq88 hKq88
     simp only [Sum.elim_inl, Sum.elim_inr] at h
     refine r_kE hkq88 (r_bE hk59 ?_)
     refine zJ J56 [0, 2, 3] () _ h
def m_verified (v1 : (List Inst)) : Option Bool :=
 ((fq v1).bind fun v2 => (some ((v2.Code == 0) && (v2.At == 0))))
theorem con_m_verified (v1 : (List Inst)) (rz : Bool) (h : m_verified v1 = some rz) : Con Tryz.prog C0 65 [.fz 3 (R ao (v1))] []
  (fun x σ' => x = .sc (.bool (rz)) ∧ σ' = []) := by
 refine zCon hP 0 [0, 2] [.tmp 2] Tryz.func65 (by unfold Tryz.f65; rfl) fun Q hQ => ?_
 unfold m_verified at h
 refine zS z0 ?_
 obtain ⟨v2, c3H, h⟩ := bS h
 refine zS (zC1 (lF [] (iS _ _ c3H))) (ab ?_)
 cases h
 refine zAR hQ
def m_runnable (v1 : (List Int)) : Option ((List Inst) × Bool) :=
 ((ig v1).bind fun v2 => (cond (v2.2.Code == 0) (cond (v2.2.At == 0) ((m_verified v2.1).bind fun v3 => (some (v2.1, v3))) (some (v2.1, false))) (some (v2.1, false))))
theorem con_m_runnable (v1 : (List Int)) (rz : ((List Inst) × Bool)) (h : m_runnable v1 = some rz) : Con Tryz.prog C0 42 [.fz 1 (R e_u8 (v1))] []
  (fun x σ' => x = .tup [.sl 0 0 ((rz.1).length), .sc (.bool (rz.2))] ∧ σ' = [.arr true 3 (R ao (rz.1))]) := by
 refine zCon hP 0 [0, 2, 3, 4, 5] [.tmp 2, .tmp 3] Tryz.func42 (by unfold Tryz.f42; rfl) fun Q hQ => ?_
 unfold m_runnable at h
 refine zS z0 ?_
 obtain ⟨v2, c3H, h⟩ := bS h
 refine zS (zC1 (lC [] (con_m_PicRead _ _ c3H))) (sC fun k4 hk4 => ?_)
 rcases bE (v2.2.Code == 0) with g5 | g5
 ·replace h := ak h g5
  rcases bE (v2.2.At == 0) with g6 | g6
  ·replace h := ak h g6
   obtain ⟨v3, c7H, h⟩ := bS h
   refine zU (zC1F (lF [] (con_m_verified _ _ c7H)) (a2 g5 g6)) (r_cN hk4 ?_)
   refine ab ?_
   cases h
   refine zOR hQ
  ·replace h := av h g6
   refine zU (zRF (a2 g5 g6)) (r_cN hk4 ?_)
   refine ab ?_
   cases h
   refine zOR hQ
 ·replace h := av h g5
  refine zU (zRF g5) (r_cN hk4 ?_)
  refine ab ?_
  cases h
  refine zOR hQ
def m_BoxUnpack (v1 : (List Int)) : Option (Int × (List Inst) × Bool) :=
 (cond (decide (((v1).length : Int) < 4)) (some (0, [], false)) ((prtH v1 (4)).bind fun v2 => ((fR v2).bind fun v3 => ((prtL v1 (4)).bind fun v4 => ((m_runnable v4).bind fun v5 => (cond v5.2 ((m_isNumber v3).bind fun v6 => (cond (!v6) (some (0, [], false)) (some (v3, v5.1, true)))) (some (0, [], false))))))))
theorem iX (v1 : (List Int)) (rz : (Int × (List Inst) × Bool)) (h : m_BoxUnpack v1 = some rz) : Con Tryz.prog C0 10 [.fz 1 (R e_u8 (v1))] []
  (fun x σ' => x = .tup [.sc (.int .i64 (rz.1)), .sl 0 0 ((rz.2.1).length), .sc (.bool (rz.2.2))] ∧ σ' = [.arr true 3 (R ao (rz.2.1))]) := by
 refine zCon hP 0 [0, 2, 3, 4, 5, 6, 7, 10, 26] [.tmp 2, .tmp 3, .tmp 4] Tryz.func10 (by unfold Tryz.f10; rfl) fun Q hQ => ?_
 unfold m_BoxUnpack at h
 refine zS z0 (sC fun k2 hk2 => ?_)
 refine zS z0 ?_
 revert h; refine zI rfl ?_ ?_ <;> intro h
 ·refine zS z0 (ab ?_)
  refine r_cR hk2 ?_
  cases h
  refine zVRw [2000002] hQ
 ·refine ae (r_cN hk2 ?_)
  obtain ⟨v2, c6H, h⟩ := bS h
  obtain ⟨c6A, c6B, c6C⟩ := prtH_some c6H
  try simp only [Int.reduceToNat, Int.toNat_zero, Int.toNat_one, Int.toNat_natCast, List.take_length] at c6C
  obtain ⟨v3, c7H, h⟩ := bS h
  refine zS (zC1F (lF [] (iO _ _ c7H)) (a3 c6A c6B c6C)) ?_
  obtain ⟨v4, c9H, h⟩ := bS h
  obtain ⟨c9A, c9B, c9C⟩ := prtL_some c9H
  try simp only [Int.reduceToNat, Int.toNat_zero, Int.toNat_one, Int.toNat_natCast, List.take_length] at c9C
  obtain ⟨v5, c10H, h⟩ := bS h
  refine zS (zC1F (lC [] (con_m_runnable _ _ c10H)) (a3 c9A c9B c9C)) (sC fun k11 hk11 => ?_)
  refine sC fun k12 hk12 => ?_
  rcases bE v5.2 with g13 | g13
  ·replace h := ak h g13
   obtain ⟨v6, c14H, h⟩ := bS h
   refine zU (zC1F (lF [] (con_m_isNumber _ _ c14H)) g13) (r_cN hk12 ?_)
   revert h; refine zI rfl ?_ ?_ <;> intro h
   ·refine zS z0 (ab ?_)
    refine r_cR hk11 ?_
    cases h
    refine zVRw [2000002] hQ
   ·refine ae (r_cN hk11 ?_)
    refine zS z0 (ab ?_)
    cases h
    refine zOR hQ
  ·replace h := av h g13
   refine zU (zRF g13) (r_cN hk12 ?_)
   refine bM rfl ?_
   try replace h := ak h rfl
   refine zS z0 (ab ?_)
   refine r_cR hk11 ?_
   cases h
   refine zVRw [2000002] hQ
def s_l17Two (v1 : (List Int)) : Option Int :=
 ((idx v1 (0)).bind fun v2 => ((idx v1 (1)).bind fun v3 => (some (IntKind.i64.wrap ((IntKind.i64.wrap ((IntKind.i64.wrap (v2)) * 256)) + (IntKind.i64.wrap (v3)))))))
theorem con_s_l17Two (v1 : (List Int)) (rz : Int) (h : s_l17Two v1 = some rz) : Con Tryz.prog C0 43 [.fz 1 (R e_u8 (v1))] []
  (fun x σ' => x = .sc (.int .i64 (rz)) ∧ σ' = []) := by
 refine zCon hP 0 [0, 2] [.tmp 2] Tryz.func43 (by unfold Tryz.f43; rfl) fun Q hQ => ?_
 unfold s_l17Two at h
 refine zS z0 ?_
 obtain ⟨v2, h, c3⟩ := bN 0 h
 obtain ⟨v3, h, c4⟩ := bN 1 h
 refine zS (zRF (a2 c3 c4)) (ab ?_)
 cases h
 refine zAR hQ
def dz (v1 : l17In) (v2 : Int) : Option ((List Int) × Bool × l17In) :=
 (cond (decide ((IntKind.i64.wrap (((v1.b).length : Int) - v1.at_)) < v2)) (some ([], false, v1)) ((prt v1.b ((IntKind.i64.wrap ((IntKind.i64.wrap (v1.at_ + v2)) - v2))) ((IntKind.i64.wrap (v1.at_ + v2)))).bind fun v3 => (some (v3, true, (⟨v1.b, (IntKind.i64.wrap (v1.at_ + v2))⟩ : l17In)))))
theorem fJ (v1 : l17In) (v2 : Int) (rz : ((List Int) × Bool × l17In)) (h : dz v1 v2 = some rz) : Con Tryz.prog C0 105 [.pt 0 0, .sc (.int .i64 (v2))] [.rc [.fz 1 (R e_u8 (v1.b)), .sc (.int .i64 (v1.at_))]]
  (fun x σ' => x = .tup [.fz 1 (R e_u8 (rz.1)), .sc (.bool (rz.2.1))] ∧ σ' = [.rc [.fz 1 (R e_u8 (rz.2.2.b)), .sc (.int .i64 (rz.2.2.at_))]]) := by
 refine zCon hP 1 [0, 1, 4, 5, 17] [.tmp 4, .tmp 5] Tryz.func105 (by unfold Tryz.f105; rfl) fun Q hQ => ?_
 unfold dz at h
 refine zS z0 (sC fun k2 hk2 => ?_)
 refine zS zR ?_
 revert h; refine zI rfl ?_ ?_ <;> intro h
 ·refine zS z0 (ab ?_)
  refine r_cR hk2 ?_
  cases h
  refine zARw hQ
 ·refine ae (r_cN hk2 ?_)
  refine zS z0 ?_
  obtain ⟨v3, c7H, h⟩ := bS h
  obtain ⟨c7A, c7B, c7C, c7D⟩ := prt_some c7H
  try simp only [Int.reduceToNat, Int.toNat_zero, Int.toNat_one, Int.toNat_natCast, List.take_length] at c7D
  refine zS (zRF (a4 c7A c7B c7C c7D)) (ab ?_)
  cases h
  refine zAR hQ
def fx : Int → Option Int
 | v12 => (some v12)
def s_l17Val_j7 (v1 : (List Int)) : (Int × Int) → Option Int
 | (v9, v10) => (cond (decide (((v1).length : Int) > 1)) ((idx v1 (0)).bind fun v13 => (cond (decide (v13 ≥ 128)) (fx (IntKind.i64.wrap (v9 - v10))) (fx v9))) (fx v9))
def gr (v1 : (List Int)) : (Int × Int × Int) → Option ((Int × Int × Int) ⊕ (Int × Int))
 | (v15, v16, v17) => (cond (decide (v17 < ((v1).length : Int))) ((idx v1 (v17)).bind fun v20 => (some (.inl ((IntKind.i64.wrap ((IntKind.i64.wrap (v15 * 256)) + (IntKind.i64.wrap (v20)))), (IntKind.i64.wrap (v16 * 256)), (IntKind.i64.wrap (v17 + 1)))))) (some (.inr (v15, v16))))
def s_l17Val (v1 : (List Int)) : Option Int :=
 ((loop (gr v1) (0, 1, 0)).bind (fun v19 => (s_l17Val_j7 v1 (v19.1, v19.2))))
theorem con_s_l17Val (v1 : (List Int)) (rz : Int) (h : s_l17Val v1 = some rz) : Con Tryz.prog C0 52 [.fz 1 (R e_u8 (v1))] []
  (fun x σ' => x = .sc (.int .i64 (rz)) ∧ σ' = []) := by
 refine zCon hP 0 [0, 2, 3, 4, 5, 9, 30] [.tmp 2] Tryz.func52 (by unfold Tryz.f52; rfl) fun Q hQ => ?_
 unfold s_l17Val at h
 refine zS z0 (zS z0 ?_)
 refine zS z0 (zCut (fun (x : (Int × Int)) => ⟨[(0, .fz 1 (R e_u8 (v1))), (3, .sc (.int .i64 (x.1))), (4, .sc (.int .i64 (x.2)))], []⟩) (s_l17Val_j7 v1) rz ?_ ?_)
 ·rintro _ ⟨v9, v10⟩ h
  simp only [s_l17Val_j7] at h
  refine zCut (fun (x : Int) => ⟨[(3, .sc (.int .i64 (x)))], []⟩) fx rz ?_ ?_
  ·rintro _ v12 h
   simp only [fx] at h
   refine zS z0 (ab ?_)
   cases h
   refine zAR hQ
  ·intro k30 hk30 J29
   refine sC fun k31 hk31 => ?_
   rcases bE (decide (((v1).length : Int) > 1)) with g32 | g32
   ·replace h := ak h g32
    obtain ⟨v13, h, c33⟩ := bN 0 h
    refine zU (zRF (a2 g32 c33)) (r_cN hk31 ?_)
    revert h; refine zI rfl ?_ ?_ <;> intro h
    ·refine zU z0 (zJ J29 [3] () _ h)
    ·refine ae (zJ J29 [3] () _ h)
   ·replace h := av h g32
    refine zU (zRF g32) (r_cN hk31 ?_)
    refine sem_ifF rfl ?_
    try replace h := av h rfl
    refine ae (zJ J29 [3] () _ h)
 ·intro k35 hk35 J34
  refine zS z0 (sB fun k37 hk37 => ?_)
  obtain ⟨oq50, hLq50, hKq50⟩ := bS h
  clear h
  refine ay [0, 3, 4, 5] (fun (_ : Unit) (x : (Int × Int × Int)) => (⟨[(0, .fz 1 (R e_u8 (v1))), (3, .sc (.int .i64 (x.1))), (4, .sc (.int .i64 (x.2.1))), (5, .sc (.int .i64 (x.2.2)))], []⟩ : St)) (fun (_ : Unit) (x : (Int × Int × Int)) => True) (gr v1) () (0, 1, 0) hLq50 (by rfl) (by rfl) ⟨?_, trivial⟩ ?_
  ·exact zSa
  ·rintro nq50 _ ⟨v15, v16, v17⟩ xq50 kq50 hkq50 - h hIq50 hEq50
   simp only [gr] at h
   refine sC fun k51 hk51 => zS z0 ?_
   revert h; refine zI rfl ?_ ?_ <;> intro h
   ·refine ae (r_cN hk51 ?_)
    refine sC fun k53 hk53 => sB fun k54 hk54 => ?_
    obtain ⟨v20, h, c56⟩ := bI h
    refine zS (zRF c56) (zU z0 ?_)
    refine r_bN hk54 (r_cN hk53 ?_)
    refine zU z0 (zB hkq50 h hIq50 () trivial)
   ·refine aK (r_cE hk51 ?_)
    replace h := zX h hEq50 hKq50
    refine r_kE hkq50 (r_bE hk37 ?_)
    refine zJ J34 [0, 3, 4] () _ h
def eh (v3 : Int) (v6 : Int) : ((List Int) × Int × Int) → Option (DevArg × Int × l17In)
 | (v9, v10, v11) => (some ((⟨(IntKind.i64.wrap (v3)), v6, v11⟩ : DevArg), 0, (⟨v9, v10⟩ : l17In)))
def s_l17In_arg (v1 : l17In) : Option (DevArg × Int × l17In) :=
 ((dz v1 1).bind fun v2 => (cond (!v2.2.1) (some ((⟨0, 0, 0⟩ : DevArg), 6, v2.2.2)) ((idx v2.1 (0)).bind fun v3 => (cond ((decide ((IntKind.i64.wrap (v3)) < 1)) || (decide ((IntKind.i64.wrap (v3)) > 13))) (some ((⟨0, 0, 0⟩ : DevArg), 3, v2.2.2)) ((db (IntKind.i64.wrap (v3))).bind fun v4 => ((dz v2.2.2 v4).bind fun v5 => (cond (!v5.2.1) (some ((⟨0, 0, 0⟩ : DevArg), 6, v5.2.2)) ((s_l17Val v5.1).bind fun v6 => (cond ((IntKind.i64.wrap (v3)) == 12) ((dz v5.2.2 1).bind fun v12 => (cond (!v12.2.1) (some ((⟨0, 0, 0⟩ : DevArg), 6, v12.2.2)) ((idx v12.1 (0)).bind fun v13 => (eh v3 v6 (v12.2.2.b, v12.2.2.at_, (IntKind.i64.wrap (v13))))))) (eh v3 v6 (v5.2.2.b, v5.2.2.at_, 0)))))))))))
theorem con_s_l17In_arg (v1 : l17In) (rz : (DevArg × Int × l17In)) (h : s_l17In_arg v1 = some rz) : Con Tryz.prog C0 109 [.pt 0 0] [.rc [.fz 1 (R e_u8 (v1.b)), .sc (.int .i64 (v1.at_))]]
  (fun x σ' => x = .tup [.agg [.sc (.int .i64 (rz.1.Kind)), .sc (.int .i64 (rz.1.N)), .sc (.int .i64 (rz.1.P))], .sc (.int .i64 (rz.2.1))] ∧ σ' = [.rc [.fz 1 (R e_u8 (rz.2.2.b)), .sc (.int .i64 (rz.2.2.at_))]]) := by
 refine zCon hP 1 [0, 2, 3, 4, 5, 6, 7, 8, 9, 10, 11, 18, 32, 44, 51, 58] [.cell 2 171, .tmp 3] Tryz.func109 (by unfold Tryz.f109; rfl) fun Q hQ => ?_
 unfold s_l17In_arg at h
 refine zS z0 ?_
 obtain ⟨v2, c3H, h⟩ := bS h
 refine zS (zC1 (lC [[0]] (fJ _ _ _ c3H))) (sC fun k4 hk4 => ?_)
 refine zS z0 ?_
 revert h; refine zI rfl ?_ ?_ <;> intro h
 ·refine zS z0 (ab ?_)
  refine r_cR hk4 ?_
  cases h
  refine zAR hQ
 ·refine ae (r_cN hk4 ?_)
  obtain ⟨v3, h, c8⟩ := bN 0 h
  refine zS (zRF c8) (sC fun k9 hk9 => ?_)
  refine zS zR ?_
  revert h; refine zI rfl ?_ ?_ <;> intro h
  ·refine zS z0 (ab ?_)
   refine r_cR hk9 ?_
   cases h
   refine zAR hQ
  ·refine ae (r_cN hk9 ?_)
   obtain ⟨v4, c13H, h⟩ := bS h
   refine zS (zC1 (lF [] (con_s_l17Wide _ _ c13H))) ?_
   obtain ⟨v5, c15H, h⟩ := bS h
   refine zS (zC1 (lC [[0]] (fJ _ _ _ c15H))) (sC fun k16 hk16 => ?_)
   refine zS z0 ?_
   revert h; refine zI rfl ?_ ?_ <;> intro h
   ·refine zS z0 (ab ?_)
    refine r_cR hk16 ?_
    cases h
    refine zAR hQ
   ·refine ae (r_cN hk16 ?_)
    obtain ⟨v6, c20H, h⟩ := bS h
    refine zS (zC1 (lF [] (con_s_l17Val _ _ c20H))) (zCut (fun (x : ((List Int) × Int × Int)) => ⟨[(2, .pt 1 0), (6, .pt 2 0)], [.rc [.fz 1 (R e_u8 (x.1)), .sc (.int .i64 (x.2.1))], .rc [.sc (.int .i64 (0)), .sc (.int .i64 (0)), .sc (.int .i64 (0))], .rc [.sc (.int .i64 ((IntKind.i64.wrap (v3)))), .sc (.int .i64 (v6)), .sc (.int .i64 (x.2.2))]]⟩) (eh v3 v6) rz ?_ ?_)
    ·rintro _ ⟨v9, v10, v11⟩ h
     simp only [eh] at h
     refine zS z0 (ab ?_)
     cases h
     refine zAR hQ
    ·intro k30 hk30 J29
     refine zS z0 ?_
     revert h; refine zI rfl ?_ ?_ <;> intro h
     ·obtain ⟨v12, c33H, h⟩ := bS h
      refine zS (zC1 (lC [[0]] (fJ _ _ _ c33H))) (sC fun k34 hk34 => ?_)
      refine zS z0 ?_
      revert h; refine zI rfl ?_ ?_ <;> intro h
      ·refine zS z0 (ab ?_)
       refine r_cR hk34 (r_jR hk30 ?_)
       cases h
       refine zAR hQ
      ·refine ae (r_cN hk34 ?_)
       obtain ⟨v13, h, c37⟩ := bN 0 h
       refine zU (zRF c37) (zJ J29 [2, 6] () _ h)
     ·refine ae (zJ J29 [2, 6] () _ h)
def hZ (v3 : Int) (v6 : Int) : ((List Int) × Int × (List DevArg)) → Option (Inst × Int × l17In)
 | (v20, v21, v22) => (some ((⟨(IntKind.i64.wrap (v3)), (IntKind.i64.wrap (v6)), v22⟩ : Inst), 0, (⟨v20, v21⟩ : l17In)))
def fN (v6 : Int) : ((List Int) × Int × (List DevArg) × Int) → Option (((List Int) × Int × (List DevArg) × Int) ⊕ (((List Int) × Int × Int) ⊕ ((List Int) × Int × (List DevArg))))
 | (v25, v26, v27, v28) => ((cj (IntKind.i64.wrap (v6))).bind fun v33 => (cond (decide (v28 < v33)) ((s_l17In_arg (⟨v25, v26⟩ : l17In)).bind fun v34 => (cond (decide (v34.2.1 > 0)) (some (.inr (.inl (v34.2.2.b, v34.2.2.at_, v34.2.1)))) (gd (apOk ((v27 ++ [v34.1])).length 24) (some (.inl (v34.2.2.b, v34.2.2.at_, (v27 ++ [v34.1]), (IntKind.i64.wrap (v28 + 1)))))))) (some (.inr (.inr (v25, v26, v27))))))
def s_l17In_inst (v1 : l17In) : Option (Inst × Int × l17In) :=
 ((dz v1 1).bind fun v2 => (cond (!v2.2.1) (some ((⟨0, 0, []⟩ : Inst), 6, v2.2.2)) ((idx v2.1 (0)).bind fun v3 => (cond ((decide ((IntKind.i64.wrap (v3)) < 1)) || (decide ((IntKind.i64.wrap (v3)) > 11))) (some ((⟨0, 0, []⟩ : Inst), 2, v2.2.2)) ((s_l17Has (IntKind.i64.wrap (v3))).bind fun v4 => (cond (!v4) (some ((⟨(IntKind.i64.wrap (v3)), 0, []⟩ : Inst), 0, v2.2.2)) ((dz v2.2.2 1).bind fun v5 => (cond (!v5.2.1) (some ((⟨0, 0, []⟩ : Inst), 6, v5.2.2)) ((idx v5.1 (0)).bind fun v6 => ((s_l17Known (IntKind.i64.wrap (v3)) (IntKind.i64.wrap (v6))).bind fun v7 => (cond (!v7) (some ((⟨0, 0, []⟩ : Inst), 2, v5.2.2)) ((loop (fN v6) (v5.2.2.b, v5.2.2.at_, [], 0)).bind (Sum.elim (fun v31 => (some ((⟨0, 0, []⟩ : Inst), v31.2.2, (⟨v31.1, v31.2.1⟩ : l17In)))) (fun v32 => (hZ v3 v6 (v32.1, v32.2.1, v32.2.2))))))))))))))))
theorem con_s_l17In_inst (v1 : l17In) (rz : (Inst × Int × l17In)) (h : s_l17In_inst v1 = some rz) : Con Tryz.prog C0 45 [.pt 0 0] [.rc [.fz 1 (R e_u8 (v1.b)), .sc (.int .i64 (v1.at_))]]
  (fun x σ' => x = .tup [.agg [.sc (.int .i64 (rz.1.Code)), .sc (.int .i64 (rz.1.One_Op)), .sl 1 0 ((rz.1.One_Args).length)], .sc (.int .i64 (rz.2.1))] ∧ σ' = [.rc [.fz 1 (R e_u8 (rz.2.2.b)), .sc (.int .i64 (rz.2.2.at_))], .arr true 3 (R aa (rz.1.One_Args))]) := by
 refine zCon hP 1 [0, 2, 3, 4, 5, 6, 7, 8, 9, 10, 11, 18, 32, 37, 45, 59, 66, 75] [.cell 2 89, .tmp 3] Tryz.func45 (by unfold Tryz.f45; rfl) fun Q hQ => ?_
 unfold s_l17In_inst at h
 refine zS z0 ?_
 obtain ⟨v2, c3H, h⟩ := bS h
 refine zS (zC1 (lC [[0]] (fJ _ _ _ c3H))) (sC fun k4 hk4 => ?_)
 refine zS z0 ?_
 revert h; refine zI rfl ?_ ?_ <;> intro h
 ·refine zS z0 (ab ?_)
  refine r_cR hk4 ?_
  cases h
  refine zVRw [0, 2000002] hQ
 ·refine ae (r_cN hk4 ?_)
  obtain ⟨v3, h, c8⟩ := bN 0 h
  refine zS (zRF c8) (sC fun k9 hk9 => ?_)
  refine zS zR ?_
  revert h; refine zI rfl ?_ ?_ <;> intro h
  ·refine zS z0 (ab ?_)
   refine r_cR hk9 ?_
   cases h
   refine zVRw [0, 2000002] hQ
  ·refine ae (r_cN hk9 ?_)
   refine sC fun k12 hk12 => ?_
   obtain ⟨v4, c14H, h⟩ := bS h
   refine zS (zC1 (lF [] (con_s_l17Has _ _ c14H))) ?_
   revert h; refine zI rfl ?_ ?_ <;> intro h
   ·refine zS z0 (ab ?_)
    refine r_cR hk12 ?_
    cases h
    refine zVRw [0, 2000002] hQ
   ·refine ae (r_cN hk12 ?_)
    obtain ⟨v5, c17H, h⟩ := bS h
    refine zS (zC1 (lC [[0]] (fJ _ _ _ c17H))) (sC fun k18 hk18 => ?_)
    refine zS z0 ?_
    revert h; refine zI rfl ?_ ?_ <;> intro h
    ·refine zS z0 (ab ?_)
     refine r_cR hk18 ?_
     cases h
     refine zVRw [0, 2000002] hQ
    ·refine ae (r_cN hk18 ?_)
     obtain ⟨v6, h, c22⟩ := bN 0 h
     refine zS (zRF c22) (sC fun k23 hk23 => ?_)
     obtain ⟨v7, c25H, h⟩ := bS h
     refine zS (zC1 (lF [] (con_s_l17Known _ _ _ c25H))) ?_
     revert h; refine zI rfl ?_ ?_ <;> intro h
     ·refine zS z0 (ab ?_)
      refine r_cR hk23 ?_
      cases h
      refine zVRw [0, 2000002] hQ
     ·refine ae (r_cN hk23 ?_)
      refine zCut (fun (x : ((List Int) × Int × (List DevArg))) => ⟨[(2, .pt 1 0), (6, .pt 2 0)], [.rc [.fz 1 (R e_u8 (x.1)), .sc (.int .i64 (x.2.1))], .rc [.sc (.int .i64 (0)), .sc (.int .i64 (0)), .sc (.slice none 0 0)], .rc [.sc (.int .i64 ((IntKind.i64.wrap (v3)))), .sc (.int .i64 ((IntKind.i64.wrap (v6)))), .sl 3 0 ((x.2.2).length)], .arr true 3 (R aa (x.2.2))]⟩) (hZ v3 v6) rz ?_ ?_
      ·rintro _ ⟨v20, v21, v22⟩ h
       simp only [hZ] at h
       refine zS z0 (ab ?_)
       cases h
       refine zOR hQ
      ·intro k65 hk65 J64
       refine zS z0 (sB fun k67 hk67 => ?_)
       obtain ⟨oq90, hLq90, hKq90⟩ := bS h
       clear h
       refine eg [0, 2, 6, 9] [0, 1, 2, 2000002] (fun (_ : Unit) (x : ((List Int) × Int × (List DevArg) × Int)) => (⟨[(0, .pt 0 0), (2, .pt 1 0), (6, .pt 2 0), (9, .sc (.int .i64 (x.2.2.2)))], [.rc [.fz 1 (R e_u8 (x.1)), .sc (.int .i64 (x.2.1))], .rc [.sc (.int .i64 (0)), .sc (.int .i64 (0)), .sc (.slice none 0 0)], .rc [.sc (.int .i64 ((IntKind.i64.wrap (v3)))), .sc (.int .i64 ((IntKind.i64.wrap (v6)))), .sl 3 0 ((x.2.2.1).length)], .arr true 3 (R aa (x.2.2.1))]⟩ : St)) (fun (_ : Unit) (x : ((List Int) × Int × (List DevArg) × Int)) => True) (fN v6) () (v5.2.2.b, v5.2.2.at_, [], 0) hLq90 (by rfl) (by rfl) ⟨?_, trivial⟩ ?_
       ·exact zSd
       ·rintro nq90 _ ⟨v25, v26, v27, v28⟩ xq90 kq90 hkq90 - h hIq90 hEq90
        simp only [fN] at h
        refine sC fun k91 hk91 => ?_
        obtain ⟨v33, c93H, h⟩ := bS h
        refine zS (zC1 (lF [] (ei _ _ c93H))) ?_
        revert h; refine zI rfl ?_ ?_ <;> intro h
        ·refine ae (r_cN hk91 ?_)
         refine sC fun k94 hk94 => sB fun k95 hk95 => ?_
         obtain ⟨v34, c97H, h⟩ := bS h
         refine zS (zC1 (lC [[0]] (con_s_l17In_arg _ _ c97H))) (sC fun k98 hk98 => ?_)
         refine zS z0 ?_
         revert h; refine zI rfl ?_ ?_ <;> intro h
         ·refine zS z0 (ab ?_)
          refine r_cR hk98 (r_bR hk95 ?_)
          refine r_cR hk94 ?_
          replace h := zX h hEq90 hKq90
          simp only [Sum.elim_inl, Sum.elim_inr] at h
          refine r_kR hkq90 (r_bR hk67 ?_)
          refine r_jR hk65 ?_
          cases h
          refine zVRw [0, 2000002] hQ
         ·refine ae (r_cN hk98 ?_)
          obtain ⟨g101, h⟩ := gAp h
          refine zU (zRF g101) (r_bN hk95 ?_)
          refine r_cN hk94 (zU z0 ?_)
          refine zB hkq90 h hIq90 () trivial
        ·refine aK (r_cE hk91 ?_)
         replace h := zX h hEq90 hKq90
         simp only [Sum.elim_inl, Sum.elim_inr] at h
         refine r_kE hkq90 (r_bE hk67 ?_)
         refine zJ J64 [2, 6] () _ h
def s_PicRead_j35 (v11 : Int) : ((List Int) × Int × (List Inst)) → Option ((List Inst) × PicFault)
 | (v22, v23, v24) => (cond (decide (v23 < ((v22).length : Int))) (some ([], (⟨7, v11⟩ : PicFault))) (some (v24, (⟨0, 0⟩ : PicFault))))
def iR (v11 : Int) : ((List Int) × Int × (List Inst) × Int) → Option (((List Int) × Int × (List Inst) × Int) ⊕ ((Int × Int) ⊕ ((List Int) × Int × (List Inst))))
 | (v26, v27, v28, v29) => (cond (decide (v29 < v11)) ((s_l17In_inst (⟨v26, v27⟩ : l17In)).bind fun v33 => (cond (decide (v33.2.1 > 0)) (some (.inr (.inl (v33.2.1, v29)))) (gd (apOk ((v28 ++ [v33.1])).length 40) (some (.inl (v33.2.2.b, v33.2.2.at_, (v28 ++ [v33.1]), (IntKind.i64.wrap (v29 + 1)))))))) (some (.inr (.inr (v26, v27, v28)))))
def iw (v1 : (List Int)) : Option ((List Inst) × PicFault) :=
 (cond (decide (((v1).length : Int) < 8)) (some ([], (⟨4, 0⟩ : PicFault))) (cond (decide (((v1).length : Int) > 20008)) (some ([], (⟨4, 0⟩ : PicFault))) ((idx v1 (0)).bind fun v2 => (cond (v2 != 83) (some ([], (⟨4, 0⟩ : PicFault))) ((idx v1 (1)).bind fun v3 => (cond (v3 != 116) (some ([], (⟨4, 0⟩ : PicFault))) ((prt v1 (2) (4)).bind fun v4 => ((s_l17Two v4).bind fun v5 => (cond (v5 != ((v1).length : Int)) (some ([], (⟨4, 0⟩ : PicFault))) ((prtL v1 ((IntKind.i64.wrap (((v1).length : Int) - 2)))).bind fun v6 => ((prtH v1 ((IntKind.i64.wrap (((v1).length : Int) - 2)))).bind fun v7 => ((s_l17Two v6).bind fun v8 => ((s_PicSum v7).bind fun v9 => (cond (v8 != (IntKind.i64.wrap (v9))) (some ([], (⟨5, 0⟩ : PicFault))) ((prt v1 (4) (6)).bind fun v10 => ((s_l17Two v10).bind fun v11 => (cond (decide (v11 > 1000)) (some ([], (⟨1, 0⟩ : PicFault))) ((prt v1 (6) ((IntKind.i64.wrap (((v1).length : Int) - 2)))).bind fun v12 => ((loop (iR v11) (v12, 0, [], 0)).bind (Sum.elim (fun v31 => (some ([], (⟨v31.1, v31.2⟩ : PicFault)))) (fun v32 => (s_PicRead_j35 v11 (v32.1, v32.2.1, v32.2.2)))))))))))))))))))))))
theorem con_s_PicRead (v1 : (List Int)) (rz : ((List Inst) × PicFault)) (h : iw v1 = some rz) : Con Tryz.prog C0 11 [.fz 1 (R e_u8 (v1))] []
  (fun x σ' => x = .tup [.sl 0 0 ((rz.1).length), .agg [.sc (.int .i64 (rz.2.Code)), .sc (.int .i64 (rz.2.At))]] ∧ σ' = [.arr true 3 (R ao (rz.1))]) := by
 refine zCon hP 0 [0, 2, 3, 4, 5, 6, 7, 8, 9, 10, 37, 50, 56, 67, 76, 93] [.tmp 2, .cell 3 31] Tryz.func11 (by unfold Tryz.f11; rfl) fun Q hQ => ?_
 unfold iw at h
 refine zS z0 (zS z0 ?_)
 refine sC fun k3 hk3 => sC fun k4 hk4 => ?_
 rcases bE (decide (((v1).length : Int) < 8)) with g5 | g5
 ·replace h := ak h g5
  refine zU (zRF g5) (r_cN hk4 ?_)
  refine bM rfl ?_
  try replace h := ak h rfl
  refine zS z0 (ab ?_)
  refine r_cR hk3 ?_
  cases h
  refine zVRw [2000002] hQ
 ·replace h := av h g5
  rcases bE (decide (((v1).length : Int) > 20008)) with g7 | g7
  ·replace h := ak h g7
   refine zU (zRF (a2 g5 g7)) (r_cN hk4 ?_)
   refine bM rfl ?_
   try replace h := ak h rfl
   refine zS z0 (ab ?_)
   refine r_cR hk3 ?_
   cases h
   refine zVRw [2000002] hQ
  ·replace h := av h g7
   obtain ⟨v2, h, c9⟩ := bN 0 h
   rcases bE (v2 != 83) with g10 | g10
   ·replace h := ak h g10
    refine zU (zRF (a4 g5 g7 c9 g10)) (r_cN hk4 ?_)
    refine bM rfl ?_
    try replace h := ak h rfl
    refine zS z0 (ab ?_)
    refine r_cR hk3 ?_
    cases h
    refine zVRw [2000002] hQ
   ·replace h := av h g10
    obtain ⟨v3, h, c12⟩ := bN 1 h
    rcases bE (v3 != 116) with g13 | g13
    ·replace h := ak h g13
     refine zU (zRF (a4 g5 g7 c9 (a3 g10 c12 g13))) (r_cN hk4 ?_)
     refine bM rfl ?_
     try replace h := ak h rfl
     refine zS z0 (ab ?_)
     refine r_cR hk3 ?_
     cases h
     refine zVRw [2000002] hQ
    ·replace h := av h g13
     obtain ⟨v4, c15H, h⟩ := bS h
     obtain ⟨c15A, c15B, c15C, c15D⟩ := prt_some c15H
     try simp only [Int.reduceToNat, Int.toNat_zero, Int.toNat_one, Int.toNat_natCast, List.take_length] at c15D
     obtain ⟨v5, c16H, h⟩ := bS h
     refine zU (zC1F (lF [] (con_s_l17Two _ _ c16H)) (a4 g5 g7 c9 (a4 g10 c12 g13 (a4 c15A c15B c15C c15D)))) (r_cN hk4 ?_)
     revert h; refine zI rfl ?_ ?_ <;> intro h
     ·refine zS z0 (ab ?_)
      refine r_cR hk3 ?_
      cases h
      refine zVRw [2000002] hQ
     ·refine ae (r_cN hk3 ?_)
      refine sC fun k18 hk18 => ?_
      obtain ⟨v6, c20H, h⟩ := bS h
      obtain ⟨c20A, c20B, c20C⟩ := prtL_some c20H
      try simp only [Int.reduceToNat, Int.toNat_zero, Int.toNat_one, Int.toNat_natCast, List.take_length] at c20C
      obtain ⟨v7, c21H, h⟩ := bS h
      obtain ⟨c21A, c21B, c21C⟩ := prtH_some c21H
      try simp only [Int.reduceToNat, Int.toNat_zero, Int.toNat_one, Int.toNat_natCast, List.take_length] at c21C
      obtain ⟨v8, c22H, h⟩ := bS h
      obtain ⟨v9, c23H, h⟩ := bS h
      refine zS (zPC2F (.take 0 (.take 1 (.take 2 (.take 3 (.take 5 (.take 6 (.take 7 (.take 8 (.last 4 (.last 9 (.take 10 (.take 11 .done)))))))))))) [] (lF [] (con_s_l17Two _ _ c22H)) (lF [] (con_s_PicSum _ _ c23H)) (a4 c20A c20B c20C (a3 c21A c21B c21C))) ?_
      revert h; refine zI rfl ?_ ?_ <;> intro h
      ·refine zS z0 (ab ?_)
       refine r_cR hk18 ?_
       cases h
       refine zVRw [2000002] hQ
      ·refine ae (r_cN hk18 ?_)
       obtain ⟨v10, c26H, h⟩ := bS h
       obtain ⟨c26A, c26B, c26C, c26D⟩ := prt_some c26H
       try simp only [Int.reduceToNat, Int.toNat_zero, Int.toNat_one, Int.toNat_natCast, List.take_length] at c26D
       obtain ⟨v11, c27H, h⟩ := bS h
       refine zS (zC1F (lF [] (con_s_l17Two _ _ c27H)) (a4 c26A c26B c26C c26D)) (sC fun k28 hk28 => ?_)
       refine zS z0 ?_
       revert h; refine zI rfl ?_ ?_ <;> intro h
       ·refine zS z0 (ab ?_)
        refine r_cR hk28 ?_
        cases h
        refine zVRw [2000002] hQ
       ·refine ae (r_cN hk28 ?_)
        obtain ⟨v12, c32H, h⟩ := bS h
        obtain ⟨c32A, c32B, c32C, c32D⟩ := prt_some c32H
        try simp only [Int.reduceToNat, Int.toNat_zero, Int.toNat_one, Int.toNat_natCast, List.take_length] at c32D
        refine zS (zRF (a4 c32A c32B c32C c32D)) (zS z0 ?_)
        refine zCut (fun (x : ((List Int) × Int × (List Inst))) => ⟨[(3, .pt 0 0), (5, .sc (.int .i64 (v11))), (6, .pt 1 0), (7, .sl 2 0 ((x.2.2).length))], [.rc [.sc (.int .i64 (0)), .sc (.int .i64 (0))], .rc [.fz 1 (R e_u8 (x.1)), .sc (.int .i64 (x.2.1))], .arr true 3 (R ao (x.2.2))]⟩) (s_PicRead_j35 v11) rz ?_ ?_
        ·rintro _ ⟨v22, v23, v24⟩ h
         simp only [s_PicRead_j35] at h
         refine sC fun k67 hk67 => zS zR ?_
         revert h; refine zI rfl ?_ ?_ <;> intro h
         ·refine zS z0 (ab ?_)
          refine r_cR hk67 ?_
          cases h
          refine zVRw [2000002] hQ
         ·refine ae (r_cN hk67 ?_)
          refine zS z0 (ab ?_)
          cases h
          refine zOR hQ
        ·intro k72 hk72 J71
         refine zS z0 (sB fun k74 hk74 => ?_)
         obtain ⟨oq95, hLq95, hKq95⟩ := bS h
         clear h
         refine ay [3, 5, 6, 7, 8] (fun (_ : Unit) (x : ((List Int) × Int × (List Inst) × Int)) => (⟨[(3, .pt 0 0), (5, .sc (.int .i64 (v11))), (6, .pt 1 0), (7, .sl 2 0 ((x.2.2.1).length)), (8, .sc (.int .i64 (x.2.2.2)))], [.rc [.sc (.int .i64 (0)), .sc (.int .i64 (0))], .rc [.fz 1 (R e_u8 (x.1)), .sc (.int .i64 (x.2.1))], .arr true 3 (R ao (x.2.2.1))]⟩ : St)) (fun (_ : Unit) (x : ((List Int) × Int × (List Inst) × Int)) => True) (iR v11) () (v12, 0, [], 0) hLq95 (by rfl) (by rfl) ⟨?_, trivial⟩ ?_
         ·exact zSa
         ·rintro nq95 _ ⟨v26, v27, v28, v29⟩ xq95 kq95 hkq95 - h hIq95 hEq95
          simp only [iR] at h
          refine sC fun k96 hk96 => zS z0 ?_
          revert h; refine zI rfl ?_ ?_ <;> intro h
          ·refine ae (r_cN hk96 ?_)
           refine sC fun k98 hk98 => sB fun k99 hk99 => ?_
           obtain ⟨v33, c101H, h⟩ := bS h
           refine zS (zC1 (lC [[0]] (con_s_l17In_inst _ _ c101H))) (sC fun k102 hk102 => ?_)
           refine zS z0 ?_
           revert h; refine zI rfl ?_ ?_ <;> intro h
           ·refine zS z0 (ab ?_)
            refine r_cR hk102 (r_bR hk99 ?_)
            refine r_cR hk98 ?_
            replace h := zX h hEq95 hKq95
            simp only [Sum.elim_inl, Sum.elim_inr] at h
            refine r_kR hkq95 (r_bR hk74 ?_)
            refine r_jR hk72 ?_
            cases h
            refine zVRw [2000002] hQ
           ·refine ae (r_cN hk102 ?_)
            obtain ⟨g105, h⟩ := gAp h
            refine zU (zRF g105) (r_bN hk99 ?_)
            refine r_cN hk98 (zU z0 ?_)
            refine zB hkq95 h hIq95 () trivial
          ·refine aK (r_cE hk96 ?_)
           replace h := zX h hEq95 hKq95
           simp only [Sum.elim_inl, Sum.elim_inr] at h
           refine r_kE hkq95 (r_bE hk74 ?_)
           refine zJ J71 [3, 5, 6, 7] () _ h
def s_ListOk (v1 : Inst) : Option Bool :=
 (cond ((decide (v1.Code < 1)) || (decide (v1.Code > 11))) (some false) (cond (decide (v1.Code ≤ 3)) ((e9 (⟨v1.One_Op, v1.One_Args⟩ : Elem)).bind fun v2 => (some v2)) (cond (v1.Code == 10) ((iB (⟨v1.One_Op, v1.One_Args⟩ : Elem)).bind fun v3 => (some v3)) (some ((v1.One_Op == 0) && (((v1.One_Args).length : Int) == 0))))))
theorem con_s_ListOk (v1 : Inst) (rz : Bool) (h : s_ListOk v1 = some rz) : Con Tryz.prog C0 110 [.agg [.sc (.int .i64 (v1.Code)), .sc (.int .i64 (v1.One_Op)), .fz 3 (R aa (v1.One_Args))]] []
  (fun x σ' => x = .sc (.bool (rz)) ∧ σ' = []) := by
 refine zCon hP 0 [0, 1, 2, 3, 12, 19] [.tmp 2] Tryz.func110 (by unfold Tryz.f110; rfl) fun Q hQ => ?_
 unfold s_ListOk at h
 refine zS z0 (sC fun k2 hk2 => ?_)
 refine sB fun k3 hk3 => zS zR ?_
 revert h; refine zI rfl ?_ ?_ <;> intro h
 ·refine zS z0 (ab ?_)
  refine r_bR hk3 (r_cR hk2 ?_)
  cases h
  refine zAR hQ
 ·refine zS z0 ?_
  revert h; refine zI rfl ?_ ?_ <;> intro h
  ·obtain ⟨v2, c8H, h⟩ := bS h
   refine zS (zC1 (lF [] (con_s_ElemIsContact _ _ c8H))) (ab ?_)
   refine r_bR hk3 (r_cR hk2 ?_)
   cases h
   refine zAR hQ
  ·refine zS z0 ?_
   revert h; refine zI rfl ?_ ?_ <;> intro h
   ·obtain ⟨v3, c11H, h⟩ := bS h
    refine zS (zC1 (lF [] (con_s_ElemIsCoil _ _ c11H))) (ab ?_)
    refine r_bR hk3 (r_cR hk2 ?_)
    cases h
    refine zAR hQ
   ·refine ae (r_bN hk3 ?_)
    refine r_cN hk2 (zS zR ?_)
    refine ab ?_
    cases h
    refine zAR hQ
def gT : Bool → Option Int
 | v2 => (cond v2 (some 2) (some 1))
def s_l12Needs (v1 : Int) : Option Int :=
 (cond (v1 == 1) (some 0) (cond (v1 == 4) (gT (v1 == 4)) (gT (v1 == 5))))
theorem con_s_l12Needs (v1 : Int) (rz : Int) (h : s_l12Needs v1 = some rz) : Con Tryz.prog C0 111 [.sc (.int .i64 (v1))] []
  (fun x σ' => x = .sc (.int .i64 (rz)) ∧ σ' = []) := by
 refine zCon hP 0 [0, 2, 3, 4, 6] [.tmp 2] Tryz.func111 (by unfold Tryz.f111; rfl) fun Q hQ => ?_
 unfold s_l12Needs at h
 refine zS z0 (sC fun k2 hk2 => ?_)
 refine zS z0 (sB fun k4 hk4 => ?_)
 refine zS z0 ?_
 revert h; refine zI rfl ?_ ?_ <;> intro h
 ·refine zS z0 (ab ?_)
  refine r_bR hk4 (r_cR hk2 ?_)
  cases h
  refine zAR hQ
 ·refine zCut (fun (x : Bool) => ⟨[(6, .sc (.bool (x)))], []⟩) gT rz ?_ ?_
  ·rintro _ v2 h
   simp only [gT] at h
   revert h; refine zI rfl ?_ ?_ <;> intro h
   ·refine zS z0 (ab ?_)
    refine r_bR hk4 (r_cR hk2 ?_)
    cases h
    refine zAR hQ
   ·refine ae (r_bN hk4 ?_)
    refine r_cN hk2 (zS z0 ?_)
    refine ab ?_
    cases h
    refine zAR hQ
  ·intro k11 hk11 J10
   refine zS z0 ?_
   revert h; refine zI rfl ?_ ?_ <;> intro h
   ·refine ae (zJ J10 [6] () _ h)
   ·refine zU z0 (zJ J10 [6] () _ h)
def iP (v1 : l12At) (v2 : Inst) : Int → Option Int
 | v3 => ((s_ListOk v2).bind fun v4 => (cond (!v4) (some 2) ((s_l12Needs v2.Code).bind fun v5 => (cond (decide (v1.bits < v5)) (some 3) (cond ((v2.Code == 1) && (v1.bits == 16)) (some 4) (cond ((decide (v2.Code ≥ 7)) && (decide (v1.bits > 1))) (some 5) (cond ((v1.base && (v1.bits == v3)) && (((v2.Code == 3) || (v2.Code == 6)) || (v2.Code == 5))) (some 6) (cond ((v2.Code == 7) && (v1.forks == 8)) (some 7) (cond (((v2.Code == 8) || (v2.Code == 9)) && (v1.forks == 0)) (some 7) (cond ((v2.Code == 11) && (decide (v1.forks > 0))) (some 7) (cond ((((v2.Code == 8) || (v2.Code == 9)) || (v2.Code == 11)) && (!v1.coil)) (some 8) (some 0))))))))))))
def s_l12Wrong (v1 : l12At) (v2 : Inst) : Option Int :=
 (cond (v2.Code == 5) (iP v1 v2 2) (iP v1 v2 1))
theorem con_s_l12Wrong (v1 : l12At) (v2 : Inst) (rz : Int) (h : s_l12Wrong v1 v2 = some rz) : Con Tryz.prog C0 46 [.agg [.sc (.int .i64 (v1.bits)), .sc (.int .i64 (v1.forks)), .sc (.bool (v1.base)), .sc (.bool (v1.coil))], .agg [.sc (.int .i64 (v2.Code)), .sc (.int .i64 (v2.One_Op)), .fz 3 (R aa (v2.One_Args))]] []
  (fun x σ' => x = .sc (.int .i64 (rz)) ∧ σ' = []) := by
 refine zCon hP 0 [0, 1, 2, 3, 4, 5, 6, 7, 13, 14, 18, 24, 32, 39, 60, 68, 80, 88] [.tmp 4] Tryz.func46 (by unfold Tryz.f46; rfl) fun Q hQ => ?_
 unfold s_l12Wrong at h
 refine zS z0 (zS z0 ?_)
 refine zS z0 (zS z0 ?_)
 refine zCut (fun (x : Int) => ⟨[(2, .pt 0 0), (3, .pt 1 0), (5, .sc (.int .i64 (v2.Code))), (6, .sc (.bool ((decide (v2.Code ≥ 7))))), (7, .sc (.int .i64 (x)))], [.rc [.sc (.int .i64 (v1.bits)), .sc (.int .i64 (v1.forks)), .sc (.bool (v1.base)), .sc (.bool (v1.coil))], .rc [.sc (.int .i64 (v2.Code)), .sc (.int .i64 (v2.One_Op)), .fz 3 (R aa (v2.One_Args))]]⟩) (iP v1 v2) rz ?_ ?_
 ·rintro _ v3 h
  simp only [iP] at h
  refine sC fun k6 hk6 => sB fun k7 hk7 => ?_
  obtain ⟨v4, c9H, h⟩ := bS h
  refine zS (zC1 (lF [] (con_s_ListOk _ _ c9H))) ?_
  revert h; refine zI rfl ?_ ?_ <;> intro h
  ·refine zS z0 (ab ?_)
   refine r_bR hk7 (r_cR hk6 ?_)
   cases h
   refine zAR hQ
  ·obtain ⟨v5, c12H, h⟩ := bS h
   refine zS (zPC1 (.take 0 (.take 1 (.take 2 (.one 3 (.take 4 (.take 5 .done)))))) [0] (lF [] (con_s_l12Needs _ _ c12H))) ?_
   revert h; refine zI rfl ?_ ?_ <;> intro h
   ·refine zS z0 (ab ?_)
    refine r_bR hk7 (r_cR hk6 ?_)
    cases h
    refine zAR hQ
   ·refine zS zR ?_
    revert h; refine zI rfl ?_ ?_ <;> intro h
    ·refine zS z0 (ab ?_)
     refine r_bR hk7 (r_cR hk6 ?_)
     cases h
     refine zAR hQ
    ·refine zS zR ?_
     revert h; refine zI rfl ?_ ?_ <;> intro h
     ·refine zS z0 (ab ?_)
      refine r_bR hk7 (r_cR hk6 ?_)
      cases h
      refine zAR hQ
     ·refine zS zR ?_
      revert h; refine zI rfl ?_ ?_ <;> intro h
      ·refine zS z0 (ab ?_)
       refine r_bR hk7 (r_cR hk6 ?_)
       cases h
       refine zAR hQ
      ·refine zS zR ?_
       revert h; refine zI rfl ?_ ?_ <;> intro h
       ·refine zS z0 (ab ?_)
        refine r_bR hk7 (r_cR hk6 ?_)
        cases h
        refine zAR hQ
       ·refine zS zR ?_
        revert h; refine zI rfl ?_ ?_ <;> intro h
        ·refine zS z0 (ab ?_)
         refine r_bR hk7 (r_cR hk6 ?_)
         cases h
         refine zAR hQ
        ·refine zS zR ?_
         revert h; refine zI rfl ?_ ?_ <;> intro h
         ·refine zS z0 (ab ?_)
          refine r_bR hk7 (r_cR hk6 ?_)
          cases h
          refine zAR hQ
         ·refine zS zR ?_
          revert h; refine zI rfl ?_ ?_ <;> intro h
          ·refine zS z0 (ab ?_)
           refine r_bR hk7 (r_cR hk6 ?_)
           cases h
           refine zAR hQ
          ·refine ae (r_bN hk7 ?_)
           refine r_cN hk6 (zS z0 ?_)
           refine ab ?_
           cases h
           refine zAR hQ
 ·intro k30 hk30 J29
  refine zS z0 ?_
  revert h; refine zI rfl ?_ ?_ <;> intro h
  ·refine zU z0 (zJ J29 [2, 3, 5, 6, 7] () _ h)
  ·refine ae (zJ J29 [2, 3, 5, 6, 7] () _ h)
def fk (v1 : l12At) (v2 : Int) : (Int × Int) → Option l12At
 | (v4, v5) => (some (⟨v4, v5, ((v1.base || (v2 == 10)) || (v2 == 7)), (v2 == 10)⟩ : l12At))
def iF (v1 : l12At) (v2 : Int) : Bool → Option l12At
 | v6 => (cond v6 (fk v1 v2 ((IntKind.i64.wrap (v1.bits - 1)), v1.forks)) (cond (v2 == 7) (fk v1 v2 (v1.bits, (IntKind.i64.wrap (v1.forks + 1)))) (cond (v2 == 9) (fk v1 v2 (v1.bits, (IntKind.i64.wrap (v1.forks - 1)))) (cond (v2 == 11) (some (⟨0, 0, false, false⟩ : l12At)) (fk v1 v2 (v1.bits, v1.forks))))))
def s_l12Next (v1 : l12At) (v2 : Int) : Option l12At :=
 (cond (v2 == 1) (fk v1 v2 ((IntKind.i64.wrap (v1.bits + 1)), v1.forks)) (cond (v2 == 4) (iF v1 v2 (v2 == 4)) (iF v1 v2 (v2 == 5))))
theorem con_s_l12Next (v1 : l12At) (v2 : Int) (rz : l12At) (h : s_l12Next v1 v2 = some rz) : Con Tryz.prog C0 47 [.agg [.sc (.int .i64 (v1.bits)), .sc (.int .i64 (v1.forks)), .sc (.bool (v1.base)), .sc (.bool (v1.coil))], .sc (.int .i64 (v2))] []
  (fun x σ' => x = .agg [.sc (.int .i64 (rz.bits)), .sc (.int .i64 (rz.forks)), .sc (.bool (rz.base)), .sc (.bool (rz.coil))] ∧ σ' = []) := by
 refine zCon hP 0 [0, 1, 2, 4, 5, 6, 12, 19, 25, 31] [.cell 4 111] Tryz.func47 (by unfold Tryz.f47; rfl) fun Q hQ => ?_
 unfold s_l12Next at h
 refine zS z0 (zCut (fun (x : (Int × Int)) => ⟨[(1, .sc (.int .i64 (v2))), (2, .pt 0 0), (4, .pt 1 0)], [.rc [.sc (.int .i64 (x.1)), .sc (.int .i64 (x.2)), .sc (.bool (v1.base)), .sc (.bool (v1.coil))], .rc [.sc (.int .i64 (0)), .sc (.int .i64 (0)), .sc (.bool (false)), .sc (.bool (false))]]⟩) (fk v1 v2) rz ?_ ?_)
 ·rintro _ ⟨v4, v5⟩ h
  simp only [fk] at h
  refine zS z0 (zS zR ?_)
  refine zS z0 (ab ?_)
  cases h
  refine zAR hQ
 ·intro k17 hk17 J16
  refine zS z0 (sB fun k19 hk19 => ?_)
  refine zS z0 ?_
  revert h; refine zI rfl ?_ ?_ <;> intro h
  ·refine zU z0 (r_bN hk19 ?_)
   refine zJ J16 [1, 2, 4] () _ h
  ·refine zCut (fun (x : Bool) => ⟨[(1, .sc (.int .i64 (v2))), (2, .pt 0 0), (4, .pt 1 0), (5, .sc (.int .i64 (v2))), (12, .sc (.bool (x)))], [.rc [.sc (.int .i64 (v1.bits)), .sc (.int .i64 (v1.forks)), .sc (.bool (v1.base)), .sc (.bool (v1.coil))], .rc [.sc (.int .i64 (0)), .sc (.int .i64 (0)), .sc (.bool (false)), .sc (.bool (false))]]⟩) (iF v1 v2) rz ?_ ?_
   ·rintro _ v6 h
    simp only [iF] at h
    revert h; refine zI rfl ?_ ?_ <;> intro h
    ·refine zU z0 (r_bN hk19 ?_)
     refine zJ J16 [1, 2, 4] () _ h
    ·refine zS z0 ?_
     revert h; refine zI rfl ?_ ?_ <;> intro h
     ·refine zU z0 (r_bN hk19 ?_)
      refine zJ J16 [1, 2, 4] () _ h
     ·refine zS z0 ?_
      revert h; refine zI rfl ?_ ?_ <;> intro h
      ·refine zU z0 (r_bN hk19 ?_)
       refine zJ J16 [1, 2, 4] () _ h
      ·refine zS z0 ?_
       revert h; refine zI rfl ?_ ?_ <;> intro h
       ·refine zS z0 (ab ?_)
        refine r_bR hk19 (r_jR hk17 ?_)
        cases h
        refine zAR hQ
       ·refine ae (r_bN hk19 ?_)
        refine zJ J16 [1, 2, 4] () _ h
   ·intro k27 hk27 J26
    refine zS z0 ?_
    revert h; refine zI rfl ?_ ?_ <;> intro h
    ·refine ae (zJ J26 [1, 2, 4, 5, 12] () _ h)
    ·refine zU z0 (zJ J26 [1, 2, 4, 5, 12] () _ h)
def iY (v1 : (List Inst)) : (Int × Int × Bool × Bool) → Option SureFault
 | (v21, v22, v23, v24) => (cond (decide (v21 > 0)) (some (⟨9, ((v1).length : Int)⟩ : SureFault)) (some (⟨0, 0⟩ : SureFault)))
def iW (v1 : (List Inst)) : (Int × Int × Bool × Bool × Int) → Option ((Int × Int × Bool × Bool × Int) ⊕ ((Int × Int) ⊕ (Int × Int × Bool × Bool)))
 | (v29, v30, v31, v32, v33) => (cond (decide (v33 < ((v1).length : Int))) ((idx v1 (v33)).bind fun v40 => ((s_l12Wrong (⟨v29, v30, v31, v32⟩ : l12At) v40).bind fun v41 => (cond (decide (v41 > 0)) (some (.inr (.inl (v41, v33)))) ((idx v1 (v33)).bind fun v42 => ((s_l12Next (⟨v29, v30, v31, v32⟩ : l12At) v42.Code).bind fun v43 => (some (.inl (v43.bits, v43.forks, v43.base, v43.coil, (IntKind.i64.wrap (v33 + 1)))))))))) (some (.inr (.inr (v29, v30, v31, v32)))))
def s_SureCheck (v1 : (List Inst)) : Option SureFault :=
 (cond (decide (((v1).length : Int) > 1000)) (some (⟨1, 0⟩ : SureFault)) ((loop (iW v1) (0, 0, false, false, 0)).bind (Sum.elim (fun v38 => (some (⟨v38.1, v38.2⟩ : SureFault))) (fun v39 => (iY v1 (v39.1, v39.2.1, v39.2.2.1, v39.2.2.2))))))
theorem con_s_SureCheck (v1 : (List Inst)) (rz : SureFault) (h : s_SureCheck v1 = some rz) : Con Tryz.prog C0 12 [.fz 3 (R ao (v1))] []
  (fun x σ' => x = .agg [.sc (.int .i64 (rz.Code)), .sc (.int .i64 (rz.At))] ∧ σ' = []) := by
 refine zCon hP 0 [0, 2, 3, 4, 5, 8, 14, 24, 37] [.cell 2 34] Tryz.func12 (by unfold Tryz.f12; rfl) fun Q hQ => ?_
 unfold s_SureCheck at h
 refine zS z0 (sC fun k2 hk2 => ?_)
 refine zS z0 ?_
 revert h; refine zI rfl ?_ ?_ <;> intro h
 ·refine zS z0 (ab ?_)
  refine r_cR hk2 ?_
  cases h
  refine zAR hQ
 ·refine ae (r_cN hk2 ?_)
  refine zS z0 (zCut (fun (x : (Int × Int × Bool × Bool)) => ⟨[(0, .fz 3 (R ao (v1))), (2, .pt 0 0), (3, .pt 1 0)], [.rc [.sc (.int .i64 (0)), .sc (.int .i64 (0))], .rc [.sc (.int .i64 (x.1)), .sc (.int .i64 (x.2.1)), .sc (.bool (x.2.2.1)), .sc (.bool (x.2.2.2))]]⟩) (iY v1) rz ?_ ?_)
  ·rintro _ ⟨v21, v22, v23, v24⟩ h
   simp only [iY] at h
   refine sC fun k45 hk45 => zS z0 ?_
   revert h; refine zI rfl ?_ ?_ <;> intro h
   ·refine zS z0 (ab ?_)
    refine r_cR hk45 ?_
    cases h
    refine zAR hQ
   ·refine ae (r_cN hk45 ?_)
    refine zS z0 (ab ?_)
    cases h
    refine zAR hQ
  ·intro k50 hk50 J49
   refine zS z0 (sB fun k52 hk52 => ?_)
   obtain ⟨oq77, hLq77, hKq77⟩ := bS h
   clear h
   refine ay [0, 2, 3, 4] (fun (_ : Unit) (x : (Int × Int × Bool × Bool × Int)) => (⟨[(0, .fz 3 (R ao (v1))), (2, .pt 0 0), (3, .pt 1 0), (4, .sc (.int .i64 (x.2.2.2.2)))], [.rc [.sc (.int .i64 (0)), .sc (.int .i64 (0))], .rc [.sc (.int .i64 (x.1)), .sc (.int .i64 (x.2.1)), .sc (.bool (x.2.2.1)), .sc (.bool (x.2.2.2.1))]]⟩ : St)) (fun (_ : Unit) (x : (Int × Int × Bool × Bool × Int)) => True) (iW v1) () (0, 0, false, false, 0) hLq77 (by rfl) (by rfl) ⟨?_, trivial⟩ ?_
   ·exact zSa
   ·rintro nq77 _ ⟨v29, v30, v31, v32, v33⟩ xq77 kq77 hkq77 - h hIq77 hEq77
    simp only [iW] at h
    refine sC fun k78 hk78 => zS z0 ?_
    revert h; refine zI rfl ?_ ?_ <;> intro h
    ·refine ae (r_cN hk78 ?_)
     refine sC fun k80 hk80 => sB fun k81 hk81 => ?_
     obtain ⟨v40, h, c83⟩ := bI h
     obtain ⟨v41, c84H, h⟩ := bS h
     refine zS (zPC1F (.take 0 (.take 1 (.take 2 (.take 3 (.take 4 (.last 5 (.take 6 .done))))))) [1] (lF [] (con_s_l12Wrong _ _ _ c84H)) c83) (sC fun k85 hk85 => ?_)
     refine zS z0 ?_
     revert h; refine zI rfl ?_ ?_ <;> intro h
     ·refine zS z0 (ab ?_)
      refine r_cR hk85 (r_bR hk81 ?_)
      refine r_cR hk80 ?_
      replace h := zX h hEq77 hKq77
      simp only [Sum.elim_inl, Sum.elim_inr] at h
      refine r_kR hkq77 (r_bR hk52 ?_)
      refine r_jR hk50 ?_
      cases h
      refine zAR hQ
     ·refine ae (r_cN hk85 ?_)
      obtain ⟨v42, h, c88⟩ := bI h
      obtain ⟨v43, c89H, h⟩ := bS h
      refine zU (zPC1F (.take 0 (.take 1 (.take 2 (.take 3 (.take 4 (.take 5 (.last 6 (.last 7 .done)))))))) [1] (lF [] (con_s_l12Next _ _ _ c89H)) c88) (r_bN hk81 ?_)
      refine r_cN hk80 (zU z0 ?_)
      refine zB hkq77 h hIq77 () trivial
    ·refine aK (r_cE hk78 ?_)
     replace h := zX h hEq77 hKq77
     simp only [Sum.elim_inl, Sum.elim_inr] at h
     refine r_kE hkq77 (r_bE hk52 ?_)
     refine zJ J49 [0, 2, 3] () _ h
def cP : Unit → Option Bool
 | () => (some true)
def br (v1 : (List DevArg)) (v2 : (List DevArg)) : Int → Option (Int ⊕ (Unit ⊕ Unit))
 | v14 => (cond (decide (v14 < ((v1).length : Int))) ((idx v1 (v14)).bind fun v19 => ((idx v2 (v14)).bind fun v20 => (cond (!((v19.Kind == v20.Kind) && ((v19.N == v20.N) && (v19.P == v20.P)))) (some (.inr (.inl ()))) (some (.inl (IntKind.i64.wrap (v14 + 1))))))) (some (.inr (.inr ()))))
def bJ (v1 : (List DevArg)) (v2 : (List DevArg)) : Option Bool :=
 (cond (((v1).length : Int) != ((v2).length : Int)) (some false) ((loop (br v1 v2) 0).bind (Sum.elim (fun v17 => (some false)) (fun v18 => (cP ())))))
theorem ja (v1 : (List DevArg)) (v2 : (List DevArg)) (rz : Bool) (h : bJ v1 v2 = some rz) : Con Tryz.prog C0 112 [.fz 3 (R aa (v1)), .fz 3 (R aa (v2))] []
  (fun x σ' => x = .sc (.bool (rz)) ∧ σ' = []) := by
 refine zCon hP 0 [0, 1, 4, 5, 10, 12, 13, 14, 24] [.tmp 4] Tryz.func112 (by unfold Tryz.f112; rfl) fun Q hQ => ?_
 unfold bJ at h
 refine zS z0 (sC fun k2 hk2 => ?_)
 refine zS z0 ?_
 revert h; refine zI rfl ?_ ?_ <;> intro h
 ·refine zS z0 (ab ?_)
  refine r_cR hk2 ?_
  cases h
  refine zAR hQ
 ·refine ae (r_cN hk2 ?_)
  refine zCut (fun (x : Unit) => ⟨[], []⟩) cP rz ?_ ?_
  ·rintro _ _ h
   simp only [cP] at h
   refine zS z0 (ab ?_)
   cases h
   refine zAR hQ
  ·intro k37 hk37 J36
   refine zS z0 (sB fun k39 hk39 => ?_)
   obtain ⟨oq58, hLq58, hKq58⟩ := bS h
   clear h
   refine ay [0, 1, 12, 13] (fun (_ : Unit) (x : Int) => (⟨[(0, .fz 3 (R aa (v1))), (1, .fz 3 (R aa (v2))), (12, .sc (.int .i64 (((v1).length : Int)))), (13, .sc (.int .i64 (x)))], []⟩ : St)) (fun (_ : Unit) (x : Int) => True) (br v1 v2) () 0 hLq58 (by rfl) (by rfl) ⟨?_, trivial⟩ ?_
   ·exact zSa
   ·rintro nq58 _ v14 xq58 kq58 hkq58 - h hIq58 hEq58
    simp only [br] at h
    refine zS z0 (sC fun k60 hk60 => ?_)
    revert h; refine zI rfl ?_ ?_ <;> intro h
    ·refine ae (r_cN hk60 ?_)
     refine sC fun k61 hk61 => sB fun k62 hk62 => zS z0 ?_
     obtain ⟨v19, h, c65⟩ := bI h
     obtain ⟨v20, h, c66⟩ := bI h
     refine zS (zRF (a2 c65 c66)) ?_
     revert h; refine zI rfl ?_ ?_ <;> intro h
     ·refine zS z0 (ab ?_)
      refine r_bR hk62 (r_cR hk61 ?_)
      replace h := zX h hEq58 hKq58
      simp only [Sum.elim_inl, Sum.elim_inr] at h
      refine r_kR hkq58 (r_bR hk39 ?_)
      refine r_jR hk37 ?_
      cases h
      refine zAR hQ
     ·refine ae (r_bN hk62 ?_)
      refine r_cN hk61 (zU z0 ?_)
      refine zB hkq58 h hIq58 () trivial
    ·refine aK (r_cE hk60 ?_)
     replace h := zX h hEq58 hKq58
     simp only [Sum.elim_inl, Sum.elim_inr] at h
     refine r_kE hkq58 (r_bE hk39 ?_)
     refine zJ J36 [] () _ h
def m_elemSame (v1 : Elem) (v2 : Elem) : Option Bool :=
 (cond (v1.Op == v2.Op) ((bJ v1.Args v2.Args).bind fun v3 => (some v3)) (some false))
theorem con_m_elemSame (v1 : Elem) (v2 : Elem) (rz : Bool) (h : m_elemSame v1 v2 = some rz) : Con Tryz.prog C0 50 [.agg [.sc (.int .i64 (v1.Op)), .fz 3 (R aa (v1.Args))], .agg [.sc (.int .i64 (v2.Op)), .fz 3 (R aa (v2.Args))]] []
  (fun x σ' => x = .sc (.bool (rz)) ∧ σ' = []) := by
 refine zCon hP 0 [0, 1, 2, 3, 4] [.tmp 4] Tryz.func50 (by unfold Tryz.f50; rfl) fun Q hQ => ?_
 unfold m_elemSame at h
 refine zS z0 (sC fun k2 hk2 => ?_)
 rcases bE (v1.Op == v2.Op) with g3 | g3
 ·replace h := ak h g3
  obtain ⟨v3, c4H, h⟩ := bS h
  refine zU (zC1F (lF [] (ja _ _ _ c4H)) g3) (r_cN hk2 ?_)
  refine ab ?_
  cases h
  refine zAR hQ
 ·replace h := av h g3
  refine zU (zRF g3) (r_cN hk2 ?_)
  refine ab ?_
  cases h
  refine zAR hQ
def m_ListSame_1 (v1 : Inst) (v2 : Inst) : Option Bool :=
 (cond (v1.Code == v2.Code) ((m_elemSame (⟨v1.One_Op, v1.One_Args⟩ : Elem) (⟨v2.One_Op, v2.One_Args⟩ : Elem)).bind fun v3 => (some v3)) (some false))
theorem con_m_ListSame_1 (v1 : Inst) (v2 : Inst) (rz : Bool) (h : m_ListSame_1 v1 v2 = some rz) : Con Tryz.prog C0 49 [.agg [.sc (.int .i64 (v1.Code)), .sc (.int .i64 (v1.One_Op)), .fz 3 (R aa (v1.One_Args))], .agg [.sc (.int .i64 (v2.Code)), .sc (.int .i64 (v2.One_Op)), .fz 3 (R aa (v2.One_Args))]] []
  (fun x σ' => x = .sc (.bool (rz)) ∧ σ' = []) := by
 refine zCon hP 0 [0, 1, 2, 3, 4] [.tmp 4] Tryz.func49 (by unfold Tryz.f49; rfl) fun Q hQ => ?_
 unfold m_ListSame_1 at h
 refine zS z0 (sC fun k2 hk2 => ?_)
 rcases bE (v1.Code == v2.Code) with g3 | g3
 ·replace h := ak h g3
  obtain ⟨v3, c4H, h⟩ := bS h
  refine zU (zC1F (lF [] (con_m_elemSame _ _ _ c4H)) g3) (r_cN hk2 ?_)
  refine ab ?_
  cases h
  refine zAR hQ
 ·replace h := av h g3
  refine zU (zRF g3) (r_cN hk2 ?_)
  refine ab ?_
  cases h
  refine zAR hQ
def aF : Unit → Option Bool
 | () => (some true)
def au (v1 : (List Inst)) (v2 : (List Inst)) : Int → Option (Int ⊕ (Unit ⊕ Unit))
 | v18 => (cond (decide (v18 < ((v1).length : Int))) ((idx v1 (v18)).bind fun v24 => ((idx v2 (v18)).bind fun v25 => ((m_ListSame_1 v24 v25).bind fun v26 => (cond (!v26) (some (.inr (.inl ()))) (some (.inl (IntKind.i64.wrap (v18 + 1)))))))) (some (.inr (.inr ()))))
def aM (v1 : (List Inst)) (v2 : (List Inst)) : Option Bool :=
 (cond (((v1).length : Int) != ((v2).length : Int)) (some false) ((loop (au v1 v2) 0).bind (Sum.elim (fun v22 => (some false)) (fun v23 => (aF ())))))
theorem dc (v1 : (List Inst)) (v2 : (List Inst)) (rz : Bool) (h : aM v1 v2 = some rz) : Con Tryz.prog C0 48 [.fz 3 (R ao (v1)), .fz 3 (R ao (v2)), .sc (.func (.func 49) #[] #[])] []
  (fun x σ' => x = .sc (.bool (rz)) ∧ σ' = []) := by
 refine zCon hP 0 [0, 1, 2, 6, 7, 8, 9, 14, 15, 16, 17, 18, 30] [.tmp 6] Tryz.func48 (by unfold Tryz.f48; rfl) fun Q hQ => ?_
 unfold aM at h
 refine zS z0 (sC fun k2 hk2 => ?_)
 refine zS z0 ?_
 revert h; refine zI rfl ?_ ?_ <;> intro h
 ·refine zS z0 (ab ?_)
  refine r_cR hk2 ?_
  cases h
  refine zAR hQ
 ·refine ae (r_cN hk2 ?_)
  refine zCut (fun (x : Unit) => ⟨[], []⟩) aF rz ?_ ?_
  ·rintro _ _ h
   simp only [aF] at h
   refine zS z0 (ab ?_)
   cases h
   refine zAR hQ
  ·intro k43 hk43 J42
   refine zS z0 (sB fun k45 hk45 => ?_)
   obtain ⟨oq68, hLq68, hKq68⟩ := bS h
   clear h
   refine ay [1, 2, 15, 16, 17] (fun (_ : Unit) (x : Int) => (⟨[(1, .fz 3 (R ao (v2))), (2, .sc (.func (.func 49) #[] #[])), (15, .fz 3 (R ao (v1))), (16, .sc (.int .i64 (((v1).length : Int)))), (17, .sc (.int .i64 (x)))], []⟩ : St)) (fun (_ : Unit) (x : Int) => True) (au v1 v2) () 0 hLq68 (by rfl) (by rfl) ⟨?_, trivial⟩ ?_
   ·exact zSa
   ·rintro nq68 _ v18 xq68 kq68 hkq68 - h hIq68 hEq68
    simp only [au] at h
    refine zS z0 (sC fun k70 hk70 => ?_)
    revert h; refine zI rfl ?_ ?_ <;> intro h
    ·refine ae (r_cN hk70 ?_)
     refine sC fun k71 hk71 => sB fun k72 hk72 => ?_
     obtain ⟨v24, h, c74⟩ := bI h
     refine zS (zRF c74) ?_
     obtain ⟨v25, h, c76⟩ := bI h
     refine zS (zRF c76) ?_
     obtain ⟨v26, c78H, h⟩ := bS h
     refine zS (zC1 (lF [] (con_m_ListSame_1 _ _ _ c78H))) ?_
     revert h; refine zI rfl ?_ ?_ <;> intro h
     ·refine zS z0 (ab ?_)
      refine r_bR hk72 (r_cR hk71 ?_)
      replace h := zX h hEq68 hKq68
      simp only [Sum.elim_inl, Sum.elim_inr] at h
      refine r_kR hkq68 (r_bR hk45 ?_)
      refine r_jR hk43 ?_
      cases h
      refine zAR hQ
     ·refine ae (r_bN hk72 ?_)
      refine r_cN hk71 (zU z0 ?_)
      refine zB hkq68 h hIq68 () trivial
    ·refine aK (r_cE hk70 ?_)
     replace h := zX h hEq68 hKq68
     simp only [Sum.elim_inl, Sum.elim_inr] at h
     refine r_kE hkq68 (r_bE hk45 ?_)
     refine zJ J42 [] () _ h
def m_ListSame (v1 : (List Inst)) (v2 : (List Inst)) : Option Bool :=
 ((aM v1 v2).bind fun v3 => (some v3))
theorem con_m_ListSame (v1 : (List Inst)) (v2 : (List Inst)) (rz : Bool) (h : m_ListSame v1 v2 = some rz) : Con Tryz.prog C0 13 [.fz 3 (R ao (v1)), .fz 3 (R ao (v2))] []
  (fun x σ' => x = .sc (.bool (rz)) ∧ σ' = []) := by
 refine zCon hP 0 [0, 1, 4] [.tmp 4] Tryz.func13 (by unfold Tryz.f13; rfl) fun Q hQ => ?_
 unfold m_ListSame at h
 refine zS z0 ?_
 obtain ⟨v3, c3H, h⟩ := bS h
 refine zS (zC1 (lF [] (dc _ _ _ c3H))) (ab ?_)
 cases h
 refine zAR hQ
def eQ (v1 : l11Play) (v2 : Int) : ((List Int) × Int × Int × (List DevArg)) → Option l11Play
 | (v9, v10, v11, v12) => (gd (apOk ((v1.out ++ [(⟨v2, v11, v12⟩ : Inst)])).length 40) (cond ((v2 == 10) || (v2 == 7)) (some (⟨(⟨v9, v10⟩ : l26Rd), (v1.out ++ [(⟨v2, v11, v12⟩ : Inst)]), v1.bits, v1.forks, true, (v2 == 10)⟩ : l11Play)) (some (⟨(⟨v9, v10⟩ : l26Rd), (v1.out ++ [(⟨v2, v11, v12⟩ : Inst)]), v1.bits, v1.forks, v1.base, (v2 == 10)⟩ : l11Play))))
def eO (v1 : l11Play) (v2 : Int) : ((List Int) × Int × Int × (List DevArg)) → Option l11Play
 | (v4, v5, v6, v7) => (cond (v2 == 10) ((gD (⟨v4, v5⟩ : l26Rd)).bind fun v13 => (eQ v1 v2 (v13.2.b, v13.2.p, v13.1.Op, v13.1.Args))) (eQ v1 v2 (v4, v5, v6, v7)))
def aT (v1 : l11Play) (v2 : Int) : Option l11Play :=
 (cond (decide (v2 ≤ 3)) ((cd (⟨v1.r.b, v1.r.p⟩ : l26Rd)).bind fun v14 => (eO v1 v2 (v14.2.b, v14.2.p, v14.1.Op, v14.1.Args))) (eO v1 v2 (v1.r.b, v1.r.p, 0, [])))
theorem ax (v1 : l11Play) (v2 : Int) (rz : l11Play) (h : aT v1 v2 = some rz) : Con Tryz.prog C0 196 [.pt 0 0, .sc (.int .i64 (v2))] [.rc [.pt 1 0, .sl 2 0 ((v1.out).length), .sc (.int .i64 (v1.bits)), .sc (.int .i64 (v1.forks)), .sc (.bool (v1.base)), .sc (.bool (v1.fresh))], .rc [.fz 1 (R e_u8 (v1.r.b)), .sc (.int .i64 (v1.r.p))], .arr true 3 (R ao (v1.out))]
  (fun x σ' => x = .tup [] ∧ σ' = [.rc [.pt 1 0, .sl 3 0 ((rz.out).length), .sc (.int .i64 (rz.bits)), .sc (.int .i64 (rz.forks)), .sc (.bool (rz.base)), .sc (.bool (rz.fresh))], .rc [.fz 1 (R e_u8 (rz.r.b)), .sc (.int .i64 (rz.r.p))], .dead, .arr true 3 (R ao (rz.out))]) := by
 refine zCon hP 3 [0, 1, 4, 8, 16, 43] [] Tryz.func196 (by unfold Tryz.f196; rfl) fun Q hQ => ?_
 unfold aT at h
 refine zS z0 (zCut (fun (x : ((List Int) × Int × Int × (List DevArg))) => ⟨[(0, .pt 0 0), (1, .sc (.int .i64 (v2))), (4, .pt 3 0)], [.rc [.pt 1 0, .sl 2 0 ((v1.out).length), .sc (.int .i64 (v1.bits)), .sc (.int .i64 (v1.forks)), .sc (.bool (v1.base)), .sc (.bool (v1.fresh))], .rc [.fz 1 (R e_u8 (x.1)), .sc (.int .i64 (x.2.1))], .arr true 3 (R ao (v1.out)), .rc [.sc (.int .i64 (v2)), .sc (.int .i64 (x.2.2.1)), .sl 4 0 ((x.2.2.2).length)], .arr true 3 (R aa (x.2.2.2))]⟩) (eO v1 v2) rz ?_ ?_)
 ·rintro _ ⟨v4, v5, v6, v7⟩ h
  simp only [eO] at h
  refine zCut (fun (x : ((List Int) × Int × Int × (List DevArg))) => ⟨[(0, .pt 0 0), (1, .sc (.int .i64 (v2))), (4, .pt 3 0)], [.rc [.pt 1 0, .sl 2 0 ((v1.out).length), .sc (.int .i64 (v1.bits)), .sc (.int .i64 (v1.forks)), .sc (.bool (v1.base)), .sc (.bool (v1.fresh))], .rc [.fz 1 (R e_u8 (x.1)), .sc (.int .i64 (x.2.1))], .arr true 3 (R ao (v1.out)), .rc [.sc (.int .i64 (v2)), .sc (.int .i64 (x.2.2.1)), .fz 3 (R aa (x.2.2.2))]]⟩) (eQ v1 v2) rz ?_ ?_
  ·rintro _ ⟨v9, v10, v11, v12⟩ h
   simp only [eQ] at h
   obtain ⟨g7, h⟩ := gAp h
   refine zS (zPRF (.take 0 (.take 1 (.take 2 (.take 3 (.take 4 (.take 5 (.one 6 (.one 7 (.take 8 (.take 9 (.last 10 .done))))))))))) [0, 3] g7) (zS z0 ?_)
   refine zS zR ?_
   revert h; refine zI rfl ?_ ?_ <;> intro h
   ·refine zU z0 ?_
    cases h
    refine zAN hQ
   ·refine ae ?_
    cases h
    refine zAN hQ
  ·intro k11 hk11 J10
   refine zS z0 ?_
   revert h; refine zI rfl ?_ ?_ <;> intro h
   ·obtain ⟨v13, c13H, h⟩ := bS h
    refine zU (zC1 (lC [[0]] (fj _ _ c13H))) (zJ J10 [0, 1, 4] () _ h)
   ·refine ae (zJvw J10 [0, 1, 4] [0, 1, 2, 3] () _ h)
 ·intro k15 hk15 J14
  refine zS z0 ?_
  revert h; refine zI rfl ?_ ?_ <;> intro h
  ·obtain ⟨v14, c17H, h⟩ := bS h
   refine zU (zC1 (lC [[0]] (bU _ _ c17H))) (zJ J14 [0, 1, 4] () _ h)
  ·refine ae (zJvw J14 [0, 1, 4] [0, 1, 2, 3, 2000002] () _ h)
def eR : ((List Int) × Int × (List Inst) × Int × Int × Bool × Bool) → Option l11Play
 | (v115, v116, v117, v118, v119, v120, v121) => (cond (!v121) ((aT (⟨(⟨v115, v116⟩ : l26Rd), v117, v118, v119, v120, v121⟩ : l11Play) 10).bind fun v122 => (some (⟨(⟨v122.r.b, v122.r.p⟩ : l26Rd), v122.out, v122.bits, v122.forks, v122.base, v122.fresh⟩ : l11Play))) (some (⟨(⟨v115, v116⟩ : l26Rd), v117, v118, v119, v120, v121⟩ : l11Play)))
def bo : ((List Int) × Int × (List Inst) × Int × Int × Bool × Bool) → Option (((List Int) × Int × (List Inst) × Int × Int × Bool × Bool) ⊕ ((List Int) × Int × (List Inst) × Int × Int × Bool × Bool))
 | (v202, v203, v204, v205, v206, v207, v208) => (some (.inl (v202, v203, v204, (IntKind.i64.wrap (v205 - 1)), v206, v207, v208)))
def eU : ((List Int) × Int × (List Inst) × Int × Int × Bool × Bool) → Option (((List Int) × Int × (List Inst) × Int × Int × Bool × Bool) ⊕ ((List Int) × Int × (List Inst) × Int × Int × Bool × Bool))
 | (v145, v146, v147, v148, v149, v150, v151) => (cond (decide (v148 > 1)) (cond v150 (cond (v148 == 2) ((aT (⟨(⟨v145, v146⟩ : l26Rd), v147, v148, v149, true, v151⟩ : l11Play) 4).bind fun v211 => (bo (v211.r.b, v211.r.p, v211.out, v211.bits, v211.forks, v211.base, v211.fresh))) ((ai (⟨v145, v146⟩ : l26Rd) 2).bind fun v209 => (cond (v209.1 == 0) ((aT (⟨v209.2, v147, v148, v149, true, v151⟩ : l11Play) 4).bind fun v212 => (bo (v212.r.b, v212.r.p, v212.out, v212.bits, v212.forks, v212.base, v212.fresh))) ((aT (⟨v209.2, v147, v148, v149, true, v151⟩ : l11Play) 5).bind fun v213 => (bo (v213.r.b, v213.r.p, v213.out, v213.bits, v213.forks, v213.base, v213.fresh)))))) ((ai (⟨v145, v146⟩ : l26Rd) 2).bind fun v210 => (cond (v210.1 == 0) ((aT (⟨v210.2, v147, v148, v149, false, v151⟩ : l11Play) 4).bind fun v214 => (bo (v214.r.b, v214.r.p, v214.out, v214.bits, v214.forks, v214.base, v214.fresh))) ((aT (⟨v210.2, v147, v148, v149, false, v151⟩ : l11Play) 5).bind fun v215 => (bo (v215.r.b, v215.r.p, v215.out, v215.bits, v215.forks, v215.base, v215.fresh)))))) (some (.inr (v145, v146, v147, v148, v149, v150, v151))))
def ej (v1 : l11Play) : Option l11Play :=
 ((loop eU (v1.r.b, v1.r.p, v1.out, v1.bits, v1.forks, v1.base, v1.fresh)).bind (fun v194 => (eR (v194.1, v194.2.1, v194.2.2.1, v194.2.2.2.1, v194.2.2.2.2.1, v194.2.2.2.2.2.1, v194.2.2.2.2.2.2))))
theorem fF (v1 : l11Play) (rz : l11Play) (h : ej v1 = some rz) : Con Tryz.prog C0 198 [.pt 0 0] [.rc [.pt 1 0, .sl 2 0 ((v1.out).length), .sc (.int .i64 (v1.bits)), .sc (.int .i64 (v1.forks)), .sc (.bool (v1.base)), .sc (.bool (v1.fresh))], .rc [.fz 1 (R e_u8 (v1.r.b)), .sc (.int .i64 (v1.r.p))], .arr true 3 (R ao (v1.out))]
  (fun x σ' => (x = .tup [] ∧ σ' = [.rc [.pt 1 0, .sl 3 0 ((rz.out).length), .sc (.int .i64 (rz.bits)), .sc (.int .i64 (rz.forks)), .sc (.bool (rz.base)), .sc (.bool (rz.fresh))], .rc [.fz 1 (R e_u8 (rz.r.b)), .sc (.int .i64 (rz.r.p))], .dead, .arr true 3 (R ao (rz.out))]) ∨ (x = .tup [] ∧ σ' = [.rc [.pt 1 0, .sl 2 0 ((rz.out).length), .sc (.int .i64 (rz.bits)), .sc (.int .i64 (rz.forks)), .sc (.bool (rz.base)), .sc (.bool (rz.fresh))], .rc [.fz 1 (R e_u8 (rz.r.b)), .sc (.int .i64 (rz.r.p))], .arr true 3 (R ao (rz.out))])) := by
 refine zCon hP 3 [0, 6, 25, 42] [] Tryz.func198 (by unfold Tryz.f198; rfl) fun Q hQ => ?_
 unfold ej at h
 refine sem_cutJ (fun (i : P2) (x : ((List Int) × Int × (List Inst) × Int × Int × Bool × Bool)) => match i with | .a => (⟨[(0, .pt 0 0)], [.rc [.pt 1 0, .sl 2 0 ((x.2.2.1).length), .sc (.int .i64 (x.2.2.2.1)), .sc (.int .i64 (x.2.2.2.2.1)), .sc (.bool (x.2.2.2.2.2.1)), .sc (.bool (x.2.2.2.2.2.2))], .rc [.fz 1 (R e_u8 (x.1)), .sc (.int .i64 (x.2.1))], .arr true 3 (R ao (x.2.2.1))]⟩ : St) | .b => (⟨[(0, .pt 0 0)], [.rc [.pt 1 0, .sl 3 0 ((x.2.2.1).length), .sc (.int .i64 (x.2.2.2.1)), .sc (.int .i64 (x.2.2.2.2.1)), .sc (.bool (x.2.2.2.2.2.1)), .sc (.bool (x.2.2.2.2.2.2))], .rc [.fz 1 (R e_u8 (x.1)), .sc (.int .i64 (x.2.1))], .dead, .arr true 3 (R ao (x.2.2.1))]⟩ : St)) (fun (i : P2) (x : ((List Int) × Int × (List Inst) × Int × Int × Bool × Bool)) => (match i with | .a => True | .b => True) ∧ eR x = some rz) ?_ ?_
 ·rintro (_ | _) ⟨v115, v116, v117, v118, v119, v120, v121⟩ ⟨hp, h⟩
  ·simp only [eR] at h
   refine zS z0 ?_
   revert h; refine zI rfl ?_ ?_ <;> intro h
   ·obtain ⟨v122, c129H, h⟩ := bS h
    refine zU (zC1 (lC [[0], [0, 0], [0, 1]] (ax _ _ _ c129H))) ?_
    obtain rfl := Option.some.inj h
    refine r_eAN hQ rfl rfl ?_
    simp (decide := true) only [go_sem, reduceIte, Nat.reduceAdd, Int.reduceToNat, Nat.reduceSub, Nat.reduceMul, Nat.reduceMod]
    all_goals first | exact bc (.inl ⟨rfl, rfl⟩) | exact True.intro
   ·refine ae ?_
    obtain rfl := Option.some.inj h
    refine r_eAN hQ rfl rfl ?_
    simp (decide := true) only [go_sem, reduceIte, Nat.reduceAdd, Int.reduceToNat, Nat.reduceSub, Nat.reduceMul, Nat.reduceMod]
    all_goals first | exact bc (.inr ⟨rfl, rfl⟩) | exact True.intro
  ·simp only [eR] at h
   refine zS z0 ?_
   revert h; refine zI rfl ?_ ?_ <;> intro h
   ·obtain ⟨v123, c131H, h⟩ := bS h
    refine zU (zC1 (lC [[0], [0, 0], [0, 1]] (ax _ _ _ c131H))) ?_
    obtain rfl := Option.some.inj h
    refine r_eAN hQ rfl rfl ?_
    simp (decide := true) only [go_sem, reduceIte, Nat.reduceAdd, Int.reduceToNat, Nat.reduceSub, Nat.reduceMul, Nat.reduceMod]
    all_goals first | exact bc (.inl ⟨rfl, rfl⟩) | exact True.intro
   ·refine ae ?_
    obtain rfl := Option.some.inj h
    refine r_eAN hQ rfl rfl ?_
    simp (decide := true) only [go_sem, reduceIte, Nat.reduceAdd, Int.reduceToNat, Nat.reduceSub, Nat.reduceMul, Nat.reduceMod]
    all_goals first | exact bc (.inl ⟨rfl, rfl⟩) | exact True.intro
 ·intro k133 hk133 J132
  refine sB fun k134 hk134 => ?_
  obtain ⟨oq210, hLq210, hKq210⟩ := bS h
  clear h
  refine ay [0] (fun (i : P2) (x : ((List Int) × Int × (List Inst) × Int × Int × Bool × Bool)) => match i with | .a => (⟨[(0, .pt 0 0)], [.rc [.pt 1 0, .sl 2 0 ((x.2.2.1).length), .sc (.int .i64 (x.2.2.2.1)), .sc (.int .i64 (x.2.2.2.2.1)), .sc (.bool (x.2.2.2.2.2.1)), .sc (.bool (x.2.2.2.2.2.2))], .rc [.fz 1 (R e_u8 (x.1)), .sc (.int .i64 (x.2.1))], .arr true 3 (R ao (x.2.2.1))]⟩ : St) | .b => (⟨[(0, .pt 0 0)], [.rc [.pt 1 0, .sl 3 0 ((x.2.2.1).length), .sc (.int .i64 (x.2.2.2.1)), .sc (.int .i64 (x.2.2.2.2.1)), .sc (.bool (x.2.2.2.2.2.1)), .sc (.bool (x.2.2.2.2.2.2))], .rc [.fz 1 (R e_u8 (x.1)), .sc (.int .i64 (x.2.1))], .dead, .arr true 3 (R ao (x.2.2.1))]⟩ : St)) (fun (i : P2) (x : ((List Int) × Int × (List Inst) × Int × Int × Bool × Bool)) => (match i with | .a => True | .b => True)) eU (.a) (v1.r.b, v1.r.p, v1.out, v1.bits, v1.forks, v1.base, v1.fresh) hLq210 (by rfl) (by rfl) ⟨?_, trivial⟩ ?_
  ·exact zSa
  ·rintro nq210 (_ | _) ⟨v145, v146, v147, v148, v149, v150, v151⟩ xq210 kq210 hkq210 hp h hIq210 hEq210
   ·simp only [eU] at h
    refine sC fun k211 hk211 => zS z0 ?_
    revert h; refine zI rfl ?_ ?_ <;> intro h
    ·refine ae (r_cN hk211 ?_)
     refine sB fun k213 hk213 => zCut (fun (x : ((List Int) × Int × (List Inst) × Int × Int × Bool × Bool)) => ⟨[(0, .pt 0 0)], [.rc [.pt 1 0, .sl 3 0 ((x.2.2.1).length), .sc (.int .i64 (x.2.2.2.1)), .sc (.int .i64 (x.2.2.2.2.1)), .sc (.bool (x.2.2.2.2.2.1)), .sc (.bool (x.2.2.2.2.2.2))], .rc [.fz 1 (R e_u8 (x.1)), .sc (.int .i64 (x.2.1))], .dead, .arr true 3 (R ao (x.2.2.1))]⟩) bo xq210 ?_ ?_
     ·rintro _ ⟨v202, v203, v204, v205, v206, v207, v208⟩ h
      simp only [bo] at h
      refine zU z0 (r_bN hk213 ?_)
      refine zB hkq210 h hIq210 (.b) trivial
     ·intro k225 hk225 J224
      refine sC fun k226 hk226 => ?_
      rcases bE v150 with g227 | g227
      ·replace h := ak h g227
       rcases bE (v148 == 2) with g228 | g228
       ·replace h := ak h g228
        refine zU (zRF (a2 g227 g228)) (r_cN hk226 ?_)
        refine bM rfl ?_
        try replace h := ak h rfl
        obtain ⟨v211, c229H, h⟩ := bS h
        refine zU (zC1 (lC [[0], [0, 0], [0, 1]] (ax _ _ _ c229H))) (zJ J224 [0] () _ h)
       ·replace h := av h g228
        obtain ⟨v209, c230H, h⟩ := bS h
        refine zU (zC1F (lC [[0]] (ah _ _ _ c230H)) (a2 g227 g228)) (r_cN hk226 ?_)
        revert h; refine zI rfl ?_ ?_ <;> intro h
        ·obtain ⟨v212, c231H, h⟩ := bS h
         refine zU (zC1 (lC [[0], [0, 0], [0, 1]] (ax _ _ _ c231H))) (zJ J224 [0] () _ h)
        ·obtain ⟨v213, c232H, h⟩ := bS h
         refine zU (zC1 (lC [[0], [0, 0], [0, 1]] (ax _ _ _ c232H))) (zJ J224 [0] () _ h)
      ·replace h := av h g227
       obtain ⟨v210, c233H, h⟩ := bS h
       refine zU (zC1F (lC [[0]] (ah _ _ _ c233H)) g227) (r_cN hk226 ?_)
       revert h; refine zI rfl ?_ ?_ <;> intro h
       ·obtain ⟨v214, c234H, h⟩ := bS h
        refine zU (zC1 (lC [[0], [0, 0], [0, 1]] (ax _ _ _ c234H))) (zJ J224 [0] () _ h)
       ·obtain ⟨v215, c235H, h⟩ := bS h
        refine zU (zC1 (lC [[0], [0, 0], [0, 1]] (ax _ _ _ c235H))) (zJ J224 [0] () _ h)
    ·refine aK (r_cE hk211 ?_)
     replace h := zX h hEq210 hKq210
     refine r_kE hkq210 (r_bE hk134 ?_)
     refine zJ J132 [0] (.a) (v145, v146, v147, v148, v149, v150, v151) ⟨trivial, h⟩
   ·simp only [eU] at h
    refine sC fun k236 hk236 => zS z0 ?_
    revert h; refine zI rfl ?_ ?_ <;> intro h
    ·refine ae (r_cN hk236 ?_)
     refine sB fun k238 hk238 => zCut (fun (x : ((List Int) × Int × (List Inst) × Int × Int × Bool × Bool)) => ⟨[(0, .pt 0 0)], [.rc [.pt 1 0, .sl 3 0 ((x.2.2.1).length), .sc (.int .i64 (x.2.2.2.1)), .sc (.int .i64 (x.2.2.2.2.1)), .sc (.bool (x.2.2.2.2.2.1)), .sc (.bool (x.2.2.2.2.2.2))], .rc [.fz 1 (R e_u8 (x.1)), .sc (.int .i64 (x.2.1))], .dead, .arr true 3 (R ao (x.2.2.1))]⟩) bo xq210 ?_ ?_
     ·rintro _ ⟨v223, v224, v225, v226, v227, v228, v229⟩ h
      simp only [bo] at h
      refine zU z0 (r_bN hk238 ?_)
      refine zB hkq210 h hIq210 (.b) trivial
     ·intro k250 hk250 J249
      refine sC fun k251 hk251 => ?_
      rcases bE v150 with g252 | g252
      ·replace h := ak h g252
       rcases bE (v148 == 2) with g253 | g253
       ·replace h := ak h g253
        refine zU (zRF (a2 g252 g253)) (r_cN hk251 ?_)
        refine bM rfl ?_
        try replace h := ak h rfl
        obtain ⟨v232, c254H, h⟩ := bS h
        refine zU (zC1 (lC [[0], [0, 0], [0, 1]] (ax _ _ _ c254H))) (zJ J249 [0] () _ h)
       ·replace h := av h g253
        obtain ⟨v230, c255H, h⟩ := bS h
        refine zU (zC1F (lC [[0]] (ah _ _ _ c255H)) (a2 g252 g253)) (r_cN hk251 ?_)
        revert h; refine zI rfl ?_ ?_ <;> intro h
        ·obtain ⟨v233, c256H, h⟩ := bS h
         refine zU (zC1 (lC [[0], [0, 0], [0, 1]] (ax _ _ _ c256H))) (zJ J249 [0] () _ h)
        ·obtain ⟨v234, c257H, h⟩ := bS h
         refine zU (zC1 (lC [[0], [0, 0], [0, 1]] (ax _ _ _ c257H))) (zJ J249 [0] () _ h)
      ·replace h := av h g252
       obtain ⟨v231, c258H, h⟩ := bS h
       refine zU (zC1F (lC [[0]] (ah _ _ _ c258H)) g252) (r_cN hk251 ?_)
       revert h; refine zI rfl ?_ ?_ <;> intro h
       ·obtain ⟨v235, c259H, h⟩ := bS h
        refine zU (zC1 (lC [[0], [0, 0], [0, 1]] (ax _ _ _ c259H))) (zJ J249 [0] () _ h)
       ·obtain ⟨v236, c260H, h⟩ := bS h
        refine zU (zC1 (lC [[0], [0, 0], [0, 1]] (ax _ _ _ c260H))) (zJ J249 [0] () _ h)
    ·refine aK (r_cE hk236 ?_)
     replace h := zX h hEq210 hKq210
     refine r_kE hkq210 (r_bE hk134 ?_)
     refine zJ J132 [0] (.b) (v145, v146, v147, v148, v149, v150, v151) ⟨trivial, h⟩
def e5 (v1 : l11Play) (v2 : Int) (v3 : (Int × l26Rd)) : Bool → Option l11Play
 | v6 => (cond v6 ((aT (⟨v3.2, v1.out, v1.bits, v1.forks, v1.base, v1.fresh⟩ : l11Play) 2).bind fun v7 => (some (⟨(⟨v7.r.b, v7.r.p⟩ : l26Rd), v7.out, v7.bits, v7.forks, v7.base, v7.fresh⟩ : l11Play))) (cond (v3.1 == 4) (cond (decide (v1.bits ≥ v2)) ((aT (⟨v3.2, v1.out, v1.bits, v1.forks, v1.base, v1.fresh⟩ : l11Play) 3).bind fun v8 => (some (⟨(⟨v8.r.b, v8.r.p⟩ : l26Rd), v8.out, v8.bits, v8.forks, v8.base, v8.fresh⟩ : l11Play))) (some (⟨v3.2, v1.out, v1.bits, v1.forks, v1.base, v1.fresh⟩ : l11Play))) (cond (v3.1 == 5) (cond (decide (v1.bits ≥ v2)) ((ai v3.2 2).bind fun v9 => (cond (v9.1 == 0) ((aT (⟨v9.2, v1.out, v1.bits, v1.forks, v1.base, v1.fresh⟩ : l11Play) 6).bind fun v10 => (some (⟨(⟨v10.r.b, v10.r.p⟩ : l26Rd), v10.out, v10.bits, v10.forks, v10.base, v10.fresh⟩ : l11Play))) (some (⟨v9.2, v1.out, v1.bits, v1.forks, v1.base, v1.fresh⟩ : l11Play)))) (some (⟨v3.2, v1.out, v1.bits, v1.forks, v1.base, v1.fresh⟩ : l11Play))) (cond (v3.1 == 6) (cond (decide (v1.bits > 1)) ((aT (⟨v3.2, v1.out, v1.bits, v1.forks, v1.base, v1.fresh⟩ : l11Play) 4).bind fun v11 => (some (⟨(⟨v11.r.b, v11.r.p⟩ : l26Rd), v11.out, (IntKind.i64.wrap (v11.bits - 1)), v11.forks, v11.base, v11.fresh⟩ : l11Play))) (some (⟨v3.2, v1.out, v1.bits, v1.forks, v1.base, v1.fresh⟩ : l11Play))) (cond (v3.1 == 7) (cond (decide (v1.bits > v2)) ((aT (⟨v3.2, v1.out, v1.bits, v1.forks, v1.base, v1.fresh⟩ : l11Play) 5).bind fun v12 => (some (⟨(⟨v12.r.b, v12.r.p⟩ : l26Rd), v12.out, (IntKind.i64.wrap (v12.bits - 1)), v12.forks, v12.base, v12.fresh⟩ : l11Play))) (some (⟨v3.2, v1.out, v1.bits, v1.forks, v1.base, v1.fresh⟩ : l11Play))) (cond (v3.1 == 8) (cond (v1.bits == 1) ((aT (⟨v3.2, v1.out, v1.bits, v1.forks, v1.base, v1.fresh⟩ : l11Play) 10).bind fun v13 => (some (⟨(⟨v13.r.b, v13.r.p⟩ : l26Rd), v13.out, v13.bits, v13.forks, v13.base, v13.fresh⟩ : l11Play))) (some (⟨v3.2, v1.out, v1.bits, v1.forks, v1.base, v1.fresh⟩ : l11Play))) (cond (v3.1 == 9) (cond ((v1.bits == 1) && (decide (v1.forks < 8))) ((aT (⟨v3.2, v1.out, v1.bits, v1.forks, v1.base, v1.fresh⟩ : l11Play) 7).bind fun v14 => (some (⟨(⟨v14.r.b, v14.r.p⟩ : l26Rd), v14.out, v14.bits, (IntKind.i64.wrap (v14.forks + 1)), v14.base, v14.fresh⟩ : l11Play))) (some (⟨v3.2, v1.out, v1.bits, v1.forks, v1.base, v1.fresh⟩ : l11Play))) (cond (decide (v1.forks > 0)) ((ej (⟨v3.2, v1.out, v1.bits, v1.forks, v1.base, v1.fresh⟩ : l11Play)).bind fun v15 => ((ai (⟨v15.r.b, v15.r.p⟩ : l26Rd) 2).bind fun v16 => ((aT (⟨v16.2, v15.out, v15.bits, v15.forks, v15.base, v15.fresh⟩ : l11Play) (IntKind.i64.wrap (8 + v16.1))).bind fun v17 => ((idx v17.out ((IntKind.i64.wrap ((((v17.out).length : Nat) : Int) - 1)))).bind fun v18 => (cond (v18.Code == 9) (some (⟨(⟨v17.r.b, v17.r.p⟩ : l26Rd), v17.out, v17.bits, (IntKind.i64.wrap (v17.forks - 1)), v17.base, v17.fresh⟩ : l11Play)) (some (⟨(⟨v17.r.b, v17.r.p⟩ : l26Rd), v17.out, v17.bits, v17.forks, v17.base, v17.fresh⟩ : l11Play))))))) (some (⟨v3.2, v1.out, v1.bits, v1.forks, v1.base, v1.fresh⟩ : l11Play))))))))))
def eY (v1 : l11Play) (v2 : Int) (v3 : (Int × l26Rd)) : Bool → Option l11Play
 | v4 => (cond v4 (cond (decide (v1.bits < 16)) ((aT (⟨v3.2, v1.out, v1.bits, v1.forks, v1.base, v1.fresh⟩ : l11Play) 1).bind fun v5 => (some (⟨(⟨v5.r.b, v5.r.p⟩ : l26Rd), v5.out, (IntKind.i64.wrap (v5.bits + 1)), v5.forks, v5.base, v5.fresh⟩ : l11Play))) (some (⟨v3.2, v1.out, v1.bits, v1.forks, v1.base, v1.fresh⟩ : l11Play))) (cond (v3.1 == 2) (e5 v1 v2 v3 (v3.1 == 2)) (e5 v1 v2 v3 (v3.1 == 3))))
def ee (v1 : l11Play) : Int → Option l11Play
 | v2 => ((ai (⟨v1.r.b, v1.r.p⟩ : l26Rd) 11).bind fun v3 => (cond (v3.1 == 0) (eY v1 v2 v3 (v3.1 == 0)) (eY v1 v2 v3 (v3.1 == 1))))
def gU (v1 : l11Play) : Option l11Play :=
 (cond v1.base (ee v1 2) (ee v1 1))
theorem con_s_l11Play_step (v1 : l11Play) (rz : l11Play) (h : gU v1 = some rz) : Con Tryz.prog C0 197 [.pt 0 0] [.rc [.pt 1 0, .sl 2 0 ((v1.out).length), .sc (.int .i64 (v1.bits)), .sc (.int .i64 (v1.forks)), .sc (.bool (v1.base)), .sc (.bool (v1.fresh))], .rc [.fz 1 (R e_u8 (v1.r.b)), .sc (.int .i64 (v1.r.p))], .arr true 3 (R ao (v1.out))]
  (fun x σ' => (x = .tup [] ∧ σ' = [.rc [.pt 1 0, .sl 3 0 ((rz.out).length), .sc (.int .i64 (rz.bits)), .sc (.int .i64 (rz.forks)), .sc (.bool (rz.base)), .sc (.bool (rz.fresh))], .rc [.fz 1 (R e_u8 (rz.r.b)), .sc (.int .i64 (rz.r.p))], .dead, .arr true 3 (R ao (rz.out))]) ∨ (x = .tup [] ∧ σ' = [.rc [.pt 1 0, .sl 2 0 ((rz.out).length), .sc (.int .i64 (rz.bits)), .sc (.int .i64 (rz.forks)), .sc (.bool (rz.base)), .sc (.bool (rz.fresh))], .rc [.fz 1 (R e_u8 (rz.r.b)), .sc (.int .i64 (rz.r.p))], .arr true 3 (R ao (rz.out))])) := by
 refine zCon hP 3 [0, 2, 6, 11, 16, 40, 49, 56, 67, 72, 79, 82, 97, 100, 106, 117, 124, 135, 141, 144, 157] [] Tryz.func197 (by unfold Tryz.f197; rfl) fun Q hQ => ?_
 unfold gU at h
 refine zS z0 (zCut (fun (x : Int) => ⟨[(0, .pt 0 0), (2, .sc (.int .i64 (x)))], [.rc [.pt 1 0, .sl 2 0 ((v1.out).length), .sc (.int .i64 (v1.bits)), .sc (.int .i64 (v1.forks)), .sc (.bool (v1.base)), .sc (.bool (v1.fresh))], .rc [.fz 1 (R e_u8 (v1.r.b)), .sc (.int .i64 (v1.r.p))], .arr true 3 (R ao (v1.out))]⟩) (ee v1) rz ?_ ?_)
 ·rintro _ v2 h
  simp only [ee] at h
  obtain ⟨v3, c4H, h⟩ := bS h
  refine zS (zC1 (lC [[0]] (ah _ _ _ c4H))) (sB fun k5 hk5 => ?_)
  refine zCut (fun (x : Bool) => ⟨[(0, .pt 0 0), (2, .sc (.int .i64 (v2))), (11, .sc (.int .i64 (v3.1))), (49, .sc (.bool (x)))], [.rc [.pt 1 0, .sl 2 0 ((v1.out).length), .sc (.int .i64 (v1.bits)), .sc (.int .i64 (v1.forks)), .sc (.bool (v1.base)), .sc (.bool (v1.fresh))], .rc [.fz 1 (R e_u8 (v3.2.b)), .sc (.int .i64 (v3.2.p))], .arr true 3 (R ao (v1.out))]⟩) (eY v1 v2 v3) rz ?_ ?_
  ·rintro _ v4 h
   simp only [eY] at h
   revert h; refine zI rfl ?_ ?_ <;> intro h
   ·refine zS z0 ?_
    revert h; refine zI rfl ?_ ?_ <;> intro h
    ·obtain ⟨v5, c9H, h⟩ := bS h
     refine zS (zC1 (lC [[0], [0, 0], [0, 1]] (ax _ _ _ c9H))) (zU z0 ?_)
     refine r_bN hk5 ?_
     obtain rfl := Option.some.inj h
     refine r_eAN hQ rfl rfl ?_
     simp (decide := true) only [go_sem, reduceIte, Nat.reduceAdd, Int.reduceToNat, Nat.reduceSub, Nat.reduceMul, Nat.reduceMod]
     all_goals first | exact bc (.inl ⟨rfl, rfl⟩) | exact True.intro
    ·refine ae (r_bN hk5 ?_)
     obtain rfl := Option.some.inj h
     refine r_eAN hQ rfl rfl ?_
     simp (decide := true) only [go_sem, reduceIte, Nat.reduceAdd, Int.reduceToNat, Nat.reduceSub, Nat.reduceMul, Nat.reduceMod]
     all_goals first | exact bc (.inr ⟨rfl, rfl⟩) | exact True.intro
   ·refine zCut (fun (x : Bool) => ⟨[(0, .pt 0 0), (2, .sc (.int .i64 (v2))), (11, .sc (.int .i64 (v3.1))), (67, .sc (.bool (x)))], [.rc [.pt 1 0, .sl 2 0 ((v1.out).length), .sc (.int .i64 (v1.bits)), .sc (.int .i64 (v1.forks)), .sc (.bool (v1.base)), .sc (.bool (v1.fresh))], .rc [.fz 1 (R e_u8 (v3.2.b)), .sc (.int .i64 (v3.2.p))], .arr true 3 (R ao (v1.out))]⟩) (e5 v1 v2 v3) rz ?_ ?_
    ·rintro _ v6 h
     simp only [e5] at h
     revert h; refine zI rfl ?_ ?_ <;> intro h
     ·obtain ⟨v7, c11H, h⟩ := bS h
      refine zU (zC1 (lC [[0], [0, 0], [0, 1]] (ax _ _ _ c11H))) (r_bN hk5 ?_)
      obtain rfl := Option.some.inj h
      refine r_eAN hQ rfl rfl ?_
      simp (decide := true) only [go_sem, reduceIte, Nat.reduceAdd, Int.reduceToNat, Nat.reduceSub, Nat.reduceMul, Nat.reduceMod]
      all_goals first | exact bc (.inl ⟨rfl, rfl⟩) | exact True.intro
     ·refine zS z0 ?_
      revert h; refine zI rfl ?_ ?_ <;> intro h
      ·refine zS z0 ?_
       revert h; refine zI rfl ?_ ?_ <;> intro h
       ·obtain ⟨v8, c14H, h⟩ := bS h
        refine zU (zC1 (lC [[0], [0, 0], [0, 1]] (ax _ _ _ c14H))) (r_bN hk5 ?_)
        obtain rfl := Option.some.inj h
        refine r_eAN hQ rfl rfl ?_
        simp (decide := true) only [go_sem, reduceIte, Nat.reduceAdd, Int.reduceToNat, Nat.reduceSub, Nat.reduceMul, Nat.reduceMod]
        all_goals first | exact bc (.inl ⟨rfl, rfl⟩) | exact True.intro
       ·refine ae (r_bN hk5 ?_)
        obtain rfl := Option.some.inj h
        refine r_eAN hQ rfl rfl ?_
        simp (decide := true) only [go_sem, reduceIte, Nat.reduceAdd, Int.reduceToNat, Nat.reduceSub, Nat.reduceMul, Nat.reduceMod]
        all_goals first | exact bc (.inr ⟨rfl, rfl⟩) | exact True.intro
      ·refine zS z0 ?_
       revert h; refine zI rfl ?_ ?_ <;> intro h
       ·refine sC fun k16 hk16 => ?_
        rcases bE (decide (v1.bits ≥ v2)) with g17 | g17
        ·replace h := ak h g17
         obtain ⟨v9, c18H, h⟩ := bS h
         refine zU (zC1F (lC [[0]] (ah _ _ _ c18H)) g17) (r_cN hk16 ?_)
         revert h; refine zI rfl ?_ ?_ <;> intro h
         ·obtain ⟨v10, c19H, h⟩ := bS h
          refine zU (zC1 (lC [[0], [0, 0], [0, 1]] (ax _ _ _ c19H))) (r_bN hk5 ?_)
          obtain rfl := Option.some.inj h
          refine r_eAN hQ rfl rfl ?_
          simp (decide := true) only [go_sem, reduceIte, Nat.reduceAdd, Int.reduceToNat, Nat.reduceSub, Nat.reduceMul, Nat.reduceMod]
          all_goals first | exact bc (.inl ⟨rfl, rfl⟩) | exact True.intro
         ·refine ae (r_bN hk5 ?_)
          obtain rfl := Option.some.inj h
          refine r_eAN hQ rfl rfl ?_
          simp (decide := true) only [go_sem, reduceIte, Nat.reduceAdd, Int.reduceToNat, Nat.reduceSub, Nat.reduceMul, Nat.reduceMod]
          all_goals first | exact bc (.inr ⟨rfl, rfl⟩) | exact True.intro
        ·replace h := av h g17
         refine zU (zRF g17) (r_cN hk16 ?_)
         refine sem_ifF rfl ?_
         try replace h := av h rfl
         refine ae (r_bN hk5 ?_)
         obtain rfl := Option.some.inj h
         refine r_eAN hQ rfl rfl ?_
         simp (decide := true) only [go_sem, reduceIte, Nat.reduceAdd, Int.reduceToNat, Nat.reduceSub, Nat.reduceMul, Nat.reduceMod]
         all_goals first | exact bc (.inr ⟨rfl, rfl⟩) | exact True.intro
       ·refine zS z0 ?_
        revert h; refine zI rfl ?_ ?_ <;> intro h
        ·refine zS z0 ?_
         revert h; refine zI rfl ?_ ?_ <;> intro h
         ·obtain ⟨v11, c23H, h⟩ := bS h
          refine zS (zC1 (lC [[0], [0, 0], [0, 1]] (ax _ _ _ c23H))) (zU z0 ?_)
          refine r_bN hk5 ?_
          obtain rfl := Option.some.inj h
          refine r_eAN hQ rfl rfl ?_
          simp (decide := true) only [go_sem, reduceIte, Nat.reduceAdd, Int.reduceToNat, Nat.reduceSub, Nat.reduceMul, Nat.reduceMod]
          all_goals first | exact bc (.inl ⟨rfl, rfl⟩) | exact True.intro
         ·refine ae (r_bN hk5 ?_)
          obtain rfl := Option.some.inj h
          refine r_eAN hQ rfl rfl ?_
          simp (decide := true) only [go_sem, reduceIte, Nat.reduceAdd, Int.reduceToNat, Nat.reduceSub, Nat.reduceMul, Nat.reduceMod]
          all_goals first | exact bc (.inr ⟨rfl, rfl⟩) | exact True.intro
        ·refine zS z0 ?_
         revert h; refine zI rfl ?_ ?_ <;> intro h
         ·refine zS z0 ?_
          revert h; refine zI rfl ?_ ?_ <;> intro h
          ·obtain ⟨v12, c27H, h⟩ := bS h
           refine zS (zC1 (lC [[0], [0, 0], [0, 1]] (ax _ _ _ c27H))) (zU z0 ?_)
           refine r_bN hk5 ?_
           obtain rfl := Option.some.inj h
           refine r_eAN hQ rfl rfl ?_
           simp (decide := true) only [go_sem, reduceIte, Nat.reduceAdd, Int.reduceToNat, Nat.reduceSub, Nat.reduceMul, Nat.reduceMod]
           all_goals first | exact bc (.inl ⟨rfl, rfl⟩) | exact True.intro
          ·refine ae (r_bN hk5 ?_)
           obtain rfl := Option.some.inj h
           refine r_eAN hQ rfl rfl ?_
           simp (decide := true) only [go_sem, reduceIte, Nat.reduceAdd, Int.reduceToNat, Nat.reduceSub, Nat.reduceMul, Nat.reduceMod]
           all_goals first | exact bc (.inr ⟨rfl, rfl⟩) | exact True.intro
         ·refine zS z0 ?_
          revert h; refine zI rfl ?_ ?_ <;> intro h
          ·refine zS z0 ?_
           revert h; refine zI rfl ?_ ?_ <;> intro h
           ·obtain ⟨v13, c30H, h⟩ := bS h
            refine zU (zC1 (lC [[0], [0, 0], [0, 1]] (ax _ _ _ c30H))) (r_bN hk5 ?_)
            obtain rfl := Option.some.inj h
            refine r_eAN hQ rfl rfl ?_
            simp (decide := true) only [go_sem, reduceIte, Nat.reduceAdd, Int.reduceToNat, Nat.reduceSub, Nat.reduceMul, Nat.reduceMod]
            all_goals first | exact bc (.inl ⟨rfl, rfl⟩) | exact True.intro
           ·refine ae (r_bN hk5 ?_)
            obtain rfl := Option.some.inj h
            refine r_eAN hQ rfl rfl ?_
            simp (decide := true) only [go_sem, reduceIte, Nat.reduceAdd, Int.reduceToNat, Nat.reduceSub, Nat.reduceMul, Nat.reduceMod]
            all_goals first | exact bc (.inr ⟨rfl, rfl⟩) | exact True.intro
          ·refine zS z0 ?_
           revert h; refine zI rfl ?_ ?_ <;> intro h
           ·refine zS zR ?_
            revert h; refine zI rfl ?_ ?_ <;> intro h
            ·obtain ⟨v14, c34H, h⟩ := bS h
             refine zS (zC1 (lC [[0], [0, 0], [0, 1]] (ax _ _ _ c34H))) (zU z0 ?_)
             refine r_bN hk5 ?_
             obtain rfl := Option.some.inj h
             refine r_eAN hQ rfl rfl ?_
             simp (decide := true) only [go_sem, reduceIte, Nat.reduceAdd, Int.reduceToNat, Nat.reduceSub, Nat.reduceMul, Nat.reduceMod]
             all_goals first | exact bc (.inl ⟨rfl, rfl⟩) | exact True.intro
            ·refine ae (r_bN hk5 ?_)
             obtain rfl := Option.some.inj h
             refine r_eAN hQ rfl rfl ?_
             simp (decide := true) only [go_sem, reduceIte, Nat.reduceAdd, Int.reduceToNat, Nat.reduceSub, Nat.reduceMul, Nat.reduceMod]
             all_goals first | exact bc (.inr ⟨rfl, rfl⟩) | exact True.intro
           ·refine zS z0 ?_
            revert h; refine zI rfl ?_ ?_ <;> intro h
            ·refine sC fun k36 hk36 => ?_
             obtain ⟨v15, c37H, h⟩ := bS h
             repeat' (first | with_reducible refine And.intro ?_ ?_ | ((with_reducible refine i_call (n := 198) ?_); refine call_open [[0], [0, 0], [0, 1]] ?_) | ((with_reducible refine i_callW (n := 198) ?_); refine dK (fF (⟨v3.2, v1.out, v1.bits, v1.forks, v1.base, v1.fresh⟩ : l11Play) v15 c37H) ?_; rintro x σ' (⟨rfl, rfl⟩ | ⟨rfl, rfl⟩) <;> ((with_reducible refine bG ?_))) | exact True.intro | with_reducible assumption | exact fun hf => False.elim hf | (intro hg; first | (simp +contextual [hg]; done) | grind) | omega | simp (decide := true) only [go_sem, reduceIte, Nat.reduceAdd, Int.reduceToNat, Nat.reduceSub, Nat.reduceMul, Nat.reduceMod])
             ·refine r_cN hk36 ?_
              obtain ⟨v16, c39H, h⟩ := bS h
              obtain ⟨v17, c40H, h⟩ := bS h
              refine zS (zC2 (lC [[0]] (ah _ _ _ c39H)) (lC [[0], [0, 0], [0, 1]] (ax _ _ _ c40H))) ?_
              obtain ⟨v18, h, c42⟩ := bI h
              refine zS (zRF c42) ?_
              revert h; refine zI rfl ?_ ?_ <;> intro h
              ·refine zU z0 (r_bN hk5 ?_)
               obtain rfl := Option.some.inj h
               refine r_eAN hQ rfl rfl ?_
               simp (decide := true) only [go_sem, reduceIte, Nat.reduceAdd, Int.reduceToNat, Nat.reduceSub, Nat.reduceMul, Nat.reduceMod]
               all_goals first | exact bc (.inl ⟨rfl, rfl⟩) | exact True.intro
              ·refine ae (r_bN hk5 ?_)
               obtain rfl := Option.some.inj h
               refine r_eAN hQ rfl rfl ?_
               simp (decide := true) only [go_sem, reduceIte, Nat.reduceAdd, Int.reduceToNat, Nat.reduceSub, Nat.reduceMul, Nat.reduceMod]
               all_goals first | exact bc (.inl ⟨rfl, rfl⟩) | exact True.intro
             ·refine r_cN hk36 ?_
              obtain ⟨v19, c44H, h⟩ := bS h
              obtain ⟨v20, c45H, h⟩ := bS h
              refine zS (zC2 (lC [[0]] (ah _ _ _ c44H)) (lC [[0], [0, 0], [0, 1]] (ax _ _ _ c45H))) ?_
              obtain ⟨v21, h, c47⟩ := bI h
              refine zS (zRF c47) ?_
              revert h; refine zI rfl ?_ ?_ <;> intro h
              ·refine zU z0 (r_bN hk5 ?_)
               obtain rfl := Option.some.inj h
               refine r_eAN hQ rfl rfl ?_
               simp (decide := true) only [go_sem, reduceIte, Nat.reduceAdd, Int.reduceToNat, Nat.reduceSub, Nat.reduceMul, Nat.reduceMod]
               all_goals first | exact bc (.inl ⟨rfl, rfl⟩) | exact True.intro
              ·refine ae (r_bN hk5 ?_)
               obtain rfl := Option.some.inj h
               refine r_eAN hQ rfl rfl ?_
               simp (decide := true) only [go_sem, reduceIte, Nat.reduceAdd, Int.reduceToNat, Nat.reduceSub, Nat.reduceMul, Nat.reduceMod]
               all_goals first | exact bc (.inl ⟨rfl, rfl⟩) | exact True.intro
            ·refine ae (r_bN hk5 ?_)
             obtain rfl := Option.some.inj h
             refine r_eAN hQ rfl rfl ?_
             simp (decide := true) only [go_sem, reduceIte, Nat.reduceAdd, Int.reduceToNat, Nat.reduceSub, Nat.reduceMul, Nat.reduceMod]
             all_goals first | exact bc (.inr ⟨rfl, rfl⟩) | exact True.intro
    ·intro k49 hk49 J48
     refine zS z0 ?_
     revert h; refine zI rfl ?_ ?_ <;> intro h
     ·refine ae (zJ J48 [0, 2, 11, 67] () _ h)
     ·refine zU z0 (zJ J48 [0, 2, 11, 67] () _ h)
  ·intro k52 hk52 J51
   refine zS z0 ?_
   revert h; refine zI rfl ?_ ?_ <;> intro h
   ·refine ae (zJ J51 [0, 2, 11, 49] () _ h)
   ·refine zU z0 (zJ J51 [0, 2, 11, 49] () _ h)
 ·intro k55 hk55 J54
  refine zS z0 ?_
  revert h; refine zI rfl ?_ ?_ <;> intro h
  ·refine zU z0 (zJ J54 [0, 2] () _ h)
  ·refine ae (zJ J54 [0, 2] () _ h)
def dN : ((List Int) × Int × (List Inst) × Int × Int × Bool × Bool) → Option l11Play
 | (v38, v39, v40, v41, v42, v43, v44) => ((aT (⟨(⟨v38, v39⟩ : l26Rd), v40, v41, v42, v43, v44⟩ : l11Play) 11).bind fun v45 => (some (⟨(⟨v45.r.b, v45.r.p⟩ : l26Rd), v45.out, 0, v45.forks, v45.base, v45.fresh⟩ : l11Play)))
def dM : ((List Int) × Int × (List Inst) × Int × Int × Bool × Bool) → Option (((List Int) × Int × (List Inst) × Int × Int × Bool × Bool) ⊕ ((List Int) × Int × (List Inst) × Int × Int × Bool × Bool))
 | (v48, v49, v50, v51, v52, v53, v54) => (cond (decide (v52 > 0)) ((aT (⟨(⟨v48, v49⟩ : l26Rd), v50, v51, v52, v53, v54⟩ : l11Play) 9).bind fun v58 => ((ej (⟨(⟨v58.r.b, v58.r.p⟩ : l26Rd), v58.out, v58.bits, (IntKind.i64.wrap (v58.forks - 1)), v58.base, v58.fresh⟩ : l11Play)).bind fun v59 => (some (.inl (v59.r.b, v59.r.p, v59.out, v59.bits, v59.forks, v59.base, v59.fresh))))) (some (.inr (v48, v49, v50, v51, v52, v53, v54))))
def gP : ((List Int) × Int × (List Inst) × Int × Int × Bool × Bool) → Option l11Play
 | (v16, v17, v18, v19, v20, v21, v22) => ((ej (⟨(⟨v16, v17⟩ : l26Rd), v18, v19, v20, v21, v22⟩ : l11Play)).bind fun v23 => ((loop dM (v23.r.b, v23.r.p, v23.out, v23.bits, v23.forks, v23.base, v23.fresh)).bind (fun v57 => (dN (v57.1, v57.2.1, v57.2.2.1, v57.2.2.2.1, v57.2.2.2.2.1, v57.2.2.2.2.2.1, v57.2.2.2.2.2.2)))))
def gn (v2 : Int) : ((List Int) × Int × (List Inst) × Int × Int × Bool × Bool × Int) → Option (((List Int) × Int × (List Inst) × Int × Int × Bool × Bool × Int) ⊕ ((List Int) × Int × (List Inst) × Int × Int × Bool × Bool))
 | (v97, v98, v99, v100, v101, v102, v103, v104) => (cond (decide (v104 < v2)) ((gU (⟨(⟨v97, v98⟩ : l26Rd), v99, v100, v101, v102, v103⟩ : l11Play)).bind fun v107 => (some (.inl (v107.r.b, v107.r.p, v107.out, v107.bits, v107.forks, v107.base, v107.fresh, (IntKind.i64.wrap (v104 + 1)))))) (some (.inr (v97, v98, v99, v100, v101, v102, v103))))
def fU (v1 : l11Play) (v2 : Int) : Option l11Play :=
 ((aT (⟨(⟨v1.r.b, v1.r.p⟩ : l26Rd), v1.out, v1.bits, v1.forks, false, v1.fresh⟩ : l11Play) 1).bind fun v3 => ((loop (gn v2) (v3.r.b, v3.r.p, v3.out, 1, v3.forks, v3.base, v3.fresh, 0)).bind (fun v106 => (gP (v106.1, v106.2.1, v106.2.2.1, v106.2.2.2.1, v106.2.2.2.2.1, v106.2.2.2.2.2.1, v106.2.2.2.2.2.2)))))
theorem con_s_l11Play_rung_1 (v1 : l11Play) (v2 : Int) (rz : l11Play) (h : fU v1 v2 = some rz) : Con Tryz.prog C0 126 [.pt 0 0, .sc (.int .i64 (v2))] [.rc [.pt 1 0, .sl 2 0 ((v1.out).length), .sc (.int .i64 (v1.bits)), .sc (.int .i64 (v1.forks)), .sc (.bool (v1.base)), .sc (.bool (v1.fresh))], .rc [.fz 1 (R e_u8 (v1.r.b)), .sc (.int .i64 (v1.r.p))], .arr true 3 (R ao (v1.out))]
  (fun x σ' => x = .tup [] ∧ σ' = [.rc [.pt 1 0, .sl 3 0 ((rz.out).length), .sc (.int .i64 (rz.bits)), .sc (.int .i64 (rz.forks)), .sc (.bool (rz.base)), .sc (.bool (rz.fresh))], .rc [.fz 1 (R e_u8 (rz.r.b)), .sc (.int .i64 (rz.r.p))], .dead, .arr true 3 (R ao (rz.out))]) := by
 refine zCon hP 3 [0, 1, 4, 15, 26] [] Tryz.func126 (by unfold Tryz.f126; rfl) fun Q hQ => ?_
 unfold fU at h
 refine zS z0 ?_
 obtain ⟨v3, c3H, h⟩ := bS h
 refine zS (zC1 (lC [[0], [0, 0], [0, 1]] (ax _ _ _ c3H))) (zS z0 ?_)
 refine zCut (fun (x : ((List Int) × Int × (List Inst) × Int × Int × Bool × Bool)) => ⟨[(0, .pt 0 0)], [.rc [.pt 1 0, .sl 3 0 ((x.2.2.1).length), .sc (.int .i64 (x.2.2.2.1)), .sc (.int .i64 (x.2.2.2.2.1)), .sc (.bool (x.2.2.2.2.2.1)), .sc (.bool (x.2.2.2.2.2.2))], .rc [.fz 1 (R e_u8 (x.1)), .sc (.int .i64 (x.2.1))], .dead, .arr true 3 (R ao (x.2.2.1))]⟩) gP rz ?_ ?_
 ·rintro _ ⟨v16, v17, v18, v19, v20, v21, v22⟩ h
  simp only [gP] at h
  refine sC fun k23 hk23 => ?_
  obtain ⟨v23, c24H, h⟩ := bS h
  repeat' (first | with_reducible refine And.intro ?_ ?_ | ((with_reducible refine i_call (n := 198) ?_); refine call_open [[0], [0, 0], [0, 1]] ?_) | ((with_reducible refine i_callW (n := 198) ?_); refine dK (fF (⟨(⟨v16, v17⟩ : l26Rd), v18, v19, v20, v21, v22⟩ : l11Play) v23 c24H) ?_; rintro x σ' (⟨rfl, rfl⟩ | ⟨rfl, rfl⟩) <;> ((with_reducible refine bG ?_))) | exact True.intro | with_reducible assumption | exact fun hf => False.elim hf | (intro hg; first | (simp +contextual [hg]; done) | grind) | omega | simp (decide := true) only [go_sem, reduceIte, Nat.reduceAdd, Int.reduceToNat, Nat.reduceSub, Nat.reduceMul, Nat.reduceMod])
  ·refine r_cN hk23 (zCut (fun (x : ((List Int) × Int × (List Inst) × Int × Int × Bool × Bool)) => ⟨[(0, .pt 0 0)], [.rc [.pt 1 0, .sl 3 0 ((x.2.2.1).length), .sc (.int .i64 (x.2.2.2.1)), .sc (.int .i64 (x.2.2.2.2.1)), .sc (.bool (x.2.2.2.2.2.1)), .sc (.bool (x.2.2.2.2.2.2))], .rc [.fz 1 (R e_u8 (x.1)), .sc (.int .i64 (x.2.1))], .dead, .arr true 3 (R ao (x.2.2.1))]⟩) dN rz ?_ ?_)
   ·rintro _ ⟨v38, v39, v40, v41, v42, v43, v44⟩ h
    simp only [dN] at h
    obtain ⟨v45, c49H, h⟩ := bS h
    refine zS (zC1 (lC [[0], [0, 0], [0, 1]] (ax _ _ _ c49H))) (zU z0 ?_)
    cases h
    refine zAN hQ
   ·intro k51 hk51 J50
    refine sB fun k52 hk52 => ?_
    obtain ⟨oq67, hLq67, hKq67⟩ := bS h
    clear h
    refine ay [0] (fun (_ : Unit) (x : ((List Int) × Int × (List Inst) × Int × Int × Bool × Bool)) => (⟨[(0, .pt 0 0)], [.rc [.pt 1 0, .sl 3 0 ((x.2.2.1).length), .sc (.int .i64 (x.2.2.2.1)), .sc (.int .i64 (x.2.2.2.2.1)), .sc (.bool (x.2.2.2.2.2.1)), .sc (.bool (x.2.2.2.2.2.2))], .rc [.fz 1 (R e_u8 (x.1)), .sc (.int .i64 (x.2.1))], .dead, .arr true 3 (R ao (x.2.2.1))]⟩ : St)) (fun (_ : Unit) (x : ((List Int) × Int × (List Inst) × Int × Int × Bool × Bool)) => True) dM () (v23.r.b, v23.r.p, v23.out, v23.bits, v23.forks, v23.base, v23.fresh) hLq67 (by rfl) (by rfl) ⟨?_, trivial⟩ ?_
    ·exact zSa
    ·rintro nq67 _ ⟨v48, v49, v50, v51, v52, v53, v54⟩ xq67 kq67 hkq67 - h hIq67 hEq67
     simp only [dM] at h
     refine sC fun k68 hk68 => zS z0 ?_
     revert h; refine zI rfl ?_ ?_ <;> intro h
     ·refine ae (r_cN hk68 ?_)
      refine sB fun k70 hk70 => ?_
      obtain ⟨v58, c72H, h⟩ := bS h
      refine zS (zC1 (lC [[0], [0, 0], [0, 1]] (ax _ _ _ c72H))) (zS z0 ?_)
      obtain ⟨v59, c74H, h⟩ := bS h
      repeat' (first | with_reducible refine And.intro ?_ ?_ | ((with_reducible refine i_call (n := 198) ?_); refine call_open [[0], [0, 0], [0, 1]] ?_) | ((with_reducible refine i_callW (n := 198) ?_); refine dK (fF (⟨(⟨v58.r.b, v58.r.p⟩ : l26Rd), v58.out, v58.bits, (IntKind.i64.wrap (v58.forks - 1)), v58.base, v58.fresh⟩ : l11Play) v59 c74H) ?_; rintro x σ' (⟨rfl, rfl⟩ | ⟨rfl, rfl⟩) <;> ((with_reducible refine bG ?_))) | exact True.intro | with_reducible assumption | exact fun hf => False.elim hf | (intro hg; first | (simp +contextual [hg]; done) | grind) | omega | simp (decide := true) only [go_sem, reduceIte, Nat.reduceAdd, Int.reduceToNat, Nat.reduceSub, Nat.reduceMul, Nat.reduceMod])
      ·refine r_bN hk70 (zB hkq67 h hIq67 () trivial)
      ·refine r_bN hk70 (zB hkq67 h hIq67 () trivial)
     ·refine aK (r_cE hk68 ?_)
      replace h := zX h hEq67 hKq67
      refine r_kE hkq67 (r_bE hk52 ?_)
      refine zJ J50 [0] () _ h
  ·refine r_cN hk23 (zCut (fun (x : ((List Int) × Int × (List Inst) × Int × Int × Bool × Bool)) => ⟨[(0, .pt 0 0)], [.rc [.pt 1 0, .sl 3 0 ((x.2.2.1).length), .sc (.int .i64 (x.2.2.2.1)), .sc (.int .i64 (x.2.2.2.2.1)), .sc (.bool (x.2.2.2.2.2.1)), .sc (.bool (x.2.2.2.2.2.2))], .rc [.fz 1 (R e_u8 (x.1)), .sc (.int .i64 (x.2.1))], .dead, .arr true 3 (R ao (x.2.2.1))]⟩) dN rz ?_ ?_)
   ·rintro _ ⟨v74, v75, v76, v77, v78, v79, v80⟩ h
    simp only [dN] at h
    obtain ⟨v81, c99H, h⟩ := bS h
    refine zS (zC1 (lC [[0], [0, 0], [0, 1]] (ax _ _ _ c99H))) (zU z0 ?_)
    cases h
    refine zAN hQ
   ·intro k101 hk101 J100
    refine sB fun k102 hk102 => ?_
    obtain ⟨oq117, hLq117, hKq117⟩ := bS h
    clear h
    refine ay [0] (fun (_ : Unit) (x : ((List Int) × Int × (List Inst) × Int × Int × Bool × Bool)) => (⟨[(0, .pt 0 0)], [.rc [.pt 1 0, .sl 3 0 ((x.2.2.1).length), .sc (.int .i64 (x.2.2.2.1)), .sc (.int .i64 (x.2.2.2.2.1)), .sc (.bool (x.2.2.2.2.2.1)), .sc (.bool (x.2.2.2.2.2.2))], .rc [.fz 1 (R e_u8 (x.1)), .sc (.int .i64 (x.2.1))], .dead, .arr true 3 (R ao (x.2.2.1))]⟩ : St)) (fun (_ : Unit) (x : ((List Int) × Int × (List Inst) × Int × Int × Bool × Bool)) => True) dM () (v23.r.b, v23.r.p, v23.out, v23.bits, v23.forks, v23.base, v23.fresh) hLq117 (by rfl) (by rfl) ⟨?_, trivial⟩ ?_
    ·exact zSa
    ·rintro nq117 _ ⟨v84, v85, v86, v87, v88, v89, v90⟩ xq117 kq117 hkq117 - h hIq117 hEq117
     simp only [dM] at h
     refine sC fun k118 hk118 => zS z0 ?_
     revert h; refine zI rfl ?_ ?_ <;> intro h
     ·refine ae (r_cN hk118 ?_)
      refine sB fun k120 hk120 => ?_
      obtain ⟨v94, c122H, h⟩ := bS h
      refine zS (zC1 (lC [[0], [0, 0], [0, 1]] (ax _ _ _ c122H))) (zS z0 ?_)
      obtain ⟨v95, c124H, h⟩ := bS h
      repeat' (first | with_reducible refine And.intro ?_ ?_ | ((with_reducible refine i_call (n := 198) ?_); refine call_open [[0], [0, 0], [0, 1]] ?_) | ((with_reducible refine i_callW (n := 198) ?_); refine dK (fF (⟨(⟨v94.r.b, v94.r.p⟩ : l26Rd), v94.out, v94.bits, (IntKind.i64.wrap (v94.forks - 1)), v94.base, v94.fresh⟩ : l11Play) v95 c124H) ?_; rintro x σ' (⟨rfl, rfl⟩ | ⟨rfl, rfl⟩) <;> ((with_reducible refine bG ?_))) | exact True.intro | with_reducible assumption | exact fun hf => False.elim hf | (intro hg; first | (simp +contextual [hg]; done) | grind) | omega | simp (decide := true) only [go_sem, reduceIte, Nat.reduceAdd, Int.reduceToNat, Nat.reduceSub, Nat.reduceMul, Nat.reduceMod])
      ·refine r_bN hk120 (zB hkq117 h hIq117 () trivial)
      ·refine r_bN hk120 (zB hkq117 h hIq117 () trivial)
     ·refine aK (r_cE hk118 ?_)
      replace h := zX h hEq117 hKq117
      refine r_kE hkq117 (r_bE hk102 ?_)
      refine zJ J100 [0] () _ h
 ·intro k126 hk126 J125
  refine zS z0 (sB fun k128 hk128 => ?_)
  obtain ⟨oq139, hLq139, hKq139⟩ := bS h
  clear h
  refine ay [0, 1, 4] (fun (_ : Unit) (x : ((List Int) × Int × (List Inst) × Int × Int × Bool × Bool × Int)) => (⟨[(0, .pt 0 0), (1, .sc (.int .i64 (v2))), (4, .sc (.int .i64 (x.2.2.2.2.2.2.2)))], [.rc [.pt 1 0, .sl 3 0 ((x.2.2.1).length), .sc (.int .i64 (x.2.2.2.1)), .sc (.int .i64 (x.2.2.2.2.1)), .sc (.bool (x.2.2.2.2.2.1)), .sc (.bool (x.2.2.2.2.2.2.1))], .rc [.fz 1 (R e_u8 (x.1)), .sc (.int .i64 (x.2.1))], .dead, .arr true 3 (R ao (x.2.2.1))]⟩ : St)) (fun (_ : Unit) (x : ((List Int) × Int × (List Inst) × Int × Int × Bool × Bool × Int)) => True) (gn v2) () (v3.r.b, v3.r.p, v3.out, 1, v3.forks, v3.base, v3.fresh, 0) hLq139 (by rfl) (by rfl) ⟨?_, trivial⟩ ?_
  ·exact zSa
  ·rintro nq139 _ ⟨v97, v98, v99, v100, v101, v102, v103, v104⟩ xq139 kq139 hkq139 - h hIq139 hEq139
   simp only [gn] at h
   refine sC fun k140 hk140 => zS z0 ?_
   revert h; refine zI rfl ?_ ?_ <;> intro h
   ·refine ae (r_cN hk140 ?_)
    refine sC fun k142 hk142 => sB fun k143 hk143 => ?_
    obtain ⟨v107, c144H, h⟩ := bS h
    repeat' (first | with_reducible refine And.intro ?_ ?_ | ((with_reducible refine i_call (n := 197) ?_); refine call_open [[0], [0, 0], [0, 1]] ?_) | ((with_reducible refine i_callW (n := 197) ?_); refine dK (con_s_l11Play_step (⟨(⟨v97, v98⟩ : l26Rd), v99, v100, v101, v102, v103⟩ : l11Play) v107 c144H) ?_; rintro x σ' (⟨rfl, rfl⟩ | ⟨rfl, rfl⟩) <;> ((with_reducible refine bG ?_))) | exact True.intro | with_reducible assumption | exact fun hf => False.elim hf | (intro hg; first | (simp +contextual [hg]; done) | grind) | omega | simp (decide := true) only [go_sem, reduceIte, Nat.reduceAdd, Int.reduceToNat, Nat.reduceSub, Nat.reduceMul, Nat.reduceMod])
    ·refine r_bN hk143 (r_cN hk142 ?_)
     refine zU z0 (zB hkq139 h hIq139 () trivial)
    ·refine r_bN hk143 (r_cN hk142 ?_)
     refine zU z0 (zB hkq139 h hIq139 () trivial)
   ·refine aK (r_cE hk140 ?_)
    replace h := zX h hEq139 hKq139
    refine r_kE hkq139 (r_bE hk128 ?_)
    refine zJ J125 [0] () _ h
end
end Go.AM
