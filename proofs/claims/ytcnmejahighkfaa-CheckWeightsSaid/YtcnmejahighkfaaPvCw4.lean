/- Part 4 of the texts for: For every list of numbers and every Max, the weights of the made programs' statements add up, grow with Max and count each statement, so CheckWeights answers true. -/
import Derived.Orders
import Derived.Below
import Derived.Laws.Sem
import Derived.WalkKit
import Derived.Laws.CopyRow
import Derived.Laws.BytesString
import Derived.MapKept
import Derived.Laws.Append
import Derived.LoopN
import Derived.Test.YtcnmejahighkfaaProg
import Derived.KernelRfl
import Derived.IntWalk
import Derived.Test.YtcnmejahighkfaaPvCw3
set_option autoImplicit false
set_option linter.unusedVariables false
set_option linter.unusedSimpArgs false
set_option linter.defProp false
-- Mk7W
namespace Go.Pv.W
open Go Go.RowKit Go.Proofs Go.Pv
def sMk7W_27 := (And.intro (And.intro (And.intro (And.intro (And.intro (And.intro @q_fld_63_1 @q_fld_70_0) (And.intro @q_fld_70_6 @q_fld_70_8)) (And.intro (And.intro @q_fld_45_6 @q_fld_70_4) (And.intro @q_fld_45_7 (And.intro @q_fld_70_5 @q_slz_0)))) (And.intro (And.intro (And.intro @q_tsz_1 @q_slz_1) (And.intro @q_ifc_1 @q_tsz_2)) (And.intro (And.intro @q_slz_2 @q_ifc_2) (And.intro @q_tsz_3 (And.intro @q_slz_3 @q_ifc_3))))) (And.intro (And.intro (And.intro (And.intro @q_tsz_4 @q_slz_4) (And.intro @q_ifc_4 @q_isb_4)) (And.intro (And.intro @q_tsz_5 @q_slz_5) (And.intro @q_ifc_5 (And.intro @q_tsz_9 @q_slz_9)))) (And.intro (And.intro (And.intro @q_str_9 @q_arz_9) (And.intro @q_ifc_9 @q_tsz_25)) (And.intro (And.intro @q_slz_25 @q_ifc_25) (And.intro @q_tsz_28 (And.intro @q_slz_28 @q_str_28)))))) (And.intro (And.intro (And.intro (And.intro (And.intro @q_arz_28 @q_ifc_28) (And.intro @q_tsz_32 @q_slz_32)) (And.intro (And.intro @q_str_32 @q_arz_32) (And.intro @q_ifc_32 (And.intro @q_tsz_35 @q_slz_35)))) (And.intro (And.intro (And.intro @q_str_35 @q_arz_35) (And.intro @q_ifc_35 @q_tsz_40)) (And.intro (And.intro @q_slz_40 @q_str_40) (And.intro @q_arz_40 (And.intro @q_ifc_40 @q_tsz_42))))) (And.intro (And.intro (And.intro (And.intro @q_slz_42 @q_ifc_42) (And.intro @q_tsz_45 @q_slz_45)) (And.intro (And.intro @q_ifc_45 @q_tsz_63) (And.intro @q_slz_63 (And.intro @q_ifc_63 @q_tsz_68)))) (And.intro (And.intro (And.intro @q_slz_68 @q_ifc_68) (And.intro @q_tsz_70 @q_slz_70)) (And.intro (And.intro @q_ifc_70 @q_zcs_45) (And.intro @q_bsl_40 (And.intro @q_bsl_32 @q_bld_45)))))))
theorem WE_1 : WE 1 = 3 := rfl
theorem WE_2 : WE 2 = 7 := rfl
set_option maxHeartbeats 16000000 in
set_option maxRecDepth 100000 in
theorem stmt_0 (σ0 : St) (d m : Nat) (L : List Int) (V A : List ByteArray) (Sx : List Sh) : StmtC σ0 d m L V A Sx 0 := by
  intro nl il σ K h hnl hK
  have D0 : True := trivial
  obtain ⟨kv, ka, ks, lp, held, labels, stmts, c0, l0, b0⟩ := h.own
  unfold mkCells at c0
  simp only [vi, vs, vp] at c0
  have hV := h.hV
  refine PCalls.forgetR ?_
  refine PCalls.of_body (tOk Try.prog) (by kernel_rfl) Try.func27 rfl (by kernel_rfl) [] [(13, 63, [(0, []), (4, []), (8, []), (1, []), (2, []), (3, []), (5, [3]), (6, []), (7, []), (9, [])]), (24, 127, [(0, []), (1, []), (5, []), (9, []), (2, []), (6, []), (10, []), (3, []), (7, []), (11, []), (4, []), (8, []), (12, []), (13, []), (14, [4]), (15, []), (16, []), (17, []), (18, []), (19, []), (20, [])])] (by kernel_rfl) (n := 150) (by kernel_rfl) (by kernel_rfl) (rs := [.tmp 4]) (by kernel_rfl) ?_
  simp (config := { maxSteps := 4000000 }) (disch := omega) only [pvE_q, pvS_q, vi, vs, vb', vp, wrap_ok, cast_0, notL_E, notL_S, pvSs_length, pvEs, List.length_map, σset_obj, pvB, sMk7W_27, reduceIte, Nat.reduceEqDiff, Nat.reduceAdd, Nat.reduceSub, Nat.reduceMul, Nat.reduceLT, Nat.reduceLeDiff, Nat.reduceBEq, reduceCtorEq, Int.reduceAdd, Int.reduceSub, Int.reduceMul, Int.reduceLT, Int.reduceLE, Int.reduceEq, Int.reduceToNat, Int.reduceNeg, Nat.reduceBNe, Int.reduceBEq, Int.reduceBNe, Int.reduceGT, Int.reduceGE, Int.reduceTMod, forall_const, eq_self, decide_true, decide_false, w_loop, c0]
  refine next_c d L 9 σ h.deck h.hL (by omega) _ fun r σ1 r0 r1 t1 => ?_
  have h1 := h.took t1
  have c1 := t1.frame.obj m _ h.md c0
  have hz : ((0 : Nat) : Int) ≤ 0 := by omega
  have q0 : 0 ≤ r.tmod 3 := Int.tmod_nonneg _ (by omega)
  have q1 : r.tmod 3 < 3 := Int.tmod_lt_of_pos _ (by omega)
  have q3 : (r.tmod 3 == 3) = false := by simp; omega
  have q4 : (r.tmod 3 == 4) = false := by simp; omega
  have q5 : (r.tmod 3 == 5) = false := by simp; omega
  have q6 : (r.tmod 3 == 6) = false := by simp; omega
  have q7 : (r.tmod 3 == 7) = false := by simp; omega
  have q8 : (r.tmod 3 == 8) = false := by simp; omega
  have qz : (3 : Int) ≠ 0 := by omega
  cases z : (r.tmod 3 == 1)
  · simp (config := { maxSteps := 4000000 }) (disch := omega) only [pvE_q, pvS_q, vi, vs, vb', vp, wrap_ok, cast_0, notL_E, notL_S, pvSs_length, pvEs, List.length_map, σset_obj, pvB, sMk7W_27, reduceIte, Nat.reduceEqDiff, Nat.reduceAdd, Nat.reduceSub, Nat.reduceMul, Nat.reduceLT, Nat.reduceLeDiff, Nat.reduceBEq, reduceCtorEq, Int.reduceAdd, Int.reduceSub, Int.reduceMul, Int.reduceLT, Int.reduceLE, Int.reduceEq, Int.reduceToNat, Int.reduceNeg, Nat.reduceBNe, Int.reduceBEq, Int.reduceBNe, Int.reduceGT, Int.reduceGE, Int.reduceTMod, forall_const, eq_self, decide_true, decide_false, w_loop, c1, q3, q4, q5, q6, q7, q8, z, qz, hz]
    refine target_c h1 _ fun tv σ2 t2 => ?_
    have h2 := h1.took t2
    have c2 := t2.frame.obj m _ h.md c1
    simp (config := { maxSteps := 4000000 }) (disch := omega) only [pvE_q, pvS_q, vi, vs, vb', vp, wrap_ok, cast_0, notL_E, notL_S, pvSs_length, pvEs, List.length_map, σset_obj, pvB, sMk7W_27, reduceIte, Nat.reduceEqDiff, Nat.reduceAdd, Nat.reduceSub, Nat.reduceMul, Nat.reduceLT, Nat.reduceLeDiff, Nat.reduceBEq, reduceCtorEq, Int.reduceAdd, Int.reduceSub, Int.reduceMul, Int.reduceLT, Int.reduceLE, Int.reduceEq, Int.reduceToNat, Int.reduceNeg, Nat.reduceBNe, Int.reduceBEq, Int.reduceBNe, Int.reduceGT, Int.reduceGE, Int.reduceTMod, forall_const, eq_self, decide_true, decide_false, w_loop, c2]
    refine expr_c σ0 d m L V A Sx nl il 2 (by omega) σ2 _ h2 fun e σ3 ge t3 => ?_
    have fe := forget_E e
    obtain ⟨ek, en, es, eo, el⟩ := e
    simp only [pvE_q, vi, vs] at fe
    simp (config := { maxSteps := 4000000 }) (disch := omega) only [pvE_q, pvS_q, vi, vs, vb', vp, wrap_ok, cast_0, notL_E, notL_S, pvSs_length, pvEs, List.length_map, σset_obj, pvB, sMk7W_27, reduceIte, Nat.reduceEqDiff, Nat.reduceAdd, Nat.reduceSub, Nat.reduceMul, Nat.reduceLT, Nat.reduceLeDiff, Nat.reduceBEq, reduceCtorEq, Int.reduceAdd, Int.reduceSub, Int.reduceMul, Int.reduceLT, Int.reduceLE, Int.reduceEq, Int.reduceToNat, Int.reduceNeg, Nat.reduceBNe, Int.reduceBEq, Int.reduceBNe, Int.reduceGT, Int.reduceGE, Int.reduceTMod, forall_const, eq_self, decide_true, decide_false, w_loop, fe]
    refine ⟨_, .refl _, ?_⟩
    have := hK [.mk 1 tv [] [.mk ek en es eo el] 0 0 [] []] σ3 (by
      have q4 := ge.d
      have q5 := ge.w
      have q6 := Zb_pos 0
      rw [WE_2] at q5
      refine ⟨by simp, ?_, ?_, ?_⟩
      · simp only [dSs, dS]; omega
      · simp only [xSs, xS, dEs]; omega
      · simp only [zSs, zS, wEs]; omega) (h2.took t3) (t1.own.trans (t2.own.trans t3.own))
    simp only [Res.forget, forget, forgets, pvE, pvEs, pvS, pvSs, vi, vs, forgets_Es, forgets_Ss, forget_E, forgets_append, pvSs_append] at this ⊢
    exact this
  · simp (config := { maxSteps := 4000000 }) (disch := omega) only [pvE_q, pvS_q, vi, vs, vb', vp, wrap_ok, cast_0, notL_E, notL_S, pvSs_length, pvEs, List.length_map, σset_obj, pvB, sMk7W_27, reduceIte, Nat.reduceEqDiff, Nat.reduceAdd, Nat.reduceSub, Nat.reduceMul, Nat.reduceLT, Nat.reduceLeDiff, Nat.reduceBEq, reduceCtorEq, Int.reduceAdd, Int.reduceSub, Int.reduceMul, Int.reduceLT, Int.reduceLE, Int.reduceEq, Int.reduceToNat, Int.reduceNeg, Nat.reduceBNe, Int.reduceBEq, Int.reduceBNe, Int.reduceGT, Int.reduceGE, Int.reduceTMod, forall_const, eq_self, decide_true, decide_false, w_loop, c1, z, qz, hz]
    refine usable_c h1 _ fun U hU => ?_
    by_cases hU0 : U.length > 0
    · have hU1 : (U.length : Int) > 0 := by omega
      simp (config := { maxSteps := 4000000 }) (disch := omega) only [pvE_q, pvS_q, vi, vs, vb', vp, wrap_ok, cast_0, notL_E, notL_S, pvSs_length, pvEs, List.length_map, σset_obj, pvB, sMk7W_27, reduceIte, Nat.reduceEqDiff, Nat.reduceAdd, Nat.reduceSub, Nat.reduceMul, Nat.reduceLT, Nat.reduceLeDiff, Nat.reduceBEq, reduceCtorEq, Int.reduceAdd, Int.reduceSub, Int.reduceMul, Int.reduceLT, Int.reduceLE, Int.reduceEq, Int.reduceToNat, Int.reduceNeg, Nat.reduceBNe, Int.reduceBEq, Int.reduceBNe, Int.reduceGT, Int.reduceGE, Int.reduceTMod, forall_const, eq_self, decide_true, decide_false, w_loop, hU1]
      refine name_c h1 .any U hU0 (by omega) _ fun nm σ2 _ t2 => ?_
      have h2 := h1.took t2
      simp (config := { maxSteps := 4000000 }) (disch := omega) only [pvE_q, pvS_q, vi, vs, vb', vp, wrap_ok, cast_0, notL_E, notL_S, pvSs_length, pvEs, List.length_map, σset_obj, pvB, sMk7W_27, reduceIte, Nat.reduceEqDiff, Nat.reduceAdd, Nat.reduceSub, Nat.reduceMul, Nat.reduceLT, Nat.reduceLeDiff, Nat.reduceBEq, reduceCtorEq, Int.reduceAdd, Int.reduceSub, Int.reduceMul, Int.reduceLT, Int.reduceLE, Int.reduceEq, Int.reduceToNat, Int.reduceNeg, Nat.reduceBNe, Int.reduceBEq, Int.reduceBNe, Int.reduceGT, Int.reduceGE, Int.reduceTMod, forall_const, eq_self, decide_true, decide_false, w_loop]
      refine expr_c σ0 d m L V A Sx nl il 1 (by omega) σ2 _ h2 fun e1 σ3 g1 t3 => ?_
      have h3 := h2.took t3
      have f1 := forget_E e1
      obtain ⟨ek1, en1, es1, eo1, el1⟩ := e1
      simp only [pvE_q, vi, vs] at f1
      simp (config := { maxSteps := 4000000 }) (disch := omega) only [pvE_q, pvS_q, vi, vs, vb', vp, wrap_ok, cast_0, notL_E, notL_S, pvSs_length, pvEs, List.length_map, σset_obj, pvB, sMk7W_27, reduceIte, Nat.reduceEqDiff, Nat.reduceAdd, Nat.reduceSub, Nat.reduceMul, Nat.reduceLT, Nat.reduceLeDiff, Nat.reduceBEq, reduceCtorEq, Int.reduceAdd, Int.reduceSub, Int.reduceMul, Int.reduceLT, Int.reduceLE, Int.reduceEq, Int.reduceToNat, Int.reduceNeg, Nat.reduceBNe, Int.reduceBEq, Int.reduceBNe, Int.reduceGT, Int.reduceGE, Int.reduceTMod, forall_const, eq_self, decide_true, decide_false, w_loop, f1]
      refine expr_c σ0 d m L V A Sx nl il 2 (by omega) σ3 _ h3 fun e σ4 ge t4 => ?_
      have fe := forget_E e
      obtain ⟨ek, en, es, eo, el⟩ := e
      simp only [pvE_q, vi, vs] at fe
      simp (config := { maxSteps := 4000000 }) (disch := omega) only [pvE_q, pvS_q, vi, vs, vb', vp, wrap_ok, cast_0, notL_E, notL_S, pvSs_length, pvEs, List.length_map, σset_obj, pvB, sMk7W_27, reduceIte, Nat.reduceEqDiff, Nat.reduceAdd, Nat.reduceSub, Nat.reduceMul, Nat.reduceLT, Nat.reduceLeDiff, Nat.reduceBEq, reduceCtorEq, Int.reduceAdd, Int.reduceSub, Int.reduceMul, Int.reduceLT, Int.reduceLE, Int.reduceEq, Int.reduceToNat, Int.reduceNeg, Nat.reduceBNe, Int.reduceBEq, Int.reduceBNe, Int.reduceGT, Int.reduceGE, Int.reduceTMod, forall_const, eq_self, decide_true, decide_false, w_loop, fe]
      refine ⟨_, .refl _, ?_⟩
      have := hK [.mk 2 nm [.mk ek1 en1 es1 eo1 el1] [.mk ek en es eo el] 0 0 [] []] σ4 (by
        have q2 := g1.d
        have q3 := g1.w
        have q4 := ge.d
        have q5 := ge.w
        have q6 := Zb_pos 0
        rw [WE_2] at q5
        rw [WE_1] at q3
        refine ⟨by simp, ?_, ?_, ?_⟩
        · simp only [dSs, dS]; omega
        · simp only [xSs, xS, dEs]; omega
        · simp only [zSs, zS, wEs]; omega) (h3.took t4) (t1.own.trans (t2.own.trans (t3.own.trans t4.own)))
      simp only [Res.forget, forget, forgets, pvE, pvEs, pvS, pvSs, vi, vs, forgets_Es, forgets_Ss, forget_E, forgets_append, pvSs_append] at this ⊢
      exact this
    · have hU1 : ¬ ((U.length : Int) > 0) := by omega
      simp (config := { maxSteps := 4000000 }) (disch := omega) only [pvE_q, pvS_q, vi, vs, vb', vp, wrap_ok, cast_0, notL_E, notL_S, pvSs_length, pvEs, List.length_map, σset_obj, pvB, sMk7W_27, reduceIte, Nat.reduceEqDiff, Nat.reduceAdd, Nat.reduceSub, Nat.reduceMul, Nat.reduceLT, Nat.reduceLeDiff, Nat.reduceBEq, reduceCtorEq, Int.reduceAdd, Int.reduceSub, Int.reduceMul, Int.reduceLT, Int.reduceLE, Int.reduceEq, Int.reduceToNat, Int.reduceNeg, Nat.reduceBNe, Int.reduceBEq, Int.reduceBNe, Int.reduceGT, Int.reduceGE, Int.reduceTMod, forall_const, eq_self, decide_true, decide_false, w_loop, hU1, c1]
      refine target_c h1 _ fun tv σ2 t2 => ?_
      have h2 := h1.took t2
      have c2 := t2.frame.obj m _ h.md c1
      simp (config := { maxSteps := 4000000 }) (disch := omega) only [pvE_q, pvS_q, vi, vs, vb', vp, wrap_ok, cast_0, notL_E, notL_S, pvSs_length, pvEs, List.length_map, σset_obj, pvB, sMk7W_27, reduceIte, Nat.reduceEqDiff, Nat.reduceAdd, Nat.reduceSub, Nat.reduceMul, Nat.reduceLT, Nat.reduceLeDiff, Nat.reduceBEq, reduceCtorEq, Int.reduceAdd, Int.reduceSub, Int.reduceMul, Int.reduceLT, Int.reduceLE, Int.reduceEq, Int.reduceToNat, Int.reduceNeg, Nat.reduceBNe, Int.reduceBEq, Int.reduceBNe, Int.reduceGT, Int.reduceGE, Int.reduceTMod, forall_const, eq_self, decide_true, decide_false, w_loop, c2]
      refine expr_c σ0 d m L V A Sx nl il 2 (by omega) σ2 _ h2 fun e σ3 ge t3 => ?_
      have fe := forget_E e
      obtain ⟨ek, en, es, eo, el⟩ := e
      simp only [pvE_q, vi, vs] at fe
      simp (config := { maxSteps := 4000000 }) (disch := omega) only [pvE_q, pvS_q, vi, vs, vb', vp, wrap_ok, cast_0, notL_E, notL_S, pvSs_length, pvEs, List.length_map, σset_obj, pvB, sMk7W_27, reduceIte, Nat.reduceEqDiff, Nat.reduceAdd, Nat.reduceSub, Nat.reduceMul, Nat.reduceLT, Nat.reduceLeDiff, Nat.reduceBEq, reduceCtorEq, Int.reduceAdd, Int.reduceSub, Int.reduceMul, Int.reduceLT, Int.reduceLE, Int.reduceEq, Int.reduceToNat, Int.reduceNeg, Nat.reduceBNe, Int.reduceBEq, Int.reduceBNe, Int.reduceGT, Int.reduceGE, Int.reduceTMod, forall_const, eq_self, decide_true, decide_false, w_loop, fe]
      refine ⟨_, .refl _, ?_⟩
      have := hK [.mk 1 tv [] [.mk ek en es eo el] 0 0 [] []] σ3 (by
        have q4 := ge.d
        have q5 := ge.w
        have q6 := Zb_pos 0
        rw [WE_2] at q5
        refine ⟨by simp, ?_, ?_, ?_⟩
        · simp only [dSs, dS]; omega
        · simp only [xSs, xS, dEs]; omega
        · simp only [zSs, zS, wEs]; omega) (h2.took t3) (t1.own.trans (t2.own.trans t3.own))
      simp only [Res.forget, forget, forgets, pvE, pvEs, pvS, pvSs, vi, vs, forgets_Es, forgets_Ss, forget_E, forgets_append, pvSs_append] at this ⊢
      exact this
set_option maxHeartbeats 32000000 in
set_option maxRecDepth 100000 in
theorem stmt_s (σ0 : St) (d m : Nat) (L : List Int) (V A : List ByteArray) (Sx : List Sh) (D : Nat) (hD : D ≤ 10) (ihB : BlockC σ0 d m L V A Sx D) (ihL : LoopC σ0 d m L V A Sx D) : StmtC σ0 d m L V A Sx (D + 1) := by
  intro nl il σ K h hnl hK
  obtain ⟨kv, ka, ks, lp, held, labels, stmts, c0, l0, b0⟩ := h.own
  unfold mkCells at c0
  simp only [vi, vs, vp] at c0
  have hV := h.hV
  refine PCalls.forgetR ?_
  refine PCalls.of_body (tOk Try.prog) (by kernel_rfl) Try.func27 rfl (by kernel_rfl) [] [(13, 63, [(0, []), (4, []), (8, []), (1, []), (2, []), (3, []), (5, [3]), (6, []), (7, []), (9, [])]), (24, 127, [(0, []), (1, []), (5, []), (9, []), (2, []), (6, []), (10, []), (3, []), (7, []), (11, []), (4, []), (8, []), (12, []), (13, []), (14, [4]), (15, []), (16, []), (17, []), (18, []), (19, []), (20, [])])] (by kernel_rfl) (n := 150) (by kernel_rfl) (by kernel_rfl) (rs := [.tmp 4]) (by kernel_rfl) ?_
  simp (config := { maxSteps := 4000000 }) (disch := omega) only [pvE_q, pvS_q, vi, vs, vb', vp, wrap_ok, cast_0, notL_E, notL_S, pvSs_length, pvEs, List.length_map, σset_obj, pvB, sMk7W_27, reduceIte, Nat.reduceEqDiff, Nat.reduceAdd, Nat.reduceSub, Nat.reduceMul, Nat.reduceLT, Nat.reduceLeDiff, Nat.reduceBEq, reduceCtorEq, Int.reduceAdd, Int.reduceSub, Int.reduceMul, Int.reduceLT, Int.reduceLE, Int.reduceEq, Int.reduceToNat, Int.reduceNeg, Nat.reduceBNe, Int.reduceBEq, Int.reduceBNe, Int.reduceGT, Int.reduceGE, Int.reduceTMod, forall_const, eq_self, decide_true, decide_false, w_loop, c0]
  refine next_c d L 9 σ h.deck h.hL (by omega) _ fun r σ1 r0 r1 t1 => ?_
  have h1 := h.took t1
  have c1 := t1.frame.obj m _ h.md c0
  have l1 := l0.frame (t1.frame.mono fun x q => .inl q)
  have hz : ¬ (((D + 1 : Nat) : Int) ≤ 0) := by omega
  have hp : ((D + 1 : Nat) : Int) - 1 = D := by omega
  by_cases hlab : labels ≥ 12
  · have gg := trivial
    have q0 : 0 ≤ r.tmod 3 := Int.tmod_nonneg _ (by omega)
    have q1 : r.tmod 3 < 3 := Int.tmod_lt_of_pos _ (by omega)
    have q3 : (r.tmod 3 == 3) = false := by simp; omega
    have q4 : (r.tmod 3 == 4) = false := by simp; omega
    have q5 : (r.tmod 3 == 5) = false := by simp; omega
    have q6 : (r.tmod 3 == 6) = false := by simp; omega
    have q7 : (r.tmod 3 == 7) = false := by simp; omega
    have q8 : (r.tmod 3 == 8) = false := by simp; omega
    have qz : (3 : Int) ≠ 0 := by omega
    cases z : (r.tmod 3 == 1)
    · simp (config := { maxSteps := 4000000 }) (disch := omega) only [pvE_q, pvS_q, vi, vs, vb', vp, wrap_ok, cast_0, notL_E, notL_S, pvSs_length, pvEs, List.length_map, σset_obj, pvB, sMk7W_27, reduceIte, Nat.reduceEqDiff, Nat.reduceAdd, Nat.reduceSub, Nat.reduceMul, Nat.reduceLT, Nat.reduceLeDiff, Nat.reduceBEq, reduceCtorEq, Int.reduceAdd, Int.reduceSub, Int.reduceMul, Int.reduceLT, Int.reduceLE, Int.reduceEq, Int.reduceToNat, Int.reduceNeg, Nat.reduceBNe, Int.reduceBEq, Int.reduceBNe, Int.reduceGT, Int.reduceGE, Int.reduceTMod, forall_const, eq_self, decide_true, decide_false, w_loop, c1, q3, q4, q5, q6, q7, q8, z, qz, hz, hlab]
      refine target_c h1 _ fun tv σ2 t2 => ?_
      have h2 := h1.took t2
      have c2 := t2.frame.obj m _ h.md c1
      simp (config := { maxSteps := 4000000 }) (disch := omega) only [pvE_q, pvS_q, vi, vs, vb', vp, wrap_ok, cast_0, notL_E, notL_S, pvSs_length, pvEs, List.length_map, σset_obj, pvB, sMk7W_27, reduceIte, Nat.reduceEqDiff, Nat.reduceAdd, Nat.reduceSub, Nat.reduceMul, Nat.reduceLT, Nat.reduceLeDiff, Nat.reduceBEq, reduceCtorEq, Int.reduceAdd, Int.reduceSub, Int.reduceMul, Int.reduceLT, Int.reduceLE, Int.reduceEq, Int.reduceToNat, Int.reduceNeg, Nat.reduceBNe, Int.reduceBEq, Int.reduceBNe, Int.reduceGT, Int.reduceGE, Int.reduceTMod, forall_const, eq_self, decide_true, decide_false, w_loop, c2]
      refine expr_c σ0 d m L V A Sx nl il 2 (by omega) σ2 _ h2 fun e σ3 ge t3 => ?_
      have fe := forget_E e
      obtain ⟨ek, en, es, eo, el⟩ := e
      simp only [pvE_q, vi, vs] at fe
      simp (config := { maxSteps := 4000000 }) (disch := omega) only [pvE_q, pvS_q, vi, vs, vb', vp, wrap_ok, cast_0, notL_E, notL_S, pvSs_length, pvEs, List.length_map, σset_obj, pvB, sMk7W_27, reduceIte, Nat.reduceEqDiff, Nat.reduceAdd, Nat.reduceSub, Nat.reduceMul, Nat.reduceLT, Nat.reduceLeDiff, Nat.reduceBEq, reduceCtorEq, Int.reduceAdd, Int.reduceSub, Int.reduceMul, Int.reduceLT, Int.reduceLE, Int.reduceEq, Int.reduceToNat, Int.reduceNeg, Nat.reduceBNe, Int.reduceBEq, Int.reduceBNe, Int.reduceGT, Int.reduceGE, Int.reduceTMod, forall_const, eq_self, decide_true, decide_false, w_loop, fe]
      refine ⟨_, .refl _, ?_⟩
      have := hK [.mk 1 tv [] [.mk ek en es eo el] 0 0 [] []] σ3 (by
        have q4 := ge.d
        have q5 := ge.w
        have q6 := Zb_pos (D + 1)
        rw [WE_2] at q5
        refine ⟨by simp, ?_, ?_, ?_⟩
        · simp only [dSs, dS]; omega
        · simp only [xSs, xS, dEs]; omega
        · simp only [zSs, zS, wEs]; omega) (h2.took t3) (t1.own.trans (t2.own.trans t3.own))
      simp only [Res.forget, forget, forgets, pvE, pvEs, pvS, pvSs, vi, vs, forgets_Es, forgets_Ss, forget_E, forgets_append, pvSs_append] at this ⊢
      exact this
    · simp (config := { maxSteps := 4000000 }) (disch := omega) only [pvE_q, pvS_q, vi, vs, vb', vp, wrap_ok, cast_0, notL_E, notL_S, pvSs_length, pvEs, List.length_map, σset_obj, pvB, sMk7W_27, reduceIte, Nat.reduceEqDiff, Nat.reduceAdd, Nat.reduceSub, Nat.reduceMul, Nat.reduceLT, Nat.reduceLeDiff, Nat.reduceBEq, reduceCtorEq, Int.reduceAdd, Int.reduceSub, Int.reduceMul, Int.reduceLT, Int.reduceLE, Int.reduceEq, Int.reduceToNat, Int.reduceNeg, Nat.reduceBNe, Int.reduceBEq, Int.reduceBNe, Int.reduceGT, Int.reduceGE, Int.reduceTMod, forall_const, eq_self, decide_true, decide_false, w_loop, c1, z, qz, hz, hlab]
      refine usable_c h1 _ fun U hU => ?_
      by_cases hU0 : U.length > 0
      · have hU1 : (U.length : Int) > 0 := by omega
        simp (config := { maxSteps := 4000000 }) (disch := omega) only [pvE_q, pvS_q, vi, vs, vb', vp, wrap_ok, cast_0, notL_E, notL_S, pvSs_length, pvEs, List.length_map, σset_obj, pvB, sMk7W_27, reduceIte, Nat.reduceEqDiff, Nat.reduceAdd, Nat.reduceSub, Nat.reduceMul, Nat.reduceLT, Nat.reduceLeDiff, Nat.reduceBEq, reduceCtorEq, Int.reduceAdd, Int.reduceSub, Int.reduceMul, Int.reduceLT, Int.reduceLE, Int.reduceEq, Int.reduceToNat, Int.reduceNeg, Nat.reduceBNe, Int.reduceBEq, Int.reduceBNe, Int.reduceGT, Int.reduceGE, Int.reduceTMod, forall_const, eq_self, decide_true, decide_false, w_loop, hU1]
        refine name_c h1 .any U hU0 (by omega) _ fun nm σ2 _ t2 => ?_
        have h2 := h1.took t2
        simp (config := { maxSteps := 4000000 }) (disch := omega) only [pvE_q, pvS_q, vi, vs, vb', vp, wrap_ok, cast_0, notL_E, notL_S, pvSs_length, pvEs, List.length_map, σset_obj, pvB, sMk7W_27, reduceIte, Nat.reduceEqDiff, Nat.reduceAdd, Nat.reduceSub, Nat.reduceMul, Nat.reduceLT, Nat.reduceLeDiff, Nat.reduceBEq, reduceCtorEq, Int.reduceAdd, Int.reduceSub, Int.reduceMul, Int.reduceLT, Int.reduceLE, Int.reduceEq, Int.reduceToNat, Int.reduceNeg, Nat.reduceBNe, Int.reduceBEq, Int.reduceBNe, Int.reduceGT, Int.reduceGE, Int.reduceTMod, forall_const, eq_self, decide_true, decide_false, w_loop]
        refine expr_c σ0 d m L V A Sx nl il 1 (by omega) σ2 _ h2 fun e1 σ3 g1 t3 => ?_
        have h3 := h2.took t3
        have f1 := forget_E e1
        obtain ⟨ek1, en1, es1, eo1, el1⟩ := e1
        simp only [pvE_q, vi, vs] at f1
        simp (config := { maxSteps := 4000000 }) (disch := omega) only [pvE_q, pvS_q, vi, vs, vb', vp, wrap_ok, cast_0, notL_E, notL_S, pvSs_length, pvEs, List.length_map, σset_obj, pvB, sMk7W_27, reduceIte, Nat.reduceEqDiff, Nat.reduceAdd, Nat.reduceSub, Nat.reduceMul, Nat.reduceLT, Nat.reduceLeDiff, Nat.reduceBEq, reduceCtorEq, Int.reduceAdd, Int.reduceSub, Int.reduceMul, Int.reduceLT, Int.reduceLE, Int.reduceEq, Int.reduceToNat, Int.reduceNeg, Nat.reduceBNe, Int.reduceBEq, Int.reduceBNe, Int.reduceGT, Int.reduceGE, Int.reduceTMod, forall_const, eq_self, decide_true, decide_false, w_loop, f1]
        refine expr_c σ0 d m L V A Sx nl il 2 (by omega) σ3 _ h3 fun e σ4 ge t4 => ?_
        have fe := forget_E e
        obtain ⟨ek, en, es, eo, el⟩ := e
        simp only [pvE_q, vi, vs] at fe
        simp (config := { maxSteps := 4000000 }) (disch := omega) only [pvE_q, pvS_q, vi, vs, vb', vp, wrap_ok, cast_0, notL_E, notL_S, pvSs_length, pvEs, List.length_map, σset_obj, pvB, sMk7W_27, reduceIte, Nat.reduceEqDiff, Nat.reduceAdd, Nat.reduceSub, Nat.reduceMul, Nat.reduceLT, Nat.reduceLeDiff, Nat.reduceBEq, reduceCtorEq, Int.reduceAdd, Int.reduceSub, Int.reduceMul, Int.reduceLT, Int.reduceLE, Int.reduceEq, Int.reduceToNat, Int.reduceNeg, Nat.reduceBNe, Int.reduceBEq, Int.reduceBNe, Int.reduceGT, Int.reduceGE, Int.reduceTMod, forall_const, eq_self, decide_true, decide_false, w_loop, fe]
        refine ⟨_, .refl _, ?_⟩
        have := hK [.mk 2 nm [.mk ek1 en1 es1 eo1 el1] [.mk ek en es eo el] 0 0 [] []] σ4 (by
          have q2 := g1.d
          have q3 := g1.w
          have q4 := ge.d
          have q5 := ge.w
          have q6 := Zb_pos (D + 1)
          rw [WE_2] at q5
          rw [WE_1] at q3
          refine ⟨by simp, ?_, ?_, ?_⟩
          · simp only [dSs, dS]; omega
          · simp only [xSs, xS, dEs]; omega
          · simp only [zSs, zS, wEs]; omega) (h3.took t4) (t1.own.trans (t2.own.trans (t3.own.trans t4.own)))
        simp only [Res.forget, forget, forgets, pvE, pvEs, pvS, pvSs, vi, vs, forgets_Es, forgets_Ss, forget_E, forgets_append, pvSs_append] at this ⊢
        exact this
      · have hU1 : ¬ ((U.length : Int) > 0) := by omega
        simp (config := { maxSteps := 4000000 }) (disch := omega) only [pvE_q, pvS_q, vi, vs, vb', vp, wrap_ok, cast_0, notL_E, notL_S, pvSs_length, pvEs, List.length_map, σset_obj, pvB, sMk7W_27, reduceIte, Nat.reduceEqDiff, Nat.reduceAdd, Nat.reduceSub, Nat.reduceMul, Nat.reduceLT, Nat.reduceLeDiff, Nat.reduceBEq, reduceCtorEq, Int.reduceAdd, Int.reduceSub, Int.reduceMul, Int.reduceLT, Int.reduceLE, Int.reduceEq, Int.reduceToNat, Int.reduceNeg, Nat.reduceBNe, Int.reduceBEq, Int.reduceBNe, Int.reduceGT, Int.reduceGE, Int.reduceTMod, forall_const, eq_self, decide_true, decide_false, w_loop, hU1, c1]
        refine target_c h1 _ fun tv σ2 t2 => ?_
        have h2 := h1.took t2
        have c2 := t2.frame.obj m _ h.md c1
        simp (config := { maxSteps := 4000000 }) (disch := omega) only [pvE_q, pvS_q, vi, vs, vb', vp, wrap_ok, cast_0, notL_E, notL_S, pvSs_length, pvEs, List.length_map, σset_obj, pvB, sMk7W_27, reduceIte, Nat.reduceEqDiff, Nat.reduceAdd, Nat.reduceSub, Nat.reduceMul, Nat.reduceLT, Nat.reduceLeDiff, Nat.reduceBEq, reduceCtorEq, Int.reduceAdd, Int.reduceSub, Int.reduceMul, Int.reduceLT, Int.reduceLE, Int.reduceEq, Int.reduceToNat, Int.reduceNeg, Nat.reduceBNe, Int.reduceBEq, Int.reduceBNe, Int.reduceGT, Int.reduceGE, Int.reduceTMod, forall_const, eq_self, decide_true, decide_false, w_loop, c2]
        refine expr_c σ0 d m L V A Sx nl il 2 (by omega) σ2 _ h2 fun e σ3 ge t3 => ?_
        have fe := forget_E e
        obtain ⟨ek, en, es, eo, el⟩ := e
        simp only [pvE_q, vi, vs] at fe
        simp (config := { maxSteps := 4000000 }) (disch := omega) only [pvE_q, pvS_q, vi, vs, vb', vp, wrap_ok, cast_0, notL_E, notL_S, pvSs_length, pvEs, List.length_map, σset_obj, pvB, sMk7W_27, reduceIte, Nat.reduceEqDiff, Nat.reduceAdd, Nat.reduceSub, Nat.reduceMul, Nat.reduceLT, Nat.reduceLeDiff, Nat.reduceBEq, reduceCtorEq, Int.reduceAdd, Int.reduceSub, Int.reduceMul, Int.reduceLT, Int.reduceLE, Int.reduceEq, Int.reduceToNat, Int.reduceNeg, Nat.reduceBNe, Int.reduceBEq, Int.reduceBNe, Int.reduceGT, Int.reduceGE, Int.reduceTMod, forall_const, eq_self, decide_true, decide_false, w_loop, fe]
        refine ⟨_, .refl _, ?_⟩
        have := hK [.mk 1 tv [] [.mk ek en es eo el] 0 0 [] []] σ3 (by
          have q4 := ge.d
          have q5 := ge.w
          have q6 := Zb_pos (D + 1)
          rw [WE_2] at q5
          refine ⟨by simp, ?_, ?_, ?_⟩
          · simp only [dSs, dS]; omega
          · simp only [xSs, xS, dEs]; omega
          · simp only [zSs, zS, wEs]; omega) (h2.took t3) (t1.own.trans (t2.own.trans t3.own))
        simp only [Res.forget, forget, forgets, pvE, pvEs, pvS, pvSs, vi, vs, forgets_Es, forgets_Ss, forget_E, forgets_append, pvSs_append] at this ⊢
        exact this
  · have gg := trivial
    cases z1 : (r == 1)
    · cases z3 : (r == 3)
      · cases z4 : (r == 4)
        · cases z5 : (r == 5)
          · cases z6 : (r == 6)
            · cases z7 : (r == 7)
              · cases z8 : (r == 8)
                · simp (config := { maxSteps := 4000000 }) (disch := omega) only [pvE_q, pvS_q, vi, vs, vb', vp, wrap_ok, cast_0, notL_E, notL_S, pvSs_length, pvEs, List.length_map, σset_obj, pvB, sMk7W_27, reduceIte, Nat.reduceEqDiff, Nat.reduceAdd, Nat.reduceSub, Nat.reduceMul, Nat.reduceLT, Nat.reduceLeDiff, Nat.reduceBEq, reduceCtorEq, Int.reduceAdd, Int.reduceSub, Int.reduceMul, Int.reduceLT, Int.reduceLE, Int.reduceEq, Int.reduceToNat, Int.reduceNeg, Nat.reduceBNe, Int.reduceBEq, Int.reduceBNe, Int.reduceGT, Int.reduceGE, Int.reduceTMod, forall_const, eq_self, decide_true, decide_false, w_loop, c1, hz, hlab, z1, z3, z4, z5, z6, z7, z8]
                  refine target_c h1 _ fun tv σ2 t2 => ?_
                  have h2 := h1.took t2
                  have c2 := t2.frame.obj m _ h.md c1
                  simp (config := { maxSteps := 4000000 }) (disch := omega) only [pvE_q, pvS_q, vi, vs, vb', vp, wrap_ok, cast_0, notL_E, notL_S, pvSs_length, pvEs, List.length_map, σset_obj, pvB, sMk7W_27, reduceIte, Nat.reduceEqDiff, Nat.reduceAdd, Nat.reduceSub, Nat.reduceMul, Nat.reduceLT, Nat.reduceLeDiff, Nat.reduceBEq, reduceCtorEq, Int.reduceAdd, Int.reduceSub, Int.reduceMul, Int.reduceLT, Int.reduceLE, Int.reduceEq, Int.reduceToNat, Int.reduceNeg, Nat.reduceBNe, Int.reduceBEq, Int.reduceBNe, Int.reduceGT, Int.reduceGE, Int.reduceTMod, forall_const, eq_self, decide_true, decide_false, w_loop, c2]
                  refine expr_c σ0 d m L V A Sx nl il 2 (by omega) σ2 _ h2 fun e σ3 ge t3 => ?_
                  have fe := forget_E e
                  obtain ⟨ek, en, es, eo, el⟩ := e
                  simp only [pvE_q, vi, vs] at fe
                  simp (config := { maxSteps := 4000000 }) (disch := omega) only [pvE_q, pvS_q, vi, vs, vb', vp, wrap_ok, cast_0, notL_E, notL_S, pvSs_length, pvEs, List.length_map, σset_obj, pvB, sMk7W_27, reduceIte, Nat.reduceEqDiff, Nat.reduceAdd, Nat.reduceSub, Nat.reduceMul, Nat.reduceLT, Nat.reduceLeDiff, Nat.reduceBEq, reduceCtorEq, Int.reduceAdd, Int.reduceSub, Int.reduceMul, Int.reduceLT, Int.reduceLE, Int.reduceEq, Int.reduceToNat, Int.reduceNeg, Nat.reduceBNe, Int.reduceBEq, Int.reduceBNe, Int.reduceGT, Int.reduceGE, Int.reduceTMod, forall_const, eq_self, decide_true, decide_false, w_loop, fe]
                  refine ⟨_, .refl _, ?_⟩
                  have := hK [.mk 1 tv [] [.mk ek en es eo el] 0 0 [] []] σ3 (by
                    have q4 := ge.d
                    have q5 := ge.w
                    have q6 := Zb_pos (D + 1)
                    rw [WE_2] at q5
                    refine ⟨by simp, ?_, ?_, ?_⟩
                    · simp only [dSs, dS]; omega
                    · simp only [xSs, xS, dEs]; omega
                    · simp only [zSs, zS, wEs]; omega) (h2.took t3) (t1.own.trans (t2.own.trans t3.own))
                  simp only [Res.forget, forget, forgets, pvE, pvEs, pvS, pvSs, vi, vs, forgets_Es, forgets_Ss, forget_E, forgets_append, pvSs_append] at this ⊢
                  exact this
                · have gg := trivial
                  cases he : (held.toList == (⟨#[]⟩ : ByteArray).toList)
                  · simp (config := { maxSteps := 4000000 }) (disch := omega) only [pvE_q, pvS_q, vi, vs, vb', vp, wrap_ok, cast_0, notL_E, notL_S, pvSs_length, pvEs, List.length_map, σset_obj, pvB, sMk7W_27, reduceIte, Nat.reduceEqDiff, Nat.reduceAdd, Nat.reduceSub, Nat.reduceMul, Nat.reduceLT, Nat.reduceLeDiff, Nat.reduceBEq, reduceCtorEq, Int.reduceAdd, Int.reduceSub, Int.reduceMul, Int.reduceLT, Int.reduceLE, Int.reduceEq, Int.reduceToNat, Int.reduceNeg, Nat.reduceBNe, Int.reduceBEq, Int.reduceBNe, Int.reduceGT, Int.reduceGE, Int.reduceTMod, forall_const, eq_self, decide_true, decide_false, w_loop, c1, hz, hlab, z1, z3, z4, z5, z6, z7, z8, he]
                    refine target_c h1 _ fun tv σ2 t2 => ?_
                    have h2 := h1.took t2
                    have c2 := t2.frame.obj m _ h.md c1
                    simp (config := { maxSteps := 4000000 }) (disch := omega) only [pvE_q, pvS_q, vi, vs, vb', vp, wrap_ok, cast_0, notL_E, notL_S, pvSs_length, pvEs, List.length_map, σset_obj, pvB, sMk7W_27, reduceIte, Nat.reduceEqDiff, Nat.reduceAdd, Nat.reduceSub, Nat.reduceMul, Nat.reduceLT, Nat.reduceLeDiff, Nat.reduceBEq, reduceCtorEq, Int.reduceAdd, Int.reduceSub, Int.reduceMul, Int.reduceLT, Int.reduceLE, Int.reduceEq, Int.reduceToNat, Int.reduceNeg, Nat.reduceBNe, Int.reduceBEq, Int.reduceBNe, Int.reduceGT, Int.reduceGE, Int.reduceTMod, forall_const, eq_self, decide_true, decide_false, w_loop, c2]
                    refine expr_c σ0 d m L V A Sx nl il 2 (by omega) σ2 _ h2 fun e σ3 ge t3 => ?_
                    have fe := forget_E e
                    obtain ⟨ek, en, es, eo, el⟩ := e
                    simp only [pvE_q, vi, vs] at fe
                    simp (config := { maxSteps := 4000000 }) (disch := omega) only [pvE_q, pvS_q, vi, vs, vb', vp, wrap_ok, cast_0, notL_E, notL_S, pvSs_length, pvEs, List.length_map, σset_obj, pvB, sMk7W_27, reduceIte, Nat.reduceEqDiff, Nat.reduceAdd, Nat.reduceSub, Nat.reduceMul, Nat.reduceLT, Nat.reduceLeDiff, Nat.reduceBEq, reduceCtorEq, Int.reduceAdd, Int.reduceSub, Int.reduceMul, Int.reduceLT, Int.reduceLE, Int.reduceEq, Int.reduceToNat, Int.reduceNeg, Nat.reduceBNe, Int.reduceBEq, Int.reduceBNe, Int.reduceGT, Int.reduceGE, Int.reduceTMod, forall_const, eq_self, decide_true, decide_false, w_loop, fe]
                    refine ⟨_, .refl _, ?_⟩
                    have := hK [.mk 1 tv [] [.mk ek en es eo el] 0 0 [] []] σ3 (by
                      have q4 := ge.d
                      have q5 := ge.w
                      have q6 := Zb_pos (D + 1)
                      rw [WE_2] at q5
                      refine ⟨by simp, ?_, ?_, ?_⟩
                      · simp only [dSs, dS]; omega
                      · simp only [xSs, xS, dEs]; omega
                      · simp only [zSs, zS, wEs]; omega) (h2.took t3) (t1.own.trans (t2.own.trans t3.own))
                    simp only [Res.forget, forget, forgets, pvE, pvEs, pvS, pvSs, vi, vs, forgets_Es, forgets_Ss, forget_E, forgets_append, pvSs_append] at this ⊢
                    exact this
                  · by_cases hs : Sx.length > 0
                    · have hs1 : (Sx.length : Int) > 0 := by omega
                      have hS := h.hS
                      simp (config := { maxSteps := 4000000 }) (disch := omega) only [pvE_q, pvS_q, vi, vs, vb', vp, wrap_ok, cast_0, notL_E, notL_S, pvSs_length, pvEs, List.length_map, σset_obj, pvB, sMk7W_27, reduceIte, Nat.reduceEqDiff, Nat.reduceAdd, Nat.reduceSub, Nat.reduceMul, Nat.reduceLT, Nat.reduceLeDiff, Nat.reduceBEq, reduceCtorEq, Int.reduceAdd, Int.reduceSub, Int.reduceMul, Int.reduceLT, Int.reduceLE, Int.reduceEq, Int.reduceToNat, Int.reduceNeg, Nat.reduceBNe, Int.reduceBEq, Int.reduceBNe, Int.reduceGT, Int.reduceGE, Int.reduceTMod, forall_const, eq_self, decide_true, decide_false, w_loop, c1, hz, hlab, z1, z3, z4, z5, z6, z7, z8, he, hs1]
                      refine next_c d L Sx.length σ1 h1.deck h.hL (by omega) _ fun ix σ2 i0 i1 t2 => ?_
                      have h2 := h1.took t2
                      have c2 := t2.frame.obj m _ h.md c1
                      have l2 := l1.frame (t2.frame.mono fun x q => .inl q)
                      have hix : ix.toNat < Sx.length := by omega
                      obtain ⟨x, eg⟩ : ∃ x, (Sx.map pvSh)[ix.toNat]? = some (pvSh x) := ⟨Sx[ix.toNat], by rw [Shs_get, List.getElem?_eq_getElem hix]; rfl⟩
                      obtain ⟨sn, sz, sr⟩ := x
                      simp only [pvSh, vi, vs] at eg
                      have w3 := h2.write (nl' := nl) (il' := il) (kv := kv) (ka := ka) (ks := ks) (lp := lp) (held := sr) (labels := labels) (stmts := stmts) h.hi h.hl (l2.frame (Frame.set _ _ (.inr rfl))) ⟨b0.1, b0.2.1⟩ b0.2.2
                      have o3 : OwnLe σ2 _ := own_set σ2 m (.cells (mkCells d kv V lp ka A ks Sx sr labels stmts il))
                      unfold mkCells at w3 o3
                      simp only [vi, vs, vp] at w3 o3
                      simp (config := { maxSteps := 4000000 }) (disch := omega) only [pvE_q, pvS_q, vi, vs, vb', vp, wrap_ok, cast_0, notL_E, notL_S, pvSs_length, pvEs, List.length_map, σset_obj, pvB, sMk7W_27, reduceIte, Nat.reduceEqDiff, Nat.reduceAdd, Nat.reduceSub, Nat.reduceMul, Nat.reduceLT, Nat.reduceLeDiff, Nat.reduceBEq, reduceCtorEq, Int.reduceAdd, Int.reduceSub, Int.reduceMul, Int.reduceLT, Int.reduceLE, Int.reduceEq, Int.reduceToNat, Int.reduceNeg, Nat.reduceBNe, Int.reduceBEq, Int.reduceBNe, Int.reduceGT, Int.reduceGE, Int.reduceTMod, forall_const, eq_self, decide_true, decide_false, w_loop, c2, eg, i0, hp]
                      generalize σ2.set m _ = σ3 at w3 o3 ⊢
                      refine ihB nl il 2 σ3 _ w3 (by omega) (by omega) (by omega) fun l kk σ4 g1 h4 m4 => ?_
                      obtain ⟨kv2, ka2, ks2, lp2', held2, labels2, stmts2, c9, l9, b9⟩ := h4.own
                      unfold mkCells at c9
                      simp only [vi, vs, vp] at c9
                      simp (config := { maxSteps := 4000000 }) (disch := omega) only [pvE_q, pvS_q, vi, vs, vb', vp, wrap_ok, cast_0, notL_E, notL_S, pvSs_length, pvEs, List.length_map, σset_obj, pvB, sMk7W_27, reduceIte, Nat.reduceEqDiff, Nat.reduceAdd, Nat.reduceSub, Nat.reduceMul, Nat.reduceLT, Nat.reduceLeDiff, Nat.reduceBEq, reduceCtorEq, Int.reduceAdd, Int.reduceSub, Int.reduceMul, Int.reduceLT, Int.reduceLE, Int.reduceEq, Int.reduceToNat, Int.reduceNeg, Nat.reduceBNe, Int.reduceBEq, Int.reduceBNe, Int.reduceGT, Int.reduceGE, Int.reduceTMod, forall_const, eq_self, decide_true, decide_false, w_loop, c9]
                      have w5 := h4.write (nl' := nl) (il' := il) (kv := kv2) (ka := ka2) (ks := ks2) (lp := lp2') (held := ⟨#[]⟩) (labels := labels2) (stmts := stmts2) h.hi h.hl (l9.frame (Frame.set _ _ (.inr rfl))) ⟨b9.1, b9.2.1⟩ b9.2.2
                      unfold mkCells at w5
                      simp only [vi, vs, vp] at w5
                      refine ⟨_, .refl _, ?_⟩
                      have := hK [.mk 5 sr [] [] 0 0 l []] _ (by
                        have q1 := g1.d
                        have q2 := g1.x
                        have q3 := g1.z
                        have q6 := Zb_pos D
                        refine ⟨by simp, ?_, ?_, ?_⟩
                        · simp only [dSs, dS]; omega
                        · simp only [xSs, xS, dEs]; omega
                        · simp only [zSs, zS, wEs, Zb]; omega) w5 (t1.own.trans (t2.own.trans (o3.trans (m4.le.trans (own_set _ _ _)))))
                      simp only [Res.forget, forget, forgets, pvE, pvEs, pvS, pvSs, vi, vs, forgets_Es, forgets_Ss, forget_E, forgets_append, pvSs_append] at this ⊢
                      exact this
                    · have hs1 : ¬ ((Sx.length : Int) > 0) := by omega
                      simp (config := { maxSteps := 4000000 }) (disch := omega) only [pvE_q, pvS_q, vi, vs, vb', vp, wrap_ok, cast_0, notL_E, notL_S, pvSs_length, pvEs, List.length_map, σset_obj, pvB, sMk7W_27, reduceIte, Nat.reduceEqDiff, Nat.reduceAdd, Nat.reduceSub, Nat.reduceMul, Nat.reduceLT, Nat.reduceLeDiff, Nat.reduceBEq, reduceCtorEq, Int.reduceAdd, Int.reduceSub, Int.reduceMul, Int.reduceLT, Int.reduceLE, Int.reduceEq, Int.reduceToNat, Int.reduceNeg, Nat.reduceBNe, Int.reduceBEq, Int.reduceBNe, Int.reduceGT, Int.reduceGE, Int.reduceTMod, forall_const, eq_self, decide_true, decide_false, w_loop, c1, hz, hlab, z1, z3, z4, z5, z6, z7, z8, he, hs1]
                      refine target_c h1 _ fun tv σ2 t2 => ?_
                      have h2 := h1.took t2
                      have c2 := t2.frame.obj m _ h.md c1
                      simp (config := { maxSteps := 4000000 }) (disch := omega) only [pvE_q, pvS_q, vi, vs, vb', vp, wrap_ok, cast_0, notL_E, notL_S, pvSs_length, pvEs, List.length_map, σset_obj, pvB, sMk7W_27, reduceIte, Nat.reduceEqDiff, Nat.reduceAdd, Nat.reduceSub, Nat.reduceMul, Nat.reduceLT, Nat.reduceLeDiff, Nat.reduceBEq, reduceCtorEq, Int.reduceAdd, Int.reduceSub, Int.reduceMul, Int.reduceLT, Int.reduceLE, Int.reduceEq, Int.reduceToNat, Int.reduceNeg, Nat.reduceBNe, Int.reduceBEq, Int.reduceBNe, Int.reduceGT, Int.reduceGE, Int.reduceTMod, forall_const, eq_self, decide_true, decide_false, w_loop, c2]
                      refine expr_c σ0 d m L V A Sx nl il 2 (by omega) σ2 _ h2 fun e σ3 ge t3 => ?_
                      have fe := forget_E e
                      obtain ⟨ek, en, es, eo, el⟩ := e
                      simp only [pvE_q, vi, vs] at fe
                      simp (config := { maxSteps := 4000000 }) (disch := omega) only [pvE_q, pvS_q, vi, vs, vb', vp, wrap_ok, cast_0, notL_E, notL_S, pvSs_length, pvEs, List.length_map, σset_obj, pvB, sMk7W_27, reduceIte, Nat.reduceEqDiff, Nat.reduceAdd, Nat.reduceSub, Nat.reduceMul, Nat.reduceLT, Nat.reduceLeDiff, Nat.reduceBEq, reduceCtorEq, Int.reduceAdd, Int.reduceSub, Int.reduceMul, Int.reduceLT, Int.reduceLE, Int.reduceEq, Int.reduceToNat, Int.reduceNeg, Nat.reduceBNe, Int.reduceBEq, Int.reduceBNe, Int.reduceGT, Int.reduceGE, Int.reduceTMod, forall_const, eq_self, decide_true, decide_false, w_loop, fe]
                      refine ⟨_, .refl _, ?_⟩
                      have := hK [.mk 1 tv [] [.mk ek en es eo el] 0 0 [] []] σ3 (by
                        have q4 := ge.d
                        have q5 := ge.w
                        have q6 := Zb_pos (D + 1)
                        rw [WE_2] at q5
                        refine ⟨by simp, ?_, ?_, ?_⟩
                        · simp only [dSs, dS]; omega
                        · simp only [xSs, xS, dEs]; omega
                        · simp only [zSs, zS, wEs]; omega) (h2.took t3) (t1.own.trans (t2.own.trans t3.own))
                      simp only [Res.forget, forget, forgets, pvE, pvEs, pvS, pvSs, vi, vs, forgets_Es, forgets_Ss, forget_E, forgets_append, pvSs_append] at this ⊢
                      exact this
              · have gg := trivial
                by_cases hil : il < 2
                · simp (config := { maxSteps := 4000000 }) (disch := omega) only [pvE_q, pvS_q, vi, vs, vb', vp, wrap_ok, cast_0, notL_E, notL_S, pvSs_length, pvEs, List.length_map, σset_obj, pvB, sMk7W_27, reduceIte, Nat.reduceEqDiff, Nat.reduceAdd, Nat.reduceSub, Nat.reduceMul, Nat.reduceLT, Nat.reduceLeDiff, Nat.reduceBEq, reduceCtorEq, Int.reduceAdd, Int.reduceSub, Int.reduceMul, Int.reduceLT, Int.reduceLE, Int.reduceEq, Int.reduceToNat, Int.reduceNeg, Nat.reduceBNe, Int.reduceBEq, Int.reduceBNe, Int.reduceGT, Int.reduceGE, Int.reduceTMod, forall_const, eq_self, decide_true, decide_false, w_loop, c1, hz, hlab, z1, z3, z4, z5, z6, z7, hil]
                  refine ihL nl il σ1 _ h1 (by omega) (by omega) ⟨kv, ka, ks, lp, held, labels, stmts, c1, l1, b0.1, by omega, b0.2.2.1, b0.2.2.2⟩ fun l σ2 gl h2 o2 => ?_
                  simp (config := { maxSteps := 4000000 }) (disch := omega) only [pvE_q, pvS_q, vi, vs, vb', vp, wrap_ok, cast_0, notL_E, notL_S, pvSs_length, pvEs, List.length_map, σset_obj, pvB, sMk7W_27, reduceIte, Nat.reduceEqDiff, Nat.reduceAdd, Nat.reduceSub, Nat.reduceMul, Nat.reduceLT, Nat.reduceLeDiff, Nat.reduceBEq, reduceCtorEq, Int.reduceAdd, Int.reduceSub, Int.reduceMul, Int.reduceLT, Int.reduceLE, Int.reduceEq, Int.reduceToNat, Int.reduceNeg, Nat.reduceBNe, Int.reduceBEq, Int.reduceBNe, Int.reduceGT, Int.reduceGE, Int.reduceTMod, forall_const, eq_self, decide_true, decide_false, w_loop]
                  refine ⟨_, .refl _, ?_⟩
                  have := hK l σ2 gl h2 (t1.own.trans o2)
                  simp only [Res.forget, forget, forgets, pvE, pvEs, pvS, pvSs, vi, vs, forgets_Es, forgets_Ss, forget_E, forgets_append, pvSs_append] at this ⊢
                  exact this
                · simp (config := { maxSteps := 4000000 }) (disch := omega) only [pvE_q, pvS_q, vi, vs, vb', vp, wrap_ok, cast_0, notL_E, notL_S, pvSs_length, pvEs, List.length_map, σset_obj, pvB, sMk7W_27, reduceIte, Nat.reduceEqDiff, Nat.reduceAdd, Nat.reduceSub, Nat.reduceMul, Nat.reduceLT, Nat.reduceLeDiff, Nat.reduceBEq, reduceCtorEq, Int.reduceAdd, Int.reduceSub, Int.reduceMul, Int.reduceLT, Int.reduceLE, Int.reduceEq, Int.reduceToNat, Int.reduceNeg, Nat.reduceBNe, Int.reduceBEq, Int.reduceBNe, Int.reduceGT, Int.reduceGE, Int.reduceTMod, forall_const, eq_self, decide_true, decide_false, w_loop, c1, hz, hlab, z1, z3, z4, z5, z6, z7, hil]
                  refine target_c h1 _ fun tv σ2 t2 => ?_
                  have h2 := h1.took t2
                  have c2 := t2.frame.obj m _ h.md c1
                  simp (config := { maxSteps := 4000000 }) (disch := omega) only [pvE_q, pvS_q, vi, vs, vb', vp, wrap_ok, cast_0, notL_E, notL_S, pvSs_length, pvEs, List.length_map, σset_obj, pvB, sMk7W_27, reduceIte, Nat.reduceEqDiff, Nat.reduceAdd, Nat.reduceSub, Nat.reduceMul, Nat.reduceLT, Nat.reduceLeDiff, Nat.reduceBEq, reduceCtorEq, Int.reduceAdd, Int.reduceSub, Int.reduceMul, Int.reduceLT, Int.reduceLE, Int.reduceEq, Int.reduceToNat, Int.reduceNeg, Nat.reduceBNe, Int.reduceBEq, Int.reduceBNe, Int.reduceGT, Int.reduceGE, Int.reduceTMod, forall_const, eq_self, decide_true, decide_false, w_loop, c2]
                  refine expr_c σ0 d m L V A Sx nl il 2 (by omega) σ2 _ h2 fun e σ3 ge t3 => ?_
                  have fe := forget_E e
                  obtain ⟨ek, en, es, eo, el⟩ := e
                  simp only [pvE_q, vi, vs] at fe
                  simp (config := { maxSteps := 4000000 }) (disch := omega) only [pvE_q, pvS_q, vi, vs, vb', vp, wrap_ok, cast_0, notL_E, notL_S, pvSs_length, pvEs, List.length_map, σset_obj, pvB, sMk7W_27, reduceIte, Nat.reduceEqDiff, Nat.reduceAdd, Nat.reduceSub, Nat.reduceMul, Nat.reduceLT, Nat.reduceLeDiff, Nat.reduceBEq, reduceCtorEq, Int.reduceAdd, Int.reduceSub, Int.reduceMul, Int.reduceLT, Int.reduceLE, Int.reduceEq, Int.reduceToNat, Int.reduceNeg, Nat.reduceBNe, Int.reduceBEq, Int.reduceBNe, Int.reduceGT, Int.reduceGE, Int.reduceTMod, forall_const, eq_self, decide_true, decide_false, w_loop, fe]
                  refine ⟨_, .refl _, ?_⟩
                  have := hK [.mk 1 tv [] [.mk ek en es eo el] 0 0 [] []] σ3 (by
                    have q4 := ge.d
                    have q5 := ge.w
                    have q6 := Zb_pos (D + 1)
                    rw [WE_2] at q5
                    refine ⟨by simp, ?_, ?_, ?_⟩
                    · simp only [dSs, dS]; omega
                    · simp only [xSs, xS, dEs]; omega
                    · simp only [zSs, zS, wEs]; omega) (h2.took t3) (t1.own.trans (t2.own.trans t3.own))
                  simp only [Res.forget, forget, forgets, pvE, pvEs, pvS, pvSs, vi, vs, forgets_Es, forgets_Ss, forget_E, forgets_append, pvSs_append] at this ⊢
                  exact this
            · have gg := trivial
              by_cases hil : il < 2
              · simp (config := { maxSteps := 4000000 }) (disch := omega) only [pvE_q, pvS_q, vi, vs, vb', vp, wrap_ok, cast_0, notL_E, notL_S, pvSs_length, pvEs, List.length_map, σset_obj, pvB, sMk7W_27, reduceIte, Nat.reduceEqDiff, Nat.reduceAdd, Nat.reduceSub, Nat.reduceMul, Nat.reduceLT, Nat.reduceLeDiff, Nat.reduceBEq, reduceCtorEq, Int.reduceAdd, Int.reduceSub, Int.reduceMul, Int.reduceLT, Int.reduceLE, Int.reduceEq, Int.reduceToNat, Int.reduceNeg, Nat.reduceBNe, Int.reduceBEq, Int.reduceBNe, Int.reduceGT, Int.reduceGE, Int.reduceTMod, forall_const, eq_self, decide_true, decide_false, w_loop, c1, hz, hlab, z1, z3, z4, z5, z6, hil]
                refine ihL nl il σ1 _ h1 (by omega) (by omega) ⟨kv, ka, ks, lp, held, labels, stmts, c1, l1, b0.1, by omega, b0.2.2.1, b0.2.2.2⟩ fun l σ2 gl h2 o2 => ?_
                simp (config := { maxSteps := 4000000 }) (disch := omega) only [pvE_q, pvS_q, vi, vs, vb', vp, wrap_ok, cast_0, notL_E, notL_S, pvSs_length, pvEs, List.length_map, σset_obj, pvB, sMk7W_27, reduceIte, Nat.reduceEqDiff, Nat.reduceAdd, Nat.reduceSub, Nat.reduceMul, Nat.reduceLT, Nat.reduceLeDiff, Nat.reduceBEq, reduceCtorEq, Int.reduceAdd, Int.reduceSub, Int.reduceMul, Int.reduceLT, Int.reduceLE, Int.reduceEq, Int.reduceToNat, Int.reduceNeg, Nat.reduceBNe, Int.reduceBEq, Int.reduceBNe, Int.reduceGT, Int.reduceGE, Int.reduceTMod, forall_const, eq_self, decide_true, decide_false, w_loop]
                refine ⟨_, .refl _, ?_⟩
                have := hK l σ2 gl h2 (t1.own.trans o2)
                simp only [Res.forget, forget, forgets, pvE, pvEs, pvS, pvSs, vi, vs, forgets_Es, forgets_Ss, forget_E, forgets_append, pvSs_append] at this ⊢
                exact this
              · simp (config := { maxSteps := 4000000 }) (disch := omega) only [pvE_q, pvS_q, vi, vs, vb', vp, wrap_ok, cast_0, notL_E, notL_S, pvSs_length, pvEs, List.length_map, σset_obj, pvB, sMk7W_27, reduceIte, Nat.reduceEqDiff, Nat.reduceAdd, Nat.reduceSub, Nat.reduceMul, Nat.reduceLT, Nat.reduceLeDiff, Nat.reduceBEq, reduceCtorEq, Int.reduceAdd, Int.reduceSub, Int.reduceMul, Int.reduceLT, Int.reduceLE, Int.reduceEq, Int.reduceToNat, Int.reduceNeg, Nat.reduceBNe, Int.reduceBEq, Int.reduceBNe, Int.reduceGT, Int.reduceGE, Int.reduceTMod, forall_const, eq_self, decide_true, decide_false, w_loop, c1, hz, hlab, z1, z3, z4, z5, z6, hil]
                refine target_c h1 _ fun tv σ2 t2 => ?_
                have h2 := h1.took t2
                have c2 := t2.frame.obj m _ h.md c1
                simp (config := { maxSteps := 4000000 }) (disch := omega) only [pvE_q, pvS_q, vi, vs, vb', vp, wrap_ok, cast_0, notL_E, notL_S, pvSs_length, pvEs, List.length_map, σset_obj, pvB, sMk7W_27, reduceIte, Nat.reduceEqDiff, Nat.reduceAdd, Nat.reduceSub, Nat.reduceMul, Nat.reduceLT, Nat.reduceLeDiff, Nat.reduceBEq, reduceCtorEq, Int.reduceAdd, Int.reduceSub, Int.reduceMul, Int.reduceLT, Int.reduceLE, Int.reduceEq, Int.reduceToNat, Int.reduceNeg, Nat.reduceBNe, Int.reduceBEq, Int.reduceBNe, Int.reduceGT, Int.reduceGE, Int.reduceTMod, forall_const, eq_self, decide_true, decide_false, w_loop, c2]
                refine expr_c σ0 d m L V A Sx nl il 2 (by omega) σ2 _ h2 fun e σ3 ge t3 => ?_
                have fe := forget_E e
                obtain ⟨ek, en, es, eo, el⟩ := e
                simp only [pvE_q, vi, vs] at fe
                simp (config := { maxSteps := 4000000 }) (disch := omega) only [pvE_q, pvS_q, vi, vs, vb', vp, wrap_ok, cast_0, notL_E, notL_S, pvSs_length, pvEs, List.length_map, σset_obj, pvB, sMk7W_27, reduceIte, Nat.reduceEqDiff, Nat.reduceAdd, Nat.reduceSub, Nat.reduceMul, Nat.reduceLT, Nat.reduceLeDiff, Nat.reduceBEq, reduceCtorEq, Int.reduceAdd, Int.reduceSub, Int.reduceMul, Int.reduceLT, Int.reduceLE, Int.reduceEq, Int.reduceToNat, Int.reduceNeg, Nat.reduceBNe, Int.reduceBEq, Int.reduceBNe, Int.reduceGT, Int.reduceGE, Int.reduceTMod, forall_const, eq_self, decide_true, decide_false, w_loop, fe]
                refine ⟨_, .refl _, ?_⟩
                have := hK [.mk 1 tv [] [.mk ek en es eo el] 0 0 [] []] σ3 (by
                  have q4 := ge.d
                  have q5 := ge.w
                  have q6 := Zb_pos (D + 1)
                  rw [WE_2] at q5
                  refine ⟨by simp, ?_, ?_, ?_⟩
                  · simp only [dSs, dS]; omega
                  · simp only [xSs, xS, dEs]; omega
                  · simp only [zSs, zS, wEs]; omega) (h2.took t3) (t1.own.trans (t2.own.trans t3.own))
                simp only [Res.forget, forget, forgets, pvE, pvEs, pvS, pvSs, vi, vs, forgets_Es, forgets_Ss, forget_E, forgets_append, pvSs_append] at this ⊢
                exact this
          · have gg := trivial
            have w2 := h1.write (nl' := nl) (il' := il) (kv := kv) (ka := ka) (ks := ks) (lp := lp) (held := held) (labels := labels + 1) (stmts := stmts) h.hi h.hl (l1.frame (Frame.set _ _ (.inr rfl))) (by omega) (by omega)
            have o2 : OwnLe σ1 _ := own_set σ1 m (.cells (mkCells d kv V lp ka A ks Sx held (labels + 1) stmts il))
            have c2 := set_get σ1 m (.cells (mkCells d kv V lp ka A ks Sx held (labels + 1) stmts il))
            unfold mkCells at w2 o2 c2
            simp only [vi, vs, vp] at w2 o2 c2
            simp (config := { maxSteps := 4000000 }) (disch := omega) only [pvE_q, pvS_q, vi, vs, vb', vp, wrap_ok, cast_0, notL_E, notL_S, pvSs_length, pvEs, List.length_map, σset_obj, pvB, sMk7W_27, reduceIte, Nat.reduceEqDiff, Nat.reduceAdd, Nat.reduceSub, Nat.reduceMul, Nat.reduceLT, Nat.reduceLeDiff, Nat.reduceBEq, reduceCtorEq, Int.reduceAdd, Int.reduceSub, Int.reduceMul, Int.reduceLT, Int.reduceLE, Int.reduceEq, Int.reduceToNat, Int.reduceNeg, Nat.reduceBNe, Int.reduceBEq, Int.reduceBNe, Int.reduceGT, Int.reduceGE, Int.reduceTMod, forall_const, eq_self, decide_true, decide_false, w_loop, c1, hz, hlab, z1, z3, z4, z5]
            generalize σ1.set m _ = σ2 at w2 o2 c2 ⊢
            refine condition_c w2 _ fun e σ3 ge t3 => ?_
            have h3 := w2.took t3
            have c3 := t3.frame.obj m _ h.md c2
            have fe := forget_E e
            obtain ⟨ek, en, es, eo, el⟩ := e
            simp only [pvE_q, vi, vs] at fe
            simp (config := { maxSteps := 4000000 }) (disch := omega) only [pvE_q, pvS_q, vi, vs, vb', vp, wrap_ok, cast_0, notL_E, notL_S, pvSs_length, pvEs, List.length_map, σset_obj, pvB, sMk7W_27, reduceIte, Nat.reduceEqDiff, Nat.reduceAdd, Nat.reduceSub, Nat.reduceMul, Nat.reduceLT, Nat.reduceLeDiff, Nat.reduceBEq, reduceCtorEq, Int.reduceAdd, Int.reduceSub, Int.reduceMul, Int.reduceLT, Int.reduceLE, Int.reduceEq, Int.reduceToNat, Int.reduceNeg, Nat.reduceBNe, Int.reduceBEq, Int.reduceBNe, Int.reduceGT, Int.reduceGE, Int.reduceTMod, forall_const, eq_self, decide_true, decide_false, w_loop, fe, c3, hp]
            refine ihB nl il 2 σ3 _ h3 (by omega) (by omega) (by omega) fun l1 k1 σ4 g1 h4 m4 => ?_
            obtain ⟨kv2, ka2, ks2, lp2', held2, labels2, stmts2, c9, l9, b9⟩ := h4.own
            unfold mkCells at c9
            simp only [vi, vs, vp] at c9
            simp (config := { maxSteps := 4000000 }) (disch := omega) only [pvE_q, pvS_q, vi, vs, vb', vp, wrap_ok, cast_0, notL_E, notL_S, pvSs_length, pvEs, List.length_map, σset_obj, pvB, sMk7W_27, reduceIte, Nat.reduceEqDiff, Nat.reduceAdd, Nat.reduceSub, Nat.reduceMul, Nat.reduceLT, Nat.reduceLeDiff, Nat.reduceBEq, reduceCtorEq, Int.reduceAdd, Int.reduceSub, Int.reduceMul, Int.reduceLT, Int.reduceLE, Int.reduceEq, Int.reduceToNat, Int.reduceNeg, Nat.reduceBNe, Int.reduceBEq, Int.reduceBNe, Int.reduceGT, Int.reduceGE, Int.reduceTMod, forall_const, eq_self, decide_true, decide_false, w_loop, c9]
            refine next_c d L 2 σ4 h4.deck h.hL (by omega) _ fun u σ5 u0 u1 t5 => ?_
            have h5 := h4.took t5
            cases u2 : (u == 1)
            · simp (config := { maxSteps := 4000000 }) (disch := omega) only [pvE_q, pvS_q, vi, vs, vb', vp, wrap_ok, cast_0, notL_E, notL_S, pvSs_length, pvEs, List.length_map, σset_obj, pvB, sMk7W_27, reduceIte, Nat.reduceEqDiff, Nat.reduceAdd, Nat.reduceSub, Nat.reduceMul, Nat.reduceLT, Nat.reduceLeDiff, Nat.reduceBEq, reduceCtorEq, Int.reduceAdd, Int.reduceSub, Int.reduceMul, Int.reduceLT, Int.reduceLE, Int.reduceEq, Int.reduceToNat, Int.reduceNeg, Nat.reduceBNe, Int.reduceBEq, Int.reduceBNe, Int.reduceGT, Int.reduceGE, Int.reduceTMod, forall_const, eq_self, decide_true, decide_false, w_loop, u2]
              refine ⟨_, .refl _, ?_⟩
              have := hK [.mk 3 ⟨#[]⟩ [] [.mk ek en es eo el] 0 (labels + 1) l1 []] σ5 (by
                have q1 := g1.d
                have q2 := g1.x
                have q3 := g1.z
                have q4 := ge.d
                have q5 := ge.w
                have q6 := Zb_pos D
                rw [WE_2] at q5
                refine ⟨by simp, ?_, ?_, ?_⟩
                · simp only [dSs, dS]; omega
                · simp only [xSs, xS, dEs]; omega
                · simp only [zSs, zS, wEs, Zb]; omega) h5 (t1.own.trans (o2.trans (t3.own.trans (m4.le.trans t5.own))))
              simp only [Res.forget, forget, forgets, pvE, pvEs, pvS, pvSs, vi, vs, forgets_Es, forgets_Ss, forget_E, forgets_append, pvSs_append] at this ⊢
              exact this
            · simp (config := { maxSteps := 4000000 }) (disch := omega) only [pvE_q, pvS_q, vi, vs, vb', vp, wrap_ok, cast_0, notL_E, notL_S, pvSs_length, pvEs, List.length_map, σset_obj, pvB, sMk7W_27, reduceIte, Nat.reduceEqDiff, Nat.reduceAdd, Nat.reduceSub, Nat.reduceMul, Nat.reduceLT, Nat.reduceLeDiff, Nat.reduceBEq, reduceCtorEq, Int.reduceAdd, Int.reduceSub, Int.reduceMul, Int.reduceLT, Int.reduceLE, Int.reduceEq, Int.reduceToNat, Int.reduceNeg, Nat.reduceBNe, Int.reduceBEq, Int.reduceBNe, Int.reduceGT, Int.reduceGE, Int.reduceTMod, forall_const, eq_self, decide_true, decide_false, w_loop, u2, hp]
              refine ihB nl il 2 σ5 _ h5 (by omega) (by omega) (by omega) fun l2 k2 σ6 g2 h6 m6 => ?_
              simp (config := { maxSteps := 4000000 }) (disch := omega) only [pvE_q, pvS_q, vi, vs, vb', vp, wrap_ok, cast_0, notL_E, notL_S, pvSs_length, pvEs, List.length_map, σset_obj, pvB, sMk7W_27, reduceIte, Nat.reduceEqDiff, Nat.reduceAdd, Nat.reduceSub, Nat.reduceMul, Nat.reduceLT, Nat.reduceLeDiff, Nat.reduceBEq, reduceCtorEq, Int.reduceAdd, Int.reduceSub, Int.reduceMul, Int.reduceLT, Int.reduceLE, Int.reduceEq, Int.reduceToNat, Int.reduceNeg, Nat.reduceBNe, Int.reduceBEq, Int.reduceBNe, Int.reduceGT, Int.reduceGE, Int.reduceTMod, forall_const, eq_self, decide_true, decide_false, w_loop]
              refine ⟨_, .refl _, ?_⟩
              have := hK [.mk 3 ⟨#[]⟩ [] [.mk ek en es eo el] 0 (labels + 1) l1 l2] σ6 (by
                have q1 := g1.d
                have q2 := g1.x
                have q3 := g1.z
                have q4 := ge.d
                have q5 := ge.w
                have q6 := Zb_pos D
                have q7 := g2.d
                have q8 := g2.x
                have q9 := g2.z
                rw [WE_2] at q5
                refine ⟨by simp, ?_, ?_, ?_⟩
                · simp only [dSs, dS]; omega
                · simp only [xSs, xS, dEs]; omega
                · simp only [zSs, zS, wEs, Zb]; omega) h6 (t1.own.trans (o2.trans (t3.own.trans (m4.le.trans (t5.own.trans m6.le)))))
              simp only [Res.forget, forget, forgets, pvE, pvEs, pvS, pvSs, vi, vs, forgets_Es, forgets_Ss, forget_E, forgets_append, pvSs_append] at this ⊢
              exact this
        · have gg := trivial
          have w2 := h1.write (nl' := nl) (il' := il) (kv := kv) (ka := ka) (ks := ks) (lp := lp) (held := held) (labels := labels + 1) (stmts := stmts) h.hi h.hl (l1.frame (Frame.set _ _ (.inr rfl))) (by omega) (by omega)
          have o2 : OwnLe σ1 _ := own_set σ1 m (.cells (mkCells d kv V lp ka A ks Sx held (labels + 1) stmts il))
          have c2 := set_get σ1 m (.cells (mkCells d kv V lp ka A ks Sx held (labels + 1) stmts il))
          unfold mkCells at w2 o2 c2
          simp only [vi, vs, vp] at w2 o2 c2
          simp (config := { maxSteps := 4000000 }) (disch := omega) only [pvE_q, pvS_q, vi, vs, vb', vp, wrap_ok, cast_0, notL_E, notL_S, pvSs_length, pvEs, List.length_map, σset_obj, pvB, sMk7W_27, reduceIte, Nat.reduceEqDiff, Nat.reduceAdd, Nat.reduceSub, Nat.reduceMul, Nat.reduceLT, Nat.reduceLeDiff, Nat.reduceBEq, reduceCtorEq, Int.reduceAdd, Int.reduceSub, Int.reduceMul, Int.reduceLT, Int.reduceLE, Int.reduceEq, Int.reduceToNat, Int.reduceNeg, Nat.reduceBNe, Int.reduceBEq, Int.reduceBNe, Int.reduceGT, Int.reduceGE, Int.reduceTMod, forall_const, eq_self, decide_true, decide_false, w_loop, c1, hz, hlab, z1, z3, z4]
          generalize σ1.set m _ = σ2 at w2 o2 c2 ⊢
          refine condition_c w2 _ fun e σ3 ge t3 => ?_
          have h3 := w2.took t3
          have c3 := t3.frame.obj m _ h.md c2
          have fe := forget_E e
          obtain ⟨ek, en, es, eo, el⟩ := e
          simp only [pvE_q, vi, vs] at fe
          simp (config := { maxSteps := 4000000 }) (disch := omega) only [pvE_q, pvS_q, vi, vs, vb', vp, wrap_ok, cast_0, notL_E, notL_S, pvSs_length, pvEs, List.length_map, σset_obj, pvB, sMk7W_27, reduceIte, Nat.reduceEqDiff, Nat.reduceAdd, Nat.reduceSub, Nat.reduceMul, Nat.reduceLT, Nat.reduceLeDiff, Nat.reduceBEq, reduceCtorEq, Int.reduceAdd, Int.reduceSub, Int.reduceMul, Int.reduceLT, Int.reduceLE, Int.reduceEq, Int.reduceToNat, Int.reduceNeg, Nat.reduceBNe, Int.reduceBEq, Int.reduceBNe, Int.reduceGT, Int.reduceGE, Int.reduceTMod, forall_const, eq_self, decide_true, decide_false, w_loop, fe, c3, hp]
          refine ihB nl il 2 σ3 _ h3 (by omega) (by omega) (by omega) fun l1 k1 σ4 g1 h4 m4 => ?_
          obtain ⟨kv2, ka2, ks2, lp2', held2, labels2, stmts2, c9, l9, b9⟩ := h4.own
          unfold mkCells at c9
          simp only [vi, vs, vp] at c9
          simp (config := { maxSteps := 4000000 }) (disch := omega) only [pvE_q, pvS_q, vi, vs, vb', vp, wrap_ok, cast_0, notL_E, notL_S, pvSs_length, pvEs, List.length_map, σset_obj, pvB, sMk7W_27, reduceIte, Nat.reduceEqDiff, Nat.reduceAdd, Nat.reduceSub, Nat.reduceMul, Nat.reduceLT, Nat.reduceLeDiff, Nat.reduceBEq, reduceCtorEq, Int.reduceAdd, Int.reduceSub, Int.reduceMul, Int.reduceLT, Int.reduceLE, Int.reduceEq, Int.reduceToNat, Int.reduceNeg, Nat.reduceBNe, Int.reduceBEq, Int.reduceBNe, Int.reduceGT, Int.reduceGE, Int.reduceTMod, forall_const, eq_self, decide_true, decide_false, w_loop, c9]
          refine next_c d L 2 σ4 h4.deck h.hL (by omega) _ fun u σ5 u0 u1 t5 => ?_
          have h5 := h4.took t5
          cases u2 : (u == 1)
          · simp (config := { maxSteps := 4000000 }) (disch := omega) only [pvE_q, pvS_q, vi, vs, vb', vp, wrap_ok, cast_0, notL_E, notL_S, pvSs_length, pvEs, List.length_map, σset_obj, pvB, sMk7W_27, reduceIte, Nat.reduceEqDiff, Nat.reduceAdd, Nat.reduceSub, Nat.reduceMul, Nat.reduceLT, Nat.reduceLeDiff, Nat.reduceBEq, reduceCtorEq, Int.reduceAdd, Int.reduceSub, Int.reduceMul, Int.reduceLT, Int.reduceLE, Int.reduceEq, Int.reduceToNat, Int.reduceNeg, Nat.reduceBNe, Int.reduceBEq, Int.reduceBNe, Int.reduceGT, Int.reduceGE, Int.reduceTMod, forall_const, eq_self, decide_true, decide_false, w_loop, u2]
            refine ⟨_, .refl _, ?_⟩
            have := hK [.mk 3 ⟨#[]⟩ [] [.mk ek en es eo el] 0 (labels + 1) l1 []] σ5 (by
              have q1 := g1.d
              have q2 := g1.x
              have q3 := g1.z
              have q4 := ge.d
              have q5 := ge.w
              have q6 := Zb_pos D
              rw [WE_2] at q5
              refine ⟨by simp, ?_, ?_, ?_⟩
              · simp only [dSs, dS]; omega
              · simp only [xSs, xS, dEs]; omega
              · simp only [zSs, zS, wEs, Zb]; omega) h5 (t1.own.trans (o2.trans (t3.own.trans (m4.le.trans t5.own))))
            simp only [Res.forget, forget, forgets, pvE, pvEs, pvS, pvSs, vi, vs, forgets_Es, forgets_Ss, forget_E, forgets_append, pvSs_append] at this ⊢
            exact this
          · simp (config := { maxSteps := 4000000 }) (disch := omega) only [pvE_q, pvS_q, vi, vs, vb', vp, wrap_ok, cast_0, notL_E, notL_S, pvSs_length, pvEs, List.length_map, σset_obj, pvB, sMk7W_27, reduceIte, Nat.reduceEqDiff, Nat.reduceAdd, Nat.reduceSub, Nat.reduceMul, Nat.reduceLT, Nat.reduceLeDiff, Nat.reduceBEq, reduceCtorEq, Int.reduceAdd, Int.reduceSub, Int.reduceMul, Int.reduceLT, Int.reduceLE, Int.reduceEq, Int.reduceToNat, Int.reduceNeg, Nat.reduceBNe, Int.reduceBEq, Int.reduceBNe, Int.reduceGT, Int.reduceGE, Int.reduceTMod, forall_const, eq_self, decide_true, decide_false, w_loop, u2, hp]
            refine ihB nl il 2 σ5 _ h5 (by omega) (by omega) (by omega) fun l2 k2 σ6 g2 h6 m6 => ?_
            simp (config := { maxSteps := 4000000 }) (disch := omega) only [pvE_q, pvS_q, vi, vs, vb', vp, wrap_ok, cast_0, notL_E, notL_S, pvSs_length, pvEs, List.length_map, σset_obj, pvB, sMk7W_27, reduceIte, Nat.reduceEqDiff, Nat.reduceAdd, Nat.reduceSub, Nat.reduceMul, Nat.reduceLT, Nat.reduceLeDiff, Nat.reduceBEq, reduceCtorEq, Int.reduceAdd, Int.reduceSub, Int.reduceMul, Int.reduceLT, Int.reduceLE, Int.reduceEq, Int.reduceToNat, Int.reduceNeg, Nat.reduceBNe, Int.reduceBEq, Int.reduceBNe, Int.reduceGT, Int.reduceGE, Int.reduceTMod, forall_const, eq_self, decide_true, decide_false, w_loop]
            refine ⟨_, .refl _, ?_⟩
            have := hK [.mk 3 ⟨#[]⟩ [] [.mk ek en es eo el] 0 (labels + 1) l1 l2] σ6 (by
              have q1 := g1.d
              have q2 := g1.x
              have q3 := g1.z
              have q4 := ge.d
              have q5 := ge.w
              have q6 := Zb_pos D
              have q7 := g2.d
              have q8 := g2.x
              have q9 := g2.z
              rw [WE_2] at q5
              refine ⟨by simp, ?_, ?_, ?_⟩
              · simp only [dSs, dS]; omega
              · simp only [xSs, xS, dEs]; omega
              · simp only [zSs, zS, wEs, Zb]; omega) h6 (t1.own.trans (o2.trans (t3.own.trans (m4.le.trans (t5.own.trans m6.le)))))
            simp only [Res.forget, forget, forgets, pvE, pvEs, pvS, pvSs, vi, vs, forgets_Es, forgets_Ss, forget_E, forgets_append, pvSs_append] at this ⊢
            exact this
      · have gg := trivial
        have w2 := h1.write (nl' := nl) (il' := il) (kv := kv) (ka := ka) (ks := ks) (lp := lp) (held := held) (labels := labels + 1) (stmts := stmts) h.hi h.hl (l1.frame (Frame.set _ _ (.inr rfl))) (by omega) (by omega)
        have o2 : OwnLe σ1 _ := own_set σ1 m (.cells (mkCells d kv V lp ka A ks Sx held (labels + 1) stmts il))
        have c2 := set_get σ1 m (.cells (mkCells d kv V lp ka A ks Sx held (labels + 1) stmts il))
        unfold mkCells at w2 o2 c2
        simp only [vi, vs, vp] at w2 o2 c2
        simp (config := { maxSteps := 4000000 }) (disch := omega) only [pvE_q, pvS_q, vi, vs, vb', vp, wrap_ok, cast_0, notL_E, notL_S, pvSs_length, pvEs, List.length_map, σset_obj, pvB, sMk7W_27, reduceIte, Nat.reduceEqDiff, Nat.reduceAdd, Nat.reduceSub, Nat.reduceMul, Nat.reduceLT, Nat.reduceLeDiff, Nat.reduceBEq, reduceCtorEq, Int.reduceAdd, Int.reduceSub, Int.reduceMul, Int.reduceLT, Int.reduceLE, Int.reduceEq, Int.reduceToNat, Int.reduceNeg, Nat.reduceBNe, Int.reduceBEq, Int.reduceBNe, Int.reduceGT, Int.reduceGE, Int.reduceTMod, forall_const, eq_self, decide_true, decide_false, w_loop, c1, hz, hlab, z1, z3]
        generalize σ1.set m _ = σ2 at w2 o2 c2 ⊢
        refine condition_c w2 _ fun e σ3 ge t3 => ?_
        have h3 := w2.took t3
        have c3 := t3.frame.obj m _ h.md c2
        have fe := forget_E e
        obtain ⟨ek, en, es, eo, el⟩ := e
        simp only [pvE_q, vi, vs] at fe
        simp (config := { maxSteps := 4000000 }) (disch := omega) only [pvE_q, pvS_q, vi, vs, vb', vp, wrap_ok, cast_0, notL_E, notL_S, pvSs_length, pvEs, List.length_map, σset_obj, pvB, sMk7W_27, reduceIte, Nat.reduceEqDiff, Nat.reduceAdd, Nat.reduceSub, Nat.reduceMul, Nat.reduceLT, Nat.reduceLeDiff, Nat.reduceBEq, reduceCtorEq, Int.reduceAdd, Int.reduceSub, Int.reduceMul, Int.reduceLT, Int.reduceLE, Int.reduceEq, Int.reduceToNat, Int.reduceNeg, Nat.reduceBNe, Int.reduceBEq, Int.reduceBNe, Int.reduceGT, Int.reduceGE, Int.reduceTMod, forall_const, eq_self, decide_true, decide_false, w_loop, fe, c3, hp]
        refine ihB nl il 2 σ3 _ h3 (by omega) (by omega) (by omega) fun l1 k1 σ4 g1 h4 m4 => ?_
        obtain ⟨kv2, ka2, ks2, lp2', held2, labels2, stmts2, c9, l9, b9⟩ := h4.own
        unfold mkCells at c9
        simp only [vi, vs, vp] at c9
        simp (config := { maxSteps := 4000000 }) (disch := omega) only [pvE_q, pvS_q, vi, vs, vb', vp, wrap_ok, cast_0, notL_E, notL_S, pvSs_length, pvEs, List.length_map, σset_obj, pvB, sMk7W_27, reduceIte, Nat.reduceEqDiff, Nat.reduceAdd, Nat.reduceSub, Nat.reduceMul, Nat.reduceLT, Nat.reduceLeDiff, Nat.reduceBEq, reduceCtorEq, Int.reduceAdd, Int.reduceSub, Int.reduceMul, Int.reduceLT, Int.reduceLE, Int.reduceEq, Int.reduceToNat, Int.reduceNeg, Nat.reduceBNe, Int.reduceBEq, Int.reduceBNe, Int.reduceGT, Int.reduceGE, Int.reduceTMod, forall_const, eq_self, decide_true, decide_false, w_loop, c9]
        refine next_c d L 2 σ4 h4.deck h.hL (by omega) _ fun u σ5 u0 u1 t5 => ?_
        have h5 := h4.took t5
        cases u2 : (u == 1)
        · simp (config := { maxSteps := 4000000 }) (disch := omega) only [pvE_q, pvS_q, vi, vs, vb', vp, wrap_ok, cast_0, notL_E, notL_S, pvSs_length, pvEs, List.length_map, σset_obj, pvB, sMk7W_27, reduceIte, Nat.reduceEqDiff, Nat.reduceAdd, Nat.reduceSub, Nat.reduceMul, Nat.reduceLT, Nat.reduceLeDiff, Nat.reduceBEq, reduceCtorEq, Int.reduceAdd, Int.reduceSub, Int.reduceMul, Int.reduceLT, Int.reduceLE, Int.reduceEq, Int.reduceToNat, Int.reduceNeg, Nat.reduceBNe, Int.reduceBEq, Int.reduceBNe, Int.reduceGT, Int.reduceGE, Int.reduceTMod, forall_const, eq_self, decide_true, decide_false, w_loop, u2]
          refine ⟨_, .refl _, ?_⟩
          have := hK [.mk 3 ⟨#[]⟩ [] [.mk ek en es eo el] 0 (labels + 1) l1 []] σ5 (by
            have q1 := g1.d
            have q2 := g1.x
            have q3 := g1.z
            have q4 := ge.d
            have q5 := ge.w
            have q6 := Zb_pos D
            rw [WE_2] at q5
            refine ⟨by simp, ?_, ?_, ?_⟩
            · simp only [dSs, dS]; omega
            · simp only [xSs, xS, dEs]; omega
            · simp only [zSs, zS, wEs, Zb]; omega) h5 (t1.own.trans (o2.trans (t3.own.trans (m4.le.trans t5.own))))
          simp only [Res.forget, forget, forgets, pvE, pvEs, pvS, pvSs, vi, vs, forgets_Es, forgets_Ss, forget_E, forgets_append, pvSs_append] at this ⊢
          exact this
        · simp (config := { maxSteps := 4000000 }) (disch := omega) only [pvE_q, pvS_q, vi, vs, vb', vp, wrap_ok, cast_0, notL_E, notL_S, pvSs_length, pvEs, List.length_map, σset_obj, pvB, sMk7W_27, reduceIte, Nat.reduceEqDiff, Nat.reduceAdd, Nat.reduceSub, Nat.reduceMul, Nat.reduceLT, Nat.reduceLeDiff, Nat.reduceBEq, reduceCtorEq, Int.reduceAdd, Int.reduceSub, Int.reduceMul, Int.reduceLT, Int.reduceLE, Int.reduceEq, Int.reduceToNat, Int.reduceNeg, Nat.reduceBNe, Int.reduceBEq, Int.reduceBNe, Int.reduceGT, Int.reduceGE, Int.reduceTMod, forall_const, eq_self, decide_true, decide_false, w_loop, u2, hp]
          refine ihB nl il 2 σ5 _ h5 (by omega) (by omega) (by omega) fun l2 k2 σ6 g2 h6 m6 => ?_
          simp (config := { maxSteps := 4000000 }) (disch := omega) only [pvE_q, pvS_q, vi, vs, vb', vp, wrap_ok, cast_0, notL_E, notL_S, pvSs_length, pvEs, List.length_map, σset_obj, pvB, sMk7W_27, reduceIte, Nat.reduceEqDiff, Nat.reduceAdd, Nat.reduceSub, Nat.reduceMul, Nat.reduceLT, Nat.reduceLeDiff, Nat.reduceBEq, reduceCtorEq, Int.reduceAdd, Int.reduceSub, Int.reduceMul, Int.reduceLT, Int.reduceLE, Int.reduceEq, Int.reduceToNat, Int.reduceNeg, Nat.reduceBNe, Int.reduceBEq, Int.reduceBNe, Int.reduceGT, Int.reduceGE, Int.reduceTMod, forall_const, eq_self, decide_true, decide_false, w_loop]
          refine ⟨_, .refl _, ?_⟩
          have := hK [.mk 3 ⟨#[]⟩ [] [.mk ek en es eo el] 0 (labels + 1) l1 l2] σ6 (by
            have q1 := g1.d
            have q2 := g1.x
            have q3 := g1.z
            have q4 := ge.d
            have q5 := ge.w
            have q6 := Zb_pos D
            have q7 := g2.d
            have q8 := g2.x
            have q9 := g2.z
            rw [WE_2] at q5
            refine ⟨by simp, ?_, ?_, ?_⟩
            · simp only [dSs, dS]; omega
            · simp only [xSs, xS, dEs]; omega
            · simp only [zSs, zS, wEs, Zb]; omega) h6 (t1.own.trans (o2.trans (t3.own.trans (m4.le.trans (t5.own.trans m6.le)))))
          simp only [Res.forget, forget, forgets, pvE, pvEs, pvS, pvSs, vi, vs, forgets_Es, forgets_Ss, forget_E, forgets_append, pvSs_append] at this ⊢
          exact this
    · simp (config := { maxSteps := 4000000 }) (disch := omega) only [pvE_q, pvS_q, vi, vs, vb', vp, wrap_ok, cast_0, notL_E, notL_S, pvSs_length, pvEs, List.length_map, σset_obj, pvB, sMk7W_27, reduceIte, Nat.reduceEqDiff, Nat.reduceAdd, Nat.reduceSub, Nat.reduceMul, Nat.reduceLT, Nat.reduceLeDiff, Nat.reduceBEq, reduceCtorEq, Int.reduceAdd, Int.reduceSub, Int.reduceMul, Int.reduceLT, Int.reduceLE, Int.reduceEq, Int.reduceToNat, Int.reduceNeg, Nat.reduceBNe, Int.reduceBEq, Int.reduceBNe, Int.reduceGT, Int.reduceGE, Int.reduceTMod, forall_const, eq_self, decide_true, decide_false, w_loop, c1, hz, hlab, z1]
      refine usable_c h1 _ fun U hU => ?_
      by_cases hU0 : U.length > 0
      · have hU1 : (U.length : Int) > 0 := by omega
        simp (config := { maxSteps := 4000000 }) (disch := omega) only [pvE_q, pvS_q, vi, vs, vb', vp, wrap_ok, cast_0, notL_E, notL_S, pvSs_length, pvEs, List.length_map, σset_obj, pvB, sMk7W_27, reduceIte, Nat.reduceEqDiff, Nat.reduceAdd, Nat.reduceSub, Nat.reduceMul, Nat.reduceLT, Nat.reduceLeDiff, Nat.reduceBEq, reduceCtorEq, Int.reduceAdd, Int.reduceSub, Int.reduceMul, Int.reduceLT, Int.reduceLE, Int.reduceEq, Int.reduceToNat, Int.reduceNeg, Nat.reduceBNe, Int.reduceBEq, Int.reduceBNe, Int.reduceGT, Int.reduceGE, Int.reduceTMod, forall_const, eq_self, decide_true, decide_false, w_loop, hU1]
        refine name_c h1 .any U hU0 (by omega) _ fun nm σ2 _ t2 => ?_
        have h2 := h1.took t2
        simp (config := { maxSteps := 4000000 }) (disch := omega) only [pvE_q, pvS_q, vi, vs, vb', vp, wrap_ok, cast_0, notL_E, notL_S, pvSs_length, pvEs, List.length_map, σset_obj, pvB, sMk7W_27, reduceIte, Nat.reduceEqDiff, Nat.reduceAdd, Nat.reduceSub, Nat.reduceMul, Nat.reduceLT, Nat.reduceLeDiff, Nat.reduceBEq, reduceCtorEq, Int.reduceAdd, Int.reduceSub, Int.reduceMul, Int.reduceLT, Int.reduceLE, Int.reduceEq, Int.reduceToNat, Int.reduceNeg, Nat.reduceBNe, Int.reduceBEq, Int.reduceBNe, Int.reduceGT, Int.reduceGE, Int.reduceTMod, forall_const, eq_self, decide_true, decide_false, w_loop]
        refine expr_c σ0 d m L V A Sx nl il 1 (by omega) σ2 _ h2 fun e1 σ3 g1 t3 => ?_
        have h3 := h2.took t3
        have f1 := forget_E e1
        obtain ⟨ek1, en1, es1, eo1, el1⟩ := e1
        simp only [pvE_q, vi, vs] at f1
        simp (config := { maxSteps := 4000000 }) (disch := omega) only [pvE_q, pvS_q, vi, vs, vb', vp, wrap_ok, cast_0, notL_E, notL_S, pvSs_length, pvEs, List.length_map, σset_obj, pvB, sMk7W_27, reduceIte, Nat.reduceEqDiff, Nat.reduceAdd, Nat.reduceSub, Nat.reduceMul, Nat.reduceLT, Nat.reduceLeDiff, Nat.reduceBEq, reduceCtorEq, Int.reduceAdd, Int.reduceSub, Int.reduceMul, Int.reduceLT, Int.reduceLE, Int.reduceEq, Int.reduceToNat, Int.reduceNeg, Nat.reduceBNe, Int.reduceBEq, Int.reduceBNe, Int.reduceGT, Int.reduceGE, Int.reduceTMod, forall_const, eq_self, decide_true, decide_false, w_loop, f1]
        refine expr_c σ0 d m L V A Sx nl il 2 (by omega) σ3 _ h3 fun e σ4 ge t4 => ?_
        have fe := forget_E e
        obtain ⟨ek, en, es, eo, el⟩ := e
        simp only [pvE_q, vi, vs] at fe
        simp (config := { maxSteps := 4000000 }) (disch := omega) only [pvE_q, pvS_q, vi, vs, vb', vp, wrap_ok, cast_0, notL_E, notL_S, pvSs_length, pvEs, List.length_map, σset_obj, pvB, sMk7W_27, reduceIte, Nat.reduceEqDiff, Nat.reduceAdd, Nat.reduceSub, Nat.reduceMul, Nat.reduceLT, Nat.reduceLeDiff, Nat.reduceBEq, reduceCtorEq, Int.reduceAdd, Int.reduceSub, Int.reduceMul, Int.reduceLT, Int.reduceLE, Int.reduceEq, Int.reduceToNat, Int.reduceNeg, Nat.reduceBNe, Int.reduceBEq, Int.reduceBNe, Int.reduceGT, Int.reduceGE, Int.reduceTMod, forall_const, eq_self, decide_true, decide_false, w_loop, fe]
        refine ⟨_, .refl _, ?_⟩
        have := hK [.mk 2 nm [.mk ek1 en1 es1 eo1 el1] [.mk ek en es eo el] 0 0 [] []] σ4 (by
          have q2 := g1.d
          have q3 := g1.w
          have q4 := ge.d
          have q5 := ge.w
          have q6 := Zb_pos (D + 1)
          rw [WE_2] at q5
          rw [WE_1] at q3
          refine ⟨by simp, ?_, ?_, ?_⟩
          · simp only [dSs, dS]; omega
          · simp only [xSs, xS, dEs]; omega
          · simp only [zSs, zS, wEs]; omega) (h3.took t4) (t1.own.trans (t2.own.trans (t3.own.trans t4.own)))
        simp only [Res.forget, forget, forgets, pvE, pvEs, pvS, pvSs, vi, vs, forgets_Es, forgets_Ss, forget_E, forgets_append, pvSs_append] at this ⊢
        exact this
      · have hU1 : ¬ ((U.length : Int) > 0) := by omega
        simp (config := { maxSteps := 4000000 }) (disch := omega) only [pvE_q, pvS_q, vi, vs, vb', vp, wrap_ok, cast_0, notL_E, notL_S, pvSs_length, pvEs, List.length_map, σset_obj, pvB, sMk7W_27, reduceIte, Nat.reduceEqDiff, Nat.reduceAdd, Nat.reduceSub, Nat.reduceMul, Nat.reduceLT, Nat.reduceLeDiff, Nat.reduceBEq, reduceCtorEq, Int.reduceAdd, Int.reduceSub, Int.reduceMul, Int.reduceLT, Int.reduceLE, Int.reduceEq, Int.reduceToNat, Int.reduceNeg, Nat.reduceBNe, Int.reduceBEq, Int.reduceBNe, Int.reduceGT, Int.reduceGE, Int.reduceTMod, forall_const, eq_self, decide_true, decide_false, w_loop, hU1, c1]
        refine target_c h1 _ fun tv σ2 t2 => ?_
        have h2 := h1.took t2
        have c2 := t2.frame.obj m _ h.md c1
        simp (config := { maxSteps := 4000000 }) (disch := omega) only [pvE_q, pvS_q, vi, vs, vb', vp, wrap_ok, cast_0, notL_E, notL_S, pvSs_length, pvEs, List.length_map, σset_obj, pvB, sMk7W_27, reduceIte, Nat.reduceEqDiff, Nat.reduceAdd, Nat.reduceSub, Nat.reduceMul, Nat.reduceLT, Nat.reduceLeDiff, Nat.reduceBEq, reduceCtorEq, Int.reduceAdd, Int.reduceSub, Int.reduceMul, Int.reduceLT, Int.reduceLE, Int.reduceEq, Int.reduceToNat, Int.reduceNeg, Nat.reduceBNe, Int.reduceBEq, Int.reduceBNe, Int.reduceGT, Int.reduceGE, Int.reduceTMod, forall_const, eq_self, decide_true, decide_false, w_loop, c2]
        refine expr_c σ0 d m L V A Sx nl il 2 (by omega) σ2 _ h2 fun e σ3 ge t3 => ?_
        have fe := forget_E e
        obtain ⟨ek, en, es, eo, el⟩ := e
        simp only [pvE_q, vi, vs] at fe
        simp (config := { maxSteps := 4000000 }) (disch := omega) only [pvE_q, pvS_q, vi, vs, vb', vp, wrap_ok, cast_0, notL_E, notL_S, pvSs_length, pvEs, List.length_map, σset_obj, pvB, sMk7W_27, reduceIte, Nat.reduceEqDiff, Nat.reduceAdd, Nat.reduceSub, Nat.reduceMul, Nat.reduceLT, Nat.reduceLeDiff, Nat.reduceBEq, reduceCtorEq, Int.reduceAdd, Int.reduceSub, Int.reduceMul, Int.reduceLT, Int.reduceLE, Int.reduceEq, Int.reduceToNat, Int.reduceNeg, Nat.reduceBNe, Int.reduceBEq, Int.reduceBNe, Int.reduceGT, Int.reduceGE, Int.reduceTMod, forall_const, eq_self, decide_true, decide_false, w_loop, fe]
        refine ⟨_, .refl _, ?_⟩
        have := hK [.mk 1 tv [] [.mk ek en es eo el] 0 0 [] []] σ3 (by
          have q4 := ge.d
          have q5 := ge.w
          have q6 := Zb_pos (D + 1)
          rw [WE_2] at q5
          refine ⟨by simp, ?_, ?_, ?_⟩
          · simp only [dSs, dS]; omega
          · simp only [xSs, xS, dEs]; omega
          · simp only [zSs, zS, wEs]; omega) (h2.took t3) (t1.own.trans (t2.own.trans t3.own))
        simp only [Res.forget, forget, forgets, pvE, pvEs, pvS, pvSs, vi, vs, forgets_Es, forgets_Ss, forget_E, forgets_append, pvSs_append] at this ⊢
        exact this
end Go.Pv.W
-- Mk8W
namespace Go.Pv.W
open Go Go.RowKit Go.Proofs Go.Pv
theorem stmt_c (σ0 : St) (d m : Nat) (L : List Int) (V A : List ByteArray) (Sx : List Sh) : ∀ D, D ≤ 10 → StmtC σ0 d m L V A Sx D
  | 0, _ => stmt_0 σ0 d m L V A Sx
  | D + 1, h =>
    have b := block_of_stmt σ0 d m L V A Sx D (by omega) (stmt_c σ0 d m L V A Sx D (by omega))
    stmt_s σ0 d m L V A Sx D (by omega) b (loop_of_block σ0 d m L V A Sx D (by omega) b)
theorem block_c (σ0 : St) (d m : Nat) (L : List Int) (V A : List ByteArray) (Sx : List Sh) (D : Nat) (h : D ≤ 10) : BlockC σ0 d m L V A Sx D := block_of_stmt σ0 d m L V A Sx D h (stmt_c σ0 d m L V A Sx D h)
end Go.Pv.W
-- Ck1W
namespace Go.Pv.W
open Go Go.RowKit Go.Proofs Go.Pv
def sCk1W_20 := (And.intro @q_tsz_3 (And.intro @q_slz_3 @q_ifc_3))
def sCk1W_30 := (And.intro (And.intro (And.intro (And.intro @q_fld_42_4 @q_slz_0) (And.intro @q_tsz_3 @q_slz_3)) (And.intro (And.intro @q_ifc_3 @q_tsz_4) (And.intro @q_slz_4 (And.intro @q_ifc_4 @q_isb_4)))) (And.intro (And.intro (And.intro @q_tsz_40 @q_slz_40) (And.intro @q_str_40 @q_arz_40)) (And.intro (And.intro @q_ifc_40 @q_tsz_42) (And.intro @q_slz_42 (And.intro @q_ifc_42 @q_zcs_42)))))
set_option maxRecDepth 100000 in
theorem limited_c (n : Int) (σ : St) (K : Res → St → Prop) (hK : K (.ret (vi (cap n))) σ) : PCalls Try.prog 20 [vi n] σ K := by
  refine PCalls.of_body (tOk Try.prog) (by kernel_rfl) Try.func20 rfl (by kernel_rfl) [] [] (by kernel_rfl) (n := 5) (by kernel_rfl) (by kernel_rfl) (rs := [.tmp 2]) (by kernel_rfl) ?_
  simp only [vi, pvB, sCk1W_20, reduceIte, Nat.reduceEqDiff, Nat.reduceAdd, Nat.reduceSub, Nat.reduceMul, Nat.reduceLT, Nat.reduceLeDiff, Nat.reduceBEq, reduceCtorEq, Int.reduceAdd, Int.reduceSub, Int.reduceMul, Int.reduceLT, Int.reduceLE, Int.reduceEq, Int.reduceToNat, Int.reduceNeg, Nat.reduceBNe, Int.reduceBEq, Int.reduceBNe, forall_const, eq_self, decide_true, decide_false]
  exact ⟨σ, .refl _, hK⟩
set_option maxRecDepth 100000 in
theorem parts_c (f : Nat) : ∀ (e : AE) (depth : Int) (σ : St) (K : Res → St → Prop), dE e ≤ f → 0 ≤ depth → depth + dE e ≤ 21 → wE e < 4611686018427387904 → K (.ret (vi (cap (wE e)))) σ → PCalls Try.prog 30 [pvE e, vi depth] σ K := by
  induction f with
  | zero => intro e; cases e; intro _ _ _ h; simp only [dE] at h; omega
  | succ f ih =>
    intro e depth σ K hf h0 hd hw hK
    obtain ⟨kind, num, name, op, args⟩ := e
    simp only [dE] at hf hd
    simp only [wE] at hw
    have hlen := wEs_len args
    have hdd : ¬ depth > 20 := by omega
    refine PCalls.of_body (tOk Try.prog) (by kernel_rfl) Try.func30 rfl (by kernel_rfl) [] [] (by kernel_rfl) (n := 26) (by kernel_rfl) (by kernel_rfl) (rs := [.tmp 4]) (by kernel_rfl) ?_
    simp only [pvE_q, vi, vs, pvB, sCk1W_30, reduceIte, Nat.reduceEqDiff, Nat.reduceAdd, Nat.reduceSub, Nat.reduceMul, Nat.reduceLT, Nat.reduceLeDiff, Nat.reduceBEq, reduceCtorEq, Int.reduceAdd, Int.reduceSub, Int.reduceMul, Int.reduceLT, Int.reduceLE, Int.reduceEq, Int.reduceToNat, Int.reduceNeg, Nat.reduceBNe, Int.reduceBEq, Int.reduceBNe, forall_const, eq_self, decide_true, decide_false, w_loop, hdd, decide_false]
    refine loop_rule (fun s => ∃ i : Nat, i ≤ args.length ∧ s = ⟨26, [(1, vi depth), (5, vi (cap (1 + wEs (args.take i)))), (11, .list .any 5 (pvEs args)), (12, vi args.length), (13, vi i)], [], σ⟩) (fun s => (args.length - ival (get s.env 13)).toNat) ?_ ?_
    · refine ⟨_, ?_, 0, Nat.zero_le _, rfl⟩
      exact less_env rfl (less_env rfl (less_env rfl (less_env (by rw [← pvEs_length]; rfl) (less_env rfl (less_nil (.refl _))))))
    · rintro s ⟨i, hi, rfl⟩ R hR
      have hn := wEs_nonneg (args.take i)
      by_cases hlt : (i : Int) < args.length
      · have hlt' : i < args.length := by omega
        have hE := wE_pos args[i]
        have hd1 := dEs_mem (List.getElem_mem hlt')
        have hw1 := wEs_mem (List.getElem_mem hlt')
        have ew := wEs_take hlt'
        have eg : (pvEs args)[i]? = some (pvE args[i]) := by simp [pvEs_get, hlt']
        have ihx := fun K => ih args[i] (depth + 1) σ K (by omega) (by omega) (by omega) (by omega)
        generalize args[i] = x at *
        obtain ⟨k1, n1, s1, o1, l1⟩ := x
        rw [pvE_q] at eg
        simp only [pvE_q, vi, vs] at ihx eg
        have r1 := cap_range (n := 1 + wEs (args.take i)) (by omega)
        have r2 := cap_range (n := wE (.mk k1 n1 s1 o1 l1)) (by omega)
        have e1 := wrap_ok (depth + 1) (by omega) (by omega)
        have e2 := wrap_ok (cap (1 + wEs (args.take i)) + cap (wE (.mk k1 n1 s1 o1 l1))) (by omega) (by omega)
        have e3 := wrap_ok ((i : Int) + 1) (by omega) (by omega)
        have e0 : (0 : Int) ≤ i := by omega
        simp only [vi, vs, pvB, sCk1W_30, reduceIte, Nat.reduceEqDiff, Nat.reduceAdd, Nat.reduceSub, Nat.reduceMul, Nat.reduceLT, Nat.reduceLeDiff, Nat.reduceBEq, reduceCtorEq, Int.reduceAdd, Int.reduceSub, Int.reduceMul, Int.reduceLT, Int.reduceLE, Int.reduceEq, Int.reduceToNat, Int.reduceNeg, Nat.reduceBNe, Int.reduceBEq, Int.reduceBNe, forall_const, eq_self, decide_true, decide_false, w_loop, hlt, decide_true, eg, Int.toNat_natCast, e0, e1, e3]
        refine ihx _ ?_
        simp only [vi, vs, pvB, sCk1W_30, reduceIte, Nat.reduceEqDiff, Nat.reduceAdd, Nat.reduceSub, Nat.reduceMul, Nat.reduceLT, Nat.reduceLeDiff, Nat.reduceBEq, reduceCtorEq, Int.reduceAdd, Int.reduceSub, Int.reduceMul, Int.reduceLT, Int.reduceLE, Int.reduceEq, Int.reduceToNat, Int.reduceNeg, Nat.reduceBNe, Int.reduceBEq, Int.reduceBNe, forall_const, eq_self, decide_true, decide_false, e2]
        refine limited_c _ _ _ ?_
        simp only [vi, vs, pvB, sCk1W_30, reduceIte, Nat.reduceEqDiff, Nat.reduceAdd, Nat.reduceSub, Nat.reduceMul, Nat.reduceLT, Nat.reduceLeDiff, Nat.reduceBEq, reduceCtorEq, Int.reduceAdd, Int.reduceSub, Int.reduceMul, Int.reduceLT, Int.reduceLE, Int.reduceEq, Int.reduceToNat, Int.reduceNeg, Nat.reduceBNe, Int.reduceBEq, Int.reduceBNe, forall_const, eq_self, decide_true, decide_false, e3]
        refine hR _ _ ?_ ⟨i + 1, by omega, rfl⟩ ?_
        · exact less_env rfl (less_env (by show vi _ = vi _; rw [cap_add (by omega) (by omega), ew, ← Int.add_assoc]) (less_env rfl (less_env rfl (less_env rfl (less_nil (.refl _))))))
        · show (args.length - ((i + 1 : Nat) : Int)).toNat < (args.length - (i : Int)).toNat
          omega
      · have hi' : i = args.length := by omega
        subst hi'
        simp only [vi, vs, pvB, sCk1W_30, reduceIte, Nat.reduceEqDiff, Nat.reduceAdd, Nat.reduceSub, Nat.reduceMul, Nat.reduceLT, Nat.reduceLeDiff, Nat.reduceBEq, reduceCtorEq, Int.reduceAdd, Int.reduceSub, Int.reduceMul, Int.reduceLT, Int.reduceLE, Int.reduceEq, Int.reduceToNat, Int.reduceNeg, Nat.reduceBNe, Int.reduceBEq, Int.reduceBNe, forall_const, eq_self, decide_true, decide_false, w_loop, hlt, decide_false]
        refine ⟨σ, .refl _, ?_⟩
        simpa [wE] using hK
end Go.Pv.W
-- Ck2W
namespace Go.Pv.W
open Go Go.RowKit Go.Proofs Go.Pv
def sCk2W_9 := (And.intro (And.intro (And.intro @q_tsz_3 @q_slz_3) (And.intro @q_ifc_3 @q_tsz_32)) (And.intro (And.intro @q_slz_32 @q_str_32) (And.intro @q_arz_32 @q_ifc_32)))
def sCk2W_15 := (And.intro (And.intro (And.intro @q_slz_0 (And.intro @q_tsz_3 @q_slz_3)) (And.intro @q_ifc_3 (And.intro @q_tsz_32 @q_slz_32))) (And.intro (And.intro @q_str_32 (And.intro @q_arz_32 @q_ifc_32)) (And.intro (And.intro @q_tsz_45 @q_slz_45) (And.intro @q_ifc_45 @q_zcs_45))))
def sCk2W_21 := (And.intro (And.intro (And.intro (And.intro @q_fld_45_4 (And.intro @q_fld_45_6 @q_fld_45_7)) (And.intro (And.intro @q_fld_45_3 @q_fld_45_2) (And.intro @q_fld_45_0 @q_slz_0))) (And.intro (And.intro @q_tsz_3 (And.intro @q_slz_3 @q_ifc_3)) (And.intro (And.intro @q_tsz_4 @q_slz_4) (And.intro @q_ifc_4 @q_isb_4)))) (And.intro (And.intro (And.intro @q_tsz_32 (And.intro @q_slz_32 @q_str_32)) (And.intro (And.intro @q_arz_32 @q_ifc_32) (And.intro @q_tsz_40 @q_slz_40))) (And.intro (And.intro @q_str_40 (And.intro @q_arz_40 @q_ifc_40)) (And.intro (And.intro @q_tsz_45 @q_slz_45) (And.intro @q_ifc_45 @q_zcs_45)))))
def sCk2W_26 := (And.intro (And.intro (And.intro @q_slz_0 (And.intro @q_tsz_3 @q_slz_3)) (And.intro @q_ifc_3 (And.intro @q_tsz_40 @q_slz_40))) (And.intro (And.intro @q_str_40 (And.intro @q_arz_40 @q_ifc_40)) (And.intro (And.intro @q_tsz_42 @q_slz_42) (And.intro @q_ifc_42 @q_zcs_42))))
set_option maxRecDepth 100000 in
theorem exprs_c (l : List AE) (σ : St) (K : Res → St → Prop) (hd : dEs l ≤ 20) (hw : wEs l < 4611686018427387904) (hK : K (.ret (vi (cap (wEs l)))) σ) : PCalls Try.prog 26 [.list .any 5 (pvEs l)] σ K := by
  have hlen := wEs_len l
  refine PCalls.of_body (tOk Try.prog) (by kernel_rfl) Try.func26 rfl (by kernel_rfl) [] [] (by kernel_rfl) (n := 19) (by kernel_rfl) (by kernel_rfl) (rs := [.tmp 2]) (by kernel_rfl) ?_
  simp only [vi, vs, pvB, sCk2W_26, reduceIte, Nat.reduceEqDiff, Nat.reduceAdd, Nat.reduceSub, Nat.reduceMul, Nat.reduceLT, Nat.reduceLeDiff, Nat.reduceBEq, reduceCtorEq, Int.reduceAdd, Int.reduceSub, Int.reduceMul, Int.reduceLT, Int.reduceLE, Int.reduceEq, Int.reduceToNat, Int.reduceNeg, Nat.reduceBNe, Int.reduceBEq, Int.reduceBNe, forall_const, eq_self, decide_true, decide_false, w_loop]
  refine loop_rule (fun s => ∃ i : Nat, i ≤ l.length ∧ s = ⟨19, [(3, vi (cap (wEs (l.take i)))), (6, .list .any 5 (pvEs l)), (7, vi l.length), (8, vi i)], [], σ⟩) (fun s => (l.length - ival (get s.env 8)).toNat) ?_ ?_
  · refine ⟨_, ?_, 0, Nat.zero_le _, rfl⟩
    exact less_env rfl (less_env rfl (less_env (by rw [← pvEs_length]; rfl) (less_env rfl (less_nil (.refl _)))))
  · rintro s ⟨i, hi, rfl⟩ R hR
    have hn := wEs_nonneg (l.take i)
    by_cases hlt : (i : Int) < l.length
    · have hlt' : i < l.length := by omega
      have hE := wE_pos l[i]
      have hd1 := dEs_mem (List.getElem_mem hlt')
      have hw1 := wEs_mem (List.getElem_mem hlt')
      have ew := wEs_take hlt'
      have eg : (pvEs l)[i]? = some (pvE l[i]) := by simp [pvEs_get, hlt']
      have ihx := fun K => parts_c 20 l[i] 1 σ K (by omega) (by omega) (by omega) (by omega)
      generalize l[i] = x at *
      obtain ⟨k1, n1, s1, o1, l1⟩ := x
      simp only [pvE_q, vi, vs] at ihx eg
      have r1 := cap_range hn
      have r2 := cap_range (n := wE (.mk k1 n1 s1 o1 l1)) (by omega)
      have e2 := wrap_ok (cap (wEs (l.take i)) + cap (wE (.mk k1 n1 s1 o1 l1))) (by omega) (by omega)
      have e3 := wrap_ok ((i : Int) + 1) (by omega) (by omega)
      have e0 : (0 : Int) ≤ i := by omega
      simp only [vi, vs, pvB, sCk2W_26, reduceIte, Nat.reduceEqDiff, Nat.reduceAdd, Nat.reduceSub, Nat.reduceMul, Nat.reduceLT, Nat.reduceLeDiff, Nat.reduceBEq, reduceCtorEq, Int.reduceAdd, Int.reduceSub, Int.reduceMul, Int.reduceLT, Int.reduceLE, Int.reduceEq, Int.reduceToNat, Int.reduceNeg, Nat.reduceBNe, Int.reduceBEq, Int.reduceBNe, forall_const, eq_self, decide_true, decide_false, w_loop, hlt, decide_true, eg, Int.toNat_natCast, e0, e3]
      refine ihx _ ?_
      simp only [vi, vs, pvB, sCk2W_26, reduceIte, Nat.reduceEqDiff, Nat.reduceAdd, Nat.reduceSub, Nat.reduceMul, Nat.reduceLT, Nat.reduceLeDiff, Nat.reduceBEq, reduceCtorEq, Int.reduceAdd, Int.reduceSub, Int.reduceMul, Int.reduceLT, Int.reduceLE, Int.reduceEq, Int.reduceToNat, Int.reduceNeg, Nat.reduceBNe, Int.reduceBEq, Int.reduceBNe, forall_const, eq_self, decide_true, decide_false, e2]
      refine limited_c _ _ _ ?_
      simp only [vi, vs, pvB, sCk2W_26, reduceIte, Nat.reduceEqDiff, Nat.reduceAdd, Nat.reduceSub, Nat.reduceMul, Nat.reduceLT, Nat.reduceLeDiff, Nat.reduceBEq, reduceCtorEq, Int.reduceAdd, Int.reduceSub, Int.reduceMul, Int.reduceLT, Int.reduceLE, Int.reduceEq, Int.reduceToNat, Int.reduceNeg, Nat.reduceBNe, Int.reduceBEq, Int.reduceBNe, forall_const, eq_self, decide_true, decide_false, e3]
      refine hR _ _ ?_ ⟨i + 1, by omega, rfl⟩ ?_
      · exact less_env (by show vi _ = vi _; rw [cap_add (by omega) (by omega), ew]) (less_env rfl (less_env rfl (less_env rfl (less_nil (.refl _)))))
      · show (l.length - ((i + 1 : Nat) : Int)).toNat < (l.length - (i : Int)).toNat
        omega
    · have hi' : i = l.length := by omega
      subst hi'
      simp only [vi, vs, pvB, sCk2W_26, reduceIte, Nat.reduceEqDiff, Nat.reduceAdd, Nat.reduceSub, Nat.reduceMul, Nat.reduceLT, Nat.reduceLeDiff, Nat.reduceBEq, reduceCtorEq, Int.reduceAdd, Int.reduceSub, Int.reduceMul, Int.reduceLT, Int.reduceLE, Int.reduceEq, Int.reduceToNat, Int.reduceNeg, Nat.reduceBNe, Int.reduceBEq, Int.reduceBNe, forall_const, eq_self, decide_true, decide_false, w_loop, hlt, decide_false]
      refine ⟨σ, .refl _, ?_⟩
      simpa using hK
def OneC (f : Nat) : Prop := ∀ (s : AS) (depth : Int) (σ : St) (K : Res → St → Prop), dS s ≤ f → 0 ≤ depth → depth + dS s ≤ 21 → xS s ≤ 20 → zS s < 4611686018427387904 → K (.ret (vi (cap (wS s)))) σ → PCalls Try.prog 21 [pvS s, vi depth] σ K
def WeightC (f : Nat) : Prop := ∀ (l : List AS) (depth : Int) (σ : St) (K : Res → St → Prop), dSs l ≤ f → 0 ≤ depth → depth + dSs l ≤ 21 → xSs l ≤ 20 → zSs l < 4611686018427387904 → K (.ret (vi (cap (wSs l)))) σ → PCalls Try.prog 15 [.list .any 8 (pvSs l), vi depth] σ K
set_option maxRecDepth 100000 in
theorem weight_of_one (f : Nat) (ih : OneC f) : WeightC f := by
  intro l depth σ K hf h0 hd hx hw hK
  have hlen := zSs_len l
  refine PCalls.of_body (tOk Try.prog) (by kernel_rfl) Try.func15 rfl (by kernel_rfl) [] [] (by kernel_rfl) (n := 22) (by kernel_rfl) (by kernel_rfl) (rs := [.tmp 4]) (by kernel_rfl) ?_
  simp only [vi, vs, pvB, sCk2W_15, reduceIte, Nat.reduceEqDiff, Nat.reduceAdd, Nat.reduceSub, Nat.reduceMul, Nat.reduceLT, Nat.reduceLeDiff, Nat.reduceBEq, reduceCtorEq, Int.reduceAdd, Int.reduceSub, Int.reduceMul, Int.reduceLT, Int.reduceLE, Int.reduceEq, Int.reduceToNat, Int.reduceNeg, Nat.reduceBNe, Int.reduceBEq, Int.reduceBNe, forall_const, eq_self, decide_true, decide_false, w_loop]
  refine loop_rule (fun s => ∃ i : Nat, i ≤ l.length ∧ s = ⟨22, [(1, vi depth), (5, vi (cap (wSs (l.take i)))), (8, .list .any 8 (pvSs l)), (9, vi l.length), (10, vi i)], [], σ⟩) (fun s => (l.length - ival (get s.env 10)).toNat) ?_ ?_
  · refine ⟨_, ?_, 0, Nat.zero_le _, rfl⟩
    exact less_env rfl (less_env rfl (less_env rfl (less_env (by rw [← pvSs_length]; rfl) (less_env rfl (less_nil (.refl _))))))
  · rintro s ⟨i, hi, rfl⟩ R hR
    have hn := wSs_nonneg (l.take i)
    by_cases hlt : (i : Int) < l.length
    · have hlt' : i < l.length := by omega
      have hE := wS_nonneg l[i]
      have hd1 := dSs_mem (List.getElem_mem hlt')
      have hx1 := xSs_mem (List.getElem_mem hlt')
      have hw1 := zSs_mem (List.getElem_mem hlt')
      have ew := wSs_take hlt'
      have eg : (pvSs l)[i]? = some (pvS l[i]) := by simp [pvSs_get, hlt']
      have ihx := fun K => ih l[i] depth σ K (by omega) (by omega) (by omega) (by omega) (by omega)
      generalize l[i] = x at *
      obtain ⟨k1, n1, i1, v1, m1, b1, t1, x1⟩ := x
      simp only [pvS_q, vi, vs] at ihx eg
      have r1 := cap_range hn
      have r2 := cap_range (n := wS (.mk k1 n1 i1 v1 m1 b1 t1 x1)) (by omega)
      have e2 := wrap_ok (cap (wSs (l.take i)) + cap (wS (.mk k1 n1 i1 v1 m1 b1 t1 x1))) (by omega) (by omega)
      have e3 := wrap_ok ((i : Int) + 1) (by omega) (by omega)
      have e0 : (0 : Int) ≤ i := by omega
      simp only [vi, vs, pvB, sCk2W_15, reduceIte, Nat.reduceEqDiff, Nat.reduceAdd, Nat.reduceSub, Nat.reduceMul, Nat.reduceLT, Nat.reduceLeDiff, Nat.reduceBEq, reduceCtorEq, Int.reduceAdd, Int.reduceSub, Int.reduceMul, Int.reduceLT, Int.reduceLE, Int.reduceEq, Int.reduceToNat, Int.reduceNeg, Nat.reduceBNe, Int.reduceBEq, Int.reduceBNe, forall_const, eq_self, decide_true, decide_false, w_loop, hlt, decide_true, eg, Int.toNat_natCast, e0, e3]
      refine ihx _ ?_
      simp only [vi, vs, pvB, sCk2W_15, reduceIte, Nat.reduceEqDiff, Nat.reduceAdd, Nat.reduceSub, Nat.reduceMul, Nat.reduceLT, Nat.reduceLeDiff, Nat.reduceBEq, reduceCtorEq, Int.reduceAdd, Int.reduceSub, Int.reduceMul, Int.reduceLT, Int.reduceLE, Int.reduceEq, Int.reduceToNat, Int.reduceNeg, Nat.reduceBNe, Int.reduceBEq, Int.reduceBNe, forall_const, eq_self, decide_true, decide_false, e2]
      refine limited_c _ _ _ ?_
      simp only [vi, vs, pvB, sCk2W_15, reduceIte, Nat.reduceEqDiff, Nat.reduceAdd, Nat.reduceSub, Nat.reduceMul, Nat.reduceLT, Nat.reduceLeDiff, Nat.reduceBEq, reduceCtorEq, Int.reduceAdd, Int.reduceSub, Int.reduceMul, Int.reduceLT, Int.reduceLE, Int.reduceEq, Int.reduceToNat, Int.reduceNeg, Nat.reduceBNe, Int.reduceBEq, Int.reduceBNe, forall_const, eq_self, decide_true, decide_false, e3]
      refine hR _ _ ?_ ⟨i + 1, by omega, rfl⟩ ?_
      · exact less_env rfl (less_env (by show vi _ = vi _; rw [cap_add (by omega) (by omega), ew]) (less_env rfl (less_env rfl (less_env rfl (less_nil (.refl _))))))
      · show (l.length - ((i + 1 : Nat) : Int)).toNat < (l.length - (i : Int)).toNat
        omega
    · have hi' : i = l.length := by omega
      subst hi'
      simp only [vi, vs, pvB, sCk2W_15, reduceIte, Nat.reduceEqDiff, Nat.reduceAdd, Nat.reduceSub, Nat.reduceMul, Nat.reduceLT, Nat.reduceLeDiff, Nat.reduceBEq, reduceCtorEq, Int.reduceAdd, Int.reduceSub, Int.reduceMul, Int.reduceLT, Int.reduceLE, Int.reduceEq, Int.reduceToNat, Int.reduceNeg, Nat.reduceBNe, Int.reduceBEq, Int.reduceBNe, forall_const, eq_self, decide_true, decide_false, w_loop, hlt, decide_false]
      refine ⟨σ, .refl _, ?_⟩
      simpa using hK
set_option maxRecDepth 100000 in
theorem one_of_weight (f : Nat) (ih : WeightC f) : OneC (f + 1) := by
  intro s depth σ K hf h0 hd hx hw hK
  obtain ⟨k, n, il, vl, m, lb, t, e⟩ := s
  simp only [dS] at hf hd
  simp only [xS] at hx
  simp only [zS] at hw
  have hdd : ¬ depth > 20 := by omega
  have z1 := wEs_nonneg il
  have z2 := wEs_nonneg vl
  have z3 := zSs_nonneg t
  have z4 := zSs_nonneg e
  have z5 := wSs_nonneg t
  have z6 := wSs_nonneg e
  have cI := fun K => exprs_c il σ K (by omega) (by omega)
  have cV := fun K => exprs_c vl σ K (by omega) (by omega)
  have cT := fun K => ih t (depth + 1) σ K (by omega) (by omega) (by omega) (by omega) (by omega)
  have cE := fun K => ih e (depth + 1) σ K (by omega) (by omega) (by omega) (by omega) (by omega)
  have r1 := cap_range z1
  have r2 := cap_range z2
  have r3 := cap_range z5
  have r4 := cap_range z6
  have e1 := wrap_ok (depth + 1) (by omega) (by omega)
  refine PCalls.of_body (tOk Try.prog) (by kernel_rfl) Try.func21 rfl (by kernel_rfl) [] [(6, 21, [(0, []), (4, []), (1, []), (5, []), (2, [5]), (3, []), (6, []), (7, []), (8, []), (9, [])]), (8, 40, [(0, []), (4, []), (6, []), (10, []), (12, []), (1, []), (5, []), (7, []), (11, []), (13, []), (2, [5, 11]), (3, []), (8, [11]), (9, []), (14, []), (15, []), (16, []), (17, [])]), (11, 62, [(0, []), (1, []), (5, []), (7, []), (2, []), (6, []), (8, []), (3, [6]), (4, []), (9, []), (10, []), (11, []), (12, []), (13, []), (14, []), (15, [])])] (by kernel_rfl) (n := 72) (by kernel_rfl) (by kernel_rfl) (rs := [.tmp 4]) (by kernel_rfl) ?_
  have cl := fun n => limited_c n σ
  by_cases k1 : k = 1
  · subst k1
    simp (disch := omega) only [pvS_q, vi, vs, wrap_ok, pvB, sCk2W_21, reduceIte, Nat.reduceEqDiff, Nat.reduceAdd, Nat.reduceSub, Nat.reduceMul, Nat.reduceLT, Nat.reduceLeDiff, Nat.reduceBEq, reduceCtorEq, Int.reduceAdd, Int.reduceSub, Int.reduceMul, Int.reduceLT, Int.reduceLE, Int.reduceEq, Int.reduceToNat, Int.reduceNeg, Nat.reduceBNe, Int.reduceBEq, Int.reduceBNe, forall_const, eq_self, decide_true, decide_false, hdd]
    refine cI _ ?_
    simp (disch := omega) only [vi, vs, wrap_ok, pvB, sCk2W_21, reduceIte, Nat.reduceEqDiff, Nat.reduceAdd, Nat.reduceSub, Nat.reduceMul, Nat.reduceLT, Nat.reduceLeDiff, Nat.reduceBEq, reduceCtorEq, Int.reduceAdd, Int.reduceSub, Int.reduceMul, Int.reduceLT, Int.reduceLE, Int.reduceEq, Int.reduceToNat, Int.reduceNeg, Nat.reduceBNe, Int.reduceBEq, Int.reduceBNe, forall_const, eq_self, decide_true, decide_false]
    refine cV _ ?_
    simp (disch := omega) only [vi, vs, wrap_ok, pvB, sCk2W_21, reduceIte, Nat.reduceEqDiff, Nat.reduceAdd, Nat.reduceSub, Nat.reduceMul, Nat.reduceLT, Nat.reduceLeDiff, Nat.reduceBEq, reduceCtorEq, Int.reduceAdd, Int.reduceSub, Int.reduceMul, Int.reduceLT, Int.reduceLE, Int.reduceEq, Int.reduceToNat, Int.reduceNeg, Nat.reduceBNe, Int.reduceBEq, Int.reduceBNe, forall_const, eq_self, decide_true, decide_false]
    refine cl _ _ ?_
    simp (disch := omega) only [vi, vs, wrap_ok, pvB, sCk2W_21, reduceIte, Nat.reduceEqDiff, Nat.reduceAdd, Nat.reduceSub, Nat.reduceMul, Nat.reduceLT, Nat.reduceLeDiff, Nat.reduceBEq, reduceCtorEq, Int.reduceAdd, Int.reduceSub, Int.reduceMul, Int.reduceLT, Int.reduceLE, Int.reduceEq, Int.reduceToNat, Int.reduceNeg, Nat.reduceBNe, Int.reduceBEq, Int.reduceBNe, forall_const, eq_self, decide_true, decide_false]
    refine ⟨σ, .refl _, ?_⟩
    have e : cap (1 + cap (wEs il) + cap (wEs vl)) = cap (wS (.mk 1 n il vl m lb t e)) := by simp only [wS]; simp; unfold cap MW; repeat' split <;> omega
    rw [e]; exact hK
  by_cases k2 : k = 2
  · subst k2
    simp (disch := omega) only [pvS_q, vi, vs, wrap_ok, pvB, sCk2W_21, reduceIte, Nat.reduceEqDiff, Nat.reduceAdd, Nat.reduceSub, Nat.reduceMul, Nat.reduceLT, Nat.reduceLeDiff, Nat.reduceBEq, reduceCtorEq, Int.reduceAdd, Int.reduceSub, Int.reduceMul, Int.reduceLT, Int.reduceLE, Int.reduceEq, Int.reduceToNat, Int.reduceNeg, Nat.reduceBNe, Int.reduceBEq, Int.reduceBNe, forall_const, eq_self, decide_true, decide_false, hdd]
    refine cI _ ?_
    simp (disch := omega) only [vi, vs, wrap_ok, pvB, sCk2W_21, reduceIte, Nat.reduceEqDiff, Nat.reduceAdd, Nat.reduceSub, Nat.reduceMul, Nat.reduceLT, Nat.reduceLeDiff, Nat.reduceBEq, reduceCtorEq, Int.reduceAdd, Int.reduceSub, Int.reduceMul, Int.reduceLT, Int.reduceLE, Int.reduceEq, Int.reduceToNat, Int.reduceNeg, Nat.reduceBNe, Int.reduceBEq, Int.reduceBNe, forall_const, eq_self, decide_true, decide_false]
    refine cV _ ?_
    simp (disch := omega) only [vi, vs, wrap_ok, pvB, sCk2W_21, reduceIte, Nat.reduceEqDiff, Nat.reduceAdd, Nat.reduceSub, Nat.reduceMul, Nat.reduceLT, Nat.reduceLeDiff, Nat.reduceBEq, reduceCtorEq, Int.reduceAdd, Int.reduceSub, Int.reduceMul, Int.reduceLT, Int.reduceLE, Int.reduceEq, Int.reduceToNat, Int.reduceNeg, Nat.reduceBNe, Int.reduceBEq, Int.reduceBNe, forall_const, eq_self, decide_true, decide_false]
    refine cl _ _ ?_
    simp (disch := omega) only [vi, vs, wrap_ok, pvB, sCk2W_21, reduceIte, Nat.reduceEqDiff, Nat.reduceAdd, Nat.reduceSub, Nat.reduceMul, Nat.reduceLT, Nat.reduceLeDiff, Nat.reduceBEq, reduceCtorEq, Int.reduceAdd, Int.reduceSub, Int.reduceMul, Int.reduceLT, Int.reduceLE, Int.reduceEq, Int.reduceToNat, Int.reduceNeg, Nat.reduceBNe, Int.reduceBEq, Int.reduceBNe, forall_const, eq_self, decide_true, decide_false]
    refine ⟨σ, .refl _, ?_⟩
    have e : cap (1 + cap (wEs il) + cap (wEs vl)) = cap (wS (.mk 2 n il vl m lb t e)) := by simp only [wS]; simp; unfold cap MW; repeat' split <;> omega
    rw [e]; exact hK
  by_cases k3 : k = 3
  · subst k3
    simp (disch := omega) only [pvS_q, vi, vs, wrap_ok, pvB, sCk2W_21, reduceIte, Nat.reduceEqDiff, Nat.reduceAdd, Nat.reduceSub, Nat.reduceMul, Nat.reduceLT, Nat.reduceLeDiff, Nat.reduceBEq, reduceCtorEq, Int.reduceAdd, Int.reduceSub, Int.reduceMul, Int.reduceLT, Int.reduceLE, Int.reduceEq, Int.reduceToNat, Int.reduceNeg, Nat.reduceBNe, Int.reduceBEq, Int.reduceBNe, forall_const, eq_self, decide_true, decide_false, hdd]
    refine cV _ ?_
    simp (disch := omega) only [vi, vs, wrap_ok, pvB, sCk2W_21, reduceIte, Nat.reduceEqDiff, Nat.reduceAdd, Nat.reduceSub, Nat.reduceMul, Nat.reduceLT, Nat.reduceLeDiff, Nat.reduceBEq, reduceCtorEq, Int.reduceAdd, Int.reduceSub, Int.reduceMul, Int.reduceLT, Int.reduceLE, Int.reduceEq, Int.reduceToNat, Int.reduceNeg, Nat.reduceBNe, Int.reduceBEq, Int.reduceBNe, forall_const, eq_self, decide_true, decide_false]
    refine cT _ ?_
    simp (disch := omega) only [vi, vs, wrap_ok, pvB, sCk2W_21, reduceIte, Nat.reduceEqDiff, Nat.reduceAdd, Nat.reduceSub, Nat.reduceMul, Nat.reduceLT, Nat.reduceLeDiff, Nat.reduceBEq, reduceCtorEq, Int.reduceAdd, Int.reduceSub, Int.reduceMul, Int.reduceLT, Int.reduceLE, Int.reduceEq, Int.reduceToNat, Int.reduceNeg, Nat.reduceBNe, Int.reduceBEq, Int.reduceBNe, forall_const, eq_self, decide_true, decide_false]
    refine cE _ ?_
    simp (disch := omega) only [vi, vs, wrap_ok, pvB, sCk2W_21, reduceIte, Nat.reduceEqDiff, Nat.reduceAdd, Nat.reduceSub, Nat.reduceMul, Nat.reduceLT, Nat.reduceLeDiff, Nat.reduceBEq, reduceCtorEq, Int.reduceAdd, Int.reduceSub, Int.reduceMul, Int.reduceLT, Int.reduceLE, Int.reduceEq, Int.reduceToNat, Int.reduceNeg, Nat.reduceBNe, Int.reduceBEq, Int.reduceBNe, forall_const, eq_self, decide_true, decide_false]
    refine cl _ _ ?_
    simp (disch := omega) only [vi, vs, wrap_ok, pvB, sCk2W_21, reduceIte, Nat.reduceEqDiff, Nat.reduceAdd, Nat.reduceSub, Nat.reduceMul, Nat.reduceLT, Nat.reduceLeDiff, Nat.reduceBEq, reduceCtorEq, Int.reduceAdd, Int.reduceSub, Int.reduceMul, Int.reduceLT, Int.reduceLE, Int.reduceEq, Int.reduceToNat, Int.reduceNeg, Nat.reduceBNe, Int.reduceBEq, Int.reduceBNe, forall_const, eq_self, decide_true, decide_false]
    refine ⟨σ, .refl _, ?_⟩
    have e : cap (2 + cap (wEs vl) + cap (wSs t) + cap (wSs e)) = cap (wS (.mk 3 n il vl m lb t e)) := by simp only [wS]; simp; unfold cap MW; repeat' split <;> omega
    rw [e]; exact hK
  by_cases k4 : k = 4
  · subst k4
    have tr := times_range m
    have et : (if (if 33 < m then 33 else m) > 0 then if 33 < m then 33 else m else 0) + 1 = times m := by unfold times; repeat' split <;> omega
    have r5 := cap_range (n := 2 + cap (wEs vl) + cap (wSs t)) (by omega)
    have p1 : 0 ≤ times m * cap (2 + cap (wEs vl) + cap (wSs t)) := Int.mul_nonneg (by omega) (by omega)
    have p2 : times m * cap (2 + cap (wEs vl) + cap (wSs t)) ≤ 34 * 1099511627776 := Int.mul_le_mul (by omega) (by omega) (by omega) (by omega)
    generalize hp : times m * cap (2 + cap (wEs vl) + cap (wSs t)) = p at p1 p2
    simp (disch := omega) only [pvS_q, vi, vs, wrap_ok, pvB, sCk2W_21, reduceIte, Nat.reduceEqDiff, Nat.reduceAdd, Nat.reduceSub, Nat.reduceMul, Nat.reduceLT, Nat.reduceLeDiff, Nat.reduceBEq, reduceCtorEq, Int.reduceAdd, Int.reduceSub, Int.reduceMul, Int.reduceLT, Int.reduceLE, Int.reduceEq, Int.reduceToNat, Int.reduceNeg, Nat.reduceBNe, Int.reduceBEq, Int.reduceBNe, forall_const, eq_self, decide_true, decide_false, hdd, et]
    refine cV _ ?_
    simp (disch := omega) only [vi, vs, wrap_ok, pvB, sCk2W_21, reduceIte, Nat.reduceEqDiff, Nat.reduceAdd, Nat.reduceSub, Nat.reduceMul, Nat.reduceLT, Nat.reduceLeDiff, Nat.reduceBEq, reduceCtorEq, Int.reduceAdd, Int.reduceSub, Int.reduceMul, Int.reduceLT, Int.reduceLE, Int.reduceEq, Int.reduceToNat, Int.reduceNeg, Nat.reduceBNe, Int.reduceBEq, Int.reduceBNe, forall_const, eq_self, decide_true, decide_false]
    refine cT _ ?_
    simp (disch := omega) only [vi, vs, wrap_ok, pvB, sCk2W_21, reduceIte, Nat.reduceEqDiff, Nat.reduceAdd, Nat.reduceSub, Nat.reduceMul, Nat.reduceLT, Nat.reduceLeDiff, Nat.reduceBEq, reduceCtorEq, Int.reduceAdd, Int.reduceSub, Int.reduceMul, Int.reduceLT, Int.reduceLE, Int.reduceEq, Int.reduceToNat, Int.reduceNeg, Nat.reduceBNe, Int.reduceBEq, Int.reduceBNe, forall_const, eq_self, decide_true, decide_false]
    refine cl _ _ ?_
    simp (disch := omega) only [vi, vs, wrap_ok, hp, pvB, sCk2W_21, reduceIte, Nat.reduceEqDiff, Nat.reduceAdd, Nat.reduceSub, Nat.reduceMul, Nat.reduceLT, Nat.reduceLeDiff, Nat.reduceBEq, reduceCtorEq, Int.reduceAdd, Int.reduceSub, Int.reduceMul, Int.reduceLT, Int.reduceLE, Int.reduceEq, Int.reduceToNat, Int.reduceNeg, Nat.reduceBNe, Int.reduceBEq, Int.reduceBNe, forall_const, eq_self, decide_true, decide_false]
    refine cl _ _ ?_
    simp (disch := omega) only [vi, vs, wrap_ok, pvB, sCk2W_21, reduceIte, Nat.reduceEqDiff, Nat.reduceAdd, Nat.reduceSub, Nat.reduceMul, Nat.reduceLT, Nat.reduceLeDiff, Nat.reduceBEq, reduceCtorEq, Int.reduceAdd, Int.reduceSub, Int.reduceMul, Int.reduceLT, Int.reduceLE, Int.reduceEq, Int.reduceToNat, Int.reduceNeg, Nat.reduceBNe, Int.reduceBEq, Int.reduceBNe, forall_const, eq_self, decide_true, decide_false]
    refine ⟨σ, .refl _, ?_⟩
    have e : cap (2 + p) = cap (wS (.mk 4 n il vl m lb t e)) := by
      rw [← hp, cap_mul (by omega) (by omega)]
      have : cap (2 + times m * (2 + cap (wEs vl) + cap (wSs t))) = cap (2 + times m * cap (2 + cap (wEs vl) + cap (wSs t))) := (cap_mul (by omega) (by omega)).symm
      rw [this]
      have : cap (2 + cap (wEs vl) + cap (wSs t)) = cap (2 + wEs vl + wSs t) := by unfold cap MW; repeat' split <;> omega
      rw [this, cap_mul (by omega) (by omega)]
      simp [wS]
    rw [e]; exact hK
  by_cases k5 : k = 5
  · subst k5
    simp (disch := omega) only [pvS_q, vi, vs, wrap_ok, pvB, sCk2W_21, reduceIte, Nat.reduceEqDiff, Nat.reduceAdd, Nat.reduceSub, Nat.reduceMul, Nat.reduceLT, Nat.reduceLeDiff, Nat.reduceBEq, reduceCtorEq, Int.reduceAdd, Int.reduceSub, Int.reduceMul, Int.reduceLT, Int.reduceLE, Int.reduceEq, Int.reduceToNat, Int.reduceNeg, Nat.reduceBNe, Int.reduceBEq, Int.reduceBNe, forall_const, eq_self, decide_true, decide_false, hdd]
    refine cT _ ?_
    simp (disch := omega) only [vi, vs, wrap_ok, pvB, sCk2W_21, reduceIte, Nat.reduceEqDiff, Nat.reduceAdd, Nat.reduceSub, Nat.reduceMul, Nat.reduceLT, Nat.reduceLeDiff, Nat.reduceBEq, reduceCtorEq, Int.reduceAdd, Int.reduceSub, Int.reduceMul, Int.reduceLT, Int.reduceLE, Int.reduceEq, Int.reduceToNat, Int.reduceNeg, Nat.reduceBNe, Int.reduceBEq, Int.reduceBNe, forall_const, eq_self, decide_true, decide_false]
    refine cl _ _ ?_
    simp (disch := omega) only [vi, vs, wrap_ok, pvB, sCk2W_21, reduceIte, Nat.reduceEqDiff, Nat.reduceAdd, Nat.reduceSub, Nat.reduceMul, Nat.reduceLT, Nat.reduceLeDiff, Nat.reduceBEq, reduceCtorEq, Int.reduceAdd, Int.reduceSub, Int.reduceMul, Int.reduceLT, Int.reduceLE, Int.reduceEq, Int.reduceToNat, Int.reduceNeg, Nat.reduceBNe, Int.reduceBEq, Int.reduceBNe, forall_const, eq_self, decide_true, decide_false]
    refine ⟨σ, .refl _, ?_⟩
    have e : cap (2 + cap (wSs t)) = cap (wS (.mk 5 n il vl m lb t e)) := by simp only [wS]; simp; unfold cap MW; repeat' split <;> omega
    rw [e]; exact hK
  have b1 : (k == 1) = false := by simpa using k1
  have b2 : (k == 2) = false := by simpa using k2
  have b3 : (k == 3) = false := by simpa using k3
  have b4 : (k == 4) = false := by simpa using k4
  have b5 : (k == 5) = false := by simpa using k5
  simp (disch := omega) only [pvS_q, vi, vs, wrap_ok, pvB, sCk2W_21, reduceIte, Nat.reduceEqDiff, Nat.reduceAdd, Nat.reduceSub, Nat.reduceMul, Nat.reduceLT, Nat.reduceLeDiff, Nat.reduceBEq, reduceCtorEq, Int.reduceAdd, Int.reduceSub, Int.reduceMul, Int.reduceLT, Int.reduceLE, Int.reduceEq, Int.reduceToNat, Int.reduceNeg, Nat.reduceBNe, Int.reduceBEq, Int.reduceBNe, forall_const, eq_self, decide_true, decide_false, hdd, b1, b2, b3, b4, b5]
  refine ⟨σ, .refl _, ?_⟩
  have e : (0 : Int) = cap (wS (.mk k n il vl m lb t e)) := by simp [wS, k1, k2, k3, k4, k5, cap, MW]
  rw [e]; exact hK
theorem ones : ∀ f, OneC f
  | 0 => fun s _ _ _ h => by cases s; simp only [dS] at h; omega
  | f + 1 => one_of_weight f (weight_of_one f (ones f))
theorem weight_c (f : Nat) : WeightC f := weight_of_one f (ones f)
set_option maxRecDepth 100000 in
theorem Weight_c (l : List AS) (σ : St) (K : Res → St → Prop) (hd : dSs l ≤ 20) (hx : xSs l ≤ 20) (hw : zSs l < 4611686018427387904) (hK : K (.ret (vi (cap (wSs l)))) σ) : PCalls Try.prog 9 [.list .any 8 (pvSs l)] σ K := by
  refine PCalls.of_body (tOk Try.prog) (by kernel_rfl) Try.func9 rfl (by kernel_rfl) [] [] (by kernel_rfl) (n := 5) (by kernel_rfl) (by kernel_rfl) (rs := [.tmp 2]) (by kernel_rfl) ?_
  simp only [vi, vs, pvB, sCk2W_9, reduceIte, Nat.reduceEqDiff, Nat.reduceAdd, Nat.reduceSub, Nat.reduceMul, Nat.reduceLT, Nat.reduceLeDiff, Nat.reduceBEq, reduceCtorEq, Int.reduceAdd, Int.reduceSub, Int.reduceMul, Int.reduceLT, Int.reduceLE, Int.reduceEq, Int.reduceToNat, Int.reduceNeg, Nat.reduceBNe, Int.reduceBEq, Int.reduceBNe, forall_const, eq_self, decide_true, decide_false]
  refine weight_c _ l 1 σ _ (Nat.le_refl _) (by omega) (by omega) hx hw ?_
  simp only [vi, vs, pvB, sCk2W_9, reduceIte, Nat.reduceEqDiff, Nat.reduceAdd, Nat.reduceSub, Nat.reduceMul, Nat.reduceLT, Nat.reduceLeDiff, Nat.reduceBEq, reduceCtorEq, Int.reduceAdd, Int.reduceSub, Int.reduceMul, Int.reduceLT, Int.reduceLE, Int.reduceEq, Int.reduceToNat, Int.reduceNeg, Nat.reduceBNe, Int.reduceBEq, Int.reduceBNe, forall_const, eq_self, decide_true, decide_false]
  exact ⟨σ, .refl _, hK⟩
end Go.Pv.W
-- Rf1W
namespace Go.Pv.W
open Go Go.RowKit Go.Proofs Go.Pv
def sRf1W_25 := (And.intro (And.intro (And.intro @q_tsz_3 @q_slz_3) (And.intro @q_ifc_3 @q_tsz_32)) (And.intro (And.intro @q_slz_32 @q_str_32) (And.intro @q_arz_32 @q_ifc_32)))
def sRf1W_29 := (And.intro (And.intro (And.intro (And.intro @q_fld_45_0 (And.intro @q_fld_45_6 @q_fld_45_2)) (And.intro (And.intro @q_fld_45_4 @q_fld_45_3) (And.intro @q_fld_45_7 @q_slz_0))) (And.intro (And.intro @q_tsz_3 (And.intro @q_slz_3 @q_ifc_3)) (And.intro (And.intro @q_tsz_4 @q_slz_4) (And.intro @q_ifc_4 @q_isb_4)))) (And.intro (And.intro (And.intro @q_tsz_32 (And.intro @q_slz_32 @q_str_32)) (And.intro (And.intro @q_arz_32 @q_ifc_32) (And.intro @q_tsz_40 @q_slz_40))) (And.intro (And.intro @q_str_40 (And.intro @q_arz_40 @q_ifc_40)) (And.intro (And.intro @q_tsz_45 @q_slz_45) (And.intro @q_ifc_45 @q_zcs_45)))))
def sRf1W_37 := (And.intro (And.intro (And.intro (And.intro @q_slz_0 @q_tsz_3) (And.intro @q_slz_3 @q_ifc_3)) (And.intro (And.intro @q_tsz_4 @q_slz_4) (And.intro @q_ifc_4 @q_isb_4))) (And.intro (And.intro (And.intro @q_tsz_40 @q_slz_40) (And.intro @q_str_40 @q_arz_40)) (And.intro (And.intro @q_ifc_40 @q_tsz_42) (And.intro @q_slz_42 @q_ifc_42))))
def sRf1W_40 := (And.intro (And.intro (And.intro (And.intro @q_fld_42_4 @q_slz_0) (And.intro @q_tsz_3 @q_slz_3)) (And.intro (And.intro @q_ifc_3 @q_tsz_4) (And.intro @q_slz_4 (And.intro @q_ifc_4 @q_isb_4)))) (And.intro (And.intro (And.intro @q_tsz_40 @q_slz_40) (And.intro @q_str_40 @q_arz_40)) (And.intro (And.intro @q_ifc_40 @q_tsz_42) (And.intro @q_slz_42 (And.intro @q_ifc_42 @q_zcs_42)))))
theorem min_cap (x : Int) : (if x < 1099511627776 then x else 1099511627776) = cap x := by unfold cap MW; repeat' split <;> omega
set_option maxRecDepth 100000 in
theorem rexpr_c (f : Nat) : ∀ (e : AE) (depth : Int) (σ : St) (K : Res → St → Prop), dE e ≤ f → 0 ≤ depth → depth + dE e ≤ 21 → wE e < 4611686018427387904 → K (.ret (vi (cap (wE e)))) σ → PCalls Try.prog 40 [pvE e, vi depth] σ K := by
  induction f with
  | zero => intro e; cases e; intro _ _ _ h; simp only [dE] at h; omega
  | succ f ih =>
    intro e depth σ K hf h0 hd hw hK
    obtain ⟨kind, num, name, op, args⟩ := e
    simp only [dE] at hf hd
    simp only [wE] at hw
    have hlen := wEs_len args
    have hdd : ¬ depth > 20 := by omega
    refine PCalls.of_body (tOk Try.prog) (by kernel_rfl) Try.func40 rfl (by kernel_rfl) [] [] (by kernel_rfl) (n := 28) (by kernel_rfl) (by kernel_rfl) (rs := [.tmp 4]) (by kernel_rfl) ?_
    simp (config := { maxSteps := 2000000 }) (disch := omega) only [pvE_q, pvS_q, vi, vs, wrap_ok, min_cap, pvB, sRf1W_40, reduceIte, Nat.reduceEqDiff, Nat.reduceAdd, Nat.reduceSub, Nat.reduceMul, Nat.reduceLT, Nat.reduceLeDiff, Nat.reduceBEq, reduceCtorEq, Int.reduceAdd, Int.reduceSub, Int.reduceMul, Int.reduceLT, Int.reduceLE, Int.reduceEq, Int.reduceToNat, Int.reduceNeg, Nat.reduceBNe, Int.reduceBEq, Int.reduceBNe, forall_const, eq_self, decide_true, decide_false, w_loop, hdd]
    refine loop_rule (fun s => ∃ i : Nat, i ≤ args.length ∧ s = ⟨28, [(1, vi depth), (2, .lptr 2 0), (5, vi (cap (1 + wEs (args.take i)))), (6, vi i)], [(2, [vi kind, vi num, vs name, vi op, .list .any 5 (pvEs args)])], σ⟩) (fun s => (args.length - ival (get s.env 6)).toNat) ?_ ?_
    · refine ⟨_, ?_, 0, Nat.zero_le _, rfl⟩
      exact less_env rfl (less_env rfl (less_env rfl (less_env rfl (less_loc rfl (less_nil (.refl _))))))
    · rintro s ⟨i, hi, rfl⟩ R hR
      have hn := wEs_nonneg (args.take i)
      by_cases hlt : (i : Int) < args.length
      · have hlt' : i < args.length := by omega
        have hE := wE_pos args[i]
        have hd1 := dEs_mem (List.getElem_mem hlt')
        have hw1 := wEs_mem (List.getElem_mem hlt')
        have ew := wEs_take hlt'
        have eg : (pvEs args)[i]? = some (pvE args[i]) := by simp [pvEs_get, hlt']
        have ihx := fun K => ih args[i] (depth + 1) σ K (by omega) (by omega) (by omega) (by omega)
        generalize args[i] = x at *
        obtain ⟨k1, n1, s1, o1, l1⟩ := x
        simp only [pvE_q, vi, vs] at ihx eg
        have r1 := cap_range (n := 1 + wEs (args.take i)) (by omega)
        have r2 := cap_range (n := wE (.mk k1 n1 s1 o1 l1)) (by omega)
        have e0 : (0 : Int) ≤ i := by omega
        simp (config := { maxSteps := 2000000 }) (disch := omega) only [pvE_q, pvS_q, vi, vs, wrap_ok, min_cap, pvB, sRf1W_40, reduceIte, Nat.reduceEqDiff, Nat.reduceAdd, Nat.reduceSub, Nat.reduceMul, Nat.reduceLT, Nat.reduceLeDiff, Nat.reduceBEq, reduceCtorEq, Int.reduceAdd, Int.reduceSub, Int.reduceMul, Int.reduceLT, Int.reduceLE, Int.reduceEq, Int.reduceToNat, Int.reduceNeg, Nat.reduceBNe, Int.reduceBEq, Int.reduceBNe, forall_const, eq_self, decide_true, decide_false, w_loop, pvEs_length, hlt, eg, Int.toNat_natCast, e0]
        refine ihx _ ?_
        simp (config := { maxSteps := 2000000 }) (disch := omega) only [pvE_q, pvS_q, vi, vs, wrap_ok, min_cap, pvB, sRf1W_40, reduceIte, Nat.reduceEqDiff, Nat.reduceAdd, Nat.reduceSub, Nat.reduceMul, Nat.reduceLT, Nat.reduceLeDiff, Nat.reduceBEq, reduceCtorEq, Int.reduceAdd, Int.reduceSub, Int.reduceMul, Int.reduceLT, Int.reduceLE, Int.reduceEq, Int.reduceToNat, Int.reduceNeg, Nat.reduceBNe, Int.reduceBEq, Int.reduceBNe, forall_const, eq_self, decide_true, decide_false, w_loop]
        refine hR _ _ ?_ ⟨i + 1, by omega, rfl⟩ ?_
        · exact less_env rfl (less_env rfl (less_env (by show vi _ = vi _; rw [cap_add (by omega) (by omega), ew, ← Int.add_assoc]) (less_env rfl (less_loc rfl (less_nil (.refl _))))))
        · show (args.length - ((i + 1 : Nat) : Int)).toNat < (args.length - (i : Int)).toNat
          omega
      · have hi' : i = args.length := by omega
        subst hi'
        simp (config := { maxSteps := 2000000 }) (disch := omega) only [pvE_q, pvS_q, vi, vs, wrap_ok, min_cap, pvB, sRf1W_40, reduceIte, Nat.reduceEqDiff, Nat.reduceAdd, Nat.reduceSub, Nat.reduceMul, Nat.reduceLT, Nat.reduceLeDiff, Nat.reduceBEq, reduceCtorEq, Int.reduceAdd, Int.reduceSub, Int.reduceMul, Int.reduceLT, Int.reduceLE, Int.reduceEq, Int.reduceToNat, Int.reduceNeg, Nat.reduceBNe, Int.reduceBEq, Int.reduceBNe, forall_const, eq_self, decide_true, decide_false, w_loop, pvEs_length, hlt]
        refine ⟨σ, .refl _, ?_⟩
        simpa [wE] using hK
set_option maxRecDepth 100000 in
theorem rexprs_c (l : List AE) (σ : St) (K : Res → St → Prop) (hd : dEs l ≤ 20) (hw : wEs l < 4611686018427387904) (hK : K (.ret (vi (cap (wEs l)))) σ) : PCalls Try.prog 37 [.list .any 5 (pvEs l)] σ K := by
  have hlen := wEs_len l
  refine PCalls.of_body (tOk Try.prog) (by kernel_rfl) Try.func37 rfl (by kernel_rfl) [] [] (by kernel_rfl) (n := 20) (by kernel_rfl) (by kernel_rfl) (rs := [.tmp 2]) (by kernel_rfl) ?_
  simp (config := { maxSteps := 2000000 }) (disch := omega) only [pvE_q, pvS_q, vi, vs, wrap_ok, min_cap, pvB, sRf1W_37, reduceIte, Nat.reduceEqDiff, Nat.reduceAdd, Nat.reduceSub, Nat.reduceMul, Nat.reduceLT, Nat.reduceLeDiff, Nat.reduceBEq, reduceCtorEq, Int.reduceAdd, Int.reduceSub, Int.reduceMul, Int.reduceLT, Int.reduceLE, Int.reduceEq, Int.reduceToNat, Int.reduceNeg, Nat.reduceBNe, Int.reduceBEq, Int.reduceBNe, forall_const, eq_self, decide_true, decide_false, w_loop]
  refine loop_rule (fun s => ∃ i : Nat, i ≤ l.length ∧ s = ⟨20, [(0, .list .any 5 (pvEs l)), (3, vi (cap (wEs (l.take i)))), (4, vi i)], [], σ⟩) (fun s => (l.length - ival (get s.env 4)).toNat) ?_ ?_
  · refine ⟨_, ?_, 0, Nat.zero_le _, rfl⟩
    exact less_env rfl (less_env rfl (less_env rfl (less_nil (.refl _))))
  · rintro s ⟨i, hi, rfl⟩ R hR
    have hn := wEs_nonneg (l.take i)
    by_cases hlt : (i : Int) < l.length
    · have hlt' : i < l.length := by omega
      have hE := wE_pos l[i]
      have hd1 := dEs_mem (List.getElem_mem hlt')
      have hw1 := wEs_mem (List.getElem_mem hlt')
      have ew := wEs_take hlt'
      have eg : (pvEs l)[i]? = some (pvE l[i]) := by simp [pvEs_get, hlt']
      have ihx := fun K => rexpr_c 20 l[i] 1 σ K (by omega) (by omega) (by omega) (by omega)
      generalize l[i] = x at *
      obtain ⟨k1, n1, s1, o1, l1⟩ := x
      simp only [pvE_q, vi, vs] at ihx eg
      have r1 := cap_range hn
      have r2 := cap_range (n := wE (.mk k1 n1 s1 o1 l1)) (by omega)
      have e0 : (0 : Int) ≤ i := by omega
      simp (config := { maxSteps := 2000000 }) (disch := omega) only [pvE_q, pvS_q, vi, vs, wrap_ok, min_cap, pvB, sRf1W_37, reduceIte, Nat.reduceEqDiff, Nat.reduceAdd, Nat.reduceSub, Nat.reduceMul, Nat.reduceLT, Nat.reduceLeDiff, Nat.reduceBEq, reduceCtorEq, Int.reduceAdd, Int.reduceSub, Int.reduceMul, Int.reduceLT, Int.reduceLE, Int.reduceEq, Int.reduceToNat, Int.reduceNeg, Nat.reduceBNe, Int.reduceBEq, Int.reduceBNe, forall_const, eq_self, decide_true, decide_false, w_loop, pvEs_length, hlt, eg, Int.toNat_natCast, e0]
      refine ihx _ ?_
      simp (config := { maxSteps := 2000000 }) (disch := omega) only [pvE_q, pvS_q, vi, vs, wrap_ok, min_cap, pvB, sRf1W_37, reduceIte, Nat.reduceEqDiff, Nat.reduceAdd, Nat.reduceSub, Nat.reduceMul, Nat.reduceLT, Nat.reduceLeDiff, Nat.reduceBEq, reduceCtorEq, Int.reduceAdd, Int.reduceSub, Int.reduceMul, Int.reduceLT, Int.reduceLE, Int.reduceEq, Int.reduceToNat, Int.reduceNeg, Nat.reduceBNe, Int.reduceBEq, Int.reduceBNe, forall_const, eq_self, decide_true, decide_false, w_loop]
      refine hR _ _ ?_ ⟨i + 1, by omega, rfl⟩ ?_
      · exact less_env rfl (less_env (by show vi _ = vi _; rw [cap_add (by omega) (by omega), ew]) (less_env rfl (less_nil (.refl _))))
      · show (l.length - ((i + 1 : Nat) : Int)).toNat < (l.length - (i : Int)).toNat
        omega
    · have hi' : i = l.length := by omega
      subst hi'
      simp (config := { maxSteps := 2000000 }) (disch := omega) only [pvE_q, pvS_q, vi, vs, wrap_ok, min_cap, pvB, sRf1W_37, reduceIte, Nat.reduceEqDiff, Nat.reduceAdd, Nat.reduceSub, Nat.reduceMul, Nat.reduceLT, Nat.reduceLeDiff, Nat.reduceBEq, reduceCtorEq, Int.reduceAdd, Int.reduceSub, Int.reduceMul, Int.reduceLT, Int.reduceLE, Int.reduceEq, Int.reduceToNat, Int.reduceNeg, Nat.reduceBNe, Int.reduceBEq, Int.reduceBNe, forall_const, eq_self, decide_true, decide_false, w_loop, pvEs_length, hlt]
      refine ⟨σ, .refl _, ?_⟩
      simpa using hK
def RWeightC (f : Nat) : Prop := ∀ (l : List AS) (depth : Int) (σ : St) (K : Res → St → Prop), dSs l ≤ f → 0 ≤ depth → depth + dSs l ≤ 21 → xSs l ≤ 20 → zSs l < 4611686018427387904 → K (.ret (vi (cap (wSs l)))) σ → PCalls Try.prog 29 [.list .any 8 (pvSs l), vi depth] σ K
set_option maxHeartbeats 4000000 in
set_option maxRecDepth 100000 in
theorem rweight_c : ∀ f, RWeightC f := by
  intro f
  induction f using Nat.strongRecOn with
  | _ f ih =>
    intro l depth σ K hf h0 hd hx hw hK
    have hlen := zSs_len l
    refine PCalls.of_body (tOk Try.prog) (by kernel_rfl) Try.func29 rfl (by kernel_rfl) [] [(12, 34, [(0, []), (4, []), (1, []), (5, []), (2, [5]), (3, []), (6, []), (7, []), (8, [])]), (14, 52, [(0, []), (4, []), (6, []), (10, []), (12, []), (1, []), (5, []), (7, []), (11, []), (13, []), (2, [5, 11]), (3, []), (8, [11]), (9, []), (14, []), (15, []), (16, [])]), (17, 73, [(0, []), (2, []), (6, []), (8, []), (1, []), (3, []), (7, []), (9, []), (4, [7]), (5, []), (10, []), (11, []), (12, []), (13, []), (14, []), (15, [])])] (by kernel_rfl) (n := 87) (by kernel_rfl) (by kernel_rfl) (rs := [.tmp 4]) (by kernel_rfl) ?_
    simp (config := { maxSteps := 2000000 }) (disch := omega) only [pvE_q, pvS_q, vi, vs, wrap_ok, min_cap, pvB, sRf1W_29, reduceIte, Nat.reduceEqDiff, Nat.reduceAdd, Nat.reduceSub, Nat.reduceMul, Nat.reduceLT, Nat.reduceLeDiff, Nat.reduceBEq, reduceCtorEq, Int.reduceAdd, Int.reduceSub, Int.reduceMul, Int.reduceLT, Int.reduceLE, Int.reduceEq, Int.reduceToNat, Int.reduceNeg, Nat.reduceBNe, Int.reduceBEq, Int.reduceBNe, forall_const, eq_self, decide_true, decide_false, w_loop]
    refine loop_rule (fun s => ∃ i : Nat, i ≤ l.length ∧ s = ⟨87, [(0, .list .any 8 (pvSs l)), (1, vi depth), (5, vi (cap (wSs (l.take i)))), (6, vi i)], [], σ⟩) (fun s => (l.length - ival (get s.env 6)).toNat) ?_ ?_
    · refine ⟨_, ?_, 0, Nat.zero_le _, rfl⟩
      exact less_env rfl (less_env rfl (less_env rfl (less_env rfl (less_nil (.refl _)))))
    · rintro s ⟨i, hi, rfl⟩ R hR
      have hn := wSs_nonneg (l.take i)
      by_cases hlt : (i : Int) < l.length
      · have hlt' : i < l.length := by omega
        have hE := wS_nonneg l[i]
        have hd1 := dSs_mem (List.getElem_mem hlt')
        have hx1 := xSs_mem (List.getElem_mem hlt')
        have hw1 := zSs_mem (List.getElem_mem hlt')
        have ew := wSs_take hlt'
        have eg : (pvSs l)[i]? = some (pvS l[i]) := by simp [pvSs_get, hlt']
        have hm : (l.length - ((i + 1 : Nat) : Int)).toNat < (l.length - (i : Int)).toNat := by omega
        generalize l[i] = y at *
        obtain ⟨k, n, il, vl, m, lb, t, x⟩ := y
        simp only [dS] at hd1
        simp only [xS] at hx1
        simp only [zS] at hw1
        simp only [pvS_q, vi, vs] at eg
        have hdd : ¬ depth > 20 := by omega
        have z1 := wEs_nonneg il
        have z2 := wEs_nonneg vl
        have z3 := zSs_nonneg t
        have z4 := zSs_nonneg x
        have z5 := wSs_nonneg t
        have z6 := wSs_nonneg x
        have rI := fun K => rexprs_c il σ K (by omega) (by omega)
        have rV := fun K => rexprs_c vl σ K (by omega) (by omega)
        have rT := fun K => ih (dSs t) (by omega) t (depth + 1) σ K (Nat.le_refl _) (by omega) (by omega) (by omega) (by omega)
        have rE := fun K => ih (dSs x) (by omega) x (depth + 1) σ K (Nat.le_refl _) (by omega) (by omega) (by omega) (by omega)
        have r1 := cap_range z1
        have r2 := cap_range z2
        have r3 := cap_range z5
        have r4 := cap_range z6
        have r0 := cap_range hn
        have e0 : (0 : Int) ≤ i := by omega
        by_cases k1 : k = 1
        · subst k1
          simp (config := { maxSteps := 2000000 }) (disch := omega) only [pvE_q, pvS_q, vi, vs, wrap_ok, min_cap, pvB, sRf1W_29, reduceIte, Nat.reduceEqDiff, Nat.reduceAdd, Nat.reduceSub, Nat.reduceMul, Nat.reduceLT, Nat.reduceLeDiff, Nat.reduceBEq, reduceCtorEq, Int.reduceAdd, Int.reduceSub, Int.reduceMul, Int.reduceLT, Int.reduceLE, Int.reduceEq, Int.reduceToNat, Int.reduceNeg, Nat.reduceBNe, Int.reduceBEq, Int.reduceBNe, forall_const, eq_self, decide_true, decide_false, w_loop, pvSs_length, hlt, eg, Int.toNat_natCast, e0, hdd]
          refine rI _ ?_
          simp (config := { maxSteps := 2000000 }) (disch := omega) only [pvE_q, pvS_q, vi, vs, wrap_ok, min_cap, pvB, sRf1W_29, reduceIte, Nat.reduceEqDiff, Nat.reduceAdd, Nat.reduceSub, Nat.reduceMul, Nat.reduceLT, Nat.reduceLeDiff, Nat.reduceBEq, reduceCtorEq, Int.reduceAdd, Int.reduceSub, Int.reduceMul, Int.reduceLT, Int.reduceLE, Int.reduceEq, Int.reduceToNat, Int.reduceNeg, Nat.reduceBNe, Int.reduceBEq, Int.reduceBNe, forall_const, eq_self, decide_true, decide_false, w_loop]
          refine rV _ ?_
          simp (config := { maxSteps := 2000000 }) (disch := omega) only [pvE_q, pvS_q, vi, vs, wrap_ok, min_cap, pvB, sRf1W_29, reduceIte, Nat.reduceEqDiff, Nat.reduceAdd, Nat.reduceSub, Nat.reduceMul, Nat.reduceLT, Nat.reduceLeDiff, Nat.reduceBEq, reduceCtorEq, Int.reduceAdd, Int.reduceSub, Int.reduceMul, Int.reduceLT, Int.reduceLE, Int.reduceEq, Int.reduceToNat, Int.reduceNeg, Nat.reduceBNe, Int.reduceBEq, Int.reduceBNe, forall_const, eq_self, decide_true, decide_false, w_loop]
          have e : cap (cap (wSs (l.take i)) + (1 + cap (wEs il) + cap (wEs vl))) = cap (wSs (l.take (i + 1))) := by
            rw [ew]
            have w0 : wS (.mk 1 n il vl m lb t x) = 1 + (wEs il) + (wEs vl) := by simp [wS]
            rw [w0]; unfold cap MW; repeat' split <;> omega
          refine hR _ _ ?_ ⟨i + 1, by omega, rfl⟩ hm
          exact less_env rfl (less_env rfl (less_env (by show vi _ = vi _; rw [← e]) (less_env rfl (less_nil (.refl _)))))
        by_cases k2 : k = 2
        · subst k2
          simp (config := { maxSteps := 2000000 }) (disch := omega) only [pvE_q, pvS_q, vi, vs, wrap_ok, min_cap, pvB, sRf1W_29, reduceIte, Nat.reduceEqDiff, Nat.reduceAdd, Nat.reduceSub, Nat.reduceMul, Nat.reduceLT, Nat.reduceLeDiff, Nat.reduceBEq, reduceCtorEq, Int.reduceAdd, Int.reduceSub, Int.reduceMul, Int.reduceLT, Int.reduceLE, Int.reduceEq, Int.reduceToNat, Int.reduceNeg, Nat.reduceBNe, Int.reduceBEq, Int.reduceBNe, forall_const, eq_self, decide_true, decide_false, w_loop, pvSs_length, hlt, eg, Int.toNat_natCast, e0, hdd]
          refine rI _ ?_
          simp (config := { maxSteps := 2000000 }) (disch := omega) only [pvE_q, pvS_q, vi, vs, wrap_ok, min_cap, pvB, sRf1W_29, reduceIte, Nat.reduceEqDiff, Nat.reduceAdd, Nat.reduceSub, Nat.reduceMul, Nat.reduceLT, Nat.reduceLeDiff, Nat.reduceBEq, reduceCtorEq, Int.reduceAdd, Int.reduceSub, Int.reduceMul, Int.reduceLT, Int.reduceLE, Int.reduceEq, Int.reduceToNat, Int.reduceNeg, Nat.reduceBNe, Int.reduceBEq, Int.reduceBNe, forall_const, eq_self, decide_true, decide_false, w_loop]
          refine rV _ ?_
          simp (config := { maxSteps := 2000000 }) (disch := omega) only [pvE_q, pvS_q, vi, vs, wrap_ok, min_cap, pvB, sRf1W_29, reduceIte, Nat.reduceEqDiff, Nat.reduceAdd, Nat.reduceSub, Nat.reduceMul, Nat.reduceLT, Nat.reduceLeDiff, Nat.reduceBEq, reduceCtorEq, Int.reduceAdd, Int.reduceSub, Int.reduceMul, Int.reduceLT, Int.reduceLE, Int.reduceEq, Int.reduceToNat, Int.reduceNeg, Nat.reduceBNe, Int.reduceBEq, Int.reduceBNe, forall_const, eq_self, decide_true, decide_false, w_loop]
          have e : cap (cap (wSs (l.take i)) + (1 + cap (wEs il) + cap (wEs vl))) = cap (wSs (l.take (i + 1))) := by
            rw [ew]
            have w0 : wS (.mk 2 n il vl m lb t x) = 1 + (wEs il) + (wEs vl) := by simp [wS]
            rw [w0]; unfold cap MW; repeat' split <;> omega
          refine hR _ _ ?_ ⟨i + 1, by omega, rfl⟩ hm
          exact less_env rfl (less_env rfl (less_env (by show vi _ = vi _; rw [← e]) (less_env rfl (less_nil (.refl _)))))
        by_cases k3 : k = 3
        · subst k3
          simp (config := { maxSteps := 2000000 }) (disch := omega) only [pvE_q, pvS_q, vi, vs, wrap_ok, min_cap, pvB, sRf1W_29, reduceIte, Nat.reduceEqDiff, Nat.reduceAdd, Nat.reduceSub, Nat.reduceMul, Nat.reduceLT, Nat.reduceLeDiff, Nat.reduceBEq, reduceCtorEq, Int.reduceAdd, Int.reduceSub, Int.reduceMul, Int.reduceLT, Int.reduceLE, Int.reduceEq, Int.reduceToNat, Int.reduceNeg, Nat.reduceBNe, Int.reduceBEq, Int.reduceBNe, forall_const, eq_self, decide_true, decide_false, w_loop, pvSs_length, hlt, eg, Int.toNat_natCast, e0, hdd]
          refine rV _ ?_
          simp (config := { maxSteps := 2000000 }) (disch := omega) only [pvE_q, pvS_q, vi, vs, wrap_ok, min_cap, pvB, sRf1W_29, reduceIte, Nat.reduceEqDiff, Nat.reduceAdd, Nat.reduceSub, Nat.reduceMul, Nat.reduceLT, Nat.reduceLeDiff, Nat.reduceBEq, reduceCtorEq, Int.reduceAdd, Int.reduceSub, Int.reduceMul, Int.reduceLT, Int.reduceLE, Int.reduceEq, Int.reduceToNat, Int.reduceNeg, Nat.reduceBNe, Int.reduceBEq, Int.reduceBNe, forall_const, eq_self, decide_true, decide_false, w_loop]
          refine rT _ ?_
          simp (config := { maxSteps := 2000000 }) (disch := omega) only [pvE_q, pvS_q, vi, vs, wrap_ok, min_cap, pvB, sRf1W_29, reduceIte, Nat.reduceEqDiff, Nat.reduceAdd, Nat.reduceSub, Nat.reduceMul, Nat.reduceLT, Nat.reduceLeDiff, Nat.reduceBEq, reduceCtorEq, Int.reduceAdd, Int.reduceSub, Int.reduceMul, Int.reduceLT, Int.reduceLE, Int.reduceEq, Int.reduceToNat, Int.reduceNeg, Nat.reduceBNe, Int.reduceBEq, Int.reduceBNe, forall_const, eq_self, decide_true, decide_false, w_loop]
          refine rE _ ?_
          simp (config := { maxSteps := 2000000 }) (disch := omega) only [pvE_q, pvS_q, vi, vs, wrap_ok, min_cap, pvB, sRf1W_29, reduceIte, Nat.reduceEqDiff, Nat.reduceAdd, Nat.reduceSub, Nat.reduceMul, Nat.reduceLT, Nat.reduceLeDiff, Nat.reduceBEq, reduceCtorEq, Int.reduceAdd, Int.reduceSub, Int.reduceMul, Int.reduceLT, Int.reduceLE, Int.reduceEq, Int.reduceToNat, Int.reduceNeg, Nat.reduceBNe, Int.reduceBEq, Int.reduceBNe, forall_const, eq_self, decide_true, decide_false, w_loop]
          have e : cap (cap (wSs (l.take i)) + (2 + cap (wEs vl) + cap (wSs t) + cap (wSs x))) = cap (wSs (l.take (i + 1))) := by
            rw [ew]
            have w0 : wS (.mk 3 n il vl m lb t x) = 2 + (wEs vl) + (wSs t) + (wSs x) := by simp [wS]
            rw [w0]; unfold cap MW; repeat' split <;> omega
          refine hR _ _ ?_ ⟨i + 1, by omega, rfl⟩ hm
          exact less_env rfl (less_env rfl (less_env (by show vi _ = vi _; rw [← e]) (less_env rfl (less_nil (.refl _)))))
        by_cases k4 : k = 4
        · subst k4
          have tr := times_range m
          have et : (if (if 33 < m then 33 else m) > 0 then if 33 < m then 33 else m else 0) + 1 = times m := by unfold times; repeat' split <;> omega
          have r5 := cap_range (n := 2 + cap (wEs vl) + cap (wSs t)) (by omega)
          have p1 : 0 ≤ times m * cap (2 + cap (wEs vl) + cap (wSs t)) := Int.mul_nonneg (by omega) (by omega)
          have p2 : times m * cap (2 + cap (wEs vl) + cap (wSs t)) ≤ 34 * 1099511627776 := Int.mul_le_mul (by omega) (by omega) (by omega) (by omega)
          have p3 : cap (2 + times m * cap (2 + cap (wEs vl) + cap (wSs t))) = cap (wS (.mk 4 n il vl m lb t x)) := by
            rw [cap_mul (by omega) (by omega)]
            have : cap (2 + times m * (2 + cap (wEs vl) + cap (wSs t))) = cap (2 + times m * cap (2 + cap (wEs vl) + cap (wSs t))) := (cap_mul (by omega) (by omega)).symm
            rw [this]
            have : cap (2 + cap (wEs vl) + cap (wSs t)) = cap (2 + wEs vl + wSs t) := by unfold cap MW; repeat' split <;> omega
            rw [this, cap_mul (by omega) (by omega)]
            simp [wS]
          generalize hp : times m * cap (2 + cap (wEs vl) + cap (wSs t)) = p at p1 p2 p3
          simp (config := { maxSteps := 2000000 }) (disch := omega) only [pvE_q, pvS_q, vi, vs, wrap_ok, min_cap, pvB, sRf1W_29, reduceIte, Nat.reduceEqDiff, Nat.reduceAdd, Nat.reduceSub, Nat.reduceMul, Nat.reduceLT, Nat.reduceLeDiff, Nat.reduceBEq, reduceCtorEq, Int.reduceAdd, Int.reduceSub, Int.reduceMul, Int.reduceLT, Int.reduceLE, Int.reduceEq, Int.reduceToNat, Int.reduceNeg, Nat.reduceBNe, Int.reduceBEq, Int.reduceBNe, forall_const, eq_self, decide_true, decide_false, w_loop, pvSs_length, hlt, eg, Int.toNat_natCast, e0, hdd, et]
          refine rV _ ?_
          simp (config := { maxSteps := 2000000 }) (disch := omega) only [pvE_q, pvS_q, vi, vs, wrap_ok, min_cap, pvB, sRf1W_29, reduceIte, Nat.reduceEqDiff, Nat.reduceAdd, Nat.reduceSub, Nat.reduceMul, Nat.reduceLT, Nat.reduceLeDiff, Nat.reduceBEq, reduceCtorEq, Int.reduceAdd, Int.reduceSub, Int.reduceMul, Int.reduceLT, Int.reduceLE, Int.reduceEq, Int.reduceToNat, Int.reduceNeg, Nat.reduceBNe, Int.reduceBEq, Int.reduceBNe, forall_const, eq_self, decide_true, decide_false, w_loop, et, hp]
          refine rT _ ?_
          simp (config := { maxSteps := 2000000 }) (disch := omega) only [pvE_q, pvS_q, vi, vs, wrap_ok, min_cap, pvB, sRf1W_29, reduceIte, Nat.reduceEqDiff, Nat.reduceAdd, Nat.reduceSub, Nat.reduceMul, Nat.reduceLT, Nat.reduceLeDiff, Nat.reduceBEq, reduceCtorEq, Int.reduceAdd, Int.reduceSub, Int.reduceMul, Int.reduceLT, Int.reduceLE, Int.reduceEq, Int.reduceToNat, Int.reduceNeg, Nat.reduceBNe, Int.reduceBEq, Int.reduceBNe, forall_const, eq_self, decide_true, decide_false, w_loop, et, hp]
          have e : cap (cap (wSs (l.take i)) + (2 + p)) = cap (wSs (l.take (i + 1))) := by
            rw [ew]
            have : cap (cap (wSs (l.take i)) + (2 + p)) = cap (cap (wSs (l.take i)) + cap (2 + p)) := by unfold cap MW; repeat' split <;> omega
            rw [this, p3, cap_add (by omega) (wS_nonneg _)]
          refine hR _ _ ?_ ⟨i + 1, by omega, rfl⟩ hm
          exact less_env rfl (less_env rfl (less_env (by show vi _ = vi _; rw [← e]) (less_env rfl (less_nil (.refl _)))))
        by_cases k5 : k = 5
        · subst k5
          simp (config := { maxSteps := 2000000 }) (disch := omega) only [pvE_q, pvS_q, vi, vs, wrap_ok, min_cap, pvB, sRf1W_29, reduceIte, Nat.reduceEqDiff, Nat.reduceAdd, Nat.reduceSub, Nat.reduceMul, Nat.reduceLT, Nat.reduceLeDiff, Nat.reduceBEq, reduceCtorEq, Int.reduceAdd, Int.reduceSub, Int.reduceMul, Int.reduceLT, Int.reduceLE, Int.reduceEq, Int.reduceToNat, Int.reduceNeg, Nat.reduceBNe, Int.reduceBEq, Int.reduceBNe, forall_const, eq_self, decide_true, decide_false, w_loop, pvSs_length, hlt, eg, Int.toNat_natCast, e0, hdd]
          refine rT _ ?_
          simp (config := { maxSteps := 2000000 }) (disch := omega) only [pvE_q, pvS_q, vi, vs, wrap_ok, min_cap, pvB, sRf1W_29, reduceIte, Nat.reduceEqDiff, Nat.reduceAdd, Nat.reduceSub, Nat.reduceMul, Nat.reduceLT, Nat.reduceLeDiff, Nat.reduceBEq, reduceCtorEq, Int.reduceAdd, Int.reduceSub, Int.reduceMul, Int.reduceLT, Int.reduceLE, Int.reduceEq, Int.reduceToNat, Int.reduceNeg, Nat.reduceBNe, Int.reduceBEq, Int.reduceBNe, forall_const, eq_self, decide_true, decide_false, w_loop]
          have e : cap (cap (wSs (l.take i)) + (2 + cap (wSs t))) = cap (wSs (l.take (i + 1))) := by
            rw [ew]
            have w0 : wS (.mk 5 n il vl m lb t x) = 2 + (wSs t) := by simp [wS]
            rw [w0]; unfold cap MW; repeat' split <;> omega
          refine hR _ _ ?_ ⟨i + 1, by omega, rfl⟩ hm
          exact less_env rfl (less_env rfl (less_env (by show vi _ = vi _; rw [← e]) (less_env rfl (less_nil (.refl _)))))
        have b1 : (k == 1) = false := by simpa using k1
        have b2 : (k == 2) = false := by simpa using k2
        have b3 : (k == 3) = false := by simpa using k3
        have b4 : (k == 4) = false := by simpa using k4
        have b5 : (k == 5) = false := by simpa using k5
        simp (config := { maxSteps := 2000000 }) (disch := omega) only [pvE_q, pvS_q, vi, vs, wrap_ok, min_cap, pvB, sRf1W_29, reduceIte, Nat.reduceEqDiff, Nat.reduceAdd, Nat.reduceSub, Nat.reduceMul, Nat.reduceLT, Nat.reduceLeDiff, Nat.reduceBEq, reduceCtorEq, Int.reduceAdd, Int.reduceSub, Int.reduceMul, Int.reduceLT, Int.reduceLE, Int.reduceEq, Int.reduceToNat, Int.reduceNeg, Nat.reduceBNe, Int.reduceBEq, Int.reduceBNe, forall_const, eq_self, decide_true, decide_false, w_loop, pvSs_length, hlt, eg, Int.toNat_natCast, e0, hdd, b1, b2, b3, b4, b5]
        have e : cap (cap (wSs (l.take i)) + 0) = cap (wSs (l.take (i + 1))) := by
          have w0 : wS (.mk k n il vl m lb t x) = 0 := by simp [wS, k1, k2, k3, k4, k5]
          rw [ew, w0]; unfold cap MW; repeat' split <;> omega
        refine hR _ _ ?_ ⟨i + 1, by omega, rfl⟩ hm
        exact less_env rfl (less_env rfl (less_env (by show vi _ = vi _; rw [← e]) (less_env rfl (less_nil (.refl _)))))
      · have hi' : i = l.length := by omega
        subst hi'
        simp (config := { maxSteps := 2000000 }) (disch := omega) only [pvE_q, pvS_q, vi, vs, wrap_ok, min_cap, pvB, sRf1W_29, reduceIte, Nat.reduceEqDiff, Nat.reduceAdd, Nat.reduceSub, Nat.reduceMul, Nat.reduceLT, Nat.reduceLeDiff, Nat.reduceBEq, reduceCtorEq, Int.reduceAdd, Int.reduceSub, Int.reduceMul, Int.reduceLT, Int.reduceLE, Int.reduceEq, Int.reduceToNat, Int.reduceNeg, Nat.reduceBNe, Int.reduceBEq, Int.reduceBNe, forall_const, eq_self, decide_true, decide_false, w_loop, pvSs_length, hlt]
        refine ⟨σ, .refl _, ?_⟩
        simpa using hK
set_option maxRecDepth 100000 in
theorem RWeight_c (l : List AS) (σ : St) (K : Res → St → Prop) (hd : dSs l ≤ 20) (hx : xSs l ≤ 20) (hw : zSs l < 4611686018427387904) (hK : K (.ret (vi (cap (wSs l)))) σ) : PCalls Try.prog 25 [.list .any 8 (pvSs l)] σ K := by
  refine PCalls.of_body (tOk Try.prog) (by kernel_rfl) Try.func25 rfl (by kernel_rfl) [] [] (by kernel_rfl) (n := 5) (by kernel_rfl) (by kernel_rfl) (rs := [.tmp 2]) (by kernel_rfl) ?_
  simp (config := { maxSteps := 2000000 }) (disch := omega) only [pvE_q, pvS_q, vi, vs, wrap_ok, min_cap, pvB, sRf1W_25, reduceIte, Nat.reduceEqDiff, Nat.reduceAdd, Nat.reduceSub, Nat.reduceMul, Nat.reduceLT, Nat.reduceLeDiff, Nat.reduceBEq, reduceCtorEq, Int.reduceAdd, Int.reduceSub, Int.reduceMul, Int.reduceLT, Int.reduceLE, Int.reduceEq, Int.reduceToNat, Int.reduceNeg, Nat.reduceBNe, Int.reduceBEq, Int.reduceBNe, forall_const, eq_self, decide_true, decide_false, w_loop]
  refine rweight_c _ l 1 σ _ (Nat.le_refl _) (by omega) (by omega) hx hw ?_
  simp (config := { maxSteps := 2000000 }) (disch := omega) only [pvE_q, pvS_q, vi, vs, wrap_ok, min_cap, pvB, sRf1W_25, reduceIte, Nat.reduceEqDiff, Nat.reduceAdd, Nat.reduceSub, Nat.reduceMul, Nat.reduceLT, Nat.reduceLeDiff, Nat.reduceBEq, reduceCtorEq, Int.reduceAdd, Int.reduceSub, Int.reduceMul, Int.reduceLT, Int.reduceLE, Int.reduceEq, Int.reduceToNat, Int.reduceNeg, Nat.reduceBNe, Int.reduceBEq, Int.reduceBNe, forall_const, eq_self, decide_true, decide_false, w_loop]
  exact ⟨σ, .refl _, hK⟩
end Go.Pv.W
-- Lb1W
namespace Go.Pv.W
open Go Go.RowKit Go.Proofs Go.Pv
def sLb1W_10 := (And.intro (And.intro (And.intro (And.intro @q_tsz_1 @q_slz_1) (And.intro @q_ifc_1 @q_tsz_3)) (And.intro (And.intro @q_slz_3 @q_ifc_3) (And.intro @q_tsz_22 (And.intro @q_slz_22 @q_str_22)))) (And.intro (And.intro (And.intro @q_arz_22 @q_ifc_22) (And.intro @q_tsz_32 (And.intro @q_slz_32 @q_str_32))) (And.intro (And.intro @q_arz_32 @q_ifc_32) (And.intro @q_tsz_57 (And.intro @q_slz_57 @q_ifc_57)))))
def sLb1W_16 := (And.intro (And.intro (And.intro (And.intro @q_fld_45_5 (And.intro @q_fld_45_6 @q_fld_45_0)) (And.intro (And.intro @q_fld_45_7 @q_slz_0) (And.intro @q_tsz_3 @q_slz_3))) (And.intro (And.intro (And.intro @q_ifc_3 @q_tsz_4) (And.intro @q_slz_4 @q_ifc_4)) (And.intro (And.intro @q_isb_4 @q_tsz_22) (And.intro @q_slz_22 @q_str_22)))) (And.intro (And.intro (And.intro @q_arz_22 (And.intro @q_ifc_22 @q_tsz_32)) (And.intro (And.intro @q_slz_32 @q_str_32) (And.intro @q_arz_32 @q_ifc_32))) (And.intro (And.intro (And.intro @q_tsz_45 @q_slz_45) (And.intro @q_ifc_45 @q_tsz_57)) (And.intro (And.intro @q_slz_57 @q_ifc_57) (And.intro @q_zcs_45 @q_bsl_22)))))
def sLb1W_17 := (And.intro (And.intro @q_tsz_3 (And.intro @q_slz_3 @q_ifc_3)) (And.intro (And.intro @q_tsz_4 @q_slz_4) (And.intro @q_ifc_4 @q_isb_4)))
def wantP (k : Int) : Bool := k == 3 || k == 4
set_option maxRecDepth 100000 in
theorem want_c (k : Int) (σ : St) (K : Res → St → Prop) (hK : K (.ret (vb' (wantP k))) σ) : PCalls Try.prog 17 [vi k] σ K := by
  refine PCalls.of_body (tOk Try.prog) (by kernel_rfl) Try.func17 rfl (by kernel_rfl) [] [] (by kernel_rfl) (n := 9) (by kernel_rfl) (by kernel_rfl) (rs := [.tmp 2]) (by kernel_rfl) ?_
  unfold wantP at hK
  cases h3 : k == 3 <;> cases h4 : k == 4 <;> rw [h3, h4] at hK <;> simp (config := { maxSteps := 2000000 }) (disch := omega) only [pvE_q, pvS_q, vi, vs, vb', wrap_ok, pvB, sLb1W_17, reduceIte, Nat.reduceEqDiff, Nat.reduceAdd, Nat.reduceSub, Nat.reduceMul, Nat.reduceLT, Nat.reduceLeDiff, Nat.reduceBEq, reduceCtorEq, Int.reduceAdd, Int.reduceSub, Int.reduceMul, Int.reduceLT, Int.reduceLE, Int.reduceEq, Int.reduceToNat, Int.reduceNeg, Nat.reduceBNe, Int.reduceBEq, Int.reduceBNe, forall_const, eq_self, decide_true, decide_false, w_loop, h3, h4] <;> exact ⟨σ, .refl _, hK⟩
set_option maxHeartbeats 4000000 in
set_option maxRecDepth 100000 in
theorem labels_c : ∀ (f : Nat) (l : List AS) (depth : Int) (σ : St) (K : Res → St → Prop), dSs l ≤ f → 0 ≤ depth → depth + dSs l ≤ 20 → zSs l < 1099511627776 → K (.ret (.list .any 1 ((labSs wantP l).map vi))) σ → PCalls Try.prog 16 [.list .any 8 (pvSs l), vi depth, .val (.func (.func 17) #[] #[])] σ K := by
  intro f
  induction f using Nat.strongRecOn with
  | _ f ih =>
    intro l depth σ K hf h0 hd hw hK
    have hlen := zSs_len l
    refine PCalls.forgetR ?_
    refine PCalls.of_body (tOk Try.prog) (by kernel_rfl) Try.func16 rfl (by kernel_rfl) [] [] (by kernel_rfl) (n := 45) (by kernel_rfl) (by kernel_rfl) (rs := [.tmp 6]) (by kernel_rfl) ?_
    simp (config := { maxSteps := 2000000 }) (disch := omega) only [pvE_q, pvS_q, vi, vs, vb', wrap_ok, pvB, sLb1W_16, reduceIte, Nat.reduceEqDiff, Nat.reduceAdd, Nat.reduceSub, Nat.reduceMul, Nat.reduceLT, Nat.reduceLeDiff, Nat.reduceBEq, reduceCtorEq, Int.reduceAdd, Int.reduceSub, Int.reduceMul, Int.reduceLT, Int.reduceLE, Int.reduceEq, Int.reduceToNat, Int.reduceNeg, Nat.reduceBNe, Int.reduceBEq, Int.reduceBNe, forall_const, eq_self, decide_true, decide_false, w_loop]
    refine loop_rule (fun s => ∃ (i : Nat) (k : Cap) (σ1 : St), i ≤ l.length ∧ Mine σ σ1 (labSs wantP (l.take i)).length 1 k ∧ s = ⟨45, [(1, vi depth), (2, .val (.func (.func 17) #[] #[])), (7, .list k 1 ((labSs wantP (l.take i)).map vi)), (10, .list .any 8 (pvSs l)), (11, vi l.length), (12, vi i)], [], σ1⟩) (fun s => (l.length - ival (get s.env 12)).toNat) ?_ ?_
    · refine ⟨_, ?_, 0, .full, σ, Nat.zero_le _, Mine.full _ _ _, rfl⟩
      exact less_env rfl (less_env rfl (less_env rfl (less_env rfl (less_env (by rw [← pvSs_length]; rfl) (less_env rfl (less_nil (.refl _)))))))
    · rintro s ⟨i, k, σ1, hi, hmine, rfl⟩ R hR
      by_cases hlt : (i : Int) < l.length
      · have hlt' : i < l.length := by omega
        have hd1 := dSs_mem (List.getElem_mem hlt')
        have hw1 := zSs_mem (List.getElem_mem hlt')
        have ew := labSs_take wantP hlt'
        have ez := zSs_take hlt'
        have ez2 := zSs_take_le l (i + 1)
        have el := labSs_len wantP (l.take i)
        have eg : (pvSs l)[i]? = some (pvS l[i]) := by simp [pvSs_get, hlt']
        have hm : (l.length - ((i + 1 : Nat) : Int)).toNat < (l.length - (i : Int)).toNat := by omega
        generalize l[i] = y at *
        obtain ⟨kd, n, il, vl, m, lb, t, x⟩ := y
        simp only [dS] at hd1
        simp only [zS] at hw1 ez
        simp only [pvS_q, vi, vs] at eg
        have hdd : depth < 20 := by omega
        have z1 := wEs_nonneg il
        have z2 := wEs_nonneg vl
        have z3 := labSs_len wantP t
        have z4 := labSs_len wantP x
        have rT := fun σ K => ih (dSs t) (by omega) t (depth + 1) σ K (Nat.le_refl _) (by omega) (by omega) (by omega)
        have rX := fun σ K => ih (dSs x) (by omega) x (depth + 1) σ K (Nat.le_refl _) (by omega) (by omega) (by omega)
        have e0 : (0 : Int) ≤ i := by omega
        simp (config := { maxSteps := 2000000 }) (disch := omega) only [pvE_q, pvS_q, vi, vs, vb', wrap_ok, pvB, sLb1W_16, reduceIte, Nat.reduceEqDiff, Nat.reduceAdd, Nat.reduceSub, Nat.reduceMul, Nat.reduceLT, Nat.reduceLeDiff, Nat.reduceBEq, reduceCtorEq, Int.reduceAdd, Int.reduceSub, Int.reduceMul, Int.reduceLT, Int.reduceLE, Int.reduceEq, Int.reduceToNat, Int.reduceNeg, Nat.reduceBNe, Int.reduceBEq, Int.reduceBNe, forall_const, eq_self, decide_true, decide_false, w_loop, pvSs_length, hlt, eg, Int.toNat_natCast, e0]
        refine want_c kd σ1 _ ?_
        simp only [labS] at ew
        cases hwk : wantP kd
        · rw [hwk] at ew
          simp (config := { maxSteps := 2000000 }) (disch := omega) only [pvE_q, pvS_q, vi, vs, vb', wrap_ok, pvB, sLb1W_16, reduceIte, Nat.reduceEqDiff, Nat.reduceAdd, Nat.reduceSub, Nat.reduceMul, Nat.reduceLT, Nat.reduceLeDiff, Nat.reduceBEq, reduceCtorEq, Int.reduceAdd, Int.reduceSub, Int.reduceMul, Int.reduceLT, Int.reduceLE, Int.reduceEq, Int.reduceToNat, Int.reduceNeg, Nat.reduceBNe, Int.reduceBEq, Int.reduceBNe, forall_const, eq_self, decide_true, decide_false, w_loop, hdd]
          refine rT σ1 _ ?_
          simp (config := { maxSteps := 2000000 }) (disch := omega) only [pvE_q, pvS_q, vi, vs, vb', wrap_ok, pvB, sLb1W_16, reduceIte, Nat.reduceEqDiff, Nat.reduceAdd, Nat.reduceSub, Nat.reduceMul, Nat.reduceLT, Nat.reduceLeDiff, Nat.reduceBEq, reduceCtorEq, Int.reduceAdd, Int.reduceSub, Int.reduceMul, Int.reduceLT, Int.reduceLE, Int.reduceEq, Int.reduceToNat, Int.reduceNeg, Nat.reduceBNe, Int.reduceBEq, Int.reduceBNe, forall_const, eq_self, decide_true, decide_false, w_loop]
          refine ⟨by omega, by omega, hmine.owns, fun k2 σ2 a2 => ?_⟩
          have m2 := hmine.app a2
          refine rX σ2 _ ?_
          simp (config := { maxSteps := 2000000 }) (disch := omega) only [pvE_q, pvS_q, vi, vs, vb', wrap_ok, pvB, sLb1W_16, reduceIte, Nat.reduceEqDiff, Nat.reduceAdd, Nat.reduceSub, Nat.reduceMul, Nat.reduceLT, Nat.reduceLeDiff, Nat.reduceBEq, reduceCtorEq, Int.reduceAdd, Int.reduceSub, Int.reduceMul, Int.reduceLT, Int.reduceLE, Int.reduceEq, Int.reduceToNat, Int.reduceNeg, Nat.reduceBNe, Int.reduceBEq, Int.reduceBNe, forall_const, eq_self, decide_true, decide_false, w_loop]
          refine ⟨by omega, by omega, m2.owns, fun k3 σ3 a3 => ?_⟩
          have m3 := m2.app a3
          refine hR _ _ ?_ ⟨i + 1, k3, σ3, by omega, ?_, rfl⟩ hm
          · exact less_env rfl (less_env rfl (less_env (by show PV.list _ _ _ = PV.list _ _ _; rw [ew]; simp [vi]) (less_env rfl (less_env rfl (less_env rfl (less_nil (.refl _)))))))
          · have e : (labSs wantP (l.take (i + 1))).length = (labSs wantP (l.take i)).length + (labSs wantP t).length + (labSs wantP x).length := by rw [ew]; simp; omega
            rw [e]; exact m3
        · rw [hwk] at ew
          simp (config := { maxSteps := 2000000 }) (disch := omega) only [pvE_q, pvS_q, vi, vs, vb', wrap_ok, pvB, sLb1W_16, reduceIte, Nat.reduceEqDiff, Nat.reduceAdd, Nat.reduceSub, Nat.reduceMul, Nat.reduceLT, Nat.reduceLeDiff, Nat.reduceBEq, reduceCtorEq, Int.reduceAdd, Int.reduceSub, Int.reduceMul, Int.reduceLT, Int.reduceLE, Int.reduceEq, Int.reduceToNat, Int.reduceNeg, Nat.reduceBNe, Int.reduceBEq, Int.reduceBNe, forall_const, eq_self, decide_true, decide_false, w_loop, hdd]
          refine ⟨by omega, by omega, hmine.owns, fun k1 σ1' a1 => ?_⟩
          have m1 := hmine.app a1
          refine rT σ1' _ ?_
          simp (config := { maxSteps := 2000000 }) (disch := omega) only [pvE_q, pvS_q, vi, vs, vb', wrap_ok, pvB, sLb1W_16, reduceIte, Nat.reduceEqDiff, Nat.reduceAdd, Nat.reduceSub, Nat.reduceMul, Nat.reduceLT, Nat.reduceLeDiff, Nat.reduceBEq, reduceCtorEq, Int.reduceAdd, Int.reduceSub, Int.reduceMul, Int.reduceLT, Int.reduceLE, Int.reduceEq, Int.reduceToNat, Int.reduceNeg, Nat.reduceBNe, Int.reduceBEq, Int.reduceBNe, forall_const, eq_self, decide_true, decide_false, w_loop]
          refine ⟨by omega, by omega, m1.owns, fun k2 σ2 a2 => ?_⟩
          have m2 := m1.app a2
          refine rX σ2 _ ?_
          simp (config := { maxSteps := 2000000 }) (disch := omega) only [pvE_q, pvS_q, vi, vs, vb', wrap_ok, pvB, sLb1W_16, reduceIte, Nat.reduceEqDiff, Nat.reduceAdd, Nat.reduceSub, Nat.reduceMul, Nat.reduceLT, Nat.reduceLeDiff, Nat.reduceBEq, reduceCtorEq, Int.reduceAdd, Int.reduceSub, Int.reduceMul, Int.reduceLT, Int.reduceLE, Int.reduceEq, Int.reduceToNat, Int.reduceNeg, Nat.reduceBNe, Int.reduceBEq, Int.reduceBNe, forall_const, eq_self, decide_true, decide_false, w_loop]
          refine ⟨by omega, by omega, m2.owns, fun k3 σ3 a3 => ?_⟩
          have m3 := m2.app a3
          refine hR _ _ ?_ ⟨i + 1, k3, σ3, by omega, ?_, rfl⟩ hm
          · exact less_env rfl (less_env rfl (less_env (by show PV.list _ _ _ = PV.list _ _ _; rw [ew]; simp [vi]) (less_env rfl (less_env rfl (less_env rfl (less_nil (.refl _)))))))
          · have e : (labSs wantP (l.take (i + 1))).length = (labSs wantP (l.take i)).length + (0 + 1) + (labSs wantP t).length + (labSs wantP x).length := by rw [ew]; simp; omega
            rw [e]; exact m3
      · have hi' : i = l.length := by omega
        subst hi'
        simp (config := { maxSteps := 2000000 }) (disch := omega) only [pvE_q, pvS_q, vi, vs, vb', wrap_ok, pvB, sLb1W_16, reduceIte, Nat.reduceEqDiff, Nat.reduceAdd, Nat.reduceSub, Nat.reduceMul, Nat.reduceLT, Nat.reduceLeDiff, Nat.reduceBEq, reduceCtorEq, Int.reduceAdd, Int.reduceSub, Int.reduceMul, Int.reduceLT, Int.reduceLE, Int.reduceEq, Int.reduceToNat, Int.reduceNeg, Nat.reduceBNe, Int.reduceBEq, Int.reduceBNe, forall_const, eq_self, decide_true, decide_false, w_loop, pvSs_length, hlt]
        refine ⟨σ, hmine.sub, ?_⟩
        simp only [Res.forget, forget, forgets_vi, List.take_length]
        exact hK
set_option maxRecDepth 100000 in
theorem Labels_c (l : List AS) (σ : St) (K : Res → St → Prop) (hd : dSs l ≤ 19) (hw : zSs l < 1099511627776) (hK : K (.ret (.list .any 1 ((labSs wantP l).map vi))) σ) : PCalls Try.prog 10 [.list .any 8 (pvSs l)] σ K := by
  refine PCalls.of_body (tOk Try.prog) (by kernel_rfl) Try.func10 rfl (by kernel_rfl) [] [] (by kernel_rfl) (n := 5) (by kernel_rfl) (by kernel_rfl) (rs := [.tmp 2]) (by kernel_rfl) ?_
  simp (config := { maxSteps := 2000000 }) (disch := omega) only [pvE_q, pvS_q, vi, vs, vb', wrap_ok, pvB, sLb1W_10, reduceIte, Nat.reduceEqDiff, Nat.reduceAdd, Nat.reduceSub, Nat.reduceMul, Nat.reduceLT, Nat.reduceLeDiff, Nat.reduceBEq, reduceCtorEq, Int.reduceAdd, Int.reduceSub, Int.reduceMul, Int.reduceLT, Int.reduceLE, Int.reduceEq, Int.reduceToNat, Int.reduceNeg, Nat.reduceBNe, Int.reduceBEq, Int.reduceBNe, forall_const, eq_self, decide_true, decide_false, w_loop]
  refine labels_c _ l 1 σ _ (Nat.le_refl _) (by omega) (by omega) hw ?_
  simp (config := { maxSteps := 2000000 }) (disch := omega) only [pvE_q, pvS_q, vi, vs, vb', wrap_ok, pvB, sLb1W_10, reduceIte, Nat.reduceEqDiff, Nat.reduceAdd, Nat.reduceSub, Nat.reduceMul, Nat.reduceLT, Nat.reduceLeDiff, Nat.reduceBEq, reduceCtorEq, Int.reduceAdd, Int.reduceSub, Int.reduceMul, Int.reduceLT, Int.reduceLE, Int.reduceEq, Int.reduceToNat, Int.reduceNeg, Nat.reduceBNe, Int.reduceBEq, Int.reduceBNe, forall_const, eq_self, decide_true, decide_false, w_loop]
  exact ⟨σ, .refl _, hK⟩
def kindP (kind k : Int) : Bool := (k == 3 || k == 4) && (kind == 0 || k == kind)
end Go.Pv.W
-- Lb2W
namespace Go.Pv.W
open Go Go.RowKit Go.Proofs Go.Pv
def sLb2W_24 := (And.intro (And.intro (And.intro (And.intro @q_tsz_1 @q_slz_1) (And.intro @q_ifc_1 @q_tsz_3)) (And.intro (And.intro @q_slz_3 @q_ifc_3) (And.intro @q_tsz_22 @q_slz_22))) (And.intro (And.intro (And.intro @q_str_22 @q_arz_22) (And.intro @q_ifc_22 @q_tsz_32)) (And.intro (And.intro @q_slz_32 @q_str_32) (And.intro @q_arz_32 @q_ifc_32))))
def sLb2W_28 := (And.intro (And.intro (And.intro (And.intro @q_fld_45_5 (And.intro @q_fld_45_7 @q_fld_45_0)) (And.intro @q_fld_45_6 (And.intro @q_slz_0 @q_tsz_3))) (And.intro (And.intro @q_slz_3 (And.intro @q_ifc_3 @q_tsz_4)) (And.intro (And.intro @q_slz_4 @q_ifc_4) (And.intro @q_isb_4 @q_tsz_22)))) (And.intro (And.intro (And.intro @q_slz_22 (And.intro @q_str_22 @q_arz_22)) (And.intro (And.intro @q_ifc_22 @q_tsz_32) (And.intro @q_slz_32 @q_str_32))) (And.intro (And.intro @q_arz_32 (And.intro @q_ifc_32 @q_tsz_45)) (And.intro (And.intro @q_slz_45 @q_ifc_45) (And.intro @q_zcs_45 @q_bsl_22)))))
set_option maxHeartbeats 8000000 in
set_option maxRecDepth 100000 in
theorem rlabels_c (kind : Int) : ∀ (f : Nat) (l : List AS) (depth : Int) (σ : St) (K : Res → St → Prop), dSs l ≤ f → 0 ≤ depth → depth + dSs l ≤ 20 → zSs l < 1099511627776 → K (.ret (.list .any 1 ((labSs (kindP kind) l).map vi))) σ → PCalls Try.prog 28 [.list .any 8 (pvSs l), vi depth, vi kind] σ K := by
  intro f
  induction f using Nat.strongRecOn with
  | _ f ih =>
    intro l depth σ K hf h0 hd hw hK
    have hlen := zSs_len l
    have hdd : depth ≤ 20 := by omega
    refine PCalls.forgetR ?_
    refine PCalls.of_body (tOk Try.prog) (by kernel_rfl) Try.func28 rfl (by kernel_rfl) [] [] (by kernel_rfl) (n := 64) (by kernel_rfl) (by kernel_rfl) (rs := [.tmp 6]) (by kernel_rfl) ?_
    simp (config := { maxSteps := 2000000 }) (disch := omega) only [pvE_q, pvS_q, vi, vs, vb', wrap_ok, pvB, sLb2W_28, reduceIte, Nat.reduceEqDiff, Nat.reduceAdd, Nat.reduceSub, Nat.reduceMul, Nat.reduceLT, Nat.reduceLeDiff, Nat.reduceBEq, reduceCtorEq, Int.reduceAdd, Int.reduceSub, Int.reduceMul, Int.reduceLT, Int.reduceLE, Int.reduceEq, Int.reduceToNat, Int.reduceNeg, Nat.reduceBNe, Int.reduceBEq, Int.reduceBNe, forall_const, eq_self, decide_true, decide_false, w_loop]
    refine loop_rule (fun s => ∃ (i : Nat) (k : Cap) (σ1 : St), i ≤ l.length ∧ Mine σ σ1 (labSs (kindP kind) (l.take i)).length 1 k ∧ s = ⟨64, [(0, .list .any 8 (pvSs l)), (1, vi depth), (2, vi kind), (7, .list k 1 ((labSs (kindP kind) (l.take i)).map vi)), (8, vi i)], [], σ1⟩) (fun s => (l.length - ival (get s.env 8)).toNat) ?_ ?_
    · refine ⟨_, ?_, 0, .full, σ, Nat.zero_le _, Mine.full _ _ _, rfl⟩
      exact less_env rfl (less_env rfl (less_env rfl (less_env rfl (less_env rfl (less_nil (.refl _))))))
    · rintro s ⟨i, k, σ1, hi, hmine, rfl⟩ R hR
      by_cases hlt : (i : Int) < l.length
      · have hlt' : i < l.length := by omega
        have hd1 := dSs_mem (List.getElem_mem hlt')
        have hw1 := zSs_mem (List.getElem_mem hlt')
        have ew := labSs_take (kindP kind) hlt'
        have ez := zSs_take hlt'
        have ez2 := zSs_take_le l (i + 1)
        have el := labSs_len (kindP kind) (l.take i)
        have eg : (pvSs l)[i]? = some (pvS l[i]) := by simp [pvSs_get, hlt']
        have hm : (l.length - ((i + 1 : Nat) : Int)).toNat < (l.length - (i : Int)).toNat := by omega
        generalize l[i] = y at *
        obtain ⟨kd, n, il, vl, m, lb, t, x⟩ := y
        simp only [dS] at hd1
        simp only [zS] at hw1 ez
        simp only [pvS_q, vi, vs] at eg
        have z1 := wEs_nonneg il
        have z2 := wEs_nonneg vl
        have z3 := labSs_len (kindP kind) t
        have z4 := labSs_len (kindP kind) x
        have rT := fun σ K => ih (dSs t) (by omega) t (depth + 1) σ K (Nat.le_refl _) (by omega) (by omega) (by omega)
        have rX := fun σ K => ih (dSs x) (by omega) x (depth + 1) σ K (Nat.le_refl _) (by omega) (by omega) (by omega)
        have e0 : (0 : Int) ≤ i := by omega
        simp only [labS, kindP] at ew
        cases g3 : kd == 3
        · cases g4 : kd == 4
          · have gg : True := trivial
            simp only [g3, g4, Bool.or_true, Bool.true_or, Bool.or_false, Bool.false_or, Bool.and_true, Bool.true_and, Bool.and_false, Bool.false_and, Bool.or_self, Bool.and_self] at ew
            simp (config := { maxSteps := 2000000 }) (disch := omega) only [pvE_q, pvS_q, vi, vs, vb', wrap_ok, pvB, sLb2W_28, reduceIte, Nat.reduceEqDiff, Nat.reduceAdd, Nat.reduceSub, Nat.reduceMul, Nat.reduceLT, Nat.reduceLeDiff, Nat.reduceBEq, reduceCtorEq, Int.reduceAdd, Int.reduceSub, Int.reduceMul, Int.reduceLT, Int.reduceLE, Int.reduceEq, Int.reduceToNat, Int.reduceNeg, Nat.reduceBNe, Int.reduceBEq, Int.reduceBNe, forall_const, eq_self, decide_true, decide_false, w_loop, pvSs_length, hlt, eg, Int.toNat_natCast, e0, hdd, g3, g4]
            refine rT _ _ ?_
            simp (config := { maxSteps := 2000000 }) (disch := omega) only [pvE_q, pvS_q, vi, vs, vb', wrap_ok, pvB, sLb2W_28, reduceIte, Nat.reduceEqDiff, Nat.reduceAdd, Nat.reduceSub, Nat.reduceMul, Nat.reduceLT, Nat.reduceLeDiff, Nat.reduceBEq, reduceCtorEq, Int.reduceAdd, Int.reduceSub, Int.reduceMul, Int.reduceLT, Int.reduceLE, Int.reduceEq, Int.reduceToNat, Int.reduceNeg, Nat.reduceBNe, Int.reduceBEq, Int.reduceBNe, forall_const, eq_self, decide_true, decide_false, w_loop]
            refine ⟨by omega, by omega, hmine.owns, fun k2 σ2 a2 => ?_⟩
            have m2 := hmine.app a2
            refine rX σ2 _ ?_
            simp (config := { maxSteps := 2000000 }) (disch := omega) only [pvE_q, pvS_q, vi, vs, vb', wrap_ok, pvB, sLb2W_28, reduceIte, Nat.reduceEqDiff, Nat.reduceAdd, Nat.reduceSub, Nat.reduceMul, Nat.reduceLT, Nat.reduceLeDiff, Nat.reduceBEq, reduceCtorEq, Int.reduceAdd, Int.reduceSub, Int.reduceMul, Int.reduceLT, Int.reduceLE, Int.reduceEq, Int.reduceToNat, Int.reduceNeg, Nat.reduceBNe, Int.reduceBEq, Int.reduceBNe, forall_const, eq_self, decide_true, decide_false, w_loop]
            refine ⟨by omega, by omega, m2.owns, fun k3 σ3 a3 => ?_⟩
            have m3 := m2.app a3
            refine hR _ _ ?_ ⟨i + 1, k3, σ3, by omega, ?_, rfl⟩ hm
            · exact less_env rfl (less_env rfl (less_env rfl (less_env (by show PV.list _ _ _ = PV.list _ _ _; rw [ew]; simp [vi, kindP]) (less_env rfl (less_nil (.refl _))))))
            · have e : (labSs (kindP kind) (l.take (i + 1))).length = (labSs (kindP kind) (l.take i)).length + (labSs (kindP kind) t).length + (labSs (kindP kind) x).length := by rw [ew]; simp; try omega
              rw [e]; exact m3
          · cases g0 : kind == 0
            · cases gk : kd == kind
              · have gg : True := trivial
                simp only [g3, g4, g0, gk, Bool.or_true, Bool.true_or, Bool.or_false, Bool.false_or, Bool.and_true, Bool.true_and, Bool.and_false, Bool.false_and, Bool.or_self, Bool.and_self] at ew
                simp (config := { maxSteps := 2000000 }) (disch := omega) only [pvE_q, pvS_q, vi, vs, vb', wrap_ok, pvB, sLb2W_28, reduceIte, Nat.reduceEqDiff, Nat.reduceAdd, Nat.reduceSub, Nat.reduceMul, Nat.reduceLT, Nat.reduceLeDiff, Nat.reduceBEq, reduceCtorEq, Int.reduceAdd, Int.reduceSub, Int.reduceMul, Int.reduceLT, Int.reduceLE, Int.reduceEq, Int.reduceToNat, Int.reduceNeg, Nat.reduceBNe, Int.reduceBEq, Int.reduceBNe, forall_const, eq_self, decide_true, decide_false, w_loop, pvSs_length, hlt, eg, Int.toNat_natCast, e0, hdd, g3, g4, g0, gk]
                refine rT _ _ ?_
                simp (config := { maxSteps := 2000000 }) (disch := omega) only [pvE_q, pvS_q, vi, vs, vb', wrap_ok, pvB, sLb2W_28, reduceIte, Nat.reduceEqDiff, Nat.reduceAdd, Nat.reduceSub, Nat.reduceMul, Nat.reduceLT, Nat.reduceLeDiff, Nat.reduceBEq, reduceCtorEq, Int.reduceAdd, Int.reduceSub, Int.reduceMul, Int.reduceLT, Int.reduceLE, Int.reduceEq, Int.reduceToNat, Int.reduceNeg, Nat.reduceBNe, Int.reduceBEq, Int.reduceBNe, forall_const, eq_self, decide_true, decide_false, w_loop]
                refine ⟨by omega, by omega, hmine.owns, fun k2 σ2 a2 => ?_⟩
                have m2 := hmine.app a2
                refine rX σ2 _ ?_
                simp (config := { maxSteps := 2000000 }) (disch := omega) only [pvE_q, pvS_q, vi, vs, vb', wrap_ok, pvB, sLb2W_28, reduceIte, Nat.reduceEqDiff, Nat.reduceAdd, Nat.reduceSub, Nat.reduceMul, Nat.reduceLT, Nat.reduceLeDiff, Nat.reduceBEq, reduceCtorEq, Int.reduceAdd, Int.reduceSub, Int.reduceMul, Int.reduceLT, Int.reduceLE, Int.reduceEq, Int.reduceToNat, Int.reduceNeg, Nat.reduceBNe, Int.reduceBEq, Int.reduceBNe, forall_const, eq_self, decide_true, decide_false, w_loop]
                refine ⟨by omega, by omega, m2.owns, fun k3 σ3 a3 => ?_⟩
                have m3 := m2.app a3
                refine hR _ _ ?_ ⟨i + 1, k3, σ3, by omega, ?_, rfl⟩ hm
                · exact less_env rfl (less_env rfl (less_env rfl (less_env (by show PV.list _ _ _ = PV.list _ _ _; rw [ew]; simp [vi, kindP]) (less_env rfl (less_nil (.refl _))))))
                · have e : (labSs (kindP kind) (l.take (i + 1))).length = (labSs (kindP kind) (l.take i)).length + (labSs (kindP kind) t).length + (labSs (kindP kind) x).length := by rw [ew]; simp; try omega
                  rw [e]; exact m3
              · have gg : True := trivial
                simp only [g3, g4, g0, gk, Bool.or_true, Bool.true_or, Bool.or_false, Bool.false_or, Bool.and_true, Bool.true_and, Bool.and_false, Bool.false_and, Bool.or_self, Bool.and_self] at ew
                simp (config := { maxSteps := 2000000 }) (disch := omega) only [pvE_q, pvS_q, vi, vs, vb', wrap_ok, pvB, sLb2W_28, reduceIte, Nat.reduceEqDiff, Nat.reduceAdd, Nat.reduceSub, Nat.reduceMul, Nat.reduceLT, Nat.reduceLeDiff, Nat.reduceBEq, reduceCtorEq, Int.reduceAdd, Int.reduceSub, Int.reduceMul, Int.reduceLT, Int.reduceLE, Int.reduceEq, Int.reduceToNat, Int.reduceNeg, Nat.reduceBNe, Int.reduceBEq, Int.reduceBNe, forall_const, eq_self, decide_true, decide_false, w_loop, pvSs_length, hlt, eg, Int.toNat_natCast, e0, hdd, g3, g4, g0, gk]
                refine ⟨by omega, by omega, hmine.owns, fun k1 σ1' a1 => ?_⟩
                have m1 := hmine.app a1
                refine rT _ _ ?_
                simp (config := { maxSteps := 2000000 }) (disch := omega) only [pvE_q, pvS_q, vi, vs, vb', wrap_ok, pvB, sLb2W_28, reduceIte, Nat.reduceEqDiff, Nat.reduceAdd, Nat.reduceSub, Nat.reduceMul, Nat.reduceLT, Nat.reduceLeDiff, Nat.reduceBEq, reduceCtorEq, Int.reduceAdd, Int.reduceSub, Int.reduceMul, Int.reduceLT, Int.reduceLE, Int.reduceEq, Int.reduceToNat, Int.reduceNeg, Nat.reduceBNe, Int.reduceBEq, Int.reduceBNe, forall_const, eq_self, decide_true, decide_false, w_loop]
                refine ⟨by omega, by omega, m1.owns, fun k2 σ2 a2 => ?_⟩
                have m2 := m1.app a2
                refine rX σ2 _ ?_
                simp (config := { maxSteps := 2000000 }) (disch := omega) only [pvE_q, pvS_q, vi, vs, vb', wrap_ok, pvB, sLb2W_28, reduceIte, Nat.reduceEqDiff, Nat.reduceAdd, Nat.reduceSub, Nat.reduceMul, Nat.reduceLT, Nat.reduceLeDiff, Nat.reduceBEq, reduceCtorEq, Int.reduceAdd, Int.reduceSub, Int.reduceMul, Int.reduceLT, Int.reduceLE, Int.reduceEq, Int.reduceToNat, Int.reduceNeg, Nat.reduceBNe, Int.reduceBEq, Int.reduceBNe, forall_const, eq_self, decide_true, decide_false, w_loop]
                refine ⟨by omega, by omega, m2.owns, fun k3 σ3 a3 => ?_⟩
                have m3 := m2.app a3
                refine hR _ _ ?_ ⟨i + 1, k3, σ3, by omega, ?_, rfl⟩ hm
                · exact less_env rfl (less_env rfl (less_env rfl (less_env (by show PV.list _ _ _ = PV.list _ _ _; rw [ew]; simp [vi, kindP]) (less_env rfl (less_nil (.refl _))))))
                · have e : (labSs (kindP kind) (l.take (i + 1))).length = (labSs (kindP kind) (l.take i)).length + (0 + 1) + (labSs (kindP kind) t).length + (labSs (kindP kind) x).length := by rw [ew]; simp; try omega
                  rw [e]; exact m3
            · have gg : True := trivial
              simp only [g3, g4, g0, Bool.or_true, Bool.true_or, Bool.or_false, Bool.false_or, Bool.and_true, Bool.true_and, Bool.and_false, Bool.false_and, Bool.or_self, Bool.and_self] at ew
              simp (config := { maxSteps := 2000000 }) (disch := omega) only [pvE_q, pvS_q, vi, vs, vb', wrap_ok, pvB, sLb2W_28, reduceIte, Nat.reduceEqDiff, Nat.reduceAdd, Nat.reduceSub, Nat.reduceMul, Nat.reduceLT, Nat.reduceLeDiff, Nat.reduceBEq, reduceCtorEq, Int.reduceAdd, Int.reduceSub, Int.reduceMul, Int.reduceLT, Int.reduceLE, Int.reduceEq, Int.reduceToNat, Int.reduceNeg, Nat.reduceBNe, Int.reduceBEq, Int.reduceBNe, forall_const, eq_self, decide_true, decide_false, w_loop, pvSs_length, hlt, eg, Int.toNat_natCast, e0, hdd, g3, g4, g0]
              refine ⟨by omega, by omega, hmine.owns, fun k1 σ1' a1 => ?_⟩
              have m1 := hmine.app a1
              refine rT _ _ ?_
              simp (config := { maxSteps := 2000000 }) (disch := omega) only [pvE_q, pvS_q, vi, vs, vb', wrap_ok, pvB, sLb2W_28, reduceIte, Nat.reduceEqDiff, Nat.reduceAdd, Nat.reduceSub, Nat.reduceMul, Nat.reduceLT, Nat.reduceLeDiff, Nat.reduceBEq, reduceCtorEq, Int.reduceAdd, Int.reduceSub, Int.reduceMul, Int.reduceLT, Int.reduceLE, Int.reduceEq, Int.reduceToNat, Int.reduceNeg, Nat.reduceBNe, Int.reduceBEq, Int.reduceBNe, forall_const, eq_self, decide_true, decide_false, w_loop]
              refine ⟨by omega, by omega, m1.owns, fun k2 σ2 a2 => ?_⟩
              have m2 := m1.app a2
              refine rX σ2 _ ?_
              simp (config := { maxSteps := 2000000 }) (disch := omega) only [pvE_q, pvS_q, vi, vs, vb', wrap_ok, pvB, sLb2W_28, reduceIte, Nat.reduceEqDiff, Nat.reduceAdd, Nat.reduceSub, Nat.reduceMul, Nat.reduceLT, Nat.reduceLeDiff, Nat.reduceBEq, reduceCtorEq, Int.reduceAdd, Int.reduceSub, Int.reduceMul, Int.reduceLT, Int.reduceLE, Int.reduceEq, Int.reduceToNat, Int.reduceNeg, Nat.reduceBNe, Int.reduceBEq, Int.reduceBNe, forall_const, eq_self, decide_true, decide_false, w_loop]
              refine ⟨by omega, by omega, m2.owns, fun k3 σ3 a3 => ?_⟩
              have m3 := m2.app a3
              refine hR _ _ ?_ ⟨i + 1, k3, σ3, by omega, ?_, rfl⟩ hm
              · exact less_env rfl (less_env rfl (less_env rfl (less_env (by show PV.list _ _ _ = PV.list _ _ _; rw [ew]; simp [vi, kindP]) (less_env rfl (less_nil (.refl _))))))
              · have e : (labSs (kindP kind) (l.take (i + 1))).length = (labSs (kindP kind) (l.take i)).length + (0 + 1) + (labSs (kindP kind) t).length + (labSs (kindP kind) x).length := by rw [ew]; simp; try omega
                rw [e]; exact m3
        · cases g0 : kind == 0
          · cases gk : kd == kind
            · have gg : True := trivial
              simp only [g3, g0, gk, Bool.or_true, Bool.true_or, Bool.or_false, Bool.false_or, Bool.and_true, Bool.true_and, Bool.and_false, Bool.false_and, Bool.or_self, Bool.and_self] at ew
              simp (config := { maxSteps := 2000000 }) (disch := omega) only [pvE_q, pvS_q, vi, vs, vb', wrap_ok, pvB, sLb2W_28, reduceIte, Nat.reduceEqDiff, Nat.reduceAdd, Nat.reduceSub, Nat.reduceMul, Nat.reduceLT, Nat.reduceLeDiff, Nat.reduceBEq, reduceCtorEq, Int.reduceAdd, Int.reduceSub, Int.reduceMul, Int.reduceLT, Int.reduceLE, Int.reduceEq, Int.reduceToNat, Int.reduceNeg, Nat.reduceBNe, Int.reduceBEq, Int.reduceBNe, forall_const, eq_self, decide_true, decide_false, w_loop, pvSs_length, hlt, eg, Int.toNat_natCast, e0, hdd, g3, g0, gk]
              refine rT _ _ ?_
              simp (config := { maxSteps := 2000000 }) (disch := omega) only [pvE_q, pvS_q, vi, vs, vb', wrap_ok, pvB, sLb2W_28, reduceIte, Nat.reduceEqDiff, Nat.reduceAdd, Nat.reduceSub, Nat.reduceMul, Nat.reduceLT, Nat.reduceLeDiff, Nat.reduceBEq, reduceCtorEq, Int.reduceAdd, Int.reduceSub, Int.reduceMul, Int.reduceLT, Int.reduceLE, Int.reduceEq, Int.reduceToNat, Int.reduceNeg, Nat.reduceBNe, Int.reduceBEq, Int.reduceBNe, forall_const, eq_self, decide_true, decide_false, w_loop]
              refine ⟨by omega, by omega, hmine.owns, fun k2 σ2 a2 => ?_⟩
              have m2 := hmine.app a2
              refine rX σ2 _ ?_
              simp (config := { maxSteps := 2000000 }) (disch := omega) only [pvE_q, pvS_q, vi, vs, vb', wrap_ok, pvB, sLb2W_28, reduceIte, Nat.reduceEqDiff, Nat.reduceAdd, Nat.reduceSub, Nat.reduceMul, Nat.reduceLT, Nat.reduceLeDiff, Nat.reduceBEq, reduceCtorEq, Int.reduceAdd, Int.reduceSub, Int.reduceMul, Int.reduceLT, Int.reduceLE, Int.reduceEq, Int.reduceToNat, Int.reduceNeg, Nat.reduceBNe, Int.reduceBEq, Int.reduceBNe, forall_const, eq_self, decide_true, decide_false, w_loop]
              refine ⟨by omega, by omega, m2.owns, fun k3 σ3 a3 => ?_⟩
              have m3 := m2.app a3
              refine hR _ _ ?_ ⟨i + 1, k3, σ3, by omega, ?_, rfl⟩ hm
              · exact less_env rfl (less_env rfl (less_env rfl (less_env (by show PV.list _ _ _ = PV.list _ _ _; rw [ew]; simp [vi, kindP]) (less_env rfl (less_nil (.refl _))))))
              · have e : (labSs (kindP kind) (l.take (i + 1))).length = (labSs (kindP kind) (l.take i)).length + (labSs (kindP kind) t).length + (labSs (kindP kind) x).length := by rw [ew]; simp; try omega
                rw [e]; exact m3
            · have gg : True := trivial
              simp only [g3, g0, gk, Bool.or_true, Bool.true_or, Bool.or_false, Bool.false_or, Bool.and_true, Bool.true_and, Bool.and_false, Bool.false_and, Bool.or_self, Bool.and_self] at ew
              simp (config := { maxSteps := 2000000 }) (disch := omega) only [pvE_q, pvS_q, vi, vs, vb', wrap_ok, pvB, sLb2W_28, reduceIte, Nat.reduceEqDiff, Nat.reduceAdd, Nat.reduceSub, Nat.reduceMul, Nat.reduceLT, Nat.reduceLeDiff, Nat.reduceBEq, reduceCtorEq, Int.reduceAdd, Int.reduceSub, Int.reduceMul, Int.reduceLT, Int.reduceLE, Int.reduceEq, Int.reduceToNat, Int.reduceNeg, Nat.reduceBNe, Int.reduceBEq, Int.reduceBNe, forall_const, eq_self, decide_true, decide_false, w_loop, pvSs_length, hlt, eg, Int.toNat_natCast, e0, hdd, g3, g0, gk]
              refine ⟨by omega, by omega, hmine.owns, fun k1 σ1' a1 => ?_⟩
              have m1 := hmine.app a1
              refine rT _ _ ?_
              simp (config := { maxSteps := 2000000 }) (disch := omega) only [pvE_q, pvS_q, vi, vs, vb', wrap_ok, pvB, sLb2W_28, reduceIte, Nat.reduceEqDiff, Nat.reduceAdd, Nat.reduceSub, Nat.reduceMul, Nat.reduceLT, Nat.reduceLeDiff, Nat.reduceBEq, reduceCtorEq, Int.reduceAdd, Int.reduceSub, Int.reduceMul, Int.reduceLT, Int.reduceLE, Int.reduceEq, Int.reduceToNat, Int.reduceNeg, Nat.reduceBNe, Int.reduceBEq, Int.reduceBNe, forall_const, eq_self, decide_true, decide_false, w_loop]
              refine ⟨by omega, by omega, m1.owns, fun k2 σ2 a2 => ?_⟩
              have m2 := m1.app a2
              refine rX σ2 _ ?_
              simp (config := { maxSteps := 2000000 }) (disch := omega) only [pvE_q, pvS_q, vi, vs, vb', wrap_ok, pvB, sLb2W_28, reduceIte, Nat.reduceEqDiff, Nat.reduceAdd, Nat.reduceSub, Nat.reduceMul, Nat.reduceLT, Nat.reduceLeDiff, Nat.reduceBEq, reduceCtorEq, Int.reduceAdd, Int.reduceSub, Int.reduceMul, Int.reduceLT, Int.reduceLE, Int.reduceEq, Int.reduceToNat, Int.reduceNeg, Nat.reduceBNe, Int.reduceBEq, Int.reduceBNe, forall_const, eq_self, decide_true, decide_false, w_loop]
              refine ⟨by omega, by omega, m2.owns, fun k3 σ3 a3 => ?_⟩
              have m3 := m2.app a3
              refine hR _ _ ?_ ⟨i + 1, k3, σ3, by omega, ?_, rfl⟩ hm
              · exact less_env rfl (less_env rfl (less_env rfl (less_env (by show PV.list _ _ _ = PV.list _ _ _; rw [ew]; simp [vi, kindP]) (less_env rfl (less_nil (.refl _))))))
              · have e : (labSs (kindP kind) (l.take (i + 1))).length = (labSs (kindP kind) (l.take i)).length + (0 + 1) + (labSs (kindP kind) t).length + (labSs (kindP kind) x).length := by rw [ew]; simp; try omega
                rw [e]; exact m3
          · have gg : True := trivial
            simp only [g3, g0, Bool.or_true, Bool.true_or, Bool.or_false, Bool.false_or, Bool.and_true, Bool.true_and, Bool.and_false, Bool.false_and, Bool.or_self, Bool.and_self] at ew
            simp (config := { maxSteps := 2000000 }) (disch := omega) only [pvE_q, pvS_q, vi, vs, vb', wrap_ok, pvB, sLb2W_28, reduceIte, Nat.reduceEqDiff, Nat.reduceAdd, Nat.reduceSub, Nat.reduceMul, Nat.reduceLT, Nat.reduceLeDiff, Nat.reduceBEq, reduceCtorEq, Int.reduceAdd, Int.reduceSub, Int.reduceMul, Int.reduceLT, Int.reduceLE, Int.reduceEq, Int.reduceToNat, Int.reduceNeg, Nat.reduceBNe, Int.reduceBEq, Int.reduceBNe, forall_const, eq_self, decide_true, decide_false, w_loop, pvSs_length, hlt, eg, Int.toNat_natCast, e0, hdd, g3, g0]
            refine ⟨by omega, by omega, hmine.owns, fun k1 σ1' a1 => ?_⟩
            have m1 := hmine.app a1
            refine rT _ _ ?_
            simp (config := { maxSteps := 2000000 }) (disch := omega) only [pvE_q, pvS_q, vi, vs, vb', wrap_ok, pvB, sLb2W_28, reduceIte, Nat.reduceEqDiff, Nat.reduceAdd, Nat.reduceSub, Nat.reduceMul, Nat.reduceLT, Nat.reduceLeDiff, Nat.reduceBEq, reduceCtorEq, Int.reduceAdd, Int.reduceSub, Int.reduceMul, Int.reduceLT, Int.reduceLE, Int.reduceEq, Int.reduceToNat, Int.reduceNeg, Nat.reduceBNe, Int.reduceBEq, Int.reduceBNe, forall_const, eq_self, decide_true, decide_false, w_loop]
            refine ⟨by omega, by omega, m1.owns, fun k2 σ2 a2 => ?_⟩
            have m2 := m1.app a2
            refine rX σ2 _ ?_
            simp (config := { maxSteps := 2000000 }) (disch := omega) only [pvE_q, pvS_q, vi, vs, vb', wrap_ok, pvB, sLb2W_28, reduceIte, Nat.reduceEqDiff, Nat.reduceAdd, Nat.reduceSub, Nat.reduceMul, Nat.reduceLT, Nat.reduceLeDiff, Nat.reduceBEq, reduceCtorEq, Int.reduceAdd, Int.reduceSub, Int.reduceMul, Int.reduceLT, Int.reduceLE, Int.reduceEq, Int.reduceToNat, Int.reduceNeg, Nat.reduceBNe, Int.reduceBEq, Int.reduceBNe, forall_const, eq_self, decide_true, decide_false, w_loop]
            refine ⟨by omega, by omega, m2.owns, fun k3 σ3 a3 => ?_⟩
            have m3 := m2.app a3
            refine hR _ _ ?_ ⟨i + 1, k3, σ3, by omega, ?_, rfl⟩ hm
            · exact less_env rfl (less_env rfl (less_env rfl (less_env (by show PV.list _ _ _ = PV.list _ _ _; rw [ew]; simp [vi, kindP]) (less_env rfl (less_nil (.refl _))))))
            · have e : (labSs (kindP kind) (l.take (i + 1))).length = (labSs (kindP kind) (l.take i)).length + (0 + 1) + (labSs (kindP kind) t).length + (labSs (kindP kind) x).length := by rw [ew]; simp; try omega
              rw [e]; exact m3
      · have hi' : i = l.length := by omega
        subst hi'
        simp (config := { maxSteps := 2000000 }) (disch := omega) only [pvE_q, pvS_q, vi, vs, vb', wrap_ok, pvB, sLb2W_28, reduceIte, Nat.reduceEqDiff, Nat.reduceAdd, Nat.reduceSub, Nat.reduceMul, Nat.reduceLT, Nat.reduceLeDiff, Nat.reduceBEq, reduceCtorEq, Int.reduceAdd, Int.reduceSub, Int.reduceMul, Int.reduceLT, Int.reduceLE, Int.reduceEq, Int.reduceToNat, Int.reduceNeg, Nat.reduceBNe, Int.reduceBEq, Int.reduceBNe, forall_const, eq_self, decide_true, decide_false, w_loop, pvSs_length, hlt, hdd]
        refine ⟨σ, hmine.sub, ?_⟩
        simp only [Res.forget, forget, forgets_vi, List.take_length]
        exact hK
set_option maxRecDepth 100000 in
theorem Ifs_c (l : List AS) (σ : St) (K : Res → St → Prop) (hd : dSs l ≤ 19) (hw : zSs l < 1099511627776) (hK : K (.ret (.list .any 1 ((labSs (kindP 3) l).map vi))) σ) : PCalls Try.prog 24 [.list .any 8 (pvSs l)] σ K := by
  refine PCalls.of_body (tOk Try.prog) (by kernel_rfl) Try.func24 rfl (by kernel_rfl) [] [] (by kernel_rfl) (n := 5) (by kernel_rfl) (by kernel_rfl) (rs := [.tmp 2]) (by kernel_rfl) ?_
  simp (config := { maxSteps := 2000000 }) (disch := omega) only [pvE_q, pvS_q, vi, vs, vb', wrap_ok, pvB, sLb2W_24, reduceIte, Nat.reduceEqDiff, Nat.reduceAdd, Nat.reduceSub, Nat.reduceMul, Nat.reduceLT, Nat.reduceLeDiff, Nat.reduceBEq, reduceCtorEq, Int.reduceAdd, Int.reduceSub, Int.reduceMul, Int.reduceLT, Int.reduceLE, Int.reduceEq, Int.reduceToNat, Int.reduceNeg, Nat.reduceBNe, Int.reduceBEq, Int.reduceBNe, forall_const, eq_self, decide_true, decide_false, w_loop]
  refine rlabels_c 3 _ l 1 σ _ (Nat.le_refl _) (by omega) (by omega) hw ?_
  simp (config := { maxSteps := 2000000 }) (disch := omega) only [pvE_q, pvS_q, vi, vs, vb', wrap_ok, pvB, sLb2W_24, reduceIte, Nat.reduceEqDiff, Nat.reduceAdd, Nat.reduceSub, Nat.reduceMul, Nat.reduceLT, Nat.reduceLeDiff, Nat.reduceBEq, reduceCtorEq, Int.reduceAdd, Int.reduceSub, Int.reduceMul, Int.reduceLT, Int.reduceLE, Int.reduceEq, Int.reduceToNat, Int.reduceNeg, Nat.reduceBNe, Int.reduceBEq, Int.reduceBNe, forall_const, eq_self, decide_true, decide_false, w_loop]
  exact ⟨σ, .refl _, hK⟩
end Go.Pv.W
-- Tk1W
namespace Go.Pv.W
open Go Go.RowKit Go.Proofs Go.Pv
def sTk1W_19 := (And.intro (And.intro (And.intro (And.intro (And.intro (And.intro @q_fld_34_1 (And.intro @q_fld_34_5 @q_fld_70_3)) (And.intro @q_fld_72_2 (And.intro @q_fld_34_7 @q_fld_70_1))) (And.intro (And.intro @q_fld_34_2 (And.intro @q_fld_34_6 @q_fld_34_9)) (And.intro (And.intro @q_fld_34_8 @q_fld_72_1) (And.intro @q_fld_34_10 @q_fld_72_0)))) (And.intro (And.intro (And.intro @q_slz_0 (And.intro @q_tsz_3 @q_slz_3)) (And.intro (And.intro @q_ifc_3 @q_tsz_4) (And.intro @q_slz_4 @q_ifc_4))) (And.intro (And.intro @q_isb_4 (And.intro @q_tsz_9 @q_slz_9)) (And.intro (And.intro @q_str_9 @q_arz_9) (And.intro @q_ifc_9 @q_tsz_22))))) (And.intro (And.intro (And.intro (And.intro @q_slz_22 (And.intro @q_str_22 @q_arz_22)) (And.intro @q_ifc_22 (And.intro @q_tsz_25 @q_slz_25))) (And.intro (And.intro @q_ifc_25 (And.intro @q_tsz_27 @q_slz_27)) (And.intro (And.intro @q_str_27 @q_arz_27) (And.intro @q_ifc_27 @q_tsz_28)))) (And.intro (And.intro (And.intro @q_slz_28 (And.intro @q_str_28 @q_arz_28)) (And.intro (And.intro @q_ifc_28 @q_tsz_29) (And.intro @q_slz_29 @q_str_29))) (And.intro (And.intro @q_arz_29 (And.intro @q_ifc_29 @q_tsz_30)) (And.intro (And.intro @q_slz_30 @q_str_30) (And.intro @q_arz_30 @q_ifc_30)))))) (And.intro (And.intro (And.intro (And.intro (And.intro @q_tsz_31 (And.intro @q_slz_31 @q_str_31)) (And.intro @q_arz_31 (And.intro @q_ifc_31 @q_tsz_32))) (And.intro (And.intro @q_slz_32 (And.intro @q_str_32 @q_arz_32)) (And.intro (And.intro @q_ifc_32 @q_tsz_34) (And.intro @q_slz_34 @q_ifc_34)))) (And.intro (And.intro (And.intro @q_tsz_35 (And.intro @q_slz_35 @q_str_35)) (And.intro (And.intro @q_arz_35 @q_ifc_35) (And.intro @q_tsz_59 @q_slz_59))) (And.intro (And.intro @q_ifc_59 (And.intro @q_tsz_61 @q_slz_61)) (And.intro (And.intro @q_ifc_61 @q_tsz_68) (And.intro @q_slz_68 @q_ifc_68))))) (And.intro (And.intro (And.intro (And.intro @q_tsz_70 (And.intro @q_slz_70 @q_ifc_70)) (And.intro @q_tsz_72 (And.intro @q_slz_72 @q_ifc_72))) (And.intro (And.intro @q_tsz_74 (And.intro @q_slz_74 @q_ifc_74)) (And.intro (And.intro @q_tsz_77 @q_slz_77) (And.intro @q_ifc_77 @q_zcs_70)))) (And.intro (And.intro (And.intro @q_zcs_72 (And.intro @q_zcs_34 @q_bsl_29)) (And.intro (And.intro @q_bsl_28 @q_bsl_27) (And.intro @q_bsl_31 @q_bsl_30))) (And.intro (And.intro @q_bld_61 (And.intro @q_bld_74 @q_bld_72)) (And.intro (And.intro @q_bld_77 @q_bld_70) (And.intro @q_bld_34 @q_cvi_3_59)))))))
theorem cast_1 : ((1 : Nat) : Int) = 1 := rfl
theorem cast_2 : ((2 : Nat) : Int) = 2 := rfl
/-- A task that is made. -/
structure TaskOK (name : ByteArray) (weight : Int) (t : AT) : Prop where
  name : t.name = name
  period : 2000 ≤ t.period ∧ t.period ≤ 6000
  deadline : 1600 ≤ t.deadline ∧ t.deadline ≤ t.period
  priority : 1 ≤ t.priority ∧ t.priority ≤ 5
  jitter : 0 ≤ t.jitter ∧ t.jitter ≤ 30
  inputs : t.inputs.length ≤ 2 ∧ ∀ x ∈ t.inputs, -2 ≤ x.lo ∧ x.lo ≤ x.hi ∧ x.hi ≤ 20
  vars : t.vars = [⟨#[105]⟩, ⟨#[107]⟩, ⟨#[110]⟩]
  arrays : t.arrays.length ≤ 1 ∧ ∀ x ∈ t.arrays, 1 ≤ x.size ∧ x.size ≤ 8
  modes : t.modes.length ≤ 1
  claims : t.claims.length ≤ 1
  body : dSs t.body ≤ 4 ∧ xSs t.body ≤ 4 ∧ zSs t.body ≤ 20000 ∧ wSs t.body ≤ weight
theorem MineO.other {σ σ1 σ2 : St} {n m sz sz' : Nat} {k ko ko' : Cap} (h : MineO σ σ1 n sz k) (o : MineO σ σ1 m sz' ko) {m' : Nat} (ha : ∀ b, capBlk k = some b → capBlk ko ≠ some b) (a : Appended σ1 ko m' sz' ko' σ2) : MineO σ σ2 n sz k ∧ (∀ b, capBlk ko' = some b → capBlk k ≠ some b) ∧ (∀ b, capBlk k = some b → capBlk ko' ≠ some b) := by
  have key : ∀ b, capBlk ko' = some b → capBlk k ≠ some b := by
    intro b hb hk
    rcases a.fresh with q | ⟨b', q, q1, q2⟩
    · exact ha b hk (q ▸ hb)
    · have e0 : b' = b := by rw [q] at hb; injection hb
      subst e0
      have ho := h.owns
      cases k with
      | known ad c =>
        cases ad with
        | some x =>
          simp only [capBlk] at hk
          injection hk with hk
          simp only [Owns] at ho
          rw [hk, q1] at ho
          cases ho
        | none => cases hk
      | _ => cases hk
  refine ⟨⟨(o.app a).le, ?_, h.blk⟩, key, fun b hb hq => key b hq hb⟩
  have ho := h.owns
  cases k with
  | any => exact ho
  | full => trivial
  | known ad c =>
    cases ad with
    | none => trivial
    | some x =>
      simp only [Owns] at ho ⊢
      rw [a.frame _ fun q => key _ q rfl]
      exact ho
def tz : List PV := [.val (.string ⟨#[]⟩), vi 0, vi 0, vi 0, vi 0, .list .full 3 [], .list .full 1 [], .list .full 2 [], .list .full 4 [], .list .full 2 [], .list .full 8 []]
structure TNum (per dl pri jit : Int) : Prop where
  h1 : 2000 ≤ per ∧ per ≤ 6000
  h2 : 1600 ≤ dl ∧ dl ≤ per
  h3 : 1 ≤ pri ∧ pri ≤ 5
  h4 : 0 ≤ jit ∧ jit ≤ 30
structure TIns (ins : List AI) : Prop where
  len : ins.length ≤ 2
  all : ∀ x ∈ ins, -2 ≤ x.lo ∧ x.lo ≤ x.hi ∧ x.hi ≤ 20
/-- A task that is being made. -/
def TS (σ : St) (d : Nat) (L : List Int) (Sx : List Sh) (name : ByteArray) (weight : Int) (A : List ByteArray) (ins : List AI) (arrs : List AA) (mds : List AM) (s : Cf) : Prop :=
  ∃ (m : Nat) (V : List ByteArray) (ki ka km : Cap) (per dl pri jit : Int) (σ1 : St), MkR σ d m L V A Sx 0 0 σ1 ∧ TIns ins ∧ TNum per dl pri jit ∧
    s = ⟨221, [(0, vp d 0), (3, vi weight), (10, .lptr 10 0), (11, .lptr 11 0), (12, vp m 0)], [(10, tz), (11, [vs name, vi per, vi dl, vi pri, vi jit, .list ki 3 (ins.map pvI), .list .full 1 [vs ⟨#[105]⟩, vs ⟨#[107]⟩, vs ⟨#[110]⟩], .list ka 2 (arrs.map pvA), .list km 4 (mds.map pvM), .list .full 2 [], .list .full 8 []])], σ1⟩
theorem zero_int : (0 : Int).toNat = 0 := rfl
theorem pvSs_take (l : List AS) (n : Nat) : pvSs (l.take n) = (pvSs l).take n := by simp [pvSs_map]
theorem dSs_take_le (l : List AS) (n : Nat) : dSs (l.take n) ≤ dSs l := by
  have := dSs_append (l.take n) (l.drop n)
  rw [List.take_append_drop] at this
  omega
theorem xSs_take_le (l : List AS) (n : Nat) : xSs (l.take n) ≤ xSs l := by
  have := xSs_append (l.take n) (l.drop n)
  rw [List.take_append_drop] at this
  omega
/-- The maker's arrays are written. -/
theorem MkR.arr {σ0 σ : St} {d m : Nat} {L : List Int} {V A A' : List ByteArray} {Sx : List Sh} {nl : Nat} {il : Int} (h : MkR σ0 d m L V A Sx nl il σ) (hA : A'.length ≤ 1) {kv ka ks : Cap} {lp : PV} {held : ByteArray} {labels stmts : Int}
    (hlp : Loops σ0 σ d m nl lp) (h1 : 0 ≤ labels ∧ labels ≤ 100) (h2 : 0 ≤ stmts ∧ stmts ≤ 1000) : MkR σ0 d m L V A' Sx nl il (σ.set m (.cells (mkCells d kv V lp ka A' ks Sx held labels stmts il))) := by
  refine ⟨⟨fun b o n e => ?_, h.frame.own, h.frame.gl⟩, h.m0, h.md, ?_, h.hL, h.hV, hA, h.hS, h.hl, h.hi, kv, ka, ks, lp, held, labels, stmts, set_get _ _ _, hlp.frame (Frame.set _ _ (.inr rfl)), h1.1, h1.2, h2.1, h2.2⟩
  · simp only [St.set]
    rw [if_neg]
    · exact h.frame.obj b o n e
    · intro q; rw [q, h.m0] at e; cases e
  · obtain ⟨at', q1, q2⟩ := h.deck
    refine ⟨at', q1, ?_⟩
    simp only [St.set]
    rw [if_neg (Ne.symm h.md)]
    exact q2
set_option maxHeartbeats 16000000 in
set_option maxRecDepth 100000 in
theorem task_c (σ : St) (d : Nat) (L : List Int) (name : ByteArray) (ks : Cap) (Sx : List Sh) (weight stmts : Int) (hd : ∃ at', 0 ≤ at' ∧ σ.obj d = some (deck L at')) (hL : L.length ≤ 400) (hS : Sx.length ≤ 1) (hw : 0 ≤ weight ∧ weight ≤ 1000) (hst : 0 ≤ stmts ∧ stmts ≤ 1000) (K : Res → St → Prop)
    (hK : ∀ t σ', TaskOK name weight t → Took d L σ σ' → K (.ret (pvT t)) σ') : PCalls Try.prog 19 [vp d 0, vs name, .list ks 3 (Sx.map pvSh), vi weight, vi stmts] σ K := by
  refine PCalls.forgetR ?_
  refine PCalls.of_pieces (tOk Try.prog) Try.func19 rfl (by kernel_rfl) (n := 221) (by kernel_rfl) (by kernel_rfl) (rs := [.cell 10 34]) (by kernel_rfl) ?_
  refine swp_cut (tOk Try.prog) (by kernel_rfl) [43] [(2, 38, [(0, []), (2, []), (1, []), (3, [1]), (4, []), (5, []), (6, []), (7, [])]), (10, 71, [(0, []), (2, []), (3, []), (4, []), (5, []), (1, []), (6, [1]), (7, []), (8, []), (9, []), (10, []), (11, []), (12, [])]), (13, 93, [(0, []), (1, []), (5, []), (2, []), (6, []), (3, []), (4, []), (7, []), (8, []), (9, []), (10, [])]), (19, 131, [(0, []), (2, []), (3, []), (5, []), (1, []), (4, []), (6, []), (7, []), (8, []), (9, [1]), (10, []), (11, [])]), (20, 146, [(0, []), (2, []), (3, []), (4, []), (5, []), (7, []), (1, []), (6, []), (8, []), (9, []), (10, [1]), (11, []), (12, []), (13, []), (14, []), (15, [])]), (25, 185, [(0, []), (1, []), (4, []), (5, []), (7, []), (8, []), (13, []), (2, []), (6, []), (9, []), (14, []), (3, []), (10, []), (11, [14, 3]), (12, []), (15, []), (16, []), (17, []), (18, []), (19, []), (20, []), (21, [])])] 7 (fun s => ∃ ins, TS σ d L Sx name weight [] ins [] [] s) (by kernel_rfl) ?_ ?_
  rotate_left
  · rintro s ⟨ins, m, V, ki, ka, km, per, dl, pri, jit, σ1, hM, hI, hN, rfl⟩
    dsimp only [cutR]
    refine swp_cut (tOk Try.prog) (by kernel_rfl) [43] [(2, 38, [(0, []), (2, []), (1, []), (3, [1]), (4, []), (5, []), (6, []), (7, [])]), (10, 71, [(0, []), (2, []), (3, []), (4, []), (5, []), (1, []), (6, [1]), (7, []), (8, []), (9, []), (10, []), (11, []), (12, [])]), (13, 93, [(0, []), (1, []), (5, []), (2, []), (6, []), (3, []), (4, []), (7, []), (8, []), (9, []), (10, [])]), (19, 131, [(0, []), (2, []), (3, []), (5, []), (1, []), (4, []), (6, []), (7, []), (8, []), (9, [1]), (10, []), (11, [])]), (20, 146, [(0, []), (2, []), (3, []), (4, []), (5, []), (7, []), (1, []), (6, []), (8, []), (9, []), (10, [1]), (11, []), (12, []), (13, []), (14, []), (15, [])]), (25, 185, [(0, []), (1, []), (4, []), (5, []), (7, []), (8, []), (13, []), (2, []), (6, []), (9, []), (14, []), (3, []), (10, []), (11, [14, 3]), (12, []), (15, []), (16, []), (17, []), (18, []), (19, []), (20, []), (21, [])])] 1 (fun s => ∃ A ins arrs, (arrs.length ≤ 1 ∧ ∀ x ∈ arrs, 1 ≤ AA.size x ∧ AA.size x ≤ 8) ∧ TS σ d L Sx name weight A ins arrs [] s) (by kernel_rfl) ?_ ?_
    · dsimp only [cutL]
      simp (config := { maxSteps := 4000000 }) (disch := omega) only [pvK, pvB, sTk1W_19, reduceIte, Nat.reduceEqDiff, Nat.reduceAdd, Nat.reduceSub, Nat.reduceMul, Nat.reduceLT, Nat.reduceLeDiff, Nat.reduceBEq, reduceCtorEq, Int.reduceAdd, Int.reduceSub, Int.reduceMul, Int.reduceLT, Int.reduceLE, Int.reduceEq, Int.reduceToNat, Int.reduceNeg, Nat.reduceBNe, Int.reduceBEq, Int.reduceBNe, Int.reduceGT, Int.reduceGE, Int.reduceTMod, forall_const, eq_self, decide_true, decide_false, kjoin_norm, kjoin_exit, kjoin_ret, kjoin_panic, cast_1, cast_2]
      refine next_c d L 2 σ1 hM.deck hL (by omega) _ fun r1 σ2 a1 b1 t1 => ?_
      have hM2 := hM.took t1
      obtain ⟨kv, ka', ks', lp, held, labels, stmts', c2, l2, b2⟩ := hM2.own
      have c2p := c2
      unfold mkCells at c2p
      simp only [vi, vs, vp] at c2p
      simp (config := { maxSteps := 4000000 }) (disch := omega) only [pvK, pvB, sTk1W_19, reduceIte, Nat.reduceEqDiff, Nat.reduceAdd, Nat.reduceSub, Nat.reduceMul, Nat.reduceLT, Nat.reduceLeDiff, Nat.reduceBEq, reduceCtorEq, Int.reduceAdd, Int.reduceSub, Int.reduceMul, Int.reduceLT, Int.reduceLE, Int.reduceEq, Int.reduceToNat, Int.reduceNeg, Nat.reduceBNe, Int.reduceBEq, Int.reduceBNe, Int.reduceGT, Int.reduceGE, Int.reduceTMod, forall_const, eq_self, decide_true, decide_false, kjoin_norm, kjoin_exit, kjoin_ret, kjoin_panic, cast_1, cast_2, c2p]
      refine kcond_e (fun h => ?_) (fun h => ?_)
      · simp (config := { maxSteps := 4000000 }) (disch := omega) only [pvK, pvB, sTk1W_19, reduceIte, Nat.reduceEqDiff, Nat.reduceAdd, Nat.reduceSub, Nat.reduceMul, Nat.reduceLT, Nat.reduceLeDiff, Nat.reduceBEq, reduceCtorEq, Int.reduceAdd, Int.reduceSub, Int.reduceMul, Int.reduceLT, Int.reduceLE, Int.reduceEq, Int.reduceToNat, Int.reduceNeg, Nat.reduceBNe, Int.reduceBEq, Int.reduceBNe, Int.reduceGT, Int.reduceGE, Int.reduceTMod, forall_const, eq_self, decide_true, decide_false, kjoin_norm, kjoin_exit, kjoin_ret, kjoin_panic, cast_1, cast_2, c2p]
        refine next_c d L 4 σ2 hM2.deck hL (by omega) _ fun r2 σ3 a3 b3 t3 => ?_
        have hM3 := hM2.took t3
        have c3 := t3.frame.obj m _ hM.md c2p
        have e0 : ¬ r2 < 0 := by omega
        have e1 : r2.toNat ≤ 3 := by omega
        have e2 : min r2.toNat IntKind.i64.bits = r2.toNat := by simp only [IntKind.bits]; omega
        have e3 : 1 * (2 : Int) ^ r2.toNat ≤ 8 := by
          have : (2 : Int) ^ r2.toNat ≤ 2 ^ 3 := by exact_mod_cast Nat.pow_le_pow_right (n := 2) (by omega) e1
          simpa using this
        have e4 : 1 ≤ 1 * (2 : Int) ^ r2.toNat := by
          have : (2 : Int) ^ 0 ≤ 2 ^ r2.toNat := by exact_mod_cast Nat.pow_le_pow_right (n := 2) (by omega) (Nat.zero_le _)
          simpa using this
        simp (config := { maxSteps := 4000000 }) (disch := omega) only [pvK, pvB, sTk1W_19, reduceIte, Nat.reduceEqDiff, Nat.reduceAdd, Nat.reduceSub, Nat.reduceMul, Nat.reduceLT, Nat.reduceLeDiff, Nat.reduceBEq, reduceCtorEq, Int.reduceAdd, Int.reduceSub, Int.reduceMul, Int.reduceLT, Int.reduceLE, Int.reduceEq, Int.reduceToNat, Int.reduceNeg, Nat.reduceBNe, Int.reduceBEq, Int.reduceBNe, Int.reduceGT, Int.reduceGE, Int.reduceTMod, forall_const, eq_self, decide_true, decide_false, kjoin_norm, kjoin_exit, kjoin_ret, kjoin_panic, cast_1, cast_2, c3, wrap_u, e0, e2]
        generalize 1 * (2 : Int) ^ r2.toNat = sz at e3 e4 ⊢
        have hM4 := hM3.arr (A' := [⟨#[97]⟩]) (ka := .full) (kv := kv) (ks := ks') (held := held) (by simp) (l2.frame (t3.frame.mono fun x q => .inl q)) ⟨b2.1, b2.2.1⟩ b2.2.2
        refine ⟨_, ?_, [⟨#[97]⟩], ins, [⟨⟨#[97]⟩, sz⟩], ⟨by simp, by simpa using ⟨e4, e3⟩⟩, m, V, ki, .full, km, per, dl, pri, jit, _, hM4, hI, hN, rfl⟩
        unfold mkCells
        exact less_env rfl (less_env rfl (less_env rfl (less_env rfl (less_env rfl (less_loc rfl (less_loc (by show some _ = some _; simp only [vi, vs, List.map_cons, List.map_nil, pvA, forgets, forget]) (less_nil (by simp only [vi, vs, vp, List.map_cons, List.map_nil]; exact .refl _))))))))
      · simp (config := { maxSteps := 4000000 }) (disch := omega) only [pvK, pvB, sTk1W_19, reduceIte, Nat.reduceEqDiff, Nat.reduceAdd, Nat.reduceSub, Nat.reduceMul, Nat.reduceLT, Nat.reduceLeDiff, Nat.reduceBEq, reduceCtorEq, Int.reduceAdd, Int.reduceSub, Int.reduceMul, Int.reduceLT, Int.reduceLE, Int.reduceEq, Int.reduceToNat, Int.reduceNeg, Nat.reduceBNe, Int.reduceBEq, Int.reduceBNe, Int.reduceGT, Int.reduceGE, Int.reduceTMod, forall_const, eq_self, decide_true, decide_false, kjoin_norm, kjoin_exit, kjoin_ret, kjoin_panic, cast_1, cast_2, c2p]
        refine ⟨_, ?_, [], ins, [], ⟨by simp, by simp⟩, m, V, ki, ka, km, per, dl, pri, jit, σ2, hM2, hI, hN, rfl⟩
        exact less_env rfl (less_env rfl (less_env rfl (less_env rfl (less_env rfl (less_loc rfl (less_loc rfl (less_nil (.refl _))))))))
    · rintro s ⟨A, ins, arrs, hA, m, V, ki, ka, km, per, dl, pri, jit, σ1, hM, hI, hN, rfl⟩
      dsimp only [cutR]
      refine swp_cut (tOk Try.prog) (by kernel_rfl) [43] [(2, 38, [(0, []), (2, []), (1, []), (3, [1]), (4, []), (5, []), (6, []), (7, [])]), (10, 71, [(0, []), (2, []), (3, []), (4, []), (5, []), (1, []), (6, [1]), (7, []), (8, []), (9, []), (10, []), (11, []), (12, [])]), (13, 93, [(0, []), (1, []), (5, []), (2, []), (6, []), (3, []), (4, []), (7, []), (8, []), (9, []), (10, [])]), (19, 131, [(0, []), (2, []), (3, []), (5, []), (1, []), (4, []), (6, []), (7, []), (8, []), (9, [1]), (10, []), (11, [])]), (20, 146, [(0, []), (2, []), (3, []), (4, []), (5, []), (7, []), (1, []), (6, []), (8, []), (9, []), (10, [1]), (11, []), (12, []), (13, []), (14, []), (15, [])]), (25, 185, [(0, []), (1, []), (4, []), (5, []), (7, []), (8, []), (13, []), (2, []), (6, []), (9, []), (14, []), (3, []), (10, []), (11, [14, 3]), (12, []), (15, []), (16, []), (17, []), (18, []), (19, []), (20, []), (21, [])])] 1 (fun s => ∃ A ins arrs mds, (arrs.length ≤ 1 ∧ ∀ x ∈ arrs, 1 ≤ AA.size x ∧ AA.size x ≤ 8) ∧ mds.length ≤ 1 ∧ TS σ d L Sx name weight A ins arrs mds s) (by kernel_rfl) ?_ ?_
      · dsimp only [cutL]
        have non : ∀ s : Cf, (∃ σ2, Took d L σ1 σ2 ∧ Cf.less ⟨221, [(0, vp d 0), (3, vi weight), (10, .lptr 10 0), (11, .lptr 11 0), (12, vp m 0)], [(10, tz), (11, [vs name, vi per, vi dl, vi pri, vi jit, .list ki 3 (ins.map pvI), .list .full 1 [vs ⟨#[105]⟩, vs ⟨#[107]⟩, vs ⟨#[110]⟩], .list ka 2 (arrs.map pvA), .list km 4 [], .list .full 2 [], .list .full 8 []])], σ2⟩ s) → ∃ s0 : Cf, s0.less s ∧ ∃ A ins arrs mds, (arrs.length ≤ 1 ∧ ∀ x ∈ arrs, 1 ≤ AA.size x ∧ AA.size x ≤ 8) ∧ mds.length ≤ 1 ∧ TS σ d L Sx name weight A ins arrs mds s0 := fun s ⟨σ2, t, hl⟩ => ⟨_, hl, A, ins, arrs, [], hA, by simp, m, V, ki, ka, km, per, dl, pri, jit, σ2, hM.took t, hI, hN, rfl⟩
        have l5 : ∀ {σ2 : St} {s : Cf}, get s.env 0 = vp d 0 → get s.env 3 = vi weight → get s.env 10 = .lptr 10 0 → get s.env 11 = .lptr 11 0 → get s.env 12 = vp m 0 → ∀ {cs}, getL s.loc 10 = some tz → getL s.loc 11 = some cs → σ2.sub s.σ → s.n = 221 → Cf.less ⟨221, [(0, vp d 0), (3, vi weight), (10, .lptr 10 0), (11, .lptr 11 0), (12, vp m 0)], [(10, tz), (11, cs)], σ2⟩ s := by
          intro σ2 s h1 h2 h3 h4 h5 cs h6 h7 h8 h9
          refine less_env h1 (less_env h2 (less_env h3 (less_env h4 (less_env h5 (less_loc h6 (less_loc h7 ?_))))))
          exact ⟨h9.symm, fun _ => .inl rfl, fun _ => .inl rfl, h8⟩
        cases ins with
        | nil =>
          simp (config := { maxSteps := 4000000 }) (disch := omega) only [pvK, pvB, sTk1W_19, reduceIte, Nat.reduceEqDiff, Nat.reduceAdd, Nat.reduceSub, Nat.reduceMul, Nat.reduceLT, Nat.reduceLeDiff, Nat.reduceBEq, reduceCtorEq, Int.reduceAdd, Int.reduceSub, Int.reduceMul, Int.reduceLT, Int.reduceLE, Int.reduceEq, Int.reduceToNat, Int.reduceNeg, Nat.reduceBNe, Int.reduceBEq, Int.reduceBNe, Int.reduceGT, Int.reduceGE, Int.reduceTMod, forall_const, eq_self, decide_true, decide_false, kjoin_norm, kjoin_exit, kjoin_ret, kjoin_panic, cast_1, cast_2]
          exact non _ ⟨σ1, ⟨Frame.refl _ _, hM.deck⟩, l5 rfl rfl rfl rfl rfl rfl rfl (.refl _) rfl⟩
        | cons x rest =>
          have hl : ((rest.length + 1 : Nat) : Int) > 0 := by omega
          simp (config := { maxSteps := 4000000 }) (disch := omega) only [pvK, pvB, sTk1W_19, reduceIte, Nat.reduceEqDiff, Nat.reduceAdd, Nat.reduceSub, Nat.reduceMul, Nat.reduceLT, Nat.reduceLeDiff, Nat.reduceBEq, reduceCtorEq, Int.reduceAdd, Int.reduceSub, Int.reduceMul, Int.reduceLT, Int.reduceLE, Int.reduceEq, Int.reduceToNat, Int.reduceNeg, Nat.reduceBNe, Int.reduceBEq, Int.reduceBNe, Int.reduceGT, Int.reduceGE, Int.reduceTMod, forall_const, eq_self, decide_true, decide_false, kjoin_norm, kjoin_exit, kjoin_ret, kjoin_panic, cast_1, cast_2, hl]
          refine next_c d L 2 σ1 hM.deck hL (by omega) _ fun r1 σ2 a1 b1 t1 => ?_
          simp (config := { maxSteps := 4000000 }) (disch := omega) only [pvK, pvB, sTk1W_19, reduceIte, Nat.reduceEqDiff, Nat.reduceAdd, Nat.reduceSub, Nat.reduceMul, Nat.reduceLT, Nat.reduceLeDiff, Nat.reduceBEq, reduceCtorEq, Int.reduceAdd, Int.reduceSub, Int.reduceMul, Int.reduceLT, Int.reduceLE, Int.reduceEq, Int.reduceToNat, Int.reduceNeg, Nat.reduceBNe, Int.reduceBEq, Int.reduceBNe, Int.reduceGT, Int.reduceGE, Int.reduceTMod, forall_const, eq_self, decide_true, decide_false, kjoin_norm, kjoin_exit, kjoin_ret, kjoin_panic, cast_1, cast_2]
          refine kcond_e (fun h => ?_) (fun h => ?_)
          · have hx := hI.all x (by simp)
            obtain ⟨xn, xlo, xhi⟩ := x
            simp only at hx
            simp (config := { maxSteps := 4000000 }) (disch := omega) only [pvK, pvB, sTk1W_19, reduceIte, Nat.reduceEqDiff, Nat.reduceAdd, Nat.reduceSub, Nat.reduceMul, Nat.reduceLT, Nat.reduceLeDiff, Nat.reduceBEq, reduceCtorEq, Int.reduceAdd, Int.reduceSub, Int.reduceMul, Int.reduceLT, Int.reduceLE, Int.reduceEq, Int.reduceToNat, Int.reduceNeg, Nat.reduceBNe, Int.reduceBEq, Int.reduceBNe, Int.reduceGT, Int.reduceGE, Int.reduceTMod, forall_const, eq_self, decide_true, decide_false, kjoin_norm, kjoin_exit, kjoin_ret, kjoin_panic, cast_1, cast_2, pvI]
            refine next_c d L (xhi - xlo + 1) σ2 t1.deck hL (by omega) _ fun r2 σ3 a2 b2 t2 => ?_
            simp (config := { maxSteps := 4000000 }) (disch := omega) only [pvK, pvB, sTk1W_19, reduceIte, Nat.reduceEqDiff, Nat.reduceAdd, Nat.reduceSub, Nat.reduceMul, Nat.reduceLT, Nat.reduceLeDiff, Nat.reduceBEq, reduceCtorEq, Int.reduceAdd, Int.reduceSub, Int.reduceMul, Int.reduceLT, Int.reduceLE, Int.reduceEq, Int.reduceToNat, Int.reduceNeg, Nat.reduceBNe, Int.reduceBEq, Int.reduceBNe, Int.reduceGT, Int.reduceGE, Int.reduceTMod, forall_const, eq_self, decide_true, decide_false, kjoin_norm, kjoin_exit, kjoin_ret, kjoin_panic, cast_1, cast_2, pvI]
            refine next_c d L (xhi - (xlo + r2) + 1) σ3 t2.deck hL (by omega) _ fun r3 σ4 a3 b3 t3 => ?_
            simp (config := { maxSteps := 4000000 }) (disch := omega) only [pvK, pvB, sTk1W_19, reduceIte, Nat.reduceEqDiff, Nat.reduceAdd, Nat.reduceSub, Nat.reduceMul, Nat.reduceLT, Nat.reduceLeDiff, Nat.reduceBEq, reduceCtorEq, Int.reduceAdd, Int.reduceSub, Int.reduceMul, Int.reduceLT, Int.reduceLE, Int.reduceEq, Int.reduceToNat, Int.reduceNeg, Nat.reduceBNe, Int.reduceBEq, Int.reduceBNe, Int.reduceGT, Int.reduceGE, Int.reduceTMod, forall_const, eq_self, decide_true, decide_false, kjoin_norm, kjoin_exit, kjoin_ret, kjoin_panic, cast_1, cast_2, pvI]
            refine ⟨_, ?_, A, ⟨xn, xlo, xhi⟩ :: rest, arrs, [⟨⟨#[102, 101, 119]⟩, xn, xlo + r2, xlo + r2 + r3⟩], hA, by simp, m, V, ki, ka, .full, per, dl, pri, jit, σ4, hM.took (t1.trans (t2.trans t3)), hI, hN, rfl⟩
            exact l5 rfl rfl rfl rfl rfl rfl (by show some _ = some _; simp only [vi, vs, List.map_cons, List.map_nil, pvI, pvM, forgets, forget]) (.refl _) rfl
          · simp (config := { maxSteps := 4000000 }) (disch := omega) only [pvK, pvB, sTk1W_19, reduceIte, Nat.reduceEqDiff, Nat.reduceAdd, Nat.reduceSub, Nat.reduceMul, Nat.reduceLT, Nat.reduceLeDiff, Nat.reduceBEq, reduceCtorEq, Int.reduceAdd, Int.reduceSub, Int.reduceMul, Int.reduceLT, Int.reduceLE, Int.reduceEq, Int.reduceToNat, Int.reduceNeg, Nat.reduceBNe, Int.reduceBEq, Int.reduceBNe, Int.reduceGT, Int.reduceGE, Int.reduceTMod, forall_const, eq_self, decide_true, decide_false, kjoin_norm, kjoin_exit, kjoin_ret, kjoin_panic, cast_1, cast_2]
            exact non _ ⟨σ2, t1, l5 rfl rfl rfl rfl rfl rfl rfl (.refl _) rfl⟩
      · rintro s ⟨A, ins, arrs, mds, hA, hmd, m, V, ki, ka, km, per, dl, pri, jit, σ1, hM, hI, hN, rfl⟩
        dsimp only [cutR]
        refine swp_cut (tOk Try.prog) (by kernel_rfl) [43] [(2, 38, [(0, []), (2, []), (1, []), (3, [1]), (4, []), (5, []), (6, []), (7, [])]), (10, 71, [(0, []), (2, []), (3, []), (4, []), (5, []), (1, []), (6, [1]), (7, []), (8, []), (9, []), (10, []), (11, []), (12, [])]), (13, 93, [(0, []), (1, []), (5, []), (2, []), (6, []), (3, []), (4, []), (7, []), (8, []), (9, []), (10, [])]), (19, 131, [(0, []), (2, []), (3, []), (5, []), (1, []), (4, []), (6, []), (7, []), (8, []), (9, [1]), (10, []), (11, [])]), (20, 146, [(0, []), (2, []), (3, []), (4, []), (5, []), (7, []), (1, []), (6, []), (8, []), (9, []), (10, [1]), (11, []), (12, []), (13, []), (14, []), (15, [])]), (25, 185, [(0, []), (1, []), (4, []), (5, []), (7, []), (8, []), (13, []), (2, []), (6, []), (9, []), (14, []), (3, []), (10, []), (11, [14, 3]), (12, []), (15, []), (16, []), (17, []), (18, []), (19, []), (20, []), (21, [])])] 3 (fun s => ∃ (kb kc : Cap) (l : List AS) (cls : List AC) (ifl : List Int) (σ2 : St), GS 3 10 (5 * Zb 3) l ∧ cls.length ≤ 1 ∧ ifl.length ≤ 100000 ∧ Took d L σ σ2 ∧ s = ⟨221, [(3, vi weight), (10, .lptr 10 0), (11, .lptr 11 0), (18, .list .any 1 (ifl.map vi))], [(10, tz), (11, [vs name, vi per, vi dl, vi pri, vi jit, .list ki 3 (ins.map pvI), .list .full 1 [vs ⟨#[105]⟩, vs ⟨#[107]⟩, vs ⟨#[110]⟩], .list ka 2 (arrs.map pvA), .list km 4 (mds.map pvM), .list kc 2 (cls.map pvC), .list kb 8 (pvSs l)])], σ2⟩) (by kernel_rfl) ?_ ?_
        · dsimp only [cutL]
          simp (config := { maxSteps := 4000000 }) (disch := omega) only [pvK, pvB, sTk1W_19, reduceIte, Nat.reduceEqDiff, Nat.reduceAdd, Nat.reduceSub, Nat.reduceMul, Nat.reduceLT, Nat.reduceLeDiff, Nat.reduceBEq, reduceCtorEq, Int.reduceAdd, Int.reduceSub, Int.reduceMul, Int.reduceLT, Int.reduceLE, Int.reduceEq, Int.reduceToNat, Int.reduceNeg, Nat.reduceBNe, Int.reduceBEq, Int.reduceBNe, Int.reduceGT, Int.reduceGE, Int.reduceTMod, forall_const, eq_self, decide_true, decide_false, kjoin_norm, kjoin_exit, kjoin_ret, kjoin_panic, cast_1, cast_2]
          refine block_c σ d m L V A Sx 3 (by omega) 0 0 5 σ1 _ hM (by omega) (by omega) (by omega) fun l kb σ2 gl hM2 mo => ?_
          simp (config := { maxSteps := 4000000 }) (disch := omega) only [pvK, pvB, sTk1W_19, reduceIte, Nat.reduceEqDiff, Nat.reduceAdd, Nat.reduceSub, Nat.reduceMul, Nat.reduceLT, Nat.reduceLeDiff, Nat.reduceBEq, reduceCtorEq, Int.reduceAdd, Int.reduceSub, Int.reduceMul, Int.reduceLT, Int.reduceLE, Int.reduceEq, Int.reduceToNat, Int.reduceNeg, Nat.reduceBNe, Int.reduceBEq, Int.reduceBNe, Int.reduceGT, Int.reduceGE, Int.reduceTMod, forall_const, eq_self, decide_true, decide_false, kjoin_norm, kjoin_exit, kjoin_ret, kjoin_panic, cast_1, cast_2]
          have z3 : (5 : Nat) * Zb 3 = 8500 := rfl
          have gz := gl.z
          rw [z3] at gz
          have gd := gl.d
          refine PCalls.forget ?_
          simp only [forgets, forget, forgets_Ss]
          refine Ifs_c l σ2 _ (by omega) (by omega) ?_
          have hil := labSs_len (kindP 3) l
          generalize labSs (kindP 3) l = ifl at hil ⊢
          have T2 : Took d L σ σ2 := ⟨hM2.frame, hM2.deck⟩
          have non : ∀ s : Cf, (∃ σ3, Took d L σ σ3 ∧ Cf.less ⟨221, [(3, vi weight), (10, .lptr 10 0), (11, .lptr 11 0), (18, .list .any 1 (ifl.map vi))], [(10, tz), (11, [vs name, vi per, vi dl, vi pri, vi jit, .list ki 3 (ins.map pvI), .list .full 1 [vs ⟨#[105]⟩, vs ⟨#[107]⟩, vs ⟨#[110]⟩], .list ka 2 (arrs.map pvA), .list km 4 (mds.map pvM), .list .full 2 [], .list kb 8 (pvSs l)])], σ3⟩ s) → ∃ s0 : Cf, s0.less s ∧ ∃ (kb kc : Cap) (l : List AS) (cls : List AC) (ifl : List Int) (σ2 : St), GS 3 10 (5 * Zb 3) l ∧ cls.length ≤ 1 ∧ ifl.length ≤ 100000 ∧ Took d L σ σ2 ∧ s0 = ⟨221, [(3, vi weight), (10, .lptr 10 0), (11, .lptr 11 0), (18, .list .any 1 (ifl.map vi))], [(10, tz), (11, [vs name, vi per, vi dl, vi pri, vi jit, .list ki 3 (ins.map pvI), .list .full 1 [vs ⟨#[105]⟩, vs ⟨#[107]⟩, vs ⟨#[110]⟩], .list ka 2 (arrs.map pvA), .list km 4 (mds.map pvM), .list kc 2 (cls.map pvC), .list kb 8 (pvSs l)])], σ2⟩ := fun s ⟨σ3, t, hl⟩ => ⟨_, hl, kb, .full, l, [], ifl, σ3, gl, by simp, by omega, t, rfl⟩
          by_cases h1 : (ifl.length : Int) > 1
          · simp (config := { maxSteps := 4000000 }) (disch := omega) only [pvK, pvB, sTk1W_19, reduceIte, Nat.reduceEqDiff, Nat.reduceAdd, Nat.reduceSub, Nat.reduceMul, Nat.reduceLT, Nat.reduceLeDiff, Nat.reduceBEq, reduceCtorEq, Int.reduceAdd, Int.reduceSub, Int.reduceMul, Int.reduceLT, Int.reduceLE, Int.reduceEq, Int.reduceToNat, Int.reduceNeg, Nat.reduceBNe, Int.reduceBEq, Int.reduceBNe, Int.reduceGT, Int.reduceGE, Int.reduceTMod, forall_const, eq_self, decide_true, decide_false, kjoin_norm, kjoin_exit, kjoin_ret, kjoin_panic, cast_1, cast_2, h1]
            refine next_c d L 2 σ2 hM2.deck hL (by omega) _ fun r1 σ3 a1 b1 t1 => ?_
            simp (config := { maxSteps := 4000000 }) (disch := omega) only [pvK, pvB, sTk1W_19, reduceIte, Nat.reduceEqDiff, Nat.reduceAdd, Nat.reduceSub, Nat.reduceMul, Nat.reduceLT, Nat.reduceLeDiff, Nat.reduceBEq, reduceCtorEq, Int.reduceAdd, Int.reduceSub, Int.reduceMul, Int.reduceLT, Int.reduceLE, Int.reduceEq, Int.reduceToNat, Int.reduceNeg, Nat.reduceBNe, Int.reduceBEq, Int.reduceBNe, Int.reduceGT, Int.reduceGE, Int.reduceTMod, forall_const, eq_self, decide_true, decide_false, kjoin_norm, kjoin_exit, kjoin_ret, kjoin_panic, cast_1, cast_2]
            refine kcond_e (fun h => ?_) (fun h => ?_)
            · simp (config := { maxSteps := 4000000 }) (disch := omega) only [pvK, pvB, sTk1W_19, reduceIte, Nat.reduceEqDiff, Nat.reduceAdd, Nat.reduceSub, Nat.reduceMul, Nat.reduceLT, Nat.reduceLeDiff, Nat.reduceBEq, reduceCtorEq, Int.reduceAdd, Int.reduceSub, Int.reduceMul, Int.reduceLT, Int.reduceLE, Int.reduceEq, Int.reduceToNat, Int.reduceNeg, Nat.reduceBNe, Int.reduceBEq, Int.reduceBNe, Int.reduceGT, Int.reduceGE, Int.reduceTMod, forall_const, eq_self, decide_true, decide_false, kjoin_norm, kjoin_exit, kjoin_ret, kjoin_panic, cast_1, cast_2]
              refine next_c d L ifl.length σ3 t1.deck hL (by omega) _ fun r2 σ4 a2 b2 t2 => ?_
              have g1 : (ifl.map vi)[r2.toNat]? = some (vi (ifl[r2.toNat]'(by omega))) := by rw [List.getElem?_map, List.getElem?_eq_getElem (by omega)]; rfl
              generalize ifl[r2.toNat]'(by omega) = ia at g1
              simp only [vi] at g1
              simp (config := { maxSteps := 4000000 }) (disch := omega) only [pvK, pvB, sTk1W_19, reduceIte, Nat.reduceEqDiff, Nat.reduceAdd, Nat.reduceSub, Nat.reduceMul, Nat.reduceLT, Nat.reduceLeDiff, Nat.reduceBEq, reduceCtorEq, Int.reduceAdd, Int.reduceSub, Int.reduceMul, Int.reduceLT, Int.reduceLE, Int.reduceEq, Int.reduceToNat, Int.reduceNeg, Nat.reduceBNe, Int.reduceBEq, Int.reduceBNe, Int.reduceGT, Int.reduceGE, Int.reduceTMod, forall_const, eq_self, decide_true, decide_false, kjoin_norm, kjoin_exit, kjoin_ret, kjoin_panic, cast_1, cast_2, a2, g1]
              refine next_c d L (ifl.length - 1) σ4 t2.deck hL (by omega) _ fun r3 σ5 a3 b3 t3 => ?_
              have q0 : 0 ≤ (r2 + 1 + r3).tmod ifl.length := Int.tmod_nonneg _ (by omega)
              have q1 : (r2 + 1 + r3).tmod ifl.length < ifl.length := Int.tmod_lt_of_pos _ (by omega)
              have qz : (ifl.length : Int) ≠ 0 := by omega
              have g2 : (ifl.map vi)[((r2 + 1 + r3).tmod ifl.length).toNat]? = some (vi (ifl[((r2 + 1 + r3).tmod ifl.length).toNat]'(by omega))) := by rw [List.getElem?_map, List.getElem?_eq_getElem (by omega)]; rfl
              generalize ifl[((r2 + 1 + r3).tmod ifl.length).toNat]'(by omega) = ib at g2
              simp only [vi] at g2
              simp (config := { maxSteps := 4000000 }) (disch := omega) only [pvK, pvB, sTk1W_19, reduceIte, Nat.reduceEqDiff, Nat.reduceAdd, Nat.reduceSub, Nat.reduceMul, Nat.reduceLT, Nat.reduceLeDiff, Nat.reduceBEq, reduceCtorEq, Int.reduceAdd, Int.reduceSub, Int.reduceMul, Int.reduceLT, Int.reduceLE, Int.reduceEq, Int.reduceToNat, Int.reduceNeg, Nat.reduceBNe, Int.reduceBEq, Int.reduceBNe, Int.reduceGT, Int.reduceGE, Int.reduceTMod, forall_const, eq_self, decide_true, decide_false, kjoin_norm, kjoin_exit, kjoin_ret, kjoin_panic, cast_1, cast_2, a2, g1, g2, q0, qz]
              refine ⟨_, ?_, kb, .full, l, [⟨ia, ib⟩], ifl, σ5, gl, by simp, by omega, T2.trans (t1.trans (t2.trans t3)), rfl⟩
              exact less_env rfl (less_env rfl (less_env rfl (less_env rfl (less_loc rfl (less_loc (by show some _ = some _; simp only [vi, vs, List.map_cons, List.map_nil, pvC, forgets, forget]) (less_nil (.refl _)))))))
            · simp (config := { maxSteps := 4000000 }) (disch := omega) only [pvK, pvB, sTk1W_19, reduceIte, Nat.reduceEqDiff, Nat.reduceAdd, Nat.reduceSub, Nat.reduceMul, Nat.reduceLT, Nat.reduceLeDiff, Nat.reduceBEq, reduceCtorEq, Int.reduceAdd, Int.reduceSub, Int.reduceMul, Int.reduceLT, Int.reduceLE, Int.reduceEq, Int.reduceToNat, Int.reduceNeg, Nat.reduceBNe, Int.reduceBEq, Int.reduceBNe, Int.reduceGT, Int.reduceGE, Int.reduceTMod, forall_const, eq_self, decide_true, decide_false, kjoin_norm, kjoin_exit, kjoin_ret, kjoin_panic, cast_1, cast_2]
              exact non _ ⟨σ3, T2.trans t1, (less_env rfl (less_env rfl (less_env rfl (less_env rfl (less_loc rfl (less_loc rfl (less_nil (.refl _))))))))⟩
          · simp (config := { maxSteps := 4000000 }) (disch := omega) only [pvK, pvB, sTk1W_19, reduceIte, Nat.reduceEqDiff, Nat.reduceAdd, Nat.reduceSub, Nat.reduceMul, Nat.reduceLT, Nat.reduceLeDiff, Nat.reduceBEq, reduceCtorEq, Int.reduceAdd, Int.reduceSub, Int.reduceMul, Int.reduceLT, Int.reduceLE, Int.reduceEq, Int.reduceToNat, Int.reduceNeg, Nat.reduceBNe, Int.reduceBEq, Int.reduceBNe, Int.reduceGT, Int.reduceGE, Int.reduceTMod, forall_const, eq_self, decide_true, decide_false, kjoin_norm, kjoin_exit, kjoin_ret, kjoin_panic, cast_1, cast_2, h1]
            exact non _ ⟨σ2, T2, (less_env rfl (less_env rfl (less_env rfl (less_env rfl (less_loc rfl (less_loc rfl (less_nil (.refl _))))))))⟩
        · rintro s ⟨kb, kc, l, cls, ifl, σ1, gl, hcl, hif, T, rfl⟩
          dsimp only [cutR]
          have z3 : (5 : Int) * Zb 3 = 8500 := rfl
          have gd := gl.d
          have gx := gl.x
          have gz := gl.z
          rw [z3] at gz
          have gle := gl.len
          clear gl
          refine swp_cut (tOk Try.prog) (by kernel_rfl) [43] [(2, 38, [(0, []), (2, []), (1, []), (3, [1]), (4, []), (5, []), (6, []), (7, [])]), (10, 71, [(0, []), (2, []), (3, []), (4, []), (5, []), (1, []), (6, [1]), (7, []), (8, []), (9, []), (10, []), (11, []), (12, [])]), (13, 93, [(0, []), (1, []), (5, []), (2, []), (6, []), (3, []), (4, []), (7, []), (8, []), (9, []), (10, [])]), (19, 131, [(0, []), (2, []), (3, []), (5, []), (1, []), (4, []), (6, []), (7, []), (8, []), (9, [1]), (10, []), (11, [])]), (20, 146, [(0, []), (2, []), (3, []), (4, []), (5, []), (7, []), (1, []), (6, []), (8, []), (9, []), (10, [1]), (11, []), (12, []), (13, []), (14, []), (15, [])]), (25, 185, [(0, []), (1, []), (4, []), (5, []), (7, []), (8, []), (13, []), (2, []), (6, []), (9, []), (14, []), (3, []), (10, []), (11, [14, 3]), (12, []), (15, []), (16, []), (17, []), (18, []), (19, []), (20, []), (21, [])])] 1 (fun s => ∃ (kb kc : Cap) (l : List AS) (cls : List AC), dSs l ≤ 4 ∧ xSs l ≤ 4 ∧ zSs l ≤ 8500 ∧ wSs l ≤ weight ∧ cls.length ≤ 1 ∧ s = ⟨221, [(3, vi weight), (10, .lptr 10 0), (11, .lptr 11 0), (18, .list .any 1 (ifl.map vi))], [(10, tz), (11, [vs name, vi per, vi dl, vi pri, vi jit, .list ki 3 (ins.map pvI), .list .full 1 [vs ⟨#[105]⟩, vs ⟨#[107]⟩, vs ⟨#[110]⟩], .list ka 2 (arrs.map pvA), .list km 4 (mds.map pvM), .list kc 2 (cls.map pvC), .list kb 8 (pvSs l)])], σ1⟩) (by kernel_rfl) ?_ ?_
          · dsimp only [cutL]
            simp (config := { maxSteps := 4000000 }) (disch := omega) only [pvK, pvB, sTk1W_19, reduceIte, Nat.reduceEqDiff, Nat.reduceAdd, Nat.reduceSub, Nat.reduceMul, Nat.reduceLT, Nat.reduceLeDiff, Nat.reduceBEq, reduceCtorEq, Int.reduceAdd, Int.reduceSub, Int.reduceMul, Int.reduceLT, Int.reduceLE, Int.reduceEq, Int.reduceToNat, Int.reduceNeg, Nat.reduceBNe, Int.reduceBEq, Int.reduceBNe, Int.reduceGT, Int.reduceGE, Int.reduceTMod, forall_const, eq_self, decide_true, decide_false, kjoin_norm, kjoin_exit, kjoin_ret, kjoin_panic, cast_1, cast_2]
            refine loop_rule (fun s => ∃ (kb kc : Cap) (l : List AS) (cls : List AC), l.length ≤ 10 ∧ dSs l ≤ 4 ∧ xSs l ≤ 4 ∧ zSs l ≤ 8500 ∧ cls.length ≤ 1 ∧ s = ⟨221, [(3, vi weight), (10, .lptr 10 0), (11, .lptr 11 0), (18, .list .any 1 (ifl.map vi))], [(10, tz), (11, [vs name, vi per, vi dl, vi pri, vi jit, .list ki 3 (ins.map pvI), .list .full 1 [vs ⟨#[105]⟩, vs ⟨#[107]⟩, vs ⟨#[110]⟩], .list ka 2 (arrs.map pvA), .list km 4 (mds.map pvM), .list kc 2 (cls.map pvC), .list kb 8 (pvSs l)])], σ1⟩) (fun s => match getL s.loc 11 with | some [_, _, _, _, _, _, _, _, _, _, .list _ _ xs] => xs.length | _ => 0) ?_ ?_
            · refine ⟨_, .refl _, kb, kc, l, cls, gle, gd, gx, gz, hcl, rfl⟩
            · rintro s ⟨kb, kc, l, cls, hl, gd, gx, gz, hcl, rfl⟩ R hR
              by_cases h0 : (l.length : Int) > 0
              · simp (config := { maxSteps := 4000000 }) (disch := omega) only [pvK, pvB, sTk1W_19, reduceIte, Nat.reduceEqDiff, Nat.reduceAdd, Nat.reduceSub, Nat.reduceMul, Nat.reduceLT, Nat.reduceLeDiff, Nat.reduceBEq, reduceCtorEq, Int.reduceAdd, Int.reduceSub, Int.reduceMul, Int.reduceLT, Int.reduceLE, Int.reduceEq, Int.reduceToNat, Int.reduceNeg, Nat.reduceBNe, Int.reduceBEq, Int.reduceBNe, Int.reduceGT, Int.reduceGE, Int.reduceTMod, forall_const, eq_self, decide_true, decide_false, kjoin_norm, kjoin_exit, kjoin_ret, kjoin_panic, cast_1, cast_2, h0]
                refine PCalls.forget ?_
                simp only [forgets, forget, forgets_Ss]
                refine RWeight_c l σ1 _ (by omega) (by omega) (by omega) ?_
                have hwn := wSs_nonneg l
                simp (config := { maxSteps := 4000000 }) (disch := omega) only [pvK, pvB, sTk1W_19, reduceIte, Nat.reduceEqDiff, Nat.reduceAdd, Nat.reduceSub, Nat.reduceMul, Nat.reduceLT, Nat.reduceLeDiff, Nat.reduceBEq, reduceCtorEq, Int.reduceAdd, Int.reduceSub, Int.reduceMul, Int.reduceLT, Int.reduceLE, Int.reduceEq, Int.reduceToNat, Int.reduceNeg, Nat.reduceBNe, Int.reduceBEq, Int.reduceBNe, Int.reduceGT, Int.reduceGE, Int.reduceTMod, forall_const, eq_self, decide_true, decide_false, kjoin_norm, kjoin_exit, kjoin_ret, kjoin_panic, cast_1, cast_2]
                refine kcond_e (fun h => ?_) (fun h => ?_)
                · have hs1 : 0 ≤ (l.length : Int) - 1 := by omega
                  have hs2 : (l.length : Int) - 1 ≤ l.length := by omega
                  simp (config := { maxSteps := 4000000 }) (disch := omega) only [pvK, pvB, sTk1W_19, reduceIte, Nat.reduceEqDiff, Nat.reduceAdd, Nat.reduceSub, Nat.reduceMul, Nat.reduceLT, Nat.reduceLeDiff, Nat.reduceBEq, reduceCtorEq, Int.reduceAdd, Int.reduceSub, Int.reduceMul, Int.reduceLT, Int.reduceLE, Int.reduceEq, Int.reduceToNat, Int.reduceNeg, Nat.reduceBNe, Int.reduceBEq, Int.reduceBNe, Int.reduceGT, Int.reduceGE, Int.reduceTMod, forall_const, eq_self, decide_true, decide_false, kjoin_norm, kjoin_exit, kjoin_ret, kjoin_panic, cast_1, cast_2, hs1, hs2, zero_int]
                  have hn : ((l.length : Int) - 1).toNat = l.length - 1 := by omega
                  refine hR _ _ ?_ ⟨kb.cut 8 0 ((l.length : Int) - 1).toNat l.length, .full, l.take (l.length - 1), [], ?_, ?_, ?_, ?_, by simp, rfl⟩ ?_
                  · exact less_env rfl (less_env rfl (less_env rfl (less_env rfl (less_loc rfl (less_loc (by show some _ = some _; rw [pvSs_take, hn]; rfl) (less_nil (.refl _)))))))
                  · simp; omega
                  · exact Nat.le_trans (dSs_take_le l _) gd
                  · exact Nat.le_trans (xSs_take_le l _) gx
                  · exact Int.le_trans (zSs_take_le l _) gz
                  · show (pvSs (l.take (l.length - 1))).length < (pvSs l).length
                    rw [pvSs_length, pvSs_length, List.length_take]
                    omega
                · have h := of_decide_eq_false h
                  simp (config := { maxSteps := 4000000 }) (disch := omega) only [pvK, pvB, sTk1W_19, reduceIte, Nat.reduceEqDiff, Nat.reduceAdd, Nat.reduceSub, Nat.reduceMul, Nat.reduceLT, Nat.reduceLeDiff, Nat.reduceBEq, reduceCtorEq, Int.reduceAdd, Int.reduceSub, Int.reduceMul, Int.reduceLT, Int.reduceLE, Int.reduceEq, Int.reduceToNat, Int.reduceNeg, Nat.reduceBNe, Int.reduceBEq, Int.reduceBNe, Int.reduceGT, Int.reduceGE, Int.reduceTMod, forall_const, eq_self, decide_true, decide_false, kjoin_norm, kjoin_exit, kjoin_ret, kjoin_panic, cast_1, cast_2]
                  refine ⟨_, ?_, kb, kc, l, cls, gd, gx, gz, ?_, hcl, rfl⟩
                  · exact less_env rfl (less_env rfl (less_env rfl (less_env rfl (less_loc rfl (less_loc rfl (less_nil (.refl _)))))))
                  · unfold cap MW at h
                    split at h <;> omega
              · simp (config := { maxSteps := 4000000 }) (disch := omega) only [pvK, pvB, sTk1W_19, reduceIte, Nat.reduceEqDiff, Nat.reduceAdd, Nat.reduceSub, Nat.reduceMul, Nat.reduceLT, Nat.reduceLeDiff, Nat.reduceBEq, reduceCtorEq, Int.reduceAdd, Int.reduceSub, Int.reduceMul, Int.reduceLT, Int.reduceLE, Int.reduceEq, Int.reduceToNat, Int.reduceNeg, Nat.reduceBNe, Int.reduceBEq, Int.reduceBNe, Int.reduceGT, Int.reduceGE, Int.reduceTMod, forall_const, eq_self, decide_true, decide_false, kjoin_norm, kjoin_exit, kjoin_ret, kjoin_panic, cast_1, cast_2, h0]
                refine ⟨_, ?_, kb, kc, l, cls, gd, gx, gz, ?_, hcl, rfl⟩
                · exact less_env rfl (less_env rfl (less_env rfl (less_env rfl (less_loc rfl (less_loc rfl (less_nil (.refl _)))))))
                · cases l with
                  | nil => simp only [wSs]; omega
                  | cons x l => simp at h0
          · rintro s ⟨kb, kc, l, cls, gd, gx, gz, gw, hcl, rfl⟩
            dsimp only [cutR]
            refine swp_of (tOk Try.prog) (by kernel_rfl) [43] [(2, 38, [(0, []), (2, []), (1, []), (3, [1]), (4, []), (5, []), (6, []), (7, [])]), (10, 71, [(0, []), (2, []), (3, []), (4, []), (5, []), (1, []), (6, [1]), (7, []), (8, []), (9, []), (10, []), (11, []), (12, [])]), (13, 93, [(0, []), (1, []), (5, []), (2, []), (6, []), (3, []), (4, []), (7, []), (8, []), (9, []), (10, [])]), (19, 131, [(0, []), (2, []), (3, []), (5, []), (1, []), (4, []), (6, []), (7, []), (8, []), (9, [1]), (10, []), (11, [])]), (20, 146, [(0, []), (2, []), (3, []), (4, []), (5, []), (7, []), (1, []), (6, []), (8, []), (9, []), (10, [1]), (11, []), (12, []), (13, []), (14, []), (15, [])]), (25, 185, [(0, []), (1, []), (4, []), (5, []), (7, []), (8, []), (13, []), (2, []), (6, []), (9, []), (14, []), (3, []), (10, []), (11, [14, 3]), (12, []), (15, []), (16, []), (17, []), (18, []), (19, []), (20, []), (21, [])])] (by kernel_rfl) ?_
            have ok : ∀ cls' : List AC, cls'.length ≤ 1 → TaskOK name weight ⟨name, per, dl, pri, jit, ins, [⟨#[105]⟩, ⟨#[107]⟩, ⟨#[110]⟩], arrs, mds, cls', l⟩ := fun cls' hc => ⟨rfl, hN.h1, hN.h2, hN.h3, hN.h4, ⟨hI.len, hI.all⟩, rfl, hA, hmd, hc, gd, gx, by show zSs l ≤ _; omega, gw⟩
            have fgt : ∀ cls' : List AC, forget (PV.agg [vs name, vi per, vi dl, vi pri, vi jit, .list ki 3 (ins.map pvI), .list .full 1 [vs ⟨#[105]⟩, vs ⟨#[107]⟩, vs ⟨#[110]⟩], .list ka 2 (arrs.map pvA), .list km 4 (mds.map pvM), .list kc 2 (cls'.map pvC), .list kb 8 (pvSs l)]) = pvT ⟨name, per, dl, pri, jit, ins, [⟨#[105]⟩, ⟨#[107]⟩, ⟨#[110]⟩], arrs, mds, cls', l⟩ := by
              intro cls'
              simp only [pvT, forget, forgets, forgets_Is, forgets_As, forgets_Ms, forgets_Cs, forgets_Ss, forgets_vs, List.map_cons, List.map_nil, vi, vs]
            have fgn : forget (PV.agg [vs name, vi per, vi dl, vi pri, vi jit, .list ki 3 (ins.map pvI), .list .full 1 [vs ⟨#[105]⟩, vs ⟨#[107]⟩, vs ⟨#[110]⟩], .list ka 2 (arrs.map pvA), .list km 4 (mds.map pvM), .list .full 2 [], .list kb 8 (pvSs l)]) = pvT ⟨name, per, dl, pri, jit, ins, [⟨#[105]⟩, ⟨#[107]⟩, ⟨#[110]⟩], arrs, mds, [], l⟩ := by
              simp only [pvT, forget, forgets, forgets_Is, forgets_As, forgets_Ms, forgets_Cs, forgets_Ss, forgets_vs, List.map_cons, List.map_nil, vi, vs]
            simp only [vi, vs] at fgt fgn
            cases cls with
            | nil =>
              simp (config := { maxSteps := 4000000 }) (disch := omega) only [pvK, pvB, sTk1W_19, reduceIte, Nat.reduceEqDiff, Nat.reduceAdd, Nat.reduceSub, Nat.reduceMul, Nat.reduceLT, Nat.reduceLeDiff, Nat.reduceBEq, reduceCtorEq, Int.reduceAdd, Int.reduceSub, Int.reduceMul, Int.reduceLT, Int.reduceLE, Int.reduceEq, Int.reduceToNat, Int.reduceNeg, Nat.reduceBNe, Int.reduceBEq, Int.reduceBNe, Int.reduceGT, Int.reduceGE, Int.reduceTMod, forall_const, eq_self, decide_true, decide_false, kjoin_norm, kjoin_exit, kjoin_ret, kjoin_panic, cast_1, cast_2, tz]
              refine ⟨σ1, .refl _, ?_⟩
              show K (.ret (forget _)) σ1
              rw [show (PV.list kc 2 []) = PV.list kc 2 (([] : List AC).map pvC) from rfl, fgt]
              exact hK _ _ (ok _ (by simp)) T
            | cons c rest =>
              have hl : ((rest.length + 1 : Nat) : Int) > 0 := by omega
              simp (config := { maxSteps := 4000000 }) (disch := omega) only [pvK, pvB, sTk1W_19, reduceIte, Nat.reduceEqDiff, Nat.reduceAdd, Nat.reduceSub, Nat.reduceMul, Nat.reduceLT, Nat.reduceLeDiff, Nat.reduceBEq, reduceCtorEq, Int.reduceAdd, Int.reduceSub, Int.reduceMul, Int.reduceLT, Int.reduceLE, Int.reduceEq, Int.reduceToNat, Int.reduceNeg, Nat.reduceBNe, Int.reduceBEq, Int.reduceBNe, Int.reduceGT, Int.reduceGE, Int.reduceTMod, forall_const, eq_self, decide_true, decide_false, kjoin_norm, kjoin_exit, kjoin_ret, kjoin_panic, cast_1, cast_2, tz, hl]
              refine PCalls.forget ?_
              simp only [forgets, forget, forgets_Ss]
              refine Ifs_c l σ1 _ (by omega) (by omega) ?_
              simp (config := { maxSteps := 4000000 }) (disch := omega) only [pvK, pvB, sTk1W_19, reduceIte, Nat.reduceEqDiff, Nat.reduceAdd, Nat.reduceSub, Nat.reduceMul, Nat.reduceLT, Nat.reduceLeDiff, Nat.reduceBEq, reduceCtorEq, Int.reduceAdd, Int.reduceSub, Int.reduceMul, Int.reduceLT, Int.reduceLE, Int.reduceEq, Int.reduceToNat, Int.reduceNeg, Nat.reduceBNe, Int.reduceBEq, Int.reduceBNe, Int.reduceGT, Int.reduceGE, Int.reduceTMod, forall_const, eq_self, decide_true, decide_false, kjoin_norm, kjoin_exit, kjoin_ret, kjoin_panic, cast_1, cast_2, tz]
              refine kcond_e (fun h => ?_) (fun h => ?_)
              · simp (config := { maxSteps := 4000000 }) (disch := omega) only [pvK, pvB, sTk1W_19, reduceIte, Nat.reduceEqDiff, Nat.reduceAdd, Nat.reduceSub, Nat.reduceMul, Nat.reduceLT, Nat.reduceLeDiff, Nat.reduceBEq, reduceCtorEq, Int.reduceAdd, Int.reduceSub, Int.reduceMul, Int.reduceLT, Int.reduceLE, Int.reduceEq, Int.reduceToNat, Int.reduceNeg, Nat.reduceBNe, Int.reduceBEq, Int.reduceBNe, Int.reduceGT, Int.reduceGE, Int.reduceTMod, forall_const, eq_self, decide_true, decide_false, kjoin_norm, kjoin_exit, kjoin_ret, kjoin_panic, cast_1, cast_2, tz]
                refine ⟨σ1, .refl _, ?_⟩
                show K (.ret (forget _)) σ1
                rw [fgn]
                exact hK _ _ (ok _ (by simp)) T
              · simp (config := { maxSteps := 4000000 }) (disch := omega) only [pvK, pvB, sTk1W_19, reduceIte, Nat.reduceEqDiff, Nat.reduceAdd, Nat.reduceSub, Nat.reduceMul, Nat.reduceLT, Nat.reduceLeDiff, Nat.reduceBEq, reduceCtorEq, Int.reduceAdd, Int.reduceSub, Int.reduceMul, Int.reduceLT, Int.reduceLE, Int.reduceEq, Int.reduceToNat, Int.reduceNeg, Nat.reduceBNe, Int.reduceBEq, Int.reduceBNe, Int.reduceGT, Int.reduceGE, Int.reduceTMod, forall_const, eq_self, decide_true, decide_false, kjoin_norm, kjoin_exit, kjoin_ret, kjoin_panic, cast_1, cast_2, tz]
                refine ⟨σ1, .refl _, ?_⟩
                show K (.ret (forget _)) σ1
                rw [show (PV.list kc 2 (pvC c :: rest.map pvC)) = PV.list kc 2 ((c :: rest).map pvC) from rfl, fgt]
                exact hK _ _ (ok _ hcl) T
  dsimp only [cutL]
  simp (config := { maxSteps := 4000000 }) (disch := omega) only [pvK, pvB, sTk1W_19, reduceIte, Nat.reduceEqDiff, Nat.reduceAdd, Nat.reduceSub, Nat.reduceMul, Nat.reduceLT, Nat.reduceLeDiff, Nat.reduceBEq, reduceCtorEq, Int.reduceAdd, Int.reduceSub, Int.reduceMul, Int.reduceLT, Int.reduceLE, Int.reduceEq, Int.reduceToNat, Int.reduceNeg, Nat.reduceBNe, Int.reduceBEq, Int.reduceBNe, Int.reduceGT, Int.reduceGE, Int.reduceTMod, forall_const, eq_self, decide_true, decide_false, kjoin_norm, kjoin_exit, kjoin_ret, kjoin_panic, cast_1, cast_2]
  refine next_c d L 9 σ hd hL (by omega) _ fun r1 σ1 a1 b1 t1 => ?_
  simp (config := { maxSteps := 4000000 }) (disch := omega) only [pvK, pvB, sTk1W_19, reduceIte, Nat.reduceEqDiff, Nat.reduceAdd, Nat.reduceSub, Nat.reduceMul, Nat.reduceLT, Nat.reduceLeDiff, Nat.reduceBEq, reduceCtorEq, Int.reduceAdd, Int.reduceSub, Int.reduceMul, Int.reduceLT, Int.reduceLE, Int.reduceEq, Int.reduceToNat, Int.reduceNeg, Nat.reduceBNe, Int.reduceBEq, Int.reduceBNe, Int.reduceGT, Int.reduceGE, Int.reduceTMod, forall_const, eq_self, decide_true, decide_false, kjoin_norm, kjoin_exit, kjoin_ret, kjoin_panic, cast_1, cast_2]
  refine next_c d L 5 σ1 t1.deck hL (by omega) _ fun r2 σ2 a2 b2 t2 => ?_
  simp (config := { maxSteps := 4000000 }) (disch := omega) only [pvK, pvB, sTk1W_19, reduceIte, Nat.reduceEqDiff, Nat.reduceAdd, Nat.reduceSub, Nat.reduceMul, Nat.reduceLT, Nat.reduceLeDiff, Nat.reduceBEq, reduceCtorEq, Int.reduceAdd, Int.reduceSub, Int.reduceMul, Int.reduceLT, Int.reduceLE, Int.reduceEq, Int.reduceToNat, Int.reduceNeg, Nat.reduceBNe, Int.reduceBEq, Int.reduceBNe, Int.reduceGT, Int.reduceGE, Int.reduceTMod, forall_const, eq_self, decide_true, decide_false, kjoin_norm, kjoin_exit, kjoin_ret, kjoin_panic, cast_1, cast_2]
  refine next_c d L 4 σ2 t2.deck hL (by omega) _ fun r3 σ3 a3 b3 t3 => ?_
  simp (config := { maxSteps := 4000000 }) (disch := omega) only [pvK, pvB, sTk1W_19, reduceIte, Nat.reduceEqDiff, Nat.reduceAdd, Nat.reduceSub, Nat.reduceMul, Nat.reduceLT, Nat.reduceLeDiff, Nat.reduceBEq, reduceCtorEq, Int.reduceAdd, Int.reduceSub, Int.reduceMul, Int.reduceLT, Int.reduceLE, Int.reduceEq, Int.reduceToNat, Int.reduceNeg, Nat.reduceBNe, Int.reduceBEq, Int.reduceBNe, Int.reduceGT, Int.reduceGE, Int.reduceTMod, forall_const, eq_self, decide_true, decide_false, kjoin_norm, kjoin_exit, kjoin_ret, kjoin_panic, cast_1, cast_2]
  refine next_c d L 5 σ3 t3.deck hL (by omega) _ fun r4 σ4 a4 b4 t4 => ?_
  simp (config := { maxSteps := 4000000 }) (disch := omega) only [pvK, pvB, sTk1W_19, reduceIte, Nat.reduceEqDiff, Nat.reduceAdd, Nat.reduceSub, Nat.reduceMul, Nat.reduceLT, Nat.reduceLeDiff, Nat.reduceBEq, reduceCtorEq, Int.reduceAdd, Int.reduceSub, Int.reduceMul, Int.reduceLT, Int.reduceLE, Int.reduceEq, Int.reduceToNat, Int.reduceNeg, Nat.reduceBNe, Int.reduceBEq, Int.reduceBNe, Int.reduceGT, Int.reduceGE, Int.reduceTMod, forall_const, eq_self, decide_true, decide_false, kjoin_norm, kjoin_exit, kjoin_ret, kjoin_panic, cast_1, cast_2]
  intro m hm1 hm2
  have T : Took d L σ σ4 := t1.trans (t2.trans (t3.trans t4))
  have hmd : m ≠ d := by rintro rfl; obtain ⟨at', _, q⟩ := T.deck; rw [q] at hm1; cases hm1
  have hm0 : σ.obj m = none := by
    cases q : σ.obj m with
    | none => rfl
    | some o => rw [T.frame.obj m o hmd q] at hm1; cases hm1
  have hnum : TNum (2000 + r1 * 500) (2000 + r1 * 500 - r4 * 100) (1 + r2) (r3 * 10) := ⟨by omega, by omega, by omega, by omega⟩
  generalize 2000 + r1 * 500 - r4 * 100 = dl at hnum ⊢
  generalize 2000 + r1 * 500 = per at hnum ⊢
  generalize 1 + r2 = pri at hnum ⊢
  generalize r3 * 10 = jit at hnum ⊢
  clear hm2
  have hmo : (σ4.set m (.cells [vp d 0, .list .full 1 [], .list .full 1 [], .list .full 1 [], .list ks 3 (Sx.map pvSh), vs ⟨#[]⟩, vi 0, vi stmts, vi 0])).obj m = some (.cells [vp d 0, .list .full 1 [], .list .full 1 [], .list .full 1 [], .list ks 3 (Sx.map pvSh), vs ⟨#[]⟩, vi 0, vi stmts, vi 0]) := obj_set _ _ _
  have hde : ∃ at', 0 ≤ at' ∧ (σ4.set m (.cells [vp d 0, .list .full 1 [], .list .full 1 [], .list .full 1 [], .list ks 3 (Sx.map pvSh), vs ⟨#[]⟩, vi 0, vi stmts, vi 0])).obj d = some (deck L at') := by
    obtain ⟨at', q1, q2⟩ := T.deck
    refine ⟨at', q1, ?_⟩
    simp only [St.set]; rw [if_neg (Ne.symm hmd)]; exact q2
  have hfr : Frame (· = d) σ (σ4.set m (.cells [vp d 0, .list .full 1 [], .list .full 1 [], .list .full 1 [], .list ks 3 (Sx.map pvSh), vs ⟨#[]⟩, vi 0, vi stmts, vi 0])) := by
    refine ⟨fun b o q e => ?_, T.frame.own, T.frame.gl⟩
    simp only [St.set]
    rw [if_neg]
    · exact T.frame.obj b o q e
    · rintro rfl; rw [hm0] at e; cases e
  generalize σ4.set m _ = σ5 at hmo hde hfr ⊢
  have fin : ∀ (i : Nat) (ins : List AI) (V : List ByteArray) (ki kv : Cap) (σx : St), i ≤ 2 → ins.length = i → V.length = i → (∀ x ∈ ins, -2 ≤ x.lo ∧ x.lo ≤ x.hi ∧ x.hi ≤ 20) → Frame (· = d) σ σx → (∃ at', 0 ≤ at' ∧ σx.obj d = some (deck L at')) → MineO σ σx i 1 kv → ∀ (kv' : Cap) (σ7 : St), Appended σx kv (i + 3) 1 kv' σ7 →
      ∃ ins', TS σ d L Sx name weight [] ins' [] [] ⟨221, [(0, vp d 0), (3, vi weight), (10, .lptr 10 0), (11, .lptr 11 0), (12, vp m 0)], [(10, tz), (11, [vs name, vi per, vi dl, vi pri, vi jit, .list ki 3 (ins.map pvI), .list .full 1 [vs ⟨#[105]⟩, vs ⟨#[107]⟩, vs ⟨#[110]⟩], .list .full 2 [], .list .full 4 [], .list .full 2 [], .list .full 8 []])], σ7.set m (.cells (mkCells d kv' (V ++ [⟨#[105]⟩, ⟨#[107]⟩, ⟨#[110]⟩]) (.list .full 1 []) .full [] ks Sx ⟨#[]⟩ 0 stmts 0))⟩ := by
    intro i ins V ki kv σx hi hin hV hins hfr6 hde6 mv kv' σ7 ap
    refine ⟨ins, m, V ++ [⟨#[105]⟩, ⟨#[107]⟩, ⟨#[110]⟩], ki, .full, .full, per, dl, pri, jit, _, ?_, ⟨by omega, hins⟩, hnum, rfl⟩
    have mv2 := mv.app ap
    refine ⟨⟨fun b o q e => ?_, mv2.le.own, ap.gl.trans hfr6.gl⟩, hm0, hmd, ?_, hL, by simp; omega, by simp, hS, by omega, by omega, kv', .full, ks, .list .full 1 [], ⟨#[]⟩, 0, stmts, obj_set _ _ _, .inl ⟨rfl, rfl⟩, by omega, by omega, hst.1, hst.2⟩
    · simp only [St.set]
      rw [if_neg (by rintro rfl; rw [hm0] at e; cases e), ap.obj]
      exact hfr6.obj b o q e
    · obtain ⟨at', q1, q2⟩ := hde6
      refine ⟨at', q1, ?_⟩
      simp only [St.set]; rw [if_neg (Ne.symm hmd), ap.obj]; exact q2
  refine loop_rule (fun s => ∃ (i : Nat) (ins : List AI) (V : List ByteArray) (ki kv : Cap) (σ1 : St), i ≤ 2 ∧ ins.length = i ∧ V.length = i ∧ (∀ x ∈ ins, -2 ≤ x.lo ∧ x.lo ≤ x.hi ∧ x.hi ≤ 20) ∧ Frame (· = d) σ σ1 ∧ (∃ at', 0 ≤ at' ∧ σ1.obj d = some (deck L at')) ∧
    σ1.obj m = some (.cells [vp d 0, .list kv 1 (V.map vs), .list .full 1 [], .list .full 1 [], .list ks 3 (Sx.map pvSh), vs ⟨#[]⟩, vi 0, vi stmts, vi 0]) ∧ MineO σ σ1 i 3 ki ∧ MineO σ σ1 i 1 kv ∧ (∀ b, capBlk ki = some b → capBlk kv ≠ some b) ∧
    s = ⟨221, [(0, vp d 0), (3, vi weight), (10, .lptr 10 0), (11, .lptr 11 0), (12, vp m 0), (13, vi i)], [(10, tz), (11, [vs name, vi per, vi dl, vi pri, vi jit, .list ki 3 (ins.map pvI), .list .full 1 [], .list .full 2 [], .list .full 4 [], .list .full 2 [], .list .full 8 []])], σ1⟩) (fun s => (3 - ival (get s.env 13)).toNat) ?_ ?_
  · refine ⟨_, ?_, 0, [], [], .full, .full, σ5, by omega, rfl, rfl, by simp, hfr, hde, hmo, ⟨⟨hfr.own⟩, trivial, fun b q => by cases q⟩, ⟨⟨hfr.own⟩, trivial, fun b q => by cases q⟩, (fun b q => by cases q), rfl⟩
    exact less_env rfl (less_env rfl (less_env rfl (less_env rfl (less_env rfl (less_env rfl (less_loc rfl (less_loc rfl (less_nil (.refl _)))))))))
  · rintro s ⟨i, ins, V, ki, kv, σ6, hi, hin, hV, hins, hfr6, hde6, hmo6, mi, mv, hap, rfl⟩ R hR
    simp only [vi, vs, vp] at hmo6
    simp (config := { maxSteps := 4000000 }) (disch := omega) only [pvK, pvB, sTk1W_19, reduceIte, Nat.reduceEqDiff, Nat.reduceAdd, Nat.reduceSub, Nat.reduceMul, Nat.reduceLT, Nat.reduceLeDiff, Nat.reduceBEq, reduceCtorEq, Int.reduceAdd, Int.reduceSub, Int.reduceMul, Int.reduceLT, Int.reduceLE, Int.reduceEq, Int.reduceToNat, Int.reduceNeg, Nat.reduceBNe, Int.reduceBEq, Int.reduceBNe, Int.reduceGT, Int.reduceGE, Int.reduceTMod, forall_const, eq_self, decide_true, decide_false, kjoin_norm, kjoin_exit, kjoin_ret, kjoin_panic, cast_1, cast_2, hmo6]
    refine next_c d L 3 σ6 hde6 hL (by omega) _ fun r5 σ7 a5 b5 t5 => ?_
    have c7 := t5.frame.obj m _ hmd hmo6
    have hfr7 := hfr6.trans t5.frame
    have mi7 := mi.go t5.own
    have mv7 := mv.go t5.own
    simp (config := { maxSteps := 4000000 }) (disch := omega) only [pvK, pvB, sTk1W_19, reduceIte, Nat.reduceEqDiff, Nat.reduceAdd, Nat.reduceSub, Nat.reduceMul, Nat.reduceLT, Nat.reduceLeDiff, Nat.reduceBEq, reduceCtorEq, Int.reduceAdd, Int.reduceSub, Int.reduceMul, Int.reduceLT, Int.reduceLE, Int.reduceEq, Int.reduceToNat, Int.reduceNeg, Nat.reduceBNe, Int.reduceBEq, Int.reduceBNe, Int.reduceGT, Int.reduceGE, Int.reduceTMod, forall_const, eq_self, decide_true, decide_false, kjoin_norm, kjoin_exit, kjoin_ret, kjoin_panic, cast_1, cast_2, c7]
    refine kcond_e (fun h => ?_) (fun h => ?_)
    · have i3 : i = 0 ∨ i = 1 ∨ i = 2 := by omega
      rcases i3 with rfl | rfl | rfl
      · skip
        simp (config := { maxSteps := 4000000 }) (disch := omega) only [pvK, pvB, sTk1W_19, reduceIte, Nat.reduceEqDiff, Nat.reduceAdd, Nat.reduceSub, Nat.reduceMul, Nat.reduceLT, Nat.reduceLeDiff, Nat.reduceBEq, reduceCtorEq, Int.reduceAdd, Int.reduceSub, Int.reduceMul, Int.reduceLT, Int.reduceLE, Int.reduceEq, Int.reduceToNat, Int.reduceNeg, Nat.reduceBNe, Int.reduceBEq, Int.reduceBNe, Int.reduceGT, Int.reduceGE, Int.reduceTMod, forall_const, eq_self, decide_true, decide_false, kjoin_norm, kjoin_exit, kjoin_ret, kjoin_panic, cast_1, cast_2, c7]
        refine next_c d L 6 σ7 t5.deck hL (by omega) _ fun r6 σ8 a6 b6 t6 => ?_
        have c8 := t6.frame.obj m _ hmd c7
        simp (config := { maxSteps := 4000000 }) (disch := omega) only [pvK, pvB, sTk1W_19, reduceIte, Nat.reduceEqDiff, Nat.reduceAdd, Nat.reduceSub, Nat.reduceMul, Nat.reduceLT, Nat.reduceLeDiff, Nat.reduceBEq, reduceCtorEq, Int.reduceAdd, Int.reduceSub, Int.reduceMul, Int.reduceLT, Int.reduceLE, Int.reduceEq, Int.reduceToNat, Int.reduceNeg, Nat.reduceBNe, Int.reduceBEq, Int.reduceBNe, Int.reduceGT, Int.reduceGE, Int.reduceTMod, forall_const, eq_self, decide_true, decide_false, kjoin_norm, kjoin_exit, kjoin_ret, kjoin_panic, cast_1, cast_2, c8]
        refine next_c d L 12 σ8 t6.deck hL (by omega) _ fun r7 σ9 a7 b7 t7 => ?_
        have c9 := t7.frame.obj m _ hmd c8
        have mi9 := mi7.go (t6.own.trans t7.own)
        have mv9 := mv7.go (t6.own.trans t7.own)
        simp (config := { maxSteps := 4000000 }) (disch := omega) only [pvK, pvB, sTk1W_19, reduceIte, Nat.reduceEqDiff, Nat.reduceAdd, Nat.reduceSub, Nat.reduceMul, Nat.reduceLT, Nat.reduceLeDiff, Nat.reduceBEq, reduceCtorEq, Int.reduceAdd, Int.reduceSub, Int.reduceMul, Int.reduceLT, Int.reduceLE, Int.reduceEq, Int.reduceToNat, Int.reduceNeg, Nat.reduceBNe, Int.reduceBEq, Int.reduceBNe, Int.reduceGT, Int.reduceGE, Int.reduceTMod, forall_const, eq_self, decide_true, decide_false, kjoin_norm, kjoin_exit, kjoin_ret, kjoin_panic, cast_1, cast_2, c9]
        refine ⟨by omega, by omega, by simpa [hin] using mi9.owns, fun k1 σ10 ap1 => ?_⟩
        have c10 := (congrFun ap1.obj m).trans c9
        simp (config := { maxSteps := 4000000 }) (disch := omega) only [pvK, pvB, sTk1W_19, reduceIte, Nat.reduceEqDiff, Nat.reduceAdd, Nat.reduceSub, Nat.reduceMul, Nat.reduceLT, Nat.reduceLeDiff, Nat.reduceBEq, reduceCtorEq, Int.reduceAdd, Int.reduceSub, Int.reduceMul, Int.reduceLT, Int.reduceLE, Int.reduceEq, Int.reduceToNat, Int.reduceNeg, Nat.reduceBNe, Int.reduceBEq, Int.reduceBNe, Int.reduceGT, Int.reduceGE, Int.reduceTMod, forall_const, eq_self, decide_true, decide_false, kjoin_norm, kjoin_exit, kjoin_ret, kjoin_panic, cast_1, cast_2, c10]
        obtain ⟨mv10, ap10, _⟩ := mv9.other mi9 (fun b q1 q2 => hap b q2 q1) ap1
        have mi10 := mi9.app ap1
        refine ⟨by omega, by omega, by simpa [hV] using mv10.owns, fun k2 σ11 ap2 => ?_⟩
        have c11 := (congrFun ap2.obj m).trans c10
        simp (config := { maxSteps := 4000000 }) (disch := omega) only [pvK, pvB, sTk1W_19, reduceIte, Nat.reduceEqDiff, Nat.reduceAdd, Nat.reduceSub, Nat.reduceMul, Nat.reduceLT, Nat.reduceLeDiff, Nat.reduceBEq, reduceCtorEq, Int.reduceAdd, Int.reduceSub, Int.reduceMul, Int.reduceLT, Int.reduceLE, Int.reduceEq, Int.reduceToNat, Int.reduceNeg, Nat.reduceBNe, Int.reduceBEq, Int.reduceBNe, Int.reduceGT, Int.reduceGE, Int.reduceTMod, forall_const, eq_self, decide_true, decide_false, kjoin_norm, kjoin_exit, kjoin_ret, kjoin_panic, cast_1, cast_2, c11]
        obtain ⟨mi11, _, ap11⟩ := mi10.other mv10 ap10 ap2
        have mv11 := mv10.app ap2
        have fr11 : Frame (· = d) σ σ11 := ⟨fun b o q e => by rw [ap2.obj, ap1.obj]; exact (hfr7.trans (t6.frame.trans t7.frame)).obj b o q e, mv11.le.own, ap2.gl.trans (ap1.gl.trans (hfr7.trans (t6.frame.trans t7.frame)).gl)⟩
        refine hR _ _ ?_ ⟨1, ins ++ [(⟨⟨#[120]⟩, r6 - 2, r6 - 2 + r7⟩ : AI)], V ++ [(⟨#[120]⟩ : ByteArray)], k1, k2, σ11.set m (.cells [vp d 0, .list k2 1 ((V ++ [(⟨#[120]⟩ : ByteArray)]).map vs), .list .full 1 [], .list .full 1 [], .list ks 3 (Sx.map pvSh), vs ⟨#[]⟩, vi 0, vi stmts, vi 0]), by omega, by simp [hin], by simp [hV], ?_, ?_, ?_, obj_set _ _ _, ?_, ?_, ap11, rfl⟩ ?_
        · refine less_env rfl (less_env rfl (less_env rfl (less_env rfl (less_env rfl (less_env rfl (less_loc rfl (less_loc ?_ (less_nil ?_))))))))
          · show some _ = some _
            simp only [vi, vs, List.map_append, List.map_cons, List.map_nil, pvI, forgets, forget]
          · simp only [vi, vs, vp, List.map_append, List.map_cons, List.map_nil]
            exact .refl _
        · intro x hx
          rcases List.mem_append.1 hx with q | q
          · exact hins x q
          · rw [List.mem_singleton.1 q]
            refine ⟨?_, ?_, ?_⟩
            · show -2 ≤ r6 - 2; omega
            · show r6 - 2 ≤ r6 - 2 + r7; omega
            · show r6 - 2 + r7 ≤ 20; omega
        · refine ⟨fun b o q e => ?_, fr11.own, fr11.gl⟩
          simp only [St.set]
          rw [if_neg (by rintro rfl; rw [hm0] at e; cases e)]
          exact fr11.obj b o q e
        · obtain ⟨at', q1, q2⟩ := t7.deck
          refine ⟨at', q1, ?_⟩
          simp only [St.set]; rw [if_neg (Ne.symm hmd), ap2.obj, ap1.obj]; exact q2
        · have := mi11.go (own_set σ11 m (.cells [vp d 0, .list k2 1 ((V ++ [(⟨#[120]⟩ : ByteArray)]).map vs), .list .full 1 [], .list .full 1 [], .list ks 3 (Sx.map pvSh), vs ⟨#[]⟩, vi 0, vi stmts, vi 0]))
          rw [hin] at this
          exact this
        · simpa [hV] using mv11.go (own_set _ _ _)
        · show (3 - (((1 : Nat) : Int))).toNat < (3 - (((1 - 1 : Nat) : Int))).toNat
          omega
      · skip
        simp (config := { maxSteps := 4000000 }) (disch := omega) only [pvK, pvB, sTk1W_19, reduceIte, Nat.reduceEqDiff, Nat.reduceAdd, Nat.reduceSub, Nat.reduceMul, Nat.reduceLT, Nat.reduceLeDiff, Nat.reduceBEq, reduceCtorEq, Int.reduceAdd, Int.reduceSub, Int.reduceMul, Int.reduceLT, Int.reduceLE, Int.reduceEq, Int.reduceToNat, Int.reduceNeg, Nat.reduceBNe, Int.reduceBEq, Int.reduceBNe, Int.reduceGT, Int.reduceGE, Int.reduceTMod, forall_const, eq_self, decide_true, decide_false, kjoin_norm, kjoin_exit, kjoin_ret, kjoin_panic, cast_1, cast_2, c7]
        refine next_c d L 6 σ7 t5.deck hL (by omega) _ fun r6 σ8 a6 b6 t6 => ?_
        have c8 := t6.frame.obj m _ hmd c7
        simp (config := { maxSteps := 4000000 }) (disch := omega) only [pvK, pvB, sTk1W_19, reduceIte, Nat.reduceEqDiff, Nat.reduceAdd, Nat.reduceSub, Nat.reduceMul, Nat.reduceLT, Nat.reduceLeDiff, Nat.reduceBEq, reduceCtorEq, Int.reduceAdd, Int.reduceSub, Int.reduceMul, Int.reduceLT, Int.reduceLE, Int.reduceEq, Int.reduceToNat, Int.reduceNeg, Nat.reduceBNe, Int.reduceBEq, Int.reduceBNe, Int.reduceGT, Int.reduceGE, Int.reduceTMod, forall_const, eq_self, decide_true, decide_false, kjoin_norm, kjoin_exit, kjoin_ret, kjoin_panic, cast_1, cast_2, c8]
        refine next_c d L 12 σ8 t6.deck hL (by omega) _ fun r7 σ9 a7 b7 t7 => ?_
        have c9 := t7.frame.obj m _ hmd c8
        have mi9 := mi7.go (t6.own.trans t7.own)
        have mv9 := mv7.go (t6.own.trans t7.own)
        simp (config := { maxSteps := 4000000 }) (disch := omega) only [pvK, pvB, sTk1W_19, reduceIte, Nat.reduceEqDiff, Nat.reduceAdd, Nat.reduceSub, Nat.reduceMul, Nat.reduceLT, Nat.reduceLeDiff, Nat.reduceBEq, reduceCtorEq, Int.reduceAdd, Int.reduceSub, Int.reduceMul, Int.reduceLT, Int.reduceLE, Int.reduceEq, Int.reduceToNat, Int.reduceNeg, Nat.reduceBNe, Int.reduceBEq, Int.reduceBNe, Int.reduceGT, Int.reduceGE, Int.reduceTMod, forall_const, eq_self, decide_true, decide_false, kjoin_norm, kjoin_exit, kjoin_ret, kjoin_panic, cast_1, cast_2, c9]
        refine ⟨by omega, by omega, by simpa [hin] using mi9.owns, fun k1 σ10 ap1 => ?_⟩
        have c10 := (congrFun ap1.obj m).trans c9
        simp (config := { maxSteps := 4000000 }) (disch := omega) only [pvK, pvB, sTk1W_19, reduceIte, Nat.reduceEqDiff, Nat.reduceAdd, Nat.reduceSub, Nat.reduceMul, Nat.reduceLT, Nat.reduceLeDiff, Nat.reduceBEq, reduceCtorEq, Int.reduceAdd, Int.reduceSub, Int.reduceMul, Int.reduceLT, Int.reduceLE, Int.reduceEq, Int.reduceToNat, Int.reduceNeg, Nat.reduceBNe, Int.reduceBEq, Int.reduceBNe, Int.reduceGT, Int.reduceGE, Int.reduceTMod, forall_const, eq_self, decide_true, decide_false, kjoin_norm, kjoin_exit, kjoin_ret, kjoin_panic, cast_1, cast_2, c10]
        obtain ⟨mv10, ap10, _⟩ := mv9.other mi9 (fun b q1 q2 => hap b q2 q1) ap1
        have mi10 := mi9.app ap1
        refine ⟨by omega, by omega, by simpa [hV] using mv10.owns, fun k2 σ11 ap2 => ?_⟩
        have c11 := (congrFun ap2.obj m).trans c10
        simp (config := { maxSteps := 4000000 }) (disch := omega) only [pvK, pvB, sTk1W_19, reduceIte, Nat.reduceEqDiff, Nat.reduceAdd, Nat.reduceSub, Nat.reduceMul, Nat.reduceLT, Nat.reduceLeDiff, Nat.reduceBEq, reduceCtorEq, Int.reduceAdd, Int.reduceSub, Int.reduceMul, Int.reduceLT, Int.reduceLE, Int.reduceEq, Int.reduceToNat, Int.reduceNeg, Nat.reduceBNe, Int.reduceBEq, Int.reduceBNe, Int.reduceGT, Int.reduceGE, Int.reduceTMod, forall_const, eq_self, decide_true, decide_false, kjoin_norm, kjoin_exit, kjoin_ret, kjoin_panic, cast_1, cast_2, c11]
        obtain ⟨mi11, _, ap11⟩ := mi10.other mv10 ap10 ap2
        have mv11 := mv10.app ap2
        have fr11 : Frame (· = d) σ σ11 := ⟨fun b o q e => by rw [ap2.obj, ap1.obj]; exact (hfr7.trans (t6.frame.trans t7.frame)).obj b o q e, mv11.le.own, ap2.gl.trans (ap1.gl.trans (hfr7.trans (t6.frame.trans t7.frame)).gl)⟩
        refine hR _ _ ?_ ⟨2, ins ++ [(⟨⟨#[121]⟩, r6 - 2, r6 - 2 + r7⟩ : AI)], V ++ [(⟨#[121]⟩ : ByteArray)], k1, k2, σ11.set m (.cells [vp d 0, .list k2 1 ((V ++ [(⟨#[121]⟩ : ByteArray)]).map vs), .list .full 1 [], .list .full 1 [], .list ks 3 (Sx.map pvSh), vs ⟨#[]⟩, vi 0, vi stmts, vi 0]), by omega, by simp [hin], by simp [hV], ?_, ?_, ?_, obj_set _ _ _, ?_, ?_, ap11, rfl⟩ ?_
        · refine less_env rfl (less_env rfl (less_env rfl (less_env rfl (less_env rfl (less_env rfl (less_loc rfl (less_loc ?_ (less_nil ?_))))))))
          · show some _ = some _
            simp only [vi, vs, List.map_append, List.map_cons, List.map_nil, pvI, forgets, forget]
          · simp only [vi, vs, vp, List.map_append, List.map_cons, List.map_nil]
            exact .refl _
        · intro x hx
          rcases List.mem_append.1 hx with q | q
          · exact hins x q
          · rw [List.mem_singleton.1 q]
            refine ⟨?_, ?_, ?_⟩
            · show -2 ≤ r6 - 2; omega
            · show r6 - 2 ≤ r6 - 2 + r7; omega
            · show r6 - 2 + r7 ≤ 20; omega
        · refine ⟨fun b o q e => ?_, fr11.own, fr11.gl⟩
          simp only [St.set]
          rw [if_neg (by rintro rfl; rw [hm0] at e; cases e)]
          exact fr11.obj b o q e
        · obtain ⟨at', q1, q2⟩ := t7.deck
          refine ⟨at', q1, ?_⟩
          simp only [St.set]; rw [if_neg (Ne.symm hmd), ap2.obj, ap1.obj]; exact q2
        · have := mi11.go (own_set σ11 m (.cells [vp d 0, .list k2 1 ((V ++ [(⟨#[121]⟩ : ByteArray)]).map vs), .list .full 1 [], .list .full 1 [], .list ks 3 (Sx.map pvSh), vs ⟨#[]⟩, vi 0, vi stmts, vi 0]))
          rw [hin] at this
          exact this
        · simpa [hV] using mv11.go (own_set _ _ _)
        · show (3 - (((2 : Nat) : Int))).toNat < (3 - (((2 - 1 : Nat) : Int))).toNat
          omega
      · simp (config := { maxSteps := 4000000 }) (disch := omega) only [pvK, pvB, sTk1W_19, reduceIte, Nat.reduceEqDiff, Nat.reduceAdd, Nat.reduceSub, Nat.reduceMul, Nat.reduceLT, Nat.reduceLeDiff, Nat.reduceBEq, reduceCtorEq, Int.reduceAdd, Int.reduceSub, Int.reduceMul, Int.reduceLT, Int.reduceLE, Int.reduceEq, Int.reduceToNat, Int.reduceNeg, Nat.reduceBNe, Int.reduceBEq, Int.reduceBNe, Int.reduceGT, Int.reduceGE, Int.reduceTMod, forall_const, eq_self, decide_true, decide_false, kjoin_norm, kjoin_exit, kjoin_ret, kjoin_panic, cast_1, cast_2, c7]
        refine ⟨by omega, by omega, by simpa [hV] using mv7.owns, fun k' σ8 ap => ?_⟩
        have ap := ap
        have c8 := (congrFun ap.obj m).trans c7
        simp (config := { maxSteps := 4000000 }) (disch := omega) only [pvK, pvB, sTk1W_19, reduceIte, Nat.reduceEqDiff, Nat.reduceAdd, Nat.reduceSub, Nat.reduceMul, Nat.reduceLT, Nat.reduceLeDiff, Nat.reduceBEq, reduceCtorEq, Int.reduceAdd, Int.reduceSub, Int.reduceMul, Int.reduceLT, Int.reduceLE, Int.reduceEq, Int.reduceToNat, Int.reduceNeg, Nat.reduceBNe, Int.reduceBEq, Int.reduceBNe, Int.reduceGT, Int.reduceGE, Int.reduceTMod, forall_const, eq_self, decide_true, decide_false, kjoin_norm, kjoin_exit, kjoin_ret, kjoin_panic, cast_1, cast_2, c8]
        have F := fin _ ins V ki kv σ7 hi hin hV hins hfr7 t5.deck mv7 k' σ8 (by simpa [hV] using ap)
        refine ⟨_, ?_, F⟩
        unfold mkCells
        exact less_env rfl (less_env rfl (less_env rfl (less_env rfl (less_env rfl (less_loc rfl (less_loc rfl (less_nil (by simp only [vi, vs, vp, List.map_append, List.map_cons, List.map_nil]; exact .refl _))))))))
    · simp (config := { maxSteps := 4000000 }) (disch := omega) only [pvK, pvB, sTk1W_19, reduceIte, Nat.reduceEqDiff, Nat.reduceAdd, Nat.reduceSub, Nat.reduceMul, Nat.reduceLT, Nat.reduceLeDiff, Nat.reduceBEq, reduceCtorEq, Int.reduceAdd, Int.reduceSub, Int.reduceMul, Int.reduceLT, Int.reduceLE, Int.reduceEq, Int.reduceToNat, Int.reduceNeg, Nat.reduceBNe, Int.reduceBEq, Int.reduceBNe, Int.reduceGT, Int.reduceGE, Int.reduceTMod, forall_const, eq_self, decide_true, decide_false, kjoin_norm, kjoin_exit, kjoin_ret, kjoin_panic, cast_1, cast_2, c7]
      refine ⟨by omega, by omega, by simpa [hV] using mv7.owns, fun k' σ8 ap => ?_⟩
      have ap := ap
      have c8 := (congrFun ap.obj m).trans c7
      simp (config := { maxSteps := 4000000 }) (disch := omega) only [pvK, pvB, sTk1W_19, reduceIte, Nat.reduceEqDiff, Nat.reduceAdd, Nat.reduceSub, Nat.reduceMul, Nat.reduceLT, Nat.reduceLeDiff, Nat.reduceBEq, reduceCtorEq, Int.reduceAdd, Int.reduceSub, Int.reduceMul, Int.reduceLT, Int.reduceLE, Int.reduceEq, Int.reduceToNat, Int.reduceNeg, Nat.reduceBNe, Int.reduceBEq, Int.reduceBNe, Int.reduceGT, Int.reduceGE, Int.reduceTMod, forall_const, eq_self, decide_true, decide_false, kjoin_norm, kjoin_exit, kjoin_ret, kjoin_panic, cast_1, cast_2, c8]
      have F := fin _ ins V ki kv σ7 hi hin hV hins hfr7 t5.deck mv7 k' σ8 (by simpa [hV] using ap)
      refine ⟨_, ?_, F⟩
      unfold mkCells
      exact less_env rfl (less_env rfl (less_env rfl (less_env rfl (less_env rfl (less_loc rfl (less_loc rfl (less_nil (by simp only [vi, vs, vp, List.map_append, List.map_cons, List.map_nil]; exact .refl _))))))))
end Go.Pv.W
