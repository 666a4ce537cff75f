/- For every list of numbers and every Max, the weights of the made programs' statements add up, grow with Max and count each statement, so CheckWeights answers true. -/
import Derived.Orders
import Derived.Below
import Derived.Laws.Sem
import Derived.WalkKit
import Derived.Laws.CopyRow
import Derived.Laws.BytesString
import Derived.MapKept
import Derived.Laws.Append
import Derived.LoopN
import Derived.Test.YtcnmejahighkfaaProg
import Derived.KernelRfl
import Derived.IntWalk
import Derived.OpenShut
import Derived.ProofKit
import Derived.SizedLaws
import Derived.ChangeOld
import Derived.ShutString
import Derived.Deep.DeepHandedRow
import Derived.Deep.DeepWitnessRowRef
import Derived.Test.YtcnmejahighkfaaRows
import Derived.Test.YtcnmejahighkfaaChecked
import Derived.Test.YtcnmejahighkfaaPvCw4
set_option autoImplicit false
set_option linter.unusedVariables false
set_option linter.unusedSimpArgs false
set_option linter.defProp false
-- Tk2W
namespace Go.Pv.W
open Go Go.RowKit Go.Proofs Go.Pv
def sTk2W_7 := (And.intro (And.intro (And.intro @q_slz_0 @q_tsz_3) (And.intro @q_slz_3 (And.intro @q_ifc_3 @q_tsz_25))) (And.intro (And.intro @q_slz_25 (And.intro @q_ifc_25 @q_tsz_38)) (And.intro @q_slz_38 (And.intro @q_ifc_38 @q_zcs_38))))
def sTk2W_14 := (And.intro (And.intro (And.intro (And.intro (And.intro (And.intro @q_fld_38_1 @q_fld_38_0) (And.intro @q_fld_38_2 @q_slz_0)) (And.intro (And.intro @q_tsz_3 @q_slz_3) (And.intro @q_ifc_3 @q_tsz_4))) (And.intro (And.intro (And.intro @q_slz_4 @q_ifc_4) (And.intro @q_isb_4 @q_tsz_5)) (And.intro (And.intro @q_slz_5 @q_ifc_5) (And.intro @q_tsz_9 @q_slz_9)))) (And.intro (And.intro (And.intro (And.intro @q_str_9 @q_arz_9) (And.intro @q_ifc_9 @q_tsz_25)) (And.intro (And.intro @q_slz_25 @q_ifc_25) (And.intro @q_tsz_28 @q_slz_28))) (And.intro (And.intro (And.intro @q_str_28 @q_arz_28) (And.intro @q_ifc_28 @q_tsz_34)) (And.intro (And.intro @q_slz_34 @q_ifc_34) (And.intro @q_tsz_35 (And.intro @q_slz_35 @q_str_35)))))) (And.intro (And.intro (And.intro (And.intro (And.intro @q_arz_35 @q_ifc_35) (And.intro @q_tsz_36 @q_slz_36)) (And.intro (And.intro @q_str_36 @q_arz_36) (And.intro @q_ifc_36 @q_tsz_38))) (And.intro (And.intro (And.intro @q_slz_38 @q_ifc_38) (And.intro @q_tsz_59 @q_slz_59)) (And.intro (And.intro @q_ifc_59 @q_tsz_61) (And.intro @q_slz_61 (And.intro @q_ifc_61 @q_tsz_63))))) (And.intro (And.intro (And.intro (And.intro @q_slz_63 @q_ifc_63) (And.intro @q_tsz_65 @q_slz_65)) (And.intro (And.intro @q_str_65 @q_arz_65) (And.intro @q_ifc_65 @q_zcs_38))) (And.intro (And.intro (And.intro @q_bsl_65 @q_bsl_28) (And.intro @q_bsl_35 @q_bsl_36)) (And.intro (And.intro @q_bld_61 @q_bld_63) (And.intro @q_cvi_3_59 (And.intro @q_cvi_3_5 @q_bsq_65_9)))))))
def tname (i : Nat) : ByteArray := ⟨#[116]⟩ ++ bstr [IntKind.u8.wrap (97 + i)]
theorem bstr_size (l : List Int) : (bstr l).size = l.length := by
  have : ∀ (l : List Int) (b : ByteArray), (l.foldl (fun r n => r.push (UInt8.ofNat n.toNat)) b).size = b.size + l.length := by
    intro l
    induction l with
    | nil => intro b; rfl
    | cons x l ih => intro b; simp only [List.foldl_cons, ih, ByteArray.size_push, List.length_cons]; omega
  rw [bstr, this]
  show ByteArray.empty.size + _ = _
  simp
theorem name_fit (c : Int) : ((⟨#[116]⟩ : ByteArray).size + (bstr [c]).size ≤ 9223372036854775807) = True := by
  rw [bstr_size]
  exact eq_true (by show (1 : Nat) + 1 ≤ _; omega)
/-- A program that is made. -/
structure ProgOK (n : Nat) (weight : Int) (p : AP) : Prop where
  res : p.resources.length ≤ 2
  shared : p.shared.length ≤ 1 ∧ ∀ x ∈ p.shared, 1 ≤ x.size ∧ x.size ≤ 8
  len : p.tasks.length = n
  tasks : ∀ (i : Nat) (h : i < p.tasks.length), TaskOK (tname i) weight p.tasks[i]
set_option maxHeartbeats 16000000 in
set_option maxRecDepth 100000 in
theorem programs_c (σ : St) (d : Nat) (L : List Int) (n : Nat) (weight stmts : Int) (hd : ∃ at', 0 ≤ at' ∧ σ.obj d = some (deck L at')) (hL : L.length ≤ 400) (hn : n ≤ 6) (hw : 0 ≤ weight ∧ weight ≤ 1000) (hst : 0 ≤ stmts ∧ stmts ≤ 1000) (K : Res → St → Prop)
    (hK : ∀ p σ', ProgOK n weight p → Took d L σ σ' → K (.ret (pvP p)) σ') : PCalls Try.prog 14 [vp d 0, vi n, vi weight, vi stmts] σ K := by
  refine PCalls.forgetR ?_
  refine PCalls.of_pieces (tOk Try.prog) Try.func14 rfl (by kernel_rfl) (n := 75) (by kernel_rfl) (by kernel_rfl) (rs := [.cell 8 38]) (by kernel_rfl) ?_
  have T0 : Took d L σ σ := ⟨Frame.refl _ _, hd⟩
  refine swp_cut (tOk Try.prog) (by kernel_rfl) [] [(5, 27, [(0, []), (2, []), (3, []), (1, []), (4, []), (5, []), (6, []), (7, []), (8, []), (9, []), (10, [])]), (7, 51, [(0, []), (2, []), (7, []), (1, []), (8, []), (9, []), (10, []), (3, [1, 8, 10]), (4, []), (5, []), (6, []), (11, []), (12, []), (13, []), (14, []), (15, [])]), (11, 73, [(0, []), (2, []), (3, []), (9, []), (11, []), (12, []), (1, []), (4, []), (10, []), (5, []), (6, []), (7, []), (8, []), (13, [1]), (14, []), (15, []), (16, []), (17, [])])] 3 (fun s => ∃ (res : List ByteArray) (kr : Cap) (σ1 : St), res.length ≤ 2 ∧ Took d L σ σ1 ∧ s = ⟨75, [(0, vp d 0), (1, vi n), (2, vi weight), (3, vi stmts), (8, .lptr 8 0), (9, .lptr 9 0)], [(8, [.list .full 1 [], .list .full 3 [], .list .full 11 []]), (9, [.list kr 1 (res.map vs), .list .full 3 [], .list .full 11 []])], σ1⟩) (by kernel_rfl) ?_ ?_
  · dsimp only [cutL]
    simp (config := { maxSteps := 4000000 }) (disch := omega) only [pvK, pvB, sTk2W_14, reduceIte, Nat.reduceEqDiff, Nat.reduceAdd, Nat.reduceSub, Nat.reduceMul, Nat.reduceLT, Nat.reduceLeDiff, Nat.reduceBEq, reduceCtorEq, Int.reduceAdd, Int.reduceSub, Int.reduceMul, Int.reduceLT, Int.reduceLE, Int.reduceEq, Int.reduceToNat, Int.reduceNeg, Nat.reduceBNe, Int.reduceBEq, Int.reduceBNe, Int.reduceGT, Int.reduceGE, Int.reduceTMod, forall_const, eq_self, decide_true, decide_false, kjoin_norm, kjoin_exit, kjoin_ret, kjoin_panic, cast_1, cast_2]
    refine next_c d L 3 σ hd hL (by omega) _ fun r1 σ1 a1 b1 t1 => ?_
    simp (config := { maxSteps := 4000000 }) (disch := omega) only [pvK, pvB, sTk2W_14, reduceIte, Nat.reduceEqDiff, Nat.reduceAdd, Nat.reduceSub, Nat.reduceMul, Nat.reduceLT, Nat.reduceLeDiff, Nat.reduceBEq, reduceCtorEq, Int.reduceAdd, Int.reduceSub, Int.reduceMul, Int.reduceLT, Int.reduceLE, Int.reduceEq, Int.reduceToNat, Int.reduceNeg, Nat.reduceBNe, Int.reduceBEq, Int.reduceBNe, Int.reduceGT, Int.reduceGE, Int.reduceTMod, forall_const, eq_self, decide_true, decide_false, kjoin_norm, kjoin_exit, kjoin_ret, kjoin_panic, cast_1, cast_2]
    refine loop_rule (fun s => ∃ (i : Nat) (res : List ByteArray) (kr : Cap) (σ1 : St), i ≤ 2 ∧ res.length ≤ 2 - i ∧ Took d L σ σ1 ∧ MineO σ σ1 res.length 1 kr ∧ s = ⟨75, [(10, vi i), (0, vp d 0), (1, vi n), (2, vi weight), (3, vi stmts), (8, .lptr 8 0), (9, .lptr 9 0)], [(8, [.list .full 1 [], .list .full 3 [], .list .full 11 []]), (9, [.list kr 1 (res.map vs), .list .full 3 [], .list .full 11 []])], σ1⟩) (fun s => (ival (get s.env 10)).toNat) ?_ ?_
    · refine ⟨_, ?_, r1.toNat, [], .full, σ1, by omega, by simp, t1, ⟨t1.own, trivial, fun b q => by cases q⟩, rfl⟩
      exact less_env (by show vi _ = vi _; rw [Int.toNat_of_nonneg a1]) (less_env rfl (less_env rfl (less_env rfl (less_env rfl (less_env rfl (less_env rfl (less_loc rfl (less_loc rfl (less_nil (.refl _))))))))))
    · rintro s ⟨i, res, kr, σ1, hi, hres, T, mr, rfl⟩ R hR
      have i3 : i = 0 ∨ i = 1 ∨ i = 2 := by omega
      rcases i3 with rfl | rfl | rfl
      · simp (config := { maxSteps := 4000000 }) (disch := omega) only [pvK, pvB, sTk2W_14, reduceIte, Nat.reduceEqDiff, Nat.reduceAdd, Nat.reduceSub, Nat.reduceMul, Nat.reduceLT, Nat.reduceLeDiff, Nat.reduceBEq, reduceCtorEq, Int.reduceAdd, Int.reduceSub, Int.reduceMul, Int.reduceLT, Int.reduceLE, Int.reduceEq, Int.reduceToNat, Int.reduceNeg, Nat.reduceBNe, Int.reduceBEq, Int.reduceBNe, Int.reduceGT, Int.reduceGE, Int.reduceTMod, forall_const, eq_self, decide_true, decide_false, kjoin_norm, kjoin_exit, kjoin_ret, kjoin_panic, cast_1, cast_2]
        exact ⟨_, less_env rfl (less_env rfl (less_env rfl (less_env rfl (less_env rfl (less_env rfl (less_loc rfl (less_loc rfl (less_nil (.refl _))))))))), res, kr, σ1, by omega, T, rfl⟩
      · have hk : ((1 : Nat) : Int) = 1 := rfl
        simp (config := { maxSteps := 4000000 }) (disch := omega) only [pvK, pvB, sTk2W_14, reduceIte, Nat.reduceEqDiff, Nat.reduceAdd, Nat.reduceSub, Nat.reduceMul, Nat.reduceLT, Nat.reduceLeDiff, Nat.reduceBEq, reduceCtorEq, Int.reduceAdd, Int.reduceSub, Int.reduceMul, Int.reduceLT, Int.reduceLE, Int.reduceEq, Int.reduceToNat, Int.reduceNeg, Nat.reduceBNe, Int.reduceBEq, Int.reduceBNe, Int.reduceGT, Int.reduceGE, Int.reduceTMod, forall_const, eq_self, decide_true, decide_false, kjoin_norm, kjoin_exit, kjoin_ret, kjoin_panic, cast_1, cast_2, hk]
        refine ⟨by omega, by omega, by simpa using mr.owns, fun k1 σ2 ap => ?_⟩
        have m2 := mr.app ap
        refine hR _ _ ?_ ⟨1-1, res ++ [(⟨#[115]⟩ : ByteArray)], k1, σ2, by omega, by simp only [List.length_append, List.length_cons, List.length_nil]; omega, ⟨⟨fun b o q e => by rw [ap.obj]; exact T.frame.obj b o q e, m2.le.own, ap.gl.trans T.frame.gl⟩, by rw [ap.obj]; exact T.deck⟩, by simpa using m2, rfl⟩ ?_
        · exact less_env rfl (less_env rfl (less_env rfl (less_env rfl (less_env rfl (less_env rfl (less_env rfl (less_loc rfl (less_loc (by show some _ = some _; simp only [vi, vs, List.map_append, List.map_cons, List.map_nil]) (less_nil (.refl _))))))))))
        · show (((1 - 1 : Nat) : Int)).toNat < (((1 : Nat) : Int)).toNat
          omega
      · have hk : ((2 : Nat) : Int) = 2 := rfl
        simp (config := { maxSteps := 4000000 }) (disch := omega) only [pvK, pvB, sTk2W_14, reduceIte, Nat.reduceEqDiff, Nat.reduceAdd, Nat.reduceSub, Nat.reduceMul, Nat.reduceLT, Nat.reduceLeDiff, Nat.reduceBEq, reduceCtorEq, Int.reduceAdd, Int.reduceSub, Int.reduceMul, Int.reduceLT, Int.reduceLE, Int.reduceEq, Int.reduceToNat, Int.reduceNeg, Nat.reduceBNe, Int.reduceBEq, Int.reduceBNe, Int.reduceGT, Int.reduceGE, Int.reduceTMod, forall_const, eq_self, decide_true, decide_false, kjoin_norm, kjoin_exit, kjoin_ret, kjoin_panic, cast_1, cast_2, hk]
        refine ⟨by omega, by omega, by simpa using mr.owns, fun k1 σ2 ap => ?_⟩
        have m2 := mr.app ap
        refine hR _ _ ?_ ⟨2-1, res ++ [(⟨#[114]⟩ : ByteArray)], k1, σ2, by omega, by simp only [List.length_append, List.length_cons, List.length_nil]; omega, ⟨⟨fun b o q e => by rw [ap.obj]; exact T.frame.obj b o q e, m2.le.own, ap.gl.trans T.frame.gl⟩, by rw [ap.obj]; exact T.deck⟩, by simpa using m2, rfl⟩ ?_
        · exact less_env rfl (less_env rfl (less_env rfl (less_env rfl (less_env rfl (less_env rfl (less_env rfl (less_loc rfl (less_loc (by show some _ = some _; simp only [vi, vs, List.map_append, List.map_cons, List.map_nil]) (less_nil (.refl _))))))))))
        · show (((2 - 1 : Nat) : Int)).toNat < (((2 : Nat) : Int)).toNat
          omega
  · rintro s ⟨res, kr, σ1, hres, T, rfl⟩
    dsimp only [cutR]
    refine swp_cut (tOk Try.prog) (by kernel_rfl) [] [(5, 27, [(0, []), (2, []), (3, []), (1, []), (4, []), (5, []), (6, []), (7, []), (8, []), (9, []), (10, [])]), (7, 51, [(0, []), (2, []), (7, []), (1, []), (8, []), (9, []), (10, []), (3, [1, 8, 10]), (4, []), (5, []), (6, []), (11, []), (12, []), (13, []), (14, []), (15, [])]), (11, 73, [(0, []), (2, []), (3, []), (9, []), (11, []), (12, []), (1, []), (4, []), (10, []), (5, []), (6, []), (7, []), (8, []), (13, [1]), (14, []), (15, []), (16, []), (17, [])])] 1 (fun s => ∃ (kr ks : Cap) (Sx : List Sh) (σ2 : St), (Sx.length ≤ 1 ∧ ∀ x ∈ Sx, 1 ≤ Sh.size x ∧ Sh.size x ≤ 8) ∧ Took d L σ σ2 ∧ s = ⟨75, [(0, vp d 0), (1, vi n), (2, vi weight), (3, vi stmts), (8, .lptr 8 0), (9, .lptr 9 0)], [(8, [.list .full 1 [], .list .full 3 [], .list .full 11 []]), (9, [.list kr 1 (res.map vs), .list ks 3 (Sx.map pvSh), .list .full 11 []])], σ2⟩) (by kernel_rfl) ?_ ?_
    · dsimp only [cutL]
      cases res with
      | nil =>
        simp (config := { maxSteps := 4000000 }) (disch := omega) only [pvK, pvB, sTk2W_14, reduceIte, Nat.reduceEqDiff, Nat.reduceAdd, Nat.reduceSub, Nat.reduceMul, Nat.reduceLT, Nat.reduceLeDiff, Nat.reduceBEq, reduceCtorEq, Int.reduceAdd, Int.reduceSub, Int.reduceMul, Int.reduceLT, Int.reduceLE, Int.reduceEq, Int.reduceToNat, Int.reduceNeg, Nat.reduceBNe, Int.reduceBEq, Int.reduceBNe, Int.reduceGT, Int.reduceGE, Int.reduceTMod, forall_const, eq_self, decide_true, decide_false, kjoin_norm, kjoin_exit, kjoin_ret, kjoin_panic, cast_1, cast_2]
        exact ⟨_, less_env rfl (less_env rfl (less_env rfl (less_env rfl (less_env rfl (less_env rfl (less_loc rfl (less_loc rfl (less_nil (.refl _))))))))), kr, .full, [], σ1, ⟨by simp, by simp⟩, T, rfl⟩
      | cons x rest =>
        have hl : ((rest.length + 1 : Nat) : Int) > 0 := by omega
        simp (config := { maxSteps := 4000000 }) (disch := omega) only [pvK, pvB, sTk2W_14, reduceIte, Nat.reduceEqDiff, Nat.reduceAdd, Nat.reduceSub, Nat.reduceMul, Nat.reduceLT, Nat.reduceLeDiff, Nat.reduceBEq, reduceCtorEq, Int.reduceAdd, Int.reduceSub, Int.reduceMul, Int.reduceLT, Int.reduceLE, Int.reduceEq, Int.reduceToNat, Int.reduceNeg, Nat.reduceBNe, Int.reduceBEq, Int.reduceBNe, Int.reduceGT, Int.reduceGE, Int.reduceTMod, forall_const, eq_self, decide_true, decide_false, kjoin_norm, kjoin_exit, kjoin_ret, kjoin_panic, cast_1, cast_2, hl]
        refine next_c d L 2 σ1 T.deck hL (by omega) _ fun r1 σ2 a1 b1 t1 => ?_
        simp (config := { maxSteps := 4000000 }) (disch := omega) only [pvK, pvB, sTk2W_14, reduceIte, Nat.reduceEqDiff, Nat.reduceAdd, Nat.reduceSub, Nat.reduceMul, Nat.reduceLT, Nat.reduceLeDiff, Nat.reduceBEq, reduceCtorEq, Int.reduceAdd, Int.reduceSub, Int.reduceMul, Int.reduceLT, Int.reduceLE, Int.reduceEq, Int.reduceToNat, Int.reduceNeg, Nat.reduceBNe, Int.reduceBEq, Int.reduceBNe, Int.reduceGT, Int.reduceGE, Int.reduceTMod, forall_const, eq_self, decide_true, decide_false, kjoin_norm, kjoin_exit, kjoin_ret, kjoin_panic, cast_1, cast_2]
        refine kcond_e (fun h => ?_) (fun h => ?_)
        · simp (config := { maxSteps := 4000000 }) (disch := omega) only [pvK, pvB, sTk2W_14, reduceIte, Nat.reduceEqDiff, Nat.reduceAdd, Nat.reduceSub, Nat.reduceMul, Nat.reduceLT, Nat.reduceLeDiff, Nat.reduceBEq, reduceCtorEq, Int.reduceAdd, Int.reduceSub, Int.reduceMul, Int.reduceLT, Int.reduceLE, Int.reduceEq, Int.reduceToNat, Int.reduceNeg, Nat.reduceBNe, Int.reduceBEq, Int.reduceBNe, Int.reduceGT, Int.reduceGE, Int.reduceTMod, forall_const, eq_self, decide_true, decide_false, kjoin_norm, kjoin_exit, kjoin_ret, kjoin_panic, cast_1, cast_2]
          refine next_c d L 4 σ2 t1.deck hL (by omega) _ fun r2 σ3 a2 b2 t2 => ?_
          have e0 : ¬ r2 < 0 := by omega
          have e1 : r2.toNat ≤ 3 := by omega
          have e2 : min r2.toNat IntKind.i64.bits = r2.toNat := by simp only [IntKind.bits]; omega
          have e3 : 1 * (2 : Int) ^ r2.toNat ≤ 8 := by
            have : (2 : Int) ^ r2.toNat ≤ 2 ^ 3 := by exact_mod_cast Nat.pow_le_pow_right (n := 2) (by omega) e1
            simpa using this
          have e4 : 1 ≤ 1 * (2 : Int) ^ r2.toNat := by
            have : (2 : Int) ^ 0 ≤ 2 ^ r2.toNat := by exact_mod_cast Nat.pow_le_pow_right (n := 2) (by omega) (Nat.zero_le _)
            simpa using this
          simp (config := { maxSteps := 4000000 }) (disch := omega) only [pvK, pvB, sTk2W_14, reduceIte, Nat.reduceEqDiff, Nat.reduceAdd, Nat.reduceSub, Nat.reduceMul, Nat.reduceLT, Nat.reduceLeDiff, Nat.reduceBEq, reduceCtorEq, Int.reduceAdd, Int.reduceSub, Int.reduceMul, Int.reduceLT, Int.reduceLE, Int.reduceEq, Int.reduceToNat, Int.reduceNeg, Nat.reduceBNe, Int.reduceBEq, Int.reduceBNe, Int.reduceGT, Int.reduceGE, Int.reduceTMod, forall_const, eq_self, decide_true, decide_false, kjoin_norm, kjoin_exit, kjoin_ret, kjoin_panic, cast_1, cast_2, wrap_u, e0, e2]
          refine ⟨trivial, fun k' σ4 ap => ?_⟩
          have m4 := (Mine.full σ3 0 3).app ap
          have T3 := T.trans (t1.trans t2)
          refine ⟨_, ?_, kr, k', [⟨⟨#[98, 117, 102]⟩, 1 * (2 : Int) ^ r2.toNat, x⟩], σ4, ⟨by simp, by intro y hy; rw [List.mem_singleton.1 hy]; exact ⟨e4, e3⟩⟩, ⟨⟨fun b o q e => by rw [ap.obj]; exact T3.frame.obj b o q e, fun b k e => m4.sub.own b k (T3.frame.own b k e), ap.gl.trans T3.frame.gl⟩, by rw [ap.obj]; exact t2.deck⟩, rfl⟩
          exact less_env rfl (less_env rfl (less_env rfl (less_env rfl (less_env rfl (less_env rfl (less_loc rfl (less_loc (by show some _ = some _; simp only [vi, vs, List.map_cons, List.map_nil, pvSh, forgets, forget]) (less_nil (.refl _)))))))))
        · simp (config := { maxSteps := 4000000 }) (disch := omega) only [pvK, pvB, sTk2W_14, reduceIte, Nat.reduceEqDiff, Nat.reduceAdd, Nat.reduceSub, Nat.reduceMul, Nat.reduceLT, Nat.reduceLeDiff, Nat.reduceBEq, reduceCtorEq, Int.reduceAdd, Int.reduceSub, Int.reduceMul, Int.reduceLT, Int.reduceLE, Int.reduceEq, Int.reduceToNat, Int.reduceNeg, Nat.reduceBNe, Int.reduceBEq, Int.reduceBNe, Int.reduceGT, Int.reduceGE, Int.reduceTMod, forall_const, eq_self, decide_true, decide_false, kjoin_norm, kjoin_exit, kjoin_ret, kjoin_panic, cast_1, cast_2]
          exact ⟨_, less_env rfl (less_env rfl (less_env rfl (less_env rfl (less_env rfl (less_env rfl (less_loc rfl (less_loc rfl (less_nil (.refl _))))))))), kr, .full, [], σ2, ⟨by simp, by simp⟩, T.trans t1, rfl⟩
    · rintro s ⟨kr, ks, Sx, σ1, hS, T, rfl⟩
      dsimp only [cutR]
      refine swp_cut (tOk Try.prog) (by kernel_rfl) [] [(5, 27, [(0, []), (2, []), (3, []), (1, []), (4, []), (5, []), (6, []), (7, []), (8, []), (9, []), (10, [])]), (7, 51, [(0, []), (2, []), (7, []), (1, []), (8, []), (9, []), (10, []), (3, [1, 8, 10]), (4, []), (5, []), (6, []), (11, []), (12, []), (13, []), (14, []), (15, [])]), (11, 73, [(0, []), (2, []), (3, []), (9, []), (11, []), (12, []), (1, []), (4, []), (10, []), (5, []), (6, []), (7, []), (8, []), (13, [1]), (14, []), (15, []), (16, []), (17, [])])] 1 (fun s => ∃ (kt : Cap) (ts : List AT) (σ2 : St), ts.length = n ∧ (∀ (i : Nat) (h : i < ts.length), TaskOK (tname i) weight ts[i]) ∧ Took d L σ σ2 ∧ s = ⟨75, [(8, .lptr 8 0), (9, .lptr 9 0)], [(8, [.list .full 1 [], .list .full 3 [], .list .full 11 []]), (9, [.list kr 1 (res.map vs), .list ks 3 (Sx.map pvSh), .list kt 11 (ts.map pvT)])], σ2⟩) (by kernel_rfl) ?_ ?_
      · dsimp only [cutL]
        simp (config := { maxSteps := 4000000 }) (disch := omega) only [pvK, pvB, sTk2W_14, reduceIte, Nat.reduceEqDiff, Nat.reduceAdd, Nat.reduceSub, Nat.reduceMul, Nat.reduceLT, Nat.reduceLeDiff, Nat.reduceBEq, reduceCtorEq, Int.reduceAdd, Int.reduceSub, Int.reduceMul, Int.reduceLT, Int.reduceLE, Int.reduceEq, Int.reduceToNat, Int.reduceNeg, Nat.reduceBNe, Int.reduceBEq, Int.reduceBNe, Int.reduceGT, Int.reduceGE, Int.reduceTMod, forall_const, eq_self, decide_true, decide_false, kjoin_norm, kjoin_exit, kjoin_ret, kjoin_panic, cast_1, cast_2]
        refine loop_rule (fun s => ∃ (i : Nat) (kt : Cap) (ts : List AT) (σ2 : St), i ≤ n ∧ ts.length = i ∧ (∀ (j : Nat) (h : j < ts.length), TaskOK (tname j) weight ts[j]) ∧ Took d L σ σ2 ∧ MineO σ σ2 i 11 kt ∧ s = ⟨75, [(11, vi i), (0, vp d 0), (1, vi n), (2, vi weight), (3, vi stmts), (8, .lptr 8 0), (9, .lptr 9 0)], [(8, [.list .full 1 [], .list .full 3 [], .list .full 11 []]), (9, [.list kr 1 (res.map vs), .list ks 3 (Sx.map pvSh), .list kt 11 (ts.map pvT)])], σ2⟩) (fun s => (n - ival (get s.env 11)).toNat) ?_ ?_
        · refine ⟨_, ?_, 0, .full, [], σ1, by omega, rfl, fun j h => by simp at h, T, ⟨T.own, trivial, fun b q => by cases q⟩, rfl⟩
          exact less_env rfl (less_env rfl (less_env rfl (less_env rfl (less_env rfl (less_env rfl (less_env rfl (less_loc rfl (less_loc rfl (less_nil (.refl _))))))))))
        · rintro s ⟨i, kt, ts, σ2, hi, hlen, hts, T2, mt, rfl⟩ R hR
          by_cases hlt : (i : Int) < n
          · have u1 := wrap_ok (97 + (i : Int)) (by omega) (by omega)
            simp (config := { maxSteps := 4000000 }) (disch := omega) only [pvK, pvB, sTk2W_14, reduceIte, Nat.reduceEqDiff, Nat.reduceAdd, Nat.reduceSub, Nat.reduceMul, Nat.reduceLT, Nat.reduceLeDiff, Nat.reduceBEq, reduceCtorEq, Int.reduceAdd, Int.reduceSub, Int.reduceMul, Int.reduceLT, Int.reduceLE, Int.reduceEq, Int.reduceToNat, Int.reduceNeg, Nat.reduceBNe, Int.reduceBEq, Int.reduceBNe, Int.reduceGT, Int.reduceGE, Int.reduceTMod, forall_const, eq_self, decide_true, decide_false, kjoin_norm, kjoin_exit, kjoin_ret, kjoin_panic, cast_1, cast_2, hlt, u1, name_fit]
            refine task_c σ2 d L (tname i) ks Sx weight stmts T2.deck hL hS.1 hw hst _ fun t σ3 ht t3 => ?_
            have ft := forget_T t
            have m3 := mt.go t3.own
            unfold pvT at ft ⊢
            simp only [vi, vs] at ft
            simp (config := { maxSteps := 4000000 }) (disch := omega) only [pvK, pvB, sTk2W_14, reduceIte, Nat.reduceEqDiff, Nat.reduceAdd, Nat.reduceSub, Nat.reduceMul, Nat.reduceLT, Nat.reduceLeDiff, Nat.reduceBEq, reduceCtorEq, Int.reduceAdd, Int.reduceSub, Int.reduceMul, Int.reduceLT, Int.reduceLE, Int.reduceEq, Int.reduceToNat, Int.reduceNeg, Nat.reduceBNe, Int.reduceBEq, Int.reduceBNe, Int.reduceGT, Int.reduceGE, Int.reduceTMod, forall_const, eq_self, decide_true, decide_false, kjoin_norm, kjoin_exit, kjoin_ret, kjoin_panic, cast_1, cast_2, hlt, u1, name_fit, ft]
            refine ⟨by omega, by omega, by simpa [hlen] using m3.owns, fun k' σ4 ap => ?_⟩
            have m4 := m3.app ap
            have T3 := T2.trans t3
            refine hR _ _ ?_ ⟨i + 1, k', ts ++ [t], σ4, by omega, by simp [hlen], ?_, ⟨⟨fun b o q e => by rw [ap.obj]; exact T3.frame.obj b o q e, m4.le.own, ap.gl.trans T3.frame.gl⟩, by rw [ap.obj]; exact t3.deck⟩, by simpa [hlen] using m4, rfl⟩ ?_
            · exact less_env rfl (less_env rfl (less_env rfl (less_env rfl (less_env rfl (less_env rfl (less_env rfl (less_loc rfl (less_loc (by show some _ = some _; rw [List.map_append]; rfl) (less_nil (.refl _))))))))))
            · intro j hj
              rw [List.getElem_append]
              split
              · rename_i hj2; exact hts j hj2
              · rename_i hj2
                simp at hj
                have e : j = i := by omega
                subst e
                simpa using ht
            · show ((n : Int) - ((i + 1 : Nat) : Int)).toNat < ((n : Int) - (i : Int)).toNat
              omega
          · have e : i = n := by omega
            subst e
            simp (config := { maxSteps := 4000000 }) (disch := omega) only [pvK, pvB, sTk2W_14, reduceIte, Nat.reduceEqDiff, Nat.reduceAdd, Nat.reduceSub, Nat.reduceMul, Nat.reduceLT, Nat.reduceLeDiff, Nat.reduceBEq, reduceCtorEq, Int.reduceAdd, Int.reduceSub, Int.reduceMul, Int.reduceLT, Int.reduceLE, Int.reduceEq, Int.reduceToNat, Int.reduceNeg, Nat.reduceBNe, Int.reduceBEq, Int.reduceBNe, Int.reduceGT, Int.reduceGE, Int.reduceTMod, forall_const, eq_self, decide_true, decide_false, kjoin_norm, kjoin_exit, kjoin_ret, kjoin_panic, cast_1, cast_2, hlt]
            exact ⟨_, less_env rfl (less_env rfl (less_loc rfl (less_loc rfl (less_nil (.refl _))))), kt, ts, σ2, hlen, hts, T2, rfl⟩
      · rintro s ⟨kt, ts, σ1, hlen, hts, T, rfl⟩
        dsimp only [cutR]
        refine swp_of (tOk Try.prog) (by kernel_rfl) [] [(5, 27, [(0, []), (2, []), (3, []), (1, []), (4, []), (5, []), (6, []), (7, []), (8, []), (9, []), (10, [])]), (7, 51, [(0, []), (2, []), (7, []), (1, []), (8, []), (9, []), (10, []), (3, [1, 8, 10]), (4, []), (5, []), (6, []), (11, []), (12, []), (13, []), (14, []), (15, [])]), (11, 73, [(0, []), (2, []), (3, []), (9, []), (11, []), (12, []), (1, []), (4, []), (10, []), (5, []), (6, []), (7, []), (8, []), (13, [1]), (14, []), (15, []), (16, []), (17, [])])] (by kernel_rfl) ?_
        simp (config := { maxSteps := 4000000 }) (disch := omega) only [pvK, pvB, sTk2W_14, reduceIte, Nat.reduceEqDiff, Nat.reduceAdd, Nat.reduceSub, Nat.reduceMul, Nat.reduceLT, Nat.reduceLeDiff, Nat.reduceBEq, reduceCtorEq, Int.reduceAdd, Int.reduceSub, Int.reduceMul, Int.reduceLT, Int.reduceLE, Int.reduceEq, Int.reduceToNat, Int.reduceNeg, Nat.reduceBNe, Int.reduceBEq, Int.reduceBNe, Int.reduceGT, Int.reduceGE, Int.reduceTMod, forall_const, eq_self, decide_true, decide_false, kjoin_norm, kjoin_exit, kjoin_ret, kjoin_panic, cast_1, cast_2]
        refine ⟨σ1, .refl _, ?_⟩
        have fg : forget (PV.agg [.list kr 1 (res.map vs), .list ks 3 (Sx.map pvSh), .list kt 11 (ts.map pvT)]) = pvP ⟨res, Sx, ts⟩ := by
          simp only [pvP, forget, forgets, forgets_Ts, forgets_Shs, forgets_vs]
        show K (.ret (forget _)) σ1
        rw [fg]
        exact hK _ _ ⟨hres, hS, hlen, hts⟩ T
set_option maxRecDepth 100000 in
theorem Program_c (σ : St) (d : Nat) (L : List Int) (n : Nat) (hd : ∃ at', 0 ≤ at' ∧ σ.obj d = some (deck L at')) (hL : L.length ≤ 400) (h1 : 1 ≤ n) (hn : n ≤ 6) (K : Res → St → Prop)
    (hK : ∀ p σ', ProgOK n 300 p → Took d L σ σ' → K (.ret (pvP p)) σ') : PCalls Try.prog 7 [vp d 0, vi n] σ K := by
  refine PCalls.of_body (tOk Try.prog) (by kernel_rfl) Try.func7 rfl (by kernel_rfl) [] [] (by kernel_rfl) (n := 10) (by kernel_rfl) (by kernel_rfl) (rs := [.cell 4 38]) (by kernel_rfl) ?_
  have e1 : (if 6 < (n : Int) then (6 : Int) else n) = n := by rw [if_neg]; omega
  have e2 : (if (n : Int) > 1 then (n : Int) else 1) = n := by split <;> omega
  simp (config := { maxSteps := 4000000 }) (disch := omega) only [pvK, pvB, sTk2W_7, reduceIte, Nat.reduceEqDiff, Nat.reduceAdd, Nat.reduceSub, Nat.reduceMul, Nat.reduceLT, Nat.reduceLeDiff, Nat.reduceBEq, reduceCtorEq, Int.reduceAdd, Int.reduceSub, Int.reduceMul, Int.reduceLT, Int.reduceLE, Int.reduceEq, Int.reduceToNat, Int.reduceNeg, Nat.reduceBNe, Int.reduceBEq, Int.reduceBNe, Int.reduceGT, Int.reduceGE, Int.reduceTMod, forall_const, eq_self, decide_true, decide_false, e1, e2]
  refine programs_c σ d L n 300 14 hd hL hn (by omega) (by omega) _ fun p σ' hp t => ?_
  have hpp := hK p σ' hp t
  unfold pvP at hpp ⊢
  simp (config := { maxSteps := 4000000 }) (disch := omega) only [pvK, pvB, sTk2W_7, reduceIte, Nat.reduceEqDiff, Nat.reduceAdd, Nat.reduceSub, Nat.reduceMul, Nat.reduceLT, Nat.reduceLeDiff, Nat.reduceBEq, reduceCtorEq, Int.reduceAdd, Int.reduceSub, Int.reduceMul, Int.reduceLT, Int.reduceLE, Int.reduceEq, Int.reduceToNat, Int.reduceNeg, Nat.reduceBNe, Int.reduceBEq, Int.reduceBNe, Int.reduceGT, Int.reduceGE, Int.reduceTMod, forall_const, eq_self, decide_true, decide_false]
  exact ⟨σ', .refl _, hpp⟩
end Go.Pv.W
-- Sm1W
namespace Go.Pv.W
open Go Go.RowKit Go.Proofs Go.Pv
def sSm1W_13 := (And.intro (And.intro (And.intro @q_slz_0 (And.intro @q_tsz_3 @q_slz_3)) (And.intro @q_ifc_3 (And.intro @q_tsz_4 @q_slz_4))) (And.intro (And.intro @q_ifc_4 (And.intro @q_isb_4 @q_tsz_22)) (And.intro (And.intro @q_slz_22 @q_str_22) (And.intro @q_arz_22 @q_ifc_22))))
set_option maxHeartbeats 4000000 in
set_option maxRecDepth 100000 in
theorem SameInts_c (ka kb : Cap) (A B : List Int) (hA : A.length < 1099511627776) (σ : St) (K : Res → St → Prop) (hK : K (.ret (vb' (decide (A = B)))) σ) : PCalls Try.prog 13 [.list ka 1 (A.map vi), .list kb 1 (B.map vi)] σ K := by
  refine PCalls.of_body (tOk Try.prog) (by kernel_rfl) Try.func13 rfl (by kernel_rfl) [] [(6, 25, [(0, []), (1, []), (4, []), (5, []), (2, []), (6, []), (3, []), (7, []), (8, [])])] (by kernel_rfl) (n := 26) (by kernel_rfl) (by kernel_rfl) (rs := [.tmp 4]) (by kernel_rfl) ?_
  by_cases hl : A.length = B.length
  · have e0 : ((A.length : Int) != (B.length : Int)) = false := by simp [hl]
    simp (config := { maxSteps := 4000000 }) (disch := omega) only [pvK, pvB, sSm1W_13, reduceIte, Nat.reduceEqDiff, Nat.reduceAdd, Nat.reduceSub, Nat.reduceMul, Nat.reduceLT, Nat.reduceLeDiff, Nat.reduceBEq, reduceCtorEq, Int.reduceAdd, Int.reduceSub, Int.reduceMul, Int.reduceLT, Int.reduceLE, Int.reduceEq, Int.reduceToNat, Int.reduceNeg, Nat.reduceBNe, Int.reduceBEq, Int.reduceBNe, Int.reduceGT, Int.reduceGE, Int.reduceTMod, forall_const, eq_self, decide_true, decide_false, e0]
    refine loop_rule (fun s => ∃ i : Nat, i ≤ A.length ∧ A.take i = B.take i ∧ s = ⟨26, [(0, .list ka 1 (A.map vi)), (1, .list kb 1 (B.map vi)), (5, vi i)], [], σ⟩) (fun s => (A.length - ival (get s.env 5)).toNat) ?_ ?_
    · exact ⟨_, less_env rfl (less_env rfl (less_env rfl (less_nil (.refl _)))), 0, Nat.zero_le _, rfl, rfl⟩
    · rintro s ⟨i, hi, ht, rfl⟩ R hR
      by_cases hlt : (i : Int) < A.length
      · have ha : i < A.length := by omega
        have hb : i < B.length := by omega
        have g1 : (A.map vi)[i]? = some (vi A[i]) := by simp [ha]
        have g2 : (B.map vi)[i]? = some (vi B[i]) := by simp [hb]
        simp only [vi] at g1 g2
        have z0 : (0 : Int) ≤ i := by omega
        simp (config := { maxSteps := 4000000 }) (disch := omega) only [pvK, pvB, sSm1W_13, reduceIte, Nat.reduceEqDiff, Nat.reduceAdd, Nat.reduceSub, Nat.reduceMul, Nat.reduceLT, Nat.reduceLeDiff, Nat.reduceBEq, reduceCtorEq, Int.reduceAdd, Int.reduceSub, Int.reduceMul, Int.reduceLT, Int.reduceLE, Int.reduceEq, Int.reduceToNat, Int.reduceNeg, Nat.reduceBNe, Int.reduceBEq, Int.reduceBNe, Int.reduceGT, Int.reduceGE, Int.reduceTMod, forall_const, eq_self, decide_true, decide_false, hlt, g1, g2, z0]
        refine kcond_e (fun h => ?_) (fun h => ?_)
        · simp (config := { maxSteps := 4000000 }) (disch := omega) only [pvK, pvB, sSm1W_13, reduceIte, Nat.reduceEqDiff, Nat.reduceAdd, Nat.reduceSub, Nat.reduceMul, Nat.reduceLT, Nat.reduceLeDiff, Nat.reduceBEq, reduceCtorEq, Int.reduceAdd, Int.reduceSub, Int.reduceMul, Int.reduceLT, Int.reduceLE, Int.reduceEq, Int.reduceToNat, Int.reduceNeg, Nat.reduceBNe, Int.reduceBEq, Int.reduceBNe, Int.reduceGT, Int.reduceGE, Int.reduceTMod, forall_const, eq_self, decide_true, decide_false]
          refine ⟨σ, .refl _, ?_⟩
          have : A ≠ B := by rintro rfl; simp at h
          simpa [this] using hK
        · simp (config := { maxSteps := 4000000 }) (disch := omega) only [pvK, pvB, sSm1W_13, reduceIte, Nat.reduceEqDiff, Nat.reduceAdd, Nat.reduceSub, Nat.reduceMul, Nat.reduceLT, Nat.reduceLeDiff, Nat.reduceBEq, reduceCtorEq, Int.reduceAdd, Int.reduceSub, Int.reduceMul, Int.reduceLT, Int.reduceLE, Int.reduceEq, Int.reduceToNat, Int.reduceNeg, Nat.reduceBNe, Int.reduceBEq, Int.reduceBNe, Int.reduceGT, Int.reduceGE, Int.reduceTMod, forall_const, eq_self, decide_true, decide_false]
          have h : A[i] = B[i] := by simpa using h
          refine hR _ _ (less_env rfl (less_env rfl (less_env rfl (less_nil (.refl _))))) ⟨i + 1, by omega, ?_, rfl⟩ ?_
          · rw [List.take_succ_eq_append_getElem ha, List.take_succ_eq_append_getElem hb, ht, h]
          · show ((A.length : Int) - ((i + 1 : Nat) : Int)).toNat < ((A.length : Int) - (i : Int)).toNat
            omega
      · simp (config := { maxSteps := 4000000 }) (disch := omega) only [pvK, pvB, sSm1W_13, reduceIte, Nat.reduceEqDiff, Nat.reduceAdd, Nat.reduceSub, Nat.reduceMul, Nat.reduceLT, Nat.reduceLeDiff, Nat.reduceBEq, reduceCtorEq, Int.reduceAdd, Int.reduceSub, Int.reduceMul, Int.reduceLT, Int.reduceLE, Int.reduceEq, Int.reduceToNat, Int.reduceNeg, Nat.reduceBNe, Int.reduceBEq, Int.reduceBNe, Int.reduceGT, Int.reduceGE, Int.reduceTMod, forall_const, eq_self, decide_true, decide_false, hlt]
        refine ⟨σ, .refl _, ?_⟩
        have e : i = A.length := by omega
        subst e
        have : A = B := by rw [List.take_length] at ht; rw [ht, hl, List.take_length]
        simpa [this] using hK
  · have e0 : ((A.length : Int) != (B.length : Int)) = true := by simp; omega
    simp (config := { maxSteps := 4000000 }) (disch := omega) only [pvK, pvB, sSm1W_13, reduceIte, Nat.reduceEqDiff, Nat.reduceAdd, Nat.reduceSub, Nat.reduceMul, Nat.reduceLT, Nat.reduceLeDiff, Nat.reduceBEq, reduceCtorEq, Int.reduceAdd, Int.reduceSub, Int.reduceMul, Int.reduceLT, Int.reduceLE, Int.reduceEq, Int.reduceToNat, Int.reduceNeg, Nat.reduceBNe, Int.reduceBEq, Int.reduceBNe, Int.reduceGT, Int.reduceGE, Int.reduceTMod, forall_const, eq_self, decide_true, decide_false, e0]
    refine ⟨σ, .refl _, ?_⟩
    have : A ≠ B := fun q => hl (by rw [q])
    simpa [this] using hK
end Go.Pv.W
-- Cw1W
namespace Go.Pv.W
open Go Go.RowKit Go.Proofs Go.Pv
def sCw1W_3 := (And.intro (And.intro (And.intro (And.intro (And.intro @q_fld_45_4 (And.intro @q_fld_34_10 @q_fld_38_2)) (And.intro @q_slz_0 (And.intro @q_tsz_3 @q_slz_3))) (And.intro (And.intro @q_ifc_3 (And.intro @q_tsz_4 @q_slz_4)) (And.intro (And.intro @q_ifc_4 @q_isb_4) (And.intro @q_tsz_5 @q_slz_5)))) (And.intro (And.intro (And.intro @q_ifc_5 (And.intro @q_tsz_22 @q_slz_22)) (And.intro (And.intro @q_str_22 @q_arz_22) (And.intro @q_ifc_22 @q_tsz_25))) (And.intro (And.intro @q_slz_25 (And.intro @q_ifc_25 @q_tsz_32)) (And.intro (And.intro @q_slz_32 @q_str_32) (And.intro @q_arz_32 @q_ifc_32))))) (And.intro (And.intro (And.intro (And.intro @q_tsz_34 (And.intro @q_slz_34 @q_ifc_34)) (And.intro @q_tsz_36 (And.intro @q_slz_36 @q_str_36))) (And.intro (And.intro @q_arz_36 (And.intro @q_ifc_36 @q_tsz_38)) (And.intro (And.intro @q_slz_38 @q_ifc_38) (And.intro @q_tsz_40 @q_slz_40)))) (And.intro (And.intro (And.intro @q_str_40 (And.intro @q_arz_40 @q_ifc_40)) (And.intro (And.intro @q_tsz_42 @q_slz_42) (And.intro @q_ifc_42 @q_tsz_45))) (And.intro (And.intro @q_slz_45 (And.intro @q_ifc_45 @q_zcs_45)) (And.intro (And.intro @q_bsl_40 @q_bsl_32) (And.intro @q_bld_45 @q_cvi_5_3))))))
def sCw1W_5 := (And.intro (And.intro (And.intro (And.intro (And.intro @q_slz_0 @q_tsz_1) (And.intro @q_slz_1 (And.intro @q_ifc_1 @q_tsz_3))) (And.intro (And.intro @q_slz_3 (And.intro @q_ifc_3 @q_tsz_4)) (And.intro @q_slz_4 (And.intro @q_ifc_4 @q_isb_4)))) (And.intro (And.intro (And.intro @q_tsz_9 (And.intro @q_slz_9 @q_str_9)) (And.intro @q_arz_9 (And.intro @q_ifc_9 @q_tsz_10))) (And.intro (And.intro @q_slz_10 (And.intro @q_str_10 @q_arz_10)) (And.intro @q_ifc_10 (And.intro @q_tsz_22 @q_slz_22))))) (And.intro (And.intro (And.intro (And.intro @q_str_22 (And.intro @q_arz_22 @q_ifc_22)) (And.intro @q_tsz_32 (And.intro @q_slz_32 @q_str_32))) (And.intro (And.intro @q_arz_32 (And.intro @q_ifc_32 @q_tsz_40)) (And.intro @q_slz_40 (And.intro @q_str_40 @q_arz_40)))) (And.intro (And.intro (And.intro @q_ifc_40 (And.intro @q_tsz_42 @q_slz_42)) (And.intro @q_ifc_42 (And.intro @q_tsz_45 @q_slz_45))) (And.intro (And.intro @q_ifc_45 (And.intro @q_zcs_42 @q_bsl_40)) (And.intro @q_bsl_32 (And.intro @q_bsl_22 @q_bld_45))))))
theorem Weight_e (k : Cap) (l : List AS) (xs : List PV) (hxs : forgets xs = pvSs l) (σ : St) (K : Res → St → Prop) (hd : dSs l ≤ 20) (hx : xSs l ≤ 20) (hz : zSs l < 4611686018427387904) (hw : wSs l ≤ 1000000) (hK : K (.ret (vi (wSs l))) σ) : PCalls Try.prog 9 [.list k 8 xs] σ K := by
  refine PCalls.forget ?_
  simp only [forgets, forget, hxs]
  refine Weight_c l σ K hd hx hz ?_
  rwa [cap_small (by omega)]
theorem Labels_e (k : Cap) (l : List AS) (xs : List PV) (hxs : forgets xs = pvSs l) (σ : St) (K : Res → St → Prop) (hd : dSs l ≤ 19) (hz : zSs l < 1099511627776) (hK : K (.ret (.list .any 1 ((labSs wantP l).map vi))) σ) : PCalls Try.prog 10 [.list k 8 xs] σ K := by
  refine PCalls.forget ?_
  simp only [forgets, forget, hxs]
  exact Labels_c l σ K hd hz hK
def awI : AE := .mk 2 0 ⟨#[105]⟩ 0 []
def awL : List AS := [.mk 4 ⟨#[]⟩ [] [awI] 10 3 [.mk 1 ⟨#[105]⟩ [] [.mk 4 0 ⟨#[]⟩ 1 [awI, .mk 1 1 ⟨#[]⟩ 0 []]] 0 0 [] []] []]
set_option maxHeartbeats 4000000 in
set_option maxRecDepth 100000 in
theorem awake_c (σ : St) (K : Res → St → Prop) (hK : K (.ret (vb' true)) σ) : PCalls Try.prog 5 [] σ K := by
  refine PCalls.of_body (tOk Try.prog) (by kernel_rfl) Try.func5 rfl (by kernel_rfl) [] [(2, 13, [(0, []), (2, []), (1, []), (3, [0, 2]), (4, [0]), (5, []), (6, []), (7, []), (8, []), (9, []), (10, [])])] (by kernel_rfl) (n := 23) (by kernel_rfl) (by kernel_rfl) (rs := [.tmp 0]) (by kernel_rfl) ?_
  simp (config := { maxSteps := 4000000 }) (disch := omega) only [pvK, pvB, sCw1W_5, reduceIte, Nat.reduceEqDiff, Nat.reduceAdd, Nat.reduceSub, Nat.reduceMul, Nat.reduceLT, Nat.reduceLeDiff, Nat.reduceBEq, reduceCtorEq, Int.reduceAdd, Int.reduceSub, Int.reduceMul, Int.reduceLT, Int.reduceLE, Int.reduceEq, Int.reduceToNat, Int.reduceNeg, Nat.reduceBNe, Int.reduceBEq, Int.reduceBNe, Int.reduceGT, Int.reduceGE, Int.reduceTMod, Bool.not_true, Bool.not_false, forall_const, eq_self, decide_true, decide_false]
  refine nameE_c _ σ _ ?_
  simp (config := { maxSteps := 4000000 }) (disch := omega) only [pvK, pvB, sCw1W_5, reduceIte, Nat.reduceEqDiff, Nat.reduceAdd, Nat.reduceSub, Nat.reduceMul, Nat.reduceLT, Nat.reduceLeDiff, Nat.reduceBEq, reduceCtorEq, Int.reduceAdd, Int.reduceSub, Int.reduceMul, Int.reduceLT, Int.reduceLE, Int.reduceEq, Int.reduceToNat, Int.reduceNeg, Nat.reduceBNe, Int.reduceBEq, Int.reduceBNe, Int.reduceGT, Int.reduceGE, Int.reduceTMod, Bool.not_true, Bool.not_false, forall_const, eq_self, decide_true, decide_false]
  refine num_c _ σ _ ?_
  simp (config := { maxSteps := 4000000 }) (disch := omega) only [pvK, pvB, sCw1W_5, reduceIte, Nat.reduceEqDiff, Nat.reduceAdd, Nat.reduceSub, Nat.reduceMul, Nat.reduceLT, Nat.reduceLeDiff, Nat.reduceBEq, reduceCtorEq, Int.reduceAdd, Int.reduceSub, Int.reduceMul, Int.reduceLT, Int.reduceLE, Int.reduceEq, Int.reduceToNat, Int.reduceNeg, Nat.reduceBNe, Int.reduceBEq, Int.reduceBNe, Int.reduceGT, Int.reduceGE, Int.reduceTMod, Bool.not_true, Bool.not_false, forall_const, eq_self, decide_true, decide_false]
  refine bin_c 1 awI (.mk 1 1 ⟨#[]⟩ 0 []) σ _ ?_
  simp (config := { maxSteps := 4000000 }) (disch := omega) only [pvK, pvB, sCw1W_5, reduceIte, Nat.reduceEqDiff, Nat.reduceAdd, Nat.reduceSub, Nat.reduceMul, Nat.reduceLT, Nat.reduceLeDiff, Nat.reduceBEq, reduceCtorEq, Int.reduceAdd, Int.reduceSub, Int.reduceMul, Int.reduceLT, Int.reduceLE, Int.reduceEq, Int.reduceToNat, Int.reduceNeg, Nat.reduceBNe, Int.reduceBEq, Int.reduceBNe, Int.reduceGT, Int.reduceGE, Int.reduceTMod, Bool.not_true, Bool.not_false, forall_const, eq_self, decide_true, decide_false, pvEs]
  refine Weight_e _ awL _ rfl σ _ (by decide) (by decide) (by decide) (by decide) ?_
  have w : wSs awL = 79 := by decide
  rw [w]
  simp (config := { maxSteps := 4000000 }) (disch := omega) only [pvK, pvB, sCw1W_5, reduceIte, Nat.reduceEqDiff, Nat.reduceAdd, Nat.reduceSub, Nat.reduceMul, Nat.reduceLT, Nat.reduceLeDiff, Nat.reduceBEq, reduceCtorEq, Int.reduceAdd, Int.reduceSub, Int.reduceMul, Int.reduceLT, Int.reduceLE, Int.reduceEq, Int.reduceToNat, Int.reduceNeg, Nat.reduceBNe, Int.reduceBEq, Int.reduceBNe, Int.reduceGT, Int.reduceGE, Int.reduceTMod, Bool.not_true, Bool.not_false, forall_const, eq_self, decide_true, decide_false]
  refine Labels_e _ awL _ rfl σ _ (by decide) (by decide) ?_
  have w2 : labSs wantP awL = [3] := by decide
  rw [w2]
  simp (config := { maxSteps := 4000000 }) (disch := omega) only [pvK, pvB, sCw1W_5, reduceIte, Nat.reduceEqDiff, Nat.reduceAdd, Nat.reduceSub, Nat.reduceMul, Nat.reduceLT, Nat.reduceLeDiff, Nat.reduceBEq, reduceCtorEq, Int.reduceAdd, Int.reduceSub, Int.reduceMul, Int.reduceLT, Int.reduceLE, Int.reduceEq, Int.reduceToNat, Int.reduceNeg, Nat.reduceBNe, Int.reduceBEq, Int.reduceBNe, Int.reduceGT, Int.reduceGE, Int.reduceTMod, Bool.not_true, Bool.not_false, forall_const, eq_self, decide_true, decide_false]
  refine SameInts_c .any .full [3] [3] (by decide) σ _ ?_
  simp (config := { maxSteps := 4000000 }) (disch := omega) only [pvK, pvB, sCw1W_5, reduceIte, Nat.reduceEqDiff, Nat.reduceAdd, Nat.reduceSub, Nat.reduceMul, Nat.reduceLT, Nat.reduceLeDiff, Nat.reduceBEq, reduceCtorEq, Int.reduceAdd, Int.reduceSub, Int.reduceMul, Int.reduceLT, Int.reduceLE, Int.reduceEq, Int.reduceToNat, Int.reduceNeg, Nat.reduceBNe, Int.reduceBEq, Int.reduceBNe, Int.reduceGT, Int.reduceGE, Int.reduceTMod, Bool.not_true, Bool.not_false, forall_const, eq_self, decide_true, decide_false]
  exact ⟨σ, .refl _, hK⟩
set_option maxHeartbeats 16000000 in
set_option maxRecDepth 100000 in
theorem checkWeights_c (l : List Int) (most : Int) (hm : 0 ≤ most ∧ most ≤ 255) (σ : St) (K : Res → St → Prop) (hK : ∀ σ', K (.ret (vb' true)) σ') : PCalls Try.prog 3 [.list .any 1 (l.map vi), .val (.int .u8 most)] σ K := by
  refine PCalls.of_body (tOk Try.prog) (by kernel_rfl) Try.func3 rfl (by kernel_rfl) [] [(11, 96, [(0, []), (2, []), (4, []), (1, []), (3, []), (5, []), (6, []), (7, []), (8, []), (9, []), (12, []), (16, []), (10, []), (13, []), (11, [12]), (14, []), (15, []), (17, []), (18, []), (19, []), (20, []), (21, []), (22, []), (25, []), (27, []), (23, []), (26, []), (24, []), (28, []), (29, []), (30, []), (31, []), (32, []), (33, []), (34, []), (35, []), (38, []), (41, []), (36, []), (37, []), (39, [37]), (40, []), (42, [37, 40]), (43, []), (44, []), (45, []), (46, []), (47, []), (48, []), (49, []), (50, [])])] (by kernel_rfl) (n := 97) (by kernel_rfl) (by kernel_rfl) (rs := [.tmp 4]) (by kernel_rfl) ?_
  simp (config := { maxSteps := 4000000 }) (disch := omega) only [pvK, pvB, sCw1W_3, reduceIte, Nat.reduceEqDiff, Nat.reduceAdd, Nat.reduceSub, Nat.reduceMul, Nat.reduceLT, Nat.reduceLeDiff, Nat.reduceBEq, reduceCtorEq, Int.reduceAdd, Int.reduceSub, Int.reduceMul, Int.reduceLT, Int.reduceLE, Int.reduceEq, Int.reduceToNat, Int.reduceNeg, Nat.reduceBNe, Int.reduceBEq, Int.reduceBNe, Int.reduceGT, Int.reduceGE, Int.reduceTMod, Bool.not_true, Bool.not_false, forall_const, eq_self, decide_true, decide_false]
  refine few_c l σ _ ?_
  by_cases hl : (l.length : Int) ≤ 400
  · simp (config := { maxSteps := 4000000 }) (disch := omega) only [pvK, pvB, sCw1W_3, reduceIte, Nat.reduceEqDiff, Nat.reduceAdd, Nat.reduceSub, Nat.reduceMul, Nat.reduceLT, Nat.reduceLeDiff, Nat.reduceBEq, reduceCtorEq, Int.reduceAdd, Int.reduceSub, Int.reduceMul, Int.reduceLT, Int.reduceLE, Int.reduceEq, Int.reduceToNat, Int.reduceNeg, Nat.reduceBNe, Int.reduceBEq, Int.reduceBNe, Int.reduceGT, Int.reduceGE, Int.reduceTMod, Bool.not_true, Bool.not_false, forall_const, eq_self, decide_true, decide_false, hl]
    refine new_c l σ _ fun d hd1 hd2 => ?_
    simp (config := { maxSteps := 4000000 }) (disch := omega) only [pvK, pvB, sCw1W_3, reduceIte, Nat.reduceEqDiff, Nat.reduceAdd, Nat.reduceSub, Nat.reduceMul, Nat.reduceLT, Nat.reduceLeDiff, Nat.reduceBEq, reduceCtorEq, Int.reduceAdd, Int.reduceSub, Int.reduceMul, Int.reduceLT, Int.reduceLE, Int.reduceEq, Int.reduceToNat, Int.reduceNeg, Nat.reduceBNe, Int.reduceBEq, Int.reduceBNe, Int.reduceGT, Int.reduceGE, Int.reduceTMod, Bool.not_true, Bool.not_false, forall_const, eq_self, decide_true, decide_false]
    refine Program_c _ d l 1 ⟨0, by omega, obj_set _ _ _⟩ (by omega) (by omega) (by omega) _ fun p σ1 hp t1 => ?_
    have hlen := hp.len
    obtain ⟨t, ht⟩ : ∃ t, p.tasks = [t] := List.length_eq_one_iff.1 hlen
    have okt := (hp.tasks 0 (by omega)).body
    simp only [ht, List.getElem_cons_zero] at okt
    simp (config := { maxSteps := 4000000 }) (disch := omega) only [pvK, pvB, sCw1W_3, reduceIte, Nat.reduceEqDiff, Nat.reduceAdd, Nat.reduceSub, Nat.reduceMul, Nat.reduceLT, Nat.reduceLeDiff, Nat.reduceBEq, reduceCtorEq, Int.reduceAdd, Int.reduceSub, Int.reduceMul, Int.reduceLT, Int.reduceLE, Int.reduceEq, Int.reduceToNat, Int.reduceNeg, Nat.reduceBNe, Int.reduceBEq, Int.reduceBNe, Int.reduceGT, Int.reduceGE, Int.reduceTMod, Bool.not_true, Bool.not_false, forall_const, eq_self, decide_true, decide_false, pvP, ht, pvT]
    refine Program_c _ d l 1 t1.deck (by omega) (by omega) (by omega) _ fun p2 σ2 hp2 t2 => ?_
    have hlen2 := hp2.len
    obtain ⟨u, hu⟩ : ∃ t, p2.tasks = [t] := List.length_eq_one_iff.1 hlen2
    have oku := (hp2.tasks 0 (by omega)).body
    simp only [hu, List.getElem_cons_zero] at oku
    have q0 : 0 ≤ most.tmod 32 := Int.tmod_nonneg _ (by omega)
    have q1 : most.tmod 32 < 32 := Int.tmod_lt_of_pos _ (by omega)
    simp (config := { maxSteps := 4000000 }) (disch := omega) only [pvK, pvB, sCw1W_3, reduceIte, Nat.reduceEqDiff, Nat.reduceAdd, Nat.reduceSub, Nat.reduceMul, Nat.reduceLT, Nat.reduceLeDiff, Nat.reduceBEq, reduceCtorEq, Int.reduceAdd, Int.reduceSub, Int.reduceMul, Int.reduceLT, Int.reduceLE, Int.reduceEq, Int.reduceToNat, Int.reduceNeg, Nat.reduceBNe, Int.reduceBEq, Int.reduceBNe, Int.reduceGT, Int.reduceGE, Int.reduceTMod, Bool.not_true, Bool.not_false, forall_const, eq_self, decide_true, decide_false, pvP, hu, pvT]
    generalize most.tmod 32 = kk at q0 q1 ⊢
    generalize t.body = a at okt ⊢
    generalize u.body = b at oku ⊢
    refine num_c _ σ2 _ ?_
    simp (config := { maxSteps := 4000000 }) (disch := omega) only [pvK, pvB, sCw1W_3, reduceIte, Nat.reduceEqDiff, Nat.reduceAdd, Nat.reduceSub, Nat.reduceMul, Nat.reduceLT, Nat.reduceLeDiff, Nat.reduceBEq, reduceCtorEq, Int.reduceAdd, Int.reduceSub, Int.reduceMul, Int.reduceLT, Int.reduceLE, Int.reduceEq, Int.reduceToNat, Int.reduceNeg, Nat.reduceBNe, Int.reduceBEq, Int.reduceBNe, Int.reduceGT, Int.reduceGE, Int.reduceTMod, Bool.not_true, Bool.not_false, forall_const, eq_self, decide_true, decide_false, pvEs]
    have la := zSs_len a
    have lb := zSs_len b
    have na := wSs_nonneg a
    have nb := wSs_nonneg b
    refine ⟨by omega, by omega, trivial, fun k1 σ3 ap1 => ?_⟩
    refine ⟨by omega, by omega, by simpa using ap1.owns, fun k2 σ4 ap2 => ?_⟩
    have m4 := ((Mine.full σ2 0 8).app ap1).app ap2
    clear m4
    have dA : dSs (a ++ b) ≤ 4 := by rw [dSs_append]; omega
    have xA : xSs (a ++ b) ≤ 4 := by rw [xSs_append]; omega
    have zA : zSs (a ++ b) ≤ 40000 := by rw [zSs_append]; omega
    have wA := wSs_append a b
    have tx : times kk = kk + 1 := by unfold times; omega
    have ty : times (kk + 1) = kk + 2 := by unfold times; omega
    have hx : wSs [.mk 4 ⟨#[]⟩ [] [.mk 1 1 ⟨#[]⟩ 0 []] kk 0 a []] = 2 + (kk + 1) * (3 + wSs a) := by
      simp [wSs, wS, wEs, wE, tx]
    have hy : wSs [.mk 4 ⟨#[]⟩ [] [.mk 1 1 ⟨#[]⟩ 0 []] (kk + 1) 0 a []] = 2 + (kk + 1) * (3 + wSs a) + (3 + wSs a) := by
      have e : (kk + 2) * (3 + wSs a) = (kk + 1) * (3 + wSs a) + (3 + wSs a) := by rw [show kk + 2 = (kk + 1) + 1 by omega, Int.add_mul (kk + 1) 1, Int.one_mul]
      simp [wSs, wS, wEs, wE, ty]
      omega
    have p0 : 0 ≤ (kk + 1) * (3 + wSs a) := Int.mul_nonneg (by omega) (by omega)
    have p1 : (kk + 1) * (3 + wSs a) ≤ 32 * 303 := Int.mul_le_mul (by omega) (by omega) (by omega) (by omega)
    have d1 : ∀ m, dSs [.mk 4 ⟨#[]⟩ [] [.mk 1 1 ⟨#[]⟩ 0 []] m 0 a []] ≤ 5 := by intro m; simp only [dSs, dS]; omega
    have x1 : ∀ m, xSs [.mk 4 ⟨#[]⟩ [] [.mk 1 1 ⟨#[]⟩ 0 []] m 0 a []] ≤ 4 := by intro m; simp only [xSs, xS, dEs, dE]; omega
    have z1 : ∀ m, zSs [.mk 4 ⟨#[]⟩ [] [.mk 1 1 ⟨#[]⟩ 0 []] m 0 a []] ≤ 40000 := by intro m; simp only [zSs, zS, wEs, wE]; omega
    have bl1 : ((labSs wantP (a ++ b)).length : Int) = (labSs wantP a).length + (labSs wantP b).length := by rw [labSs_append, List.length_append]; omega
    have lla := labSs_len wantP a
    have llb := labSs_len wantP b
    refine Weight_e _ (a ++ b) _ (by simp only [forgets, forget, pvSs, pvS, pvEs, pvE, forgets_Ss, forgets_append, pvSs_append, vi, vs]) σ4 _ (by omega) (by omega) (by omega) (by omega) ?_
    simp (config := { maxSteps := 4000000 }) (disch := omega) only [pvK, pvB, sCw1W_3, reduceIte, Nat.reduceEqDiff, Nat.reduceAdd, Nat.reduceSub, Nat.reduceMul, Nat.reduceLT, Nat.reduceLeDiff, Nat.reduceBEq, reduceCtorEq, Int.reduceAdd, Int.reduceSub, Int.reduceMul, Int.reduceLT, Int.reduceLE, Int.reduceEq, Int.reduceToNat, Int.reduceNeg, Nat.reduceBNe, Int.reduceBEq, Int.reduceBNe, Int.reduceGT, Int.reduceGE, Int.reduceTMod, Bool.not_true, Bool.not_false, forall_const, eq_self, decide_true, decide_false]
    refine Weight_e _ a _ (by simp only [forgets, forget, pvSs, pvS, pvEs, pvE, forgets_Ss, forgets_append, pvSs_append, vi, vs]) σ4 _ (by omega) (by omega) (by omega) (by omega) ?_
    simp (config := { maxSteps := 4000000 }) (disch := omega) only [pvK, pvB, sCw1W_3, reduceIte, Nat.reduceEqDiff, Nat.reduceAdd, Nat.reduceSub, Nat.reduceMul, Nat.reduceLT, Nat.reduceLeDiff, Nat.reduceBEq, reduceCtorEq, Int.reduceAdd, Int.reduceSub, Int.reduceMul, Int.reduceLT, Int.reduceLE, Int.reduceEq, Int.reduceToNat, Int.reduceNeg, Nat.reduceBNe, Int.reduceBEq, Int.reduceBNe, Int.reduceGT, Int.reduceGE, Int.reduceTMod, Bool.not_true, Bool.not_false, forall_const, eq_self, decide_true, decide_false]
    refine Weight_e _ b _ (by simp only [forgets, forget, pvSs, pvS, pvEs, pvE, forgets_Ss, forgets_append, pvSs_append, vi, vs]) σ4 _ (by omega) (by omega) (by omega) (by omega) ?_
    have b1 : (wSs (a ++ b) == wSs a + wSs b) = true := by simpa using wA
    simp (config := { maxSteps := 4000000 }) (disch := omega) only [pvK, pvB, sCw1W_3, reduceIte, Nat.reduceEqDiff, Nat.reduceAdd, Nat.reduceSub, Nat.reduceMul, Nat.reduceLT, Nat.reduceLeDiff, Nat.reduceBEq, reduceCtorEq, Int.reduceAdd, Int.reduceSub, Int.reduceMul, Int.reduceLT, Int.reduceLE, Int.reduceEq, Int.reduceToNat, Int.reduceNeg, Nat.reduceBNe, Int.reduceBEq, Int.reduceBNe, Int.reduceGT, Int.reduceGE, Int.reduceTMod, Bool.not_true, Bool.not_false, forall_const, eq_self, decide_true, decide_false, b1]
    refine Weight_e _ _ _ (by simp only [forgets, forget, pvSs, pvS, pvEs, pvE, forgets_Ss, forgets_append, pvSs_append, vi, vs]) σ4 _ (Nat.le_trans (d1 (kk + 1)) (by omega)) (Nat.le_trans (x1 (kk + 1)) (by omega)) (Int.lt_of_le_of_lt (z1 (kk + 1)) (by omega)) (by omega) ?_
    simp (config := { maxSteps := 4000000 }) (disch := omega) only [pvK, pvB, sCw1W_3, reduceIte, Nat.reduceEqDiff, Nat.reduceAdd, Nat.reduceSub, Nat.reduceMul, Nat.reduceLT, Nat.reduceLeDiff, Nat.reduceBEq, reduceCtorEq, Int.reduceAdd, Int.reduceSub, Int.reduceMul, Int.reduceLT, Int.reduceLE, Int.reduceEq, Int.reduceToNat, Int.reduceNeg, Nat.reduceBNe, Int.reduceBEq, Int.reduceBNe, Int.reduceGT, Int.reduceGE, Int.reduceTMod, Bool.not_true, Bool.not_false, forall_const, eq_self, decide_true, decide_false, hy]
    refine Weight_e _ _ _ (by simp only [forgets, forget, pvSs, pvS, pvEs, pvE, forgets_Ss, forgets_append, pvSs_append, vi, vs]) σ4 _ (Nat.le_trans (d1 kk) (by omega)) (Nat.le_trans (x1 kk) (by omega)) (Int.lt_of_le_of_lt (z1 kk) (by omega)) (by omega) ?_
    simp (config := { maxSteps := 4000000 }) (disch := omega) only [pvK, pvB, sCw1W_3, reduceIte, Nat.reduceEqDiff, Nat.reduceAdd, Nat.reduceSub, Nat.reduceMul, Nat.reduceLT, Nat.reduceLeDiff, Nat.reduceBEq, reduceCtorEq, Int.reduceAdd, Int.reduceSub, Int.reduceMul, Int.reduceLT, Int.reduceLE, Int.reduceEq, Int.reduceToNat, Int.reduceNeg, Nat.reduceBNe, Int.reduceBEq, Int.reduceBNe, Int.reduceGT, Int.reduceGE, Int.reduceTMod, Bool.not_true, Bool.not_false, forall_const, eq_self, decide_true, decide_false, hx]
    refine Weight_e _ a _ (by simp only [forgets, forget, pvSs, pvS, pvEs, pvE, forgets_Ss, forgets_append, pvSs_append, vi, vs]) σ4 _ (by omega) (by omega) (by omega) (by omega) ?_
    generalize hpr : (kk + 1) * (3 + wSs a) = pr at p0 p1 hx hy ⊢
    have b2 : (2 + pr + (3 + wSs a) - (2 + pr) == 3 + wSs a) = true := by simp; omega
    simp (config := { maxSteps := 4000000 }) (disch := omega) only [pvK, pvB, sCw1W_3, reduceIte, Nat.reduceEqDiff, Nat.reduceAdd, Nat.reduceSub, Nat.reduceMul, Nat.reduceLT, Nat.reduceLeDiff, Nat.reduceBEq, reduceCtorEq, Int.reduceAdd, Int.reduceSub, Int.reduceMul, Int.reduceLT, Int.reduceLE, Int.reduceEq, Int.reduceToNat, Int.reduceNeg, Nat.reduceBNe, Int.reduceBEq, Int.reduceBNe, Int.reduceGT, Int.reduceGE, Int.reduceTMod, Bool.not_true, Bool.not_false, forall_const, eq_self, decide_true, decide_false, b2]
    refine Weight_e _ _ _ (by simp only [forgets, forget, pvSs, pvS, pvEs, pvE, forgets_Ss, forgets_append, pvSs_append, vi, vs]) σ4 _ (Nat.le_trans (d1 kk) (by omega)) (Nat.le_trans (x1 kk) (by omega)) (Int.lt_of_le_of_lt (z1 kk) (by omega)) (by omega) ?_
    simp (config := { maxSteps := 4000000 }) (disch := omega) only [pvK, pvB, sCw1W_3, reduceIte, Nat.reduceEqDiff, Nat.reduceAdd, Nat.reduceSub, Nat.reduceMul, Nat.reduceLT, Nat.reduceLeDiff, Nat.reduceBEq, reduceCtorEq, Int.reduceAdd, Int.reduceSub, Int.reduceMul, Int.reduceLT, Int.reduceLE, Int.reduceEq, Int.reduceToNat, Int.reduceNeg, Nat.reduceBNe, Int.reduceBEq, Int.reduceBNe, Int.reduceGT, Int.reduceGE, Int.reduceTMod, Bool.not_true, Bool.not_false, forall_const, eq_self, decide_true, decide_false, hx]
    refine Weight_e _ a _ (by simp only [forgets, forget, pvSs, pvS, pvEs, pvE, forgets_Ss, forgets_append, pvSs_append, vi, vs]) σ4 _ (by omega) (by omega) (by omega) (by omega) ?_
    simp (config := { maxSteps := 4000000 }) (disch := omega) only [pvK, pvB, sCw1W_3, reduceIte, Nat.reduceEqDiff, Nat.reduceAdd, Nat.reduceSub, Nat.reduceMul, Nat.reduceLT, Nat.reduceLeDiff, Nat.reduceBEq, reduceCtorEq, Int.reduceAdd, Int.reduceSub, Int.reduceMul, Int.reduceLT, Int.reduceLE, Int.reduceEq, Int.reduceToNat, Int.reduceNeg, Nat.reduceBNe, Int.reduceBEq, Int.reduceBNe, Int.reduceGT, Int.reduceGE, Int.reduceTMod, Bool.not_true, Bool.not_false, forall_const, eq_self, decide_true, decide_false, hpr]
    refine Labels_e _ (a ++ b) _ (by simp only [forgets, forget, pvSs, pvS, pvEs, pvE, forgets_Ss, forgets_append, pvSs_append, vi, vs]) σ4 _ (by omega) (by omega) ?_
    simp (config := { maxSteps := 4000000 }) (disch := omega) only [pvK, pvB, sCw1W_3, reduceIte, Nat.reduceEqDiff, Nat.reduceAdd, Nat.reduceSub, Nat.reduceMul, Nat.reduceLT, Nat.reduceLeDiff, Nat.reduceBEq, reduceCtorEq, Int.reduceAdd, Int.reduceSub, Int.reduceMul, Int.reduceLT, Int.reduceLE, Int.reduceEq, Int.reduceToNat, Int.reduceNeg, Nat.reduceBNe, Int.reduceBEq, Int.reduceBNe, Int.reduceGT, Int.reduceGE, Int.reduceTMod, Bool.not_true, Bool.not_false, forall_const, eq_self, decide_true, decide_false]
    refine Labels_e _ a _ (by simp only [forgets, forget, pvSs, pvS, pvEs, pvE, forgets_Ss, forgets_append, pvSs_append, vi, vs]) σ4 _ (by omega) (by omega) ?_
    simp (config := { maxSteps := 4000000 }) (disch := omega) only [pvK, pvB, sCw1W_3, reduceIte, Nat.reduceEqDiff, Nat.reduceAdd, Nat.reduceSub, Nat.reduceMul, Nat.reduceLT, Nat.reduceLeDiff, Nat.reduceBEq, reduceCtorEq, Int.reduceAdd, Int.reduceSub, Int.reduceMul, Int.reduceLT, Int.reduceLE, Int.reduceEq, Int.reduceToNat, Int.reduceNeg, Nat.reduceBNe, Int.reduceBEq, Int.reduceBNe, Int.reduceGT, Int.reduceGE, Int.reduceTMod, Bool.not_true, Bool.not_false, forall_const, eq_self, decide_true, decide_false]
    refine Labels_e _ b _ (by simp only [forgets, forget, pvSs, pvS, pvEs, pvE, forgets_Ss, forgets_append, pvSs_append, vi, vs]) σ4 _ (by omega) (by omega) ?_
    have b3 : (((labSs wantP (a ++ b)).length : Int) == (labSs wantP a).length + (labSs wantP b).length) = true := by simpa using bl1
    simp (config := { maxSteps := 4000000 }) (disch := omega) only [pvK, pvB, sCw1W_3, reduceIte, Nat.reduceEqDiff, Nat.reduceAdd, Nat.reduceSub, Nat.reduceMul, Nat.reduceLT, Nat.reduceLeDiff, Nat.reduceBEq, reduceCtorEq, Int.reduceAdd, Int.reduceSub, Int.reduceMul, Int.reduceLT, Int.reduceLE, Int.reduceEq, Int.reduceToNat, Int.reduceNeg, Nat.reduceBNe, Int.reduceBEq, Int.reduceBNe, Int.reduceGT, Int.reduceGE, Int.reduceTMod, Bool.not_true, Bool.not_false, forall_const, eq_self, decide_true, decide_false, b3]
    refine awake_c σ4 _ ?_
    simp (config := { maxSteps := 4000000 }) (disch := omega) only [pvK, pvB, sCw1W_3, reduceIte, Nat.reduceEqDiff, Nat.reduceAdd, Nat.reduceSub, Nat.reduceMul, Nat.reduceLT, Nat.reduceLeDiff, Nat.reduceBEq, reduceCtorEq, Int.reduceAdd, Int.reduceSub, Int.reduceMul, Int.reduceLT, Int.reduceLE, Int.reduceEq, Int.reduceToNat, Int.reduceNeg, Nat.reduceBNe, Int.reduceBEq, Int.reduceBNe, Int.reduceGT, Int.reduceGE, Int.reduceTMod, Bool.not_true, Bool.not_false, forall_const, eq_self, decide_true, decide_false]
    exact ⟨σ4, .refl _, hK σ4⟩
  · simp (config := { maxSteps := 4000000 }) (disch := omega) only [pvK, pvB, sCw1W_3, reduceIte, Nat.reduceEqDiff, Nat.reduceAdd, Nat.reduceSub, Nat.reduceMul, Nat.reduceLT, Nat.reduceLeDiff, Nat.reduceBEq, reduceCtorEq, Int.reduceAdd, Int.reduceSub, Int.reduceMul, Int.reduceLT, Int.reduceLE, Int.reduceEq, Int.reduceToNat, Int.reduceNeg, Nat.reduceBNe, Int.reduceBEq, Int.reduceBNe, Int.reduceGT, Int.reduceGE, Int.reduceTMod, Bool.not_true, Bool.not_false, forall_const, eq_self, decide_true, decide_false, hl]
    refine awake_c σ _ ?_
    simp (config := { maxSteps := 4000000 }) (disch := omega) only [pvK, pvB, sCw1W_3, reduceIte, Nat.reduceEqDiff, Nat.reduceAdd, Nat.reduceSub, Nat.reduceMul, Nat.reduceLT, Nat.reduceLeDiff, Nat.reduceBEq, reduceCtorEq, Int.reduceAdd, Int.reduceSub, Int.reduceMul, Int.reduceLT, Int.reduceLE, Int.reduceEq, Int.reduceToNat, Int.reduceNeg, Nat.reduceBNe, Int.reduceBEq, Int.reduceBNe, Int.reduceGT, Int.reduceGE, Int.reduceTMod, Bool.not_true, Bool.not_false, forall_const, eq_self, decide_true, decide_false]
    exact ⟨σ, .refl _, hK σ⟩
end Go.Pv.W
-- PvRow
namespace Go.Pv
open Go Go.RowKit
/-! ### from a walk to a row -/
/-- All cells of a world are settled. -/
def G0 (W : World) : Sett := ⟨fun b o => W.cell? ⟨b, o, none⟩, fun _ => none⟩
def S0 (gl : Nat → Option (List PV)) : St := ⟨fun _ => none, fun _ => none, gl⟩
theorem inv0 (W : World) (gl : Nat → Option (List PV)) (h : ∀ g cs, gl g = some cs → ∃ us, RelL (G0 W) cs us ∧ ∀ (i : Nat) v, us[i]? = some v → (G0 W).cell g i = some v) : Inv (G0 W) (S0 gl) W where
  cell := fun b o v e => e
  size := fun b s e => by cases e
  obj := fun b o e => by cases e
  own := fun b n e => by cases e
  gl := h
theorem calls_true {P : Program} {f : FuncId} {args : List PV} {gl : Nat → Option (List PV)} {W : World} {us : List Value} {K : Res → St → Prop} (h : PCalls P f args (S0 gl) K) (hi : Inv (G0 W) (S0 gl) W) (hr : RelL (G0 W) args us) (hK : ∀ r σ', K r σ' → r = .ret (vb' true)) :
    Calls P f us.toArray W fun e W' => e = .returned (.bool true) ∧ Below W.heap.size W W' := by
  refine (h.2 (G0 W) W us hi hr).mono fun e W' ⟨r, σ', G', k, hrel, hinv, hs⟩ => ?_
  obtain rfl := hK _ _ k
  obtain ⟨u, rfl, hu⟩ := hrel
  have hu : u = .bool true := hu
  subst hu
  refine ⟨rfl, hs.os, hs.tape, hs.output, hs.size, fun b hb => (hs.keep b hb ?_).1⟩
  rintro (q | q) <;> exact q rfl
/-- What a slice of numbers in memory is. -/
def IsRow (k : IntKind) (w : World) (a : Option Addr) (len cap : Nat) (zs : List Int) : Prop :=
  (a = none ∧ len = 0 ∧ cap = 0 ∧ zs = []) ∨
  ∃ x, a = some x ∧ len ≤ cap ∧ cap ≤ maxLen ∧ zs.length = cap ∧ (∀ i, i < zs.length → w.cell? (x.add i) = some (.int k (zs.getD i 0))) ∧ ∀ n ∈ zs, (Lit.int k n).wf = true
theorem relE_ints (G : Sett) (k : IntKind) : ∀ zs : List Int, RelE G 1 (zs.map fun n => .val (.int k n)) (zs.map (Value.int k))
  | [] => rfl
  | z :: zs => ⟨.int k z, zs.map (Value.int k), by simp [Value.cells], ⟨by simp [Value.cells], fun c hc => by simp [Value.cells] at hc; subst hc; rfl⟩, rfl, relE_ints G k zs⟩
theorem row_rel {k : IntKind} {W : World} {a : Option Addr} {len cap : Nat} {zs : List Int} (h : IsRow k W a len cap zs) : Rel (G0 W) (.list .any 1 ((zs.take len).map fun n => .val (.int k n))) (.slice a len cap) := by
  rcases h with ⟨rfl, rfl, rfl, rfl⟩ | ⟨x, rfl, h1, h2, h3, h4, h5⟩
  · exact ⟨none, 0, rfl, Nat.le_refl _, trivial, [], rfl, .inl rfl⟩
  · have hl : ((zs.take len).map fun n => (PV.val (.int k n))).length = len := by simp; omega
    refine ⟨some x, cap, by rw [hl], by rw [hl]; exact h1, trivial, (zs.take len).map (Value.int k), relE_ints _ _ _, ?_⟩
    by_cases h0 : len = 0
    · left; subst h0; rfl
    · right
      refine ⟨x, rfl, ?_⟩
      have hs : x.spot = none := by
        have := h4 0 (by omega)
        unfold World.cell? at this
        split at this
        · split at this
          · cases this
          · rename_i q; simpa [Addr.add] using q
        · cases this
      obtain ⟨b, off, sp⟩ := x
      subst hs
      refine ⟨b, off, rfl, fun i v hv => ?_⟩
      rw [List.getElem?_map] at hv
      have hi : i < len := by
        rcases Nat.lt_or_ge i len with q | q
        · exact q
        · rw [List.getElem?_eq_none (by simp; omega)] at hv; cases hv
      rw [List.getElem?_take, if_pos hi, List.getElem?_eq_getElem (by omega)] at hv
      cases hv
      have := h4 i (by omega)
      rw [List.getD_eq_getElem?_getD, List.getElem?_eq_getElem (by omega), addr_add] at this
      exact this
end Go.Pv
-- CwRowW
namespace Go.Proofs.Ytcnmejahighkfaa.checkWeights
open Go Go.ChangeShapes Go.WideShapes Go.ChangeAt Go.RowKit Go.Pv
theorem own : ownKnob Try.prog.godebug = none := by kernel_rfl
theorem laidOut : laidOutB Try.prog = true := by kernel_rfl
set_option maxRecDepth 100000 in
theorem contract (H : Type) (enc : TypeId × Value → H) (W : World) (base : Nat) (args : Array Value) (ds gs : List (DataW H)) (before : List MemPlace)
    (hval0 : ∀ (j : Nat) t v, Try.f3.params[j]? = some t → args[j]? = some v → Value.okWide Try.prog W .any base t v)
    (hW : DataW.Whole enc Try.prog Try.f3.params.toList Rows.checkWeightsSpec.vars false W args.toList ds gs before) :
    Calls Try.prog 3 args W fun e W' => ∃ v, e = .returned v ∧ Rows.checkWeightsSpec.post enc Try.prog Try.f3 false true false false W args v W' := by
  have hval : ∀ (j : Nat) t v, Try.f3.params[j]? = some t → args[j]? = some v → Value.okWide Try.prog W .any base t v := hval0
  have hW' := hW
  obtain ⟨p, q, hA0, hV, rfl, hfz, hnd⟩ := hW
  have hA : DataW.TrodAll enc Try.prog W 0 (fun _ => true) true Try.f3.params.toList args.toList ds p := hA0
  rw [Try.params3] at hA hval
  obtain ⟨v0, vs0, d0, ds0, p0, q0, hargs, rfl, rfl, h0, r0⟩ := trodAll_cons hA
  obtain ⟨v1, vs1, d1, ds1, p1, q1, rfl, rfl, rfl, h1, r1⟩ := trodAll_cons r0
  obtain ⟨rfl, rfl, rfl⟩ := trodAll_nil r1
  obtain rfl : args = #[v0, v1] := by cases args; simp_all
  obtain ⟨rfl, rfl⟩ := trodVars_none hV
  obtain ⟨a0, len0, cap0, rfl⟩ := okWide_slice Try.underlying22 (hval 0 22 v0 rfl rfl)
  have k0 := h0
  have lt0 : ∀ x ∈ p0, x.block < W.heap.size := by obtain ⟨m, hm⟩ := k0; exact DataW.trod_lt m _ _ _ hm
  obtain ⟨z0, w0⟩ : ∃ zs, Pv.IsRow .i64 W a0 len0 cap0 zs := by
    obtain ⟨fuel, hf⟩ := h0
    rcases open_ints Try.underlying22 Try.underlying3 (by kernel_rfl) hf with ⟨hcs, _⟩ | ⟨x, l, c, zs, hcs, _, hl, hm, hz, _, hcell, hwz⟩
    · simp [Value.cells] at hcs
      obtain ⟨rfl, rfl, rfl⟩ := hcs
      exact ⟨[], .inl ⟨rfl, rfl, rfl, rfl⟩⟩
    · simp [Value.cells] at hcs
      obtain ⟨rfl, rfl, rfl⟩ := hcs
      exact ⟨zs, .inr ⟨_, rfl, hl, hm, by simpa using hz, hcell, hwz⟩⟩
  obtain ⟨m, rfl, rfl, rfl, wm⟩ := open_int Try.underlying5 (hval 1 5 v1 rfl rfl) h1
  have bm := Go.bounds_u8 wm
  clear hA0 hval0
  have hc := Pv.W.checkWeights_c (z0.take len0) m bm (Pv.S0 fun _ => none) (fun r _ => r = .ret (vb' true)) (fun _ => rfl)
  refine (Pv.calls_true hc (Pv.inv0 W _ fun g cs e => by cases e) (us := [.slice a0 len0 cap0, .int .u8 m]) ⟨_, _, rfl, Pv.row_rel w0, _, _, rfl, rfl, rfl⟩ fun r σ' h => h).mono fun e W' ⟨he, bel⟩ => ?_
  subst he
  exact ⟨_, rfl, _, _, _, [], _, [], hW', trodAll_mk1 (shut_bool Try.underlying4 _), (trodAll_cons_mk (Below.trod laidOut (by kernel_rfl) (of_decide_eq_true (by kernel_rfl)) k0 bel lt0) (trodAll_cons_mk (shut_int Try.underlying5 wm) trodAll_mk0)), rfl, bel.frame _, fun h => by cases h⟩
theorem laid_met (os : Os) : laidMet Try.prog Rows.checkWeightsRow.laid ((World.holding Try.prog os ⟨#[], #[], []⟩).forCall (fun _ _ => 0) ⟨#[], #[.slice none 0 0, .int .u8 0], []⟩).memory := laidMet_of_run' 8 (by kernel_rfl) (by kernel_rfl)
theorem reads (os : Os) {H : Type} (enc : TypeId × Value → H) : DataW.whole enc Try.prog ((World.holding Try.prog os ⟨#[], #[], []⟩).forCall (fun _ _ => 0) ⟨#[], #[.slice none 0 0, .int .u8 0], []⟩).memory Try.f3.params.toList Rows.checkWeightsSpec.vars false #[.slice none 0 0, .int .u8 0].toList 8 = some ([.nil, .lit (.int .u8 0)], [], []) := by kernel_rfl
set_option maxRecDepth 100000 in
theorem lifted (os : Os) (started : os.Started) (H : Type) (enc : TypeId × Value → H) (F : Stop.Interp) :
    ReturnsInHanded {} Try.checked os 3 .any ((OpenSpec.ofChange Rows.checkWeightsSpec).preRow enc Try.prog Try.f3 Rows.checkWeightsRow.domain false Rows.checkWeightsRow.laid) (((OpenSpec.ofChange Rows.checkWeightsSpec).at F).post enc Try.prog Try.f3 false true false false) := by
  have hx := reads os enc
  refine returnsInHanded_of_row (C := Try.checked) (s := OpenSpec.ofChange Rows.checkWeightsSpec) own started (by kernel_rfl) Try.func3
    (witness_row_at (enc := enc) (C := Try.checked) false (World.holding Try.prog os ⟨#[], #[], []⟩) #[.slice none 0 0, .int .u8 0] rfl (by kernel_rfl) (by kernel_rfl) (by kernel_rfl)
      (OpenSpec.preRow_of_cond 8 hx (by kernel_rfl) (fun k hk => by cases hk) (by kernel_rfl) (laid_met os))) ?_
  intro W base args ds gs before hval hW _ _ hsz hL _ _
  exact contract H enc W base args ds gs before hval hW
theorem over : Rows.checkWeightsRow.holds Try.pinned (OpenSpec.ofChange Rows.checkWeightsSpec) :=
  OpenClaim.holds_of_cond 3 Try.f3 rfl rfl rfl rfl rfl rfl rfl ⟨rfl, rfl, rfl, rfl, rfl⟩ rfl rfl rfl rfl rfl (by kernel_rfl) Try.func3 (by kernel_rfl)
    (of_decide_eq_true (by kernel_rfl)) (by unfold Func.isWrapper; first | (rw [if_pos (by decide +kernel)]; kernel_rfl) | (rw [if_neg (by decide +kernel)]; exact ⟨rfl, rfl⟩))
    (fun os started H enc _ F => by rw [OpenClaim.pre_eq_preRow]; exact lifted os started H enc F)
theorem said : Rows.CheckWeightsSaid := over
end Go.Proofs.Ytcnmejahighkfaa.checkWeights
namespace Go.Proofs.Ytcnmejahighkfaa
/-- The statement, under a short name, for the claim. -/
theorem checkWeights_holds : Rows.CheckWeightsSaid := checkWeights.said
end Go.Proofs.Ytcnmejahighkfaa
