/- parse.Expr and the specification of layer 3 read every list of tokens alike -/
import Derived.Orders
import Derived.Below
import Derived.Laws.Sem
import Derived.WalkKit
import Derived.Laws.CopyRow
import Derived.Laws.BytesString
import Derived.MapKept
import Derived.Laws.Append
import Derived.LoopN
import Derived.Test.YtcnmejahighkfaaDoorProg
import Derived.KernelRfl
import Derived.IntWalk
import Derived.OpenShut
import Derived.ProofKit
import Derived.SizedLaws
import Derived.ChangeOld
import Derived.ShutString
import Derived.Deep.DeepHandedRow
import Derived.Deep.DeepWitnessRowRef
import Derived.Lib.SmallJoins
import Derived.Test.YtcnmejahighkfaaDoorRows
import Derived.Test.YtcnmejahighkfaaDoorChecked
import Derived.Test.YtcnmejahighkfaaDoorCards
import Derived.Test.YtcnmejahighkfaaDoorTie
import Derived.Test.YtcnmejahighkfaaDoorPvPe4
set_option autoImplicit false
set_option linter.unusedVariables false
set_option linter.unusedSimpArgs false
set_option linter.defProp false
-- Rp6D
namespace Go.Pv.D
open Go Go.RowKit Go.Proofs Go.Pv
def sRp6D_71 := (And.intro (And.intro (And.intro (And.intro (And.intro (And.intro @q_fld_88_1 @q_slz_0) (And.intro @q_tsz_1 (And.intro @q_slz_1 @q_ifc_1))) (And.intro (And.intro @q_tsz_2 @q_slz_2) (And.intro @q_ifc_2 (And.intro @q_tsz_3 @q_slz_3)))) (And.intro (And.intro (And.intro @q_ifc_3 @q_tsz_4) (And.intro @q_slz_4 (And.intro @q_ifc_4 @q_isb_4))) (And.intro (And.intro @q_tsz_5 @q_slz_5) (And.intro @q_ifc_5 (And.intro @q_tsz_6 @q_slz_6))))) (And.intro (And.intro (And.intro (And.intro @q_ifc_6 @q_tsz_7) (And.intro @q_slz_7 (And.intro @q_ifc_7 @q_tsz_8))) (And.intro (And.intro @q_slz_8 @q_ifc_8) (And.intro @q_tsz_9 (And.intro @q_slz_9 @q_str_9)))) (And.intro (And.intro (And.intro @q_arz_9 @q_ifc_9) (And.intro @q_tsz_10 (And.intro @q_slz_10 @q_str_10))) (And.intro (And.intro @q_arz_10 @q_ifc_10) (And.intro @q_tsz_11 (And.intro @q_slz_11 @q_str_11)))))) (And.intro (And.intro (And.intro (And.intro (And.intro @q_arz_11 @q_ifc_11) (And.intro @q_tsz_12 (And.intro @q_slz_12 @q_ifc_12))) (And.intro (And.intro @q_tsz_13 @q_slz_13) (And.intro @q_ifc_13 (And.intro @q_tsz_14 @q_slz_14)))) (And.intro (And.intro (And.intro @q_ifc_14 @q_tsz_25) (And.intro @q_slz_25 (And.intro @q_str_25 @q_arz_25))) (And.intro (And.intro @q_ifc_25 @q_tsz_27) (And.intro @q_slz_27 (And.intro @q_ifc_27 @q_tsz_34))))) (And.intro (And.intro (And.intro (And.intro @q_slz_34 @q_str_34) (And.intro @q_arz_34 (And.intro @q_ifc_34 @q_tsz_36))) (And.intro (And.intro @q_slz_36 @q_str_36) (And.intro @q_arz_36 (And.intro @q_ifc_36 @q_tsz_86)))) (And.intro (And.intro (And.intro @q_slz_86 @q_ifc_86) (And.intro @q_tsz_88 (And.intro @q_slz_88 @q_ifc_88))) (And.intro (And.intro @q_slz_89 (And.intro @q_zcs_27 @q_bsl_36)) (And.intro @q_bsl_25 (And.intro @q_bsl_34 @q_bld_27)))))))
/-- A reading of a line, at work. -/
def LvI (K : Res → St → Prop) (σ : St) (b : Nat) (kt : Cap) (T : List Tk) (free : Bool) (f k : Nat) (s : Cf) : Prop :=
  ∃ (n d : Nat) (cx : Cap) (x1 x2 : Int) (x3 : ByteArray) (x4 : Int) (x5 : List AE) (a' : Nat) (line e : Int), n ≤ T.length + 1 ∧ d ≤ T.length + f + 1 ∧ a' ≤ T.length ∧
    s = ⟨85, [(0, vp b 0), (1, vi k), (4, .lptr 4 0), (6, .list .full 1 ((opsOf k).map fun p => vs p.1)), (7, .list .full 1 ((opsOf k).map fun p => vi p.2)), (8, .lptr 8 0), (9, vi d), (10, vi n)], [(4, [vi 0, vi 0, vs ⟨#[]⟩, vi 0, .list .full 5 []]), (8, [vi x1, vi x2, vs x3, vi x4, .list cx 5 (pvEs x5)])], σ.set b (.cells (rpC kt T a' line e free))⟩ ∧
    ((∃ f', e = 0 ∧ line = 0 ∧ d = dE (.mk x1 x2 x3 x4 x5) ∧ (0 < k ∨ n = 0) ∧ n ≤ a' ∧ d ≤ a' ∧ f' ≤ f ∧ 5 * (T.length - a') + (3 - k) + 2 ≤ f' ∧ RE K σ b kt T free (T.length + (f + 1)) (mR (fun i => T[i]?) free f' k (.mk x1 x2 x3 x4 x5) a')) ∨
     ((e ≠ 0 ∨ (e = 0 ∧ k = 0 ∧ n = 1)) ∧ K (.ret (.tuple [pvE (.mk x1 x2 x3 x4 x5), vi d])) (σ.set b (.cells (rpC kt T a' line e free)))))
/-- The same, ahead of the loop. -/
def LvJ (K : Res → St → Prop) (σ : St) (b : Nat) (kt : Cap) (T : List Tk) (free : Bool) (f k : Nat) (s : Cf) : Prop :=
  ∃ (x : AE) (d a' : Nat) (line e : Int), d ≤ T.length + f + 1 ∧ a' ≤ T.length ∧
    s = ⟨85, [(0, vp b 0), (1, vi k), (4, .lptr 4 0), (6, .list .full 1 ((opsOf k).map fun p => vs p.1)), (7, .list .full 1 ((opsOf k).map fun p => vi p.2)), (8, .lptr 8 0), (9, vi d)], [(4, [vi 0, vi 0, vs ⟨#[]⟩, vi 0, .list .full 5 []]), (8, match x with | .mk x1 x2 x3 x4 x5 => [vi x1, vi x2, vs x3, vi x4, .list .any 5 (pvEs x5)])], σ.set b (.cells (rpC kt T a' line e free))⟩ ∧
    ((∃ f', e = 0 ∧ line = 0 ∧ d = dE x ∧ d ≤ a' ∧ f' ≤ f ∧ 5 * (T.length - a') + (3 - k) + 2 ≤ f' ∧ RE K σ b kt T free (T.length + (f + 1)) (mR (fun i => T[i]?) free f' k x a')) ∨
     (e ≠ 0 ∧ K (.ret (.tuple [pvE x, vi d])) (σ.set b (.cells (rpC kt T a' line e free)))))
theorem max_e (d e : Nat) : (if (e : Int) > (d : Int) then (e : Int) else (d : Int)) + 1 = ((max d e + 1 : Nat) : Int) := by split <;> omega
theorem nz_e {o : Int} (h : o ≠ 0) : (o != 0) = true := by simp [h]
set_option maxHeartbeats 32000000 in
set_option maxRecDepth 100000 in
theorem level_of (kt : Cap) (T : List Tk) (free : Bool) (b f : Nat) (hT : T.length < 1000000) (hff : f < 10000000) (ihL : ∀ f', f' ≤ f → LevelC kt T free b f') (ihF : FactorC kt T free b f) : LevelC kt T free b (f + 1) := by
  intro k a σ K hk ha hf h hK
  rw [mL_s] at hK
  refine PCalls.forgetR ?_
  by_cases hk3 : k = 3
  · subst hk3
    rw [if_pos (by omega)] at hK
    have c3 : ((3 : Nat) : Int) = 3 := rfl
    refine PCalls.of_body (tOk Tryd.prog) (by kernel_rfl) Tryd.func71 rfl (by kernel_rfl) [] [] (by kernel_rfl) (n := 85) (by kernel_rfl) (by kernel_rfl) (rs := [.cell 4 27, .tmp 5]) (by kernel_rfl) ?_
    simp (config := { maxSteps := 4000000 }) (disch := omega) only [pvK, pvB, sRp6D_71, reduceIte, Nat.reduceEqDiff, Nat.reduceAdd, Nat.reduceSub, Nat.reduceMul, Nat.reduceLT, Nat.reduceLeDiff, Nat.reduceBEq, reduceCtorEq, Int.reduceAdd, Int.reduceSub, Int.reduceMul, Int.reduceLT, Int.reduceLE, Int.reduceEq, Int.reduceToNat, Int.reduceNeg, Nat.reduceBNe, Int.reduceBEq, Int.reduceBNe, Int.reduceGT, Int.reduceGE, Int.reduceTMod, Bool.false_eq_true, Bool.not_true, Bool.not_false, forall_const, eq_self, decide_true, decide_false, rpC, c3]
    refine ihF a σ _ ha (by omega) h ?_
    cases hm : mF (fun i => T[i]?) free f a with
    | error ec =>
      obtain ⟨i, c⟩ := ec
      rw [hm] at hK
      intro x d a' h1 h2
      have fx := forget_E x
      obtain ⟨x1, x2, x3, x4, x5⟩ := x
      simp (config := { maxSteps := 4000000 }) (disch := omega) only [pvK, pvB, sRp6D_71, reduceIte, Nat.reduceEqDiff, Nat.reduceAdd, Nat.reduceSub, Nat.reduceMul, Nat.reduceLT, Nat.reduceLeDiff, Nat.reduceBEq, reduceCtorEq, Int.reduceAdd, Int.reduceSub, Int.reduceMul, Int.reduceLT, Int.reduceLE, Int.reduceEq, Int.reduceToNat, Int.reduceNeg, Nat.reduceBNe, Int.reduceBEq, Int.reduceBNe, Int.reduceGT, Int.reduceGE, Int.reduceTMod, Bool.false_eq_true, Bool.not_true, Bool.not_false, forall_const, eq_self, decide_true, decide_false, rpC, fx]
      refine ⟨_, .refl _, ?_⟩
      have hh := hK (.mk x1 x2 x3 x4 x5) d a' (by omega) h2
      simp only [Res.forget, forget, forgets, pvE, pvEs, binE, numE, nameE, indexE, zeroE, vi, vs, vb', rpC, forgets_Es, forget_E] at hh ⊢
      exact hh
    | ok xp =>
      obtain ⟨x, p⟩ := xp
      rw [hm] at hK
      simp only [RE] at hK ⊢
      have fx := forget_E x
      obtain ⟨x1, x2, x3, x4, x5⟩ := x
      simp (config := { maxSteps := 4000000 }) (disch := omega) only [pvK, pvB, sRp6D_71, reduceIte, Nat.reduceEqDiff, Nat.reduceAdd, Nat.reduceSub, Nat.reduceMul, Nat.reduceLT, Nat.reduceLeDiff, Nat.reduceBEq, reduceCtorEq, Int.reduceAdd, Int.reduceSub, Int.reduceMul, Int.reduceLT, Int.reduceLE, Int.reduceEq, Int.reduceToNat, Int.reduceNeg, Nat.reduceBNe, Int.reduceBEq, Int.reduceBNe, Int.reduceGT, Int.reduceGE, Int.reduceTMod, Bool.false_eq_true, Bool.not_true, Bool.not_false, forall_const, eq_self, decide_true, decide_false, rpC, fx]
      refine ⟨_, .refl _, ?_⟩
      have hh := hK
      simp only [Res.forget, forget, forgets, pvE, pvEs, binE, numE, nameE, indexE, zeroE, vi, vs, vb', rpC, forgets_Es, forget_E] at hh ⊢
      exact hh
  · rw [if_neg (by omega)] at hK
    refine PCalls.of_pieces (tOk Tryd.prog) Tryd.func71 rfl (by kernel_rfl) (n := 85) (by kernel_rfl) (by kernel_rfl) (rs := [.cell 4 27, .tmp 5]) (by kernel_rfl) ?_
    refine swp_cut (tOk Tryd.prog) (by kernel_rfl) [] [] 3 (fun s => s = ⟨85, [(0, vp b 0), (1, vi k), (4, .lptr 4 0), (6, .list .full 1 ((opsOf k).map fun p => vs p.1)), (7, .list .full 1 ((opsOf k).map fun p => vi p.2))], [(4, [vi 0, vi 0, vs ⟨#[]⟩, vi 0, .list .full 5 []])], σ⟩) (by kernel_rfl) ?_ ?_
    · dsimp only [cutL]
      have hk3 : k = 0 ∨ k = 1 ∨ k = 2 := by omega
      rcases hk3 with rfl | rfl | rfl
      · simp (config := { maxSteps := 4000000 }) (disch := omega) only [pvK, pvB, sRp6D_71, reduceIte, Nat.reduceEqDiff, Nat.reduceAdd, Nat.reduceSub, Nat.reduceMul, Nat.reduceLT, Nat.reduceLeDiff, Nat.reduceBEq, reduceCtorEq, Int.reduceAdd, Int.reduceSub, Int.reduceMul, Int.reduceLT, Int.reduceLE, Int.reduceEq, Int.reduceToNat, Int.reduceNeg, Nat.reduceBNe, Int.reduceBEq, Int.reduceBNe, Int.reduceGT, Int.reduceGE, Int.reduceTMod, Bool.false_eq_true, Bool.not_true, Bool.not_false, forall_const, eq_self, decide_true, decide_false, kjoin_norm, kjoin_exit, kjoin_ret, kjoin_panic, cast_1, cast_2]
        exact ⟨_, less_env rfl (less_env rfl (less_env rfl (less_env rfl (less_env rfl (less_loc rfl (less_nil (.refl _))))))), rfl⟩
      · simp (config := { maxSteps := 4000000 }) (disch := omega) only [pvK, pvB, sRp6D_71, reduceIte, Nat.reduceEqDiff, Nat.reduceAdd, Nat.reduceSub, Nat.reduceMul, Nat.reduceLT, Nat.reduceLeDiff, Nat.reduceBEq, reduceCtorEq, Int.reduceAdd, Int.reduceSub, Int.reduceMul, Int.reduceLT, Int.reduceLE, Int.reduceEq, Int.reduceToNat, Int.reduceNeg, Nat.reduceBNe, Int.reduceBEq, Int.reduceBNe, Int.reduceGT, Int.reduceGE, Int.reduceTMod, Bool.false_eq_true, Bool.not_true, Bool.not_false, forall_const, eq_self, decide_true, decide_false, kjoin_norm, kjoin_exit, kjoin_ret, kjoin_panic, cast_1, cast_2]
        exact ⟨_, less_env rfl (less_env rfl (less_env rfl (less_env rfl (less_env rfl (less_loc rfl (less_nil (.refl _))))))), rfl⟩
      · simp (config := { maxSteps := 4000000 }) (disch := omega) only [pvK, pvB, sRp6D_71, reduceIte, Nat.reduceEqDiff, Nat.reduceAdd, Nat.reduceSub, Nat.reduceMul, Nat.reduceLT, Nat.reduceLeDiff, Nat.reduceBEq, reduceCtorEq, Int.reduceAdd, Int.reduceSub, Int.reduceMul, Int.reduceLT, Int.reduceLE, Int.reduceEq, Int.reduceToNat, Int.reduceNeg, Nat.reduceBNe, Int.reduceBEq, Int.reduceBNe, Int.reduceGT, Int.reduceGE, Int.reduceTMod, Bool.false_eq_true, Bool.not_true, Bool.not_false, forall_const, eq_self, decide_true, decide_false, kjoin_norm, kjoin_exit, kjoin_ret, kjoin_panic, cast_1, cast_2]
        exact ⟨_, less_env rfl (less_env rfl (less_env rfl (less_env rfl (less_env rfl (less_loc rfl (less_nil (.refl _))))))), rfl⟩
    · rintro s rfl
      dsimp only [cutR]
      have e1 : ((k : Int) + 1) = ((k + 1 : Nat) : Int) := by omega
      refine swp_cut (tOk Tryd.prog) (by kernel_rfl) [] [] 1 (LvJ K σ b kt T free f k) (by kernel_rfl) ?_ ?_
      · dsimp only [cutL]
        simp (config := { maxSteps := 4000000 }) (disch := omega) only [pvK, pvB, sRp6D_71, reduceIte, Nat.reduceEqDiff, Nat.reduceAdd, Nat.reduceSub, Nat.reduceMul, Nat.reduceLT, Nat.reduceLeDiff, Nat.reduceBEq, reduceCtorEq, Int.reduceAdd, Int.reduceSub, Int.reduceMul, Int.reduceLT, Int.reduceLE, Int.reduceEq, Int.reduceToNat, Int.reduceNeg, Nat.reduceBNe, Int.reduceBEq, Int.reduceBNe, Int.reduceGT, Int.reduceGE, Int.reduceTMod, Bool.false_eq_true, Bool.not_true, Bool.not_false, forall_const, eq_self, decide_true, decide_false, rpC, e1, kjoin_norm, kjoin_exit, kjoin_ret, kjoin_panic]
        refine ihL f (Nat.le_refl _) (k + 1) a σ _ (by omega) ha (by omega) h ?_
        cases hm : mL (fun i => T[i]?) free f (k + 1) a with
        | error ec =>
          obtain ⟨i, c⟩ := ec
          rw [hm] at hK
          have hc := (m_code _ _ f).1 _ _ _ _ hm
          intro x d a' h1 h2
          have hI : LvJ K σ b kt T free f k _ := ⟨x, d, a', lineAt T i, c, by omega, h2, rfl, .inr ⟨hc, hK x d a' (by omega) h2⟩⟩
          have fx := forget_E x
          obtain ⟨x1, x2, x3, x4, x5⟩ := x
          simp (config := { maxSteps := 4000000 }) (disch := omega) only [pvK, pvB, sRp6D_71, reduceIte, Nat.reduceEqDiff, Nat.reduceAdd, Nat.reduceSub, Nat.reduceMul, Nat.reduceLT, Nat.reduceLeDiff, Nat.reduceBEq, reduceCtorEq, Int.reduceAdd, Int.reduceSub, Int.reduceMul, Int.reduceLT, Int.reduceLE, Int.reduceEq, Int.reduceToNat, Int.reduceNeg, Nat.reduceBNe, Int.reduceBEq, Int.reduceBNe, Int.reduceGT, Int.reduceGE, Int.reduceTMod, Bool.false_eq_true, Bool.not_true, Bool.not_false, forall_const, eq_self, decide_true, decide_false, rpC, fx, kjoin_norm, kjoin_exit, kjoin_ret, kjoin_panic]
          exact ⟨_, less_env rfl (less_env rfl (less_env rfl (less_env rfl (less_env rfl (less_env rfl (less_env rfl (less_loc rfl (less_loc rfl (less_nil (.refl _)))))))))), hI⟩
        | ok xp =>
          obtain ⟨x, p⟩ := xp
          rw [hm] at hK
          have gp := (m_go _ _ f).1 _ _ _ _ hm
          have hp := m_le (T := T) (fr := free) (f := f) (e := x) gp
          have hdx := (m_deep _ _ f).1 _ _ _ _ hm
          simp only at hK
          have hI : LvJ K σ b kt T free f k _ := ⟨x, dE x, p, 0, 0, by omega, hp, rfl, .inl ⟨f, rfl, rfl, rfl, by omega, Nat.le_refl _, by omega, hK⟩⟩
          simp only [RE]
          have fx := forget_E x
          generalize dE x = dx at *
          obtain ⟨x1, x2, x3, x4, x5⟩ := x
          simp (config := { maxSteps := 4000000 }) (disch := omega) only [pvK, pvB, sRp6D_71, reduceIte, Nat.reduceEqDiff, Nat.reduceAdd, Nat.reduceSub, Nat.reduceMul, Nat.reduceLT, Nat.reduceLeDiff, Nat.reduceBEq, reduceCtorEq, Int.reduceAdd, Int.reduceSub, Int.reduceMul, Int.reduceLT, Int.reduceLE, Int.reduceEq, Int.reduceToNat, Int.reduceNeg, Nat.reduceBNe, Int.reduceBEq, Int.reduceBNe, Int.reduceGT, Int.reduceGE, Int.reduceTMod, Bool.false_eq_true, Bool.not_true, Bool.not_false, forall_const, eq_self, decide_true, decide_false, rpC, fx, kjoin_norm, kjoin_exit, kjoin_ret, kjoin_panic]
          exact ⟨_, less_env rfl (less_env rfl (less_env rfl (less_env rfl (less_env rfl (less_env rfl (less_env rfl (less_loc rfl (less_loc rfl (less_nil (.refl _)))))))))), hI⟩
      · rintro s ⟨x, d, a', line, e, hd, ha', rfl, hJ⟩
        dsimp only [cutR]
        refine swp_of (tOk Tryd.prog) (by kernel_rfl) [] [] (by kernel_rfl) ?_
        obtain ⟨x1, x2, x3, x4, x5⟩ := x
        simp (config := { maxSteps := 4000000 }) (disch := omega) only [pvK, pvB, sRp6D_71, reduceIte, Nat.reduceEqDiff, Nat.reduceAdd, Nat.reduceSub, Nat.reduceMul, Nat.reduceLT, Nat.reduceLeDiff, Nat.reduceBEq, reduceCtorEq, Int.reduceAdd, Int.reduceSub, Int.reduceMul, Int.reduceLT, Int.reduceLE, Int.reduceEq, Int.reduceToNat, Int.reduceNeg, Nat.reduceBNe, Int.reduceBEq, Int.reduceBNe, Int.reduceGT, Int.reduceGE, Int.reduceTMod, Bool.false_eq_true, Bool.not_true, Bool.not_false, forall_const, eq_self, decide_true, decide_false, rpC]
        refine loop_rule (LvI K σ b kt T free f k) (fun s => (T.length + 2 - ival (get s.env 10)).toNat) ?_ ?_
        · refine ⟨_, ?_, 0, d, .any, x1, x2, x3, x4, x5, a', line, e, by omega, hd, ha', rfl, ?_⟩
          · exact less_env rfl (less_env rfl (less_env rfl (less_env rfl (less_env rfl (less_env rfl (less_env rfl (less_env rfl (less_loc rfl (less_loc rfl (less_nil (.refl _)))))))))))
          · rcases hJ with ⟨f', q1, q2, q3, q4, q5, q6, q7⟩ | ⟨q1, q2⟩
            · exact .inl ⟨f', q1, q2, q3, .inr rfl, Nat.zero_le _, q4, q5, q6, q7⟩
            · exact .inr ⟨.inl q1, q2⟩
        · clear hJ hd ha'
          rintro s ⟨n, d, cx, x1, x2, x3, x4, x5, a', line, e, hn, hd, ha', rfl, hJ⟩ R hR
          rcases hJ with ⟨f', rfl, rfl, hdx, hkn, hna, hda, hff', hme, hRE⟩ | ⟨he, hKK⟩
          · obtain ⟨f'', rfl⟩ : ∃ f'', f' = f'' + 1 := ⟨f' - 1, by omega⟩
            rw [mR_s] at hRE
            simp (config := { maxSteps := 4000000 }) (disch := omega) only [pvK, pvB, sRp6D_71, reduceIte, Nat.reduceEqDiff, Nat.reduceAdd, Nat.reduceSub, Nat.reduceMul, Nat.reduceLT, Nat.reduceLeDiff, Nat.reduceBEq, reduceCtorEq, Int.reduceAdd, Int.reduceSub, Int.reduceMul, Int.reduceLT, Int.reduceLE, Int.reduceEq, Int.reduceToNat, Int.reduceNeg, Nat.reduceBNe, Int.reduceBEq, Int.reduceBNe, Int.reduceGT, Int.reduceGE, Int.reduceTMod, Bool.false_eq_true, Bool.not_true, Bool.not_false, forall_const, eq_self, decide_true, decide_false, rpC]
            refine rnext_c b kt T a' 0 0 free (opsOf k) (by have := ops_len k; omega) .full .full _ (obj_set _ _ _) _ ?_
            rw [if_pos rfl, opL_at]
            by_cases ho : opAt k T[a']? = 0
            · rw [if_pos ho] at hRE
              simp only [RE] at hRE
              rw [← hdx] at hRE
              simp (config := { maxSteps := 4000000 }) (disch := omega) only [pvK, pvB, sRp6D_71, reduceIte, Nat.reduceEqDiff, Nat.reduceAdd, Nat.reduceSub, Nat.reduceMul, Nat.reduceLT, Nat.reduceLeDiff, Nat.reduceBEq, reduceCtorEq, Int.reduceAdd, Int.reduceSub, Int.reduceMul, Int.reduceLT, Int.reduceLE, Int.reduceEq, Int.reduceToNat, Int.reduceNeg, Nat.reduceBNe, Int.reduceBEq, Int.reduceBNe, Int.reduceGT, Int.reduceGE, Int.reduceTMod, Bool.false_eq_true, Bool.not_true, Bool.not_false, forall_const, eq_self, decide_true, decide_false, rpC, ho, e0f]
              refine ⟨_, .refl _, ?_⟩
              have hh := hRE
              simp only [Res.forget, forget, forgets, pvE, pvEs, binE, numE, nameE, indexE, zeroE, vi, vs, vb', rpC, forgets_Es, forget_E] at hh ⊢
              exact hh
            · rw [if_neg ho] at hRE
              have hpl : a' < T.length := by
                cases q : T[a']? with
                | none => rw [q] at ho; exact absurd rfl ho
                | some u => exact tok_some q
              have ep : ((a' : Int) + 1) = ((a' + 1 : Nat) : Int) := by omega
              have en : ((n : Int) + 1) = ((n + 1 : Nat) : Int) := by omega
              have hg : ((k : Int) > 0) = True ∨ (((k : Int) > 0) = False ∧ (((n : Int) == 0) = true)) := by
                rcases hkn with q | q
                · exact .inl (eq_true (by omega))
                · by_cases z : 0 < k
                  · exact .inl (eq_true (by omega))
                  · exact .inr ⟨eq_false (by omega), by subst q; rfl⟩
              rcases hg with hg | ⟨hg, hn0⟩
              · skip
                simp (config := { maxSteps := 4000000 }) (disch := omega) only [pvK, pvB, sRp6D_71, reduceIte, Nat.reduceEqDiff, Nat.reduceAdd, Nat.reduceSub, Nat.reduceMul, Nat.reduceLT, Nat.reduceLeDiff, Nat.reduceBEq, reduceCtorEq, Int.reduceAdd, Int.reduceSub, Int.reduceMul, Int.reduceLT, Int.reduceLE, Int.reduceEq, Int.reduceToNat, Int.reduceNeg, Nat.reduceBNe, Int.reduceBEq, Int.reduceBNe, Int.reduceGT, Int.reduceGE, Int.reduceTMod, Bool.false_eq_true, Bool.not_true, Bool.not_false, forall_const, eq_self, decide_true, decide_false, rpC, nz_e ho, hg]
                refine rnext_c b kt T a' 0 0 free (opsOf k) (by have := ops_len k; omega) .full .full _ (obj_set _ _ _) _ ?_
                rw [if_pos rfl, opL_at]
                simp (config := { maxSteps := 4000000 }) (disch := omega) only [pvK, pvB, sRp6D_71, reduceIte, Nat.reduceEqDiff, Nat.reduceAdd, Nat.reduceSub, Nat.reduceMul, Nat.reduceLT, Nat.reduceLeDiff, Nat.reduceBEq, reduceCtorEq, Int.reduceAdd, Int.reduceSub, Int.reduceMul, Int.reduceLT, Int.reduceLE, Int.reduceEq, Int.reduceToNat, Int.reduceNeg, Nat.reduceBNe, Int.reduceBEq, Int.reduceBNe, Int.reduceGT, Int.reduceGE, Int.reduceTMod, Bool.false_eq_true, Bool.not_true, Bool.not_false, forall_const, eq_self, decide_true, decide_false, rpC, ep, e1]
                refine ihL f'' (by omega) (k + 1) (a' + 1) _ _ (by omega) (by omega) (by omega) (obj_set _ _ _) ?_
                cases hm : mL (fun i => T[i]?) free f'' (k + 1) (a' + 1) with
                | error ec =>
                  obtain ⟨i, c⟩ := ec
                  rw [hm] at hRE
                  have hc := (m_code _ _ f'').1 _ _ _ _ hm
                  intro y dy a2 h1 h2
                  obtain ⟨y1, y2, y3, y4, y5⟩ := y
                  simp (config := { maxSteps := 4000000 }) (disch := omega) only [pvK, pvB, sRp6D_71, reduceIte, Nat.reduceEqDiff, Nat.reduceAdd, Nat.reduceSub, Nat.reduceMul, Nat.reduceLT, Nat.reduceLeDiff, Nat.reduceBEq, reduceCtorEq, Int.reduceAdd, Int.reduceSub, Int.reduceMul, Int.reduceLT, Int.reduceLE, Int.reduceEq, Int.reduceToNat, Int.reduceNeg, Nat.reduceBNe, Int.reduceBEq, Int.reduceBNe, Int.reduceGT, Int.reduceGE, Int.reduceTMod, Bool.false_eq_true, Bool.not_true, Bool.not_false, forall_const, eq_self, decide_true, decide_false, rpC, max_e]
                  refine deep_c b kt T a2 (lineAt T i) c free _ hT (by omega) _ (obj_set _ _ _) _ ?_
                  rw [if_neg (show ¬ (free = false ∧ 8 < ((max d dy + 1 : Nat) : Int) ∧ c = 0) from fun q => hc q.2.2)]
                  simp (config := { maxSteps := 4000000 }) (disch := omega) only [pvK, pvB, sRp6D_71, reduceIte, Nat.reduceEqDiff, Nat.reduceAdd, Nat.reduceSub, Nat.reduceMul, Nat.reduceLT, Nat.reduceLeDiff, Nat.reduceBEq, reduceCtorEq, Int.reduceAdd, Int.reduceSub, Int.reduceMul, Int.reduceLT, Int.reduceLE, Int.reduceEq, Int.reduceToNat, Int.reduceNeg, Nat.reduceBNe, Int.reduceBEq, Int.reduceBNe, Int.reduceGT, Int.reduceGE, Int.reduceTMod, Bool.false_eq_true, Bool.not_true, Bool.not_false, forall_const, eq_self, decide_true, decide_false, rpC, en]
                  refine hR _ _ ?_ ⟨n + 1, max d dy + 1, .full, 4, 0, ⟨#[]⟩, opAt k T[a']?, [(.mk x1 x2 x3 x4 x5), (.mk y1 y2 y3 y4 y5)], a2, lineAt T i, c, by omega, by omega, h2, rfl, .inr ⟨.inl hc, hRE (binE (opAt k T[a']?) (.mk x1 x2 x3 x4 x5) (.mk y1 y2 y3 y4 y5)) (max d dy + 1) a2 (by omega) h2⟩⟩ ?_
                  · exact less_env rfl (less_env rfl (less_env rfl (less_env rfl (less_env rfl (less_env rfl (less_env rfl (less_env rfl (less_loc rfl (less_loc (by show some _ = some _; simp only [forgets, forget, pvEs, pvE, forgets_Es, forget_E, vi, vs]) (less_nil (.refl _)))))))))))
                  · show ((T.length : Int) + 2 - ((n + 1 : Nat) : Int)).toNat < ((T.length : Int) + 2 - (n : Int)).toNat; omega
                | ok yq =>
                  obtain ⟨y, q⟩ := yq
                  rw [hm] at hRE
                  have gq := (m_go _ _ f'').1 _ _ _ _ hm
                  have hq := m_le (T := T) (fr := free) (f := f'') (e := y) gq
                  have hdy := (m_deep _ _ f'').1 _ _ _ _ hm
                  have gq1 := gq.1
                  simp only at hRE
                  have ed : dE (binE (opAt k T[a']?) (.mk x1 x2 x3 x4 x5) y) = max d (dE y) + 1 := by rw [hdx]; simp only [binE, dE, dEs]; omega
                  simp only [RE]
                  simp only [mDeep, ed] at hRE
                  generalize dE y = dy at *
                  obtain ⟨y1, y2, y3, y4, y5⟩ := y
                  simp (config := { maxSteps := 4000000 }) (disch := omega) only [pvK, pvB, sRp6D_71, reduceIte, Nat.reduceEqDiff, Nat.reduceAdd, Nat.reduceSub, Nat.reduceMul, Nat.reduceLT, Nat.reduceLeDiff, Nat.reduceBEq, reduceCtorEq, Int.reduceAdd, Int.reduceSub, Int.reduceMul, Int.reduceLT, Int.reduceLE, Int.reduceEq, Int.reduceToNat, Int.reduceNeg, Nat.reduceBNe, Int.reduceBEq, Int.reduceBNe, Int.reduceGT, Int.reduceGE, Int.reduceTMod, Bool.false_eq_true, Bool.not_true, Bool.not_false, forall_const, eq_self, decide_true, decide_false, rpC, max_e]
                  refine deep_c b kt T q 0 0 free _ hT (by omega) _ (obj_set _ _ _) _ ?_
                  by_cases h8 : free = false ∧ 8 < max d dy + 1
                  · rw [if_pos (show free = false ∧ 8 < ((max d dy + 1 : Nat) : Int) ∧ (0 : Int) = 0 from ⟨h8.1, by omega, rfl⟩)]
                    rw [if_pos h8] at hRE
                    simp (config := { maxSteps := 4000000 }) (disch := omega) only [pvK, pvB, sRp6D_71, reduceIte, Nat.reduceEqDiff, Nat.reduceAdd, Nat.reduceSub, Nat.reduceMul, Nat.reduceLT, Nat.reduceLeDiff, Nat.reduceBEq, reduceCtorEq, Int.reduceAdd, Int.reduceSub, Int.reduceMul, Int.reduceLT, Int.reduceLE, Int.reduceEq, Int.reduceToNat, Int.reduceNeg, Nat.reduceBNe, Int.reduceBEq, Int.reduceBNe, Int.reduceGT, Int.reduceGE, Int.reduceTMod, Bool.false_eq_true, Bool.not_true, Bool.not_false, forall_const, eq_self, decide_true, decide_false, rpC, en]
                    refine hR _ _ ?_ ⟨n + 1, max d dy + 1, .full, 4, 0, ⟨#[]⟩, opAt k T[a']?, [(.mk x1 x2 x3 x4 x5), (.mk y1 y2 y3 y4 y5)], q, lineAt T (q - 1), 4, by omega, by omega, hq, rfl, .inr ⟨.inl (by decide), hRE (binE (opAt k T[a']?) (.mk x1 x2 x3 x4 x5) (.mk y1 y2 y3 y4 y5)) (max d dy + 1) q (by omega) hq⟩⟩ ?_
                    · exact less_env rfl (less_env rfl (less_env rfl (less_env rfl (less_env rfl (less_env rfl (less_env rfl (less_env rfl (less_loc rfl (less_loc (by show some _ = some _; simp only [forgets, forget, pvEs, pvE, forgets_Es, forget_E, vi, vs]) (less_nil (.refl _)))))))))))
                    · show ((T.length : Int) + 2 - ((n + 1 : Nat) : Int)).toNat < ((T.length : Int) + 2 - (n : Int)).toNat; omega
                  · rw [if_neg (show ¬ (free = false ∧ 8 < ((max d dy + 1 : Nat) : Int) ∧ (0 : Int) = 0) from fun z => h8 ⟨z.1, by have := z.2.1; omega⟩)]
                    rw [if_neg h8] at hRE
                    simp (config := { maxSteps := 4000000 }) (disch := omega) only [pvK, pvB, sRp6D_71, reduceIte, Nat.reduceEqDiff, Nat.reduceAdd, Nat.reduceSub, Nat.reduceMul, Nat.reduceLT, Nat.reduceLeDiff, Nat.reduceBEq, reduceCtorEq, Int.reduceAdd, Int.reduceSub, Int.reduceMul, Int.reduceLT, Int.reduceLE, Int.reduceEq, Int.reduceToNat, Int.reduceNeg, Nat.reduceBNe, Int.reduceBEq, Int.reduceBNe, Int.reduceGT, Int.reduceGE, Int.reduceTMod, Bool.false_eq_true, Bool.not_true, Bool.not_false, forall_const, eq_self, decide_true, decide_false, rpC, en]
                    by_cases hk0 : k = 0
                    · simp only [if_pos hk0, RE, ed] at hRE
                      refine hR _ _ ?_ ⟨n + 1, max d dy + 1, .full, 4, 0, ⟨#[]⟩, opAt k T[a']?, [(.mk x1 x2 x3 x4 x5), (.mk y1 y2 y3 y4 y5)], q, 0, 0, by omega, by omega, hq, rfl, .inr ⟨.inr ⟨rfl, hk0, by omega⟩, hRE⟩⟩ ?_
                      · exact less_env rfl (less_env rfl (less_env rfl (less_env rfl (less_env rfl (less_env rfl (less_env rfl (less_env rfl (less_loc rfl (less_loc (by show some _ = some _; simp only [forgets, forget, pvEs, pvE, forgets_Es, forget_E, vi, vs]) (less_nil (.refl _)))))))))))
                      · show ((T.length : Int) + 2 - ((n + 1 : Nat) : Int)).toNat < ((T.length : Int) + 2 - (n : Int)).toNat; omega
                    · simp only [if_neg hk0] at hRE
                      refine hR _ _ ?_ ⟨n + 1, max d dy + 1, .full, 4, 0, ⟨#[]⟩, opAt k T[a']?, [(.mk x1 x2 x3 x4 x5), (.mk y1 y2 y3 y4 y5)], q, 0, 0, by omega, by omega, hq, rfl, .inl ⟨f'', rfl, rfl, ed.symm, .inl (by omega), by omega, by omega, by omega, by omega, hRE⟩⟩ ?_
                      · exact less_env rfl (less_env rfl (less_env rfl (less_env rfl (less_env rfl (less_env rfl (less_env rfl (less_env rfl (less_loc rfl (less_loc (by show some _ = some _; simp only [forgets, forget, pvEs, pvE, forgets_Es, forget_E, vi, vs]) (less_nil (.refl _)))))))))))
                      · show ((T.length : Int) + 2 - ((n + 1 : Nat) : Int)).toNat < ((T.length : Int) + 2 - (n : Int)).toNat; omega
              · skip
                simp (config := { maxSteps := 4000000 }) (disch := omega) only [pvK, pvB, sRp6D_71, reduceIte, Nat.reduceEqDiff, Nat.reduceAdd, Nat.reduceSub, Nat.reduceMul, Nat.reduceLT, Nat.reduceLeDiff, Nat.reduceBEq, reduceCtorEq, Int.reduceAdd, Int.reduceSub, Int.reduceMul, Int.reduceLT, Int.reduceLE, Int.reduceEq, Int.reduceToNat, Int.reduceNeg, Nat.reduceBNe, Int.reduceBEq, Int.reduceBNe, Int.reduceGT, Int.reduceGE, Int.reduceTMod, Bool.false_eq_true, Bool.not_true, Bool.not_false, forall_const, eq_self, decide_true, decide_false, rpC, nz_e ho, hg, hn0]
                refine rnext_c b kt T a' 0 0 free (opsOf k) (by have := ops_len k; omega) .full .full _ (obj_set _ _ _) _ ?_
                rw [if_pos rfl, opL_at]
                simp (config := { maxSteps := 4000000 }) (disch := omega) only [pvK, pvB, sRp6D_71, reduceIte, Nat.reduceEqDiff, Nat.reduceAdd, Nat.reduceSub, Nat.reduceMul, Nat.reduceLT, Nat.reduceLeDiff, Nat.reduceBEq, reduceCtorEq, Int.reduceAdd, Int.reduceSub, Int.reduceMul, Int.reduceLT, Int.reduceLE, Int.reduceEq, Int.reduceToNat, Int.reduceNeg, Nat.reduceBNe, Int.reduceBEq, Int.reduceBNe, Int.reduceGT, Int.reduceGE, Int.reduceTMod, Bool.false_eq_true, Bool.not_true, Bool.not_false, forall_const, eq_self, decide_true, decide_false, rpC, ep, e1]
                refine ihL f'' (by omega) (k + 1) (a' + 1) _ _ (by omega) (by omega) (by omega) (obj_set _ _ _) ?_
                cases hm : mL (fun i => T[i]?) free f'' (k + 1) (a' + 1) with
                | error ec =>
                  obtain ⟨i, c⟩ := ec
                  rw [hm] at hRE
                  have hc := (m_code _ _ f'').1 _ _ _ _ hm
                  intro y dy a2 h1 h2
                  obtain ⟨y1, y2, y3, y4, y5⟩ := y
                  simp (config := { maxSteps := 4000000 }) (disch := omega) only [pvK, pvB, sRp6D_71, reduceIte, Nat.reduceEqDiff, Nat.reduceAdd, Nat.reduceSub, Nat.reduceMul, Nat.reduceLT, Nat.reduceLeDiff, Nat.reduceBEq, reduceCtorEq, Int.reduceAdd, Int.reduceSub, Int.reduceMul, Int.reduceLT, Int.reduceLE, Int.reduceEq, Int.reduceToNat, Int.reduceNeg, Nat.reduceBNe, Int.reduceBEq, Int.reduceBNe, Int.reduceGT, Int.reduceGE, Int.reduceTMod, Bool.false_eq_true, Bool.not_true, Bool.not_false, forall_const, eq_self, decide_true, decide_false, rpC, max_e]
                  refine deep_c b kt T a2 (lineAt T i) c free _ hT (by omega) _ (obj_set _ _ _) _ ?_
                  rw [if_neg (show ¬ (free = false ∧ 8 < ((max d dy + 1 : Nat) : Int) ∧ c = 0) from fun q => hc q.2.2)]
                  simp (config := { maxSteps := 4000000 }) (disch := omega) only [pvK, pvB, sRp6D_71, reduceIte, Nat.reduceEqDiff, Nat.reduceAdd, Nat.reduceSub, Nat.reduceMul, Nat.reduceLT, Nat.reduceLeDiff, Nat.reduceBEq, reduceCtorEq, Int.reduceAdd, Int.reduceSub, Int.reduceMul, Int.reduceLT, Int.reduceLE, Int.reduceEq, Int.reduceToNat, Int.reduceNeg, Nat.reduceBNe, Int.reduceBEq, Int.reduceBNe, Int.reduceGT, Int.reduceGE, Int.reduceTMod, Bool.false_eq_true, Bool.not_true, Bool.not_false, forall_const, eq_self, decide_true, decide_false, rpC, en]
                  refine hR _ _ ?_ ⟨n + 1, max d dy + 1, .full, 4, 0, ⟨#[]⟩, opAt k T[a']?, [(.mk x1 x2 x3 x4 x5), (.mk y1 y2 y3 y4 y5)], a2, lineAt T i, c, by omega, by omega, h2, rfl, .inr ⟨.inl hc, hRE (binE (opAt k T[a']?) (.mk x1 x2 x3 x4 x5) (.mk y1 y2 y3 y4 y5)) (max d dy + 1) a2 (by omega) h2⟩⟩ ?_
                  · exact less_env rfl (less_env rfl (less_env rfl (less_env rfl (less_env rfl (less_env rfl (less_env rfl (less_env rfl (less_loc rfl (less_loc (by show some _ = some _; simp only [forgets, forget, pvEs, pvE, forgets_Es, forget_E, vi, vs]) (less_nil (.refl _)))))))))))
                  · show ((T.length : Int) + 2 - ((n + 1 : Nat) : Int)).toNat < ((T.length : Int) + 2 - (n : Int)).toNat; omega
                | ok yq =>
                  obtain ⟨y, q⟩ := yq
                  rw [hm] at hRE
                  have gq := (m_go _ _ f'').1 _ _ _ _ hm
                  have hq := m_le (T := T) (fr := free) (f := f'') (e := y) gq
                  have hdy := (m_deep _ _ f'').1 _ _ _ _ hm
                  have gq1 := gq.1
                  simp only at hRE
                  have ed : dE (binE (opAt k T[a']?) (.mk x1 x2 x3 x4 x5) y) = max d (dE y) + 1 := by rw [hdx]; simp only [binE, dE, dEs]; omega
                  simp only [RE]
                  simp only [mDeep, ed] at hRE
                  generalize dE y = dy at *
                  obtain ⟨y1, y2, y3, y4, y5⟩ := y
                  simp (config := { maxSteps := 4000000 }) (disch := omega) only [pvK, pvB, sRp6D_71, reduceIte, Nat.reduceEqDiff, Nat.reduceAdd, Nat.reduceSub, Nat.reduceMul, Nat.reduceLT, Nat.reduceLeDiff, Nat.reduceBEq, reduceCtorEq, Int.reduceAdd, Int.reduceSub, Int.reduceMul, Int.reduceLT, Int.reduceLE, Int.reduceEq, Int.reduceToNat, Int.reduceNeg, Nat.reduceBNe, Int.reduceBEq, Int.reduceBNe, Int.reduceGT, Int.reduceGE, Int.reduceTMod, Bool.false_eq_true, Bool.not_true, Bool.not_false, forall_const, eq_self, decide_true, decide_false, rpC, max_e]
                  refine deep_c b kt T q 0 0 free _ hT (by omega) _ (obj_set _ _ _) _ ?_
                  by_cases h8 : free = false ∧ 8 < max d dy + 1
                  · rw [if_pos (show free = false ∧ 8 < ((max d dy + 1 : Nat) : Int) ∧ (0 : Int) = 0 from ⟨h8.1, by omega, rfl⟩)]
                    rw [if_pos h8] at hRE
                    simp (config := { maxSteps := 4000000 }) (disch := omega) only [pvK, pvB, sRp6D_71, reduceIte, Nat.reduceEqDiff, Nat.reduceAdd, Nat.reduceSub, Nat.reduceMul, Nat.reduceLT, Nat.reduceLeDiff, Nat.reduceBEq, reduceCtorEq, Int.reduceAdd, Int.reduceSub, Int.reduceMul, Int.reduceLT, Int.reduceLE, Int.reduceEq, Int.reduceToNat, Int.reduceNeg, Nat.reduceBNe, Int.reduceBEq, Int.reduceBNe, Int.reduceGT, Int.reduceGE, Int.reduceTMod, Bool.false_eq_true, Bool.not_true, Bool.not_false, forall_const, eq_self, decide_true, decide_false, rpC, en]
                    refine hR _ _ ?_ ⟨n + 1, max d dy + 1, .full, 4, 0, ⟨#[]⟩, opAt k T[a']?, [(.mk x1 x2 x3 x4 x5), (.mk y1 y2 y3 y4 y5)], q, lineAt T (q - 1), 4, by omega, by omega, hq, rfl, .inr ⟨.inl (by decide), hRE (binE (opAt k T[a']?) (.mk x1 x2 x3 x4 x5) (.mk y1 y2 y3 y4 y5)) (max d dy + 1) q (by omega) hq⟩⟩ ?_
                    · exact less_env rfl (less_env rfl (less_env rfl (less_env rfl (less_env rfl (less_env rfl (less_env rfl (less_env rfl (less_loc rfl (less_loc (by show some _ = some _; simp only [forgets, forget, pvEs, pvE, forgets_Es, forget_E, vi, vs]) (less_nil (.refl _)))))))))))
                    · show ((T.length : Int) + 2 - ((n + 1 : Nat) : Int)).toNat < ((T.length : Int) + 2 - (n : Int)).toNat; omega
                  · rw [if_neg (show ¬ (free = false ∧ 8 < ((max d dy + 1 : Nat) : Int) ∧ (0 : Int) = 0) from fun z => h8 ⟨z.1, by have := z.2.1; omega⟩)]
                    rw [if_neg h8] at hRE
                    simp (config := { maxSteps := 4000000 }) (disch := omega) only [pvK, pvB, sRp6D_71, reduceIte, Nat.reduceEqDiff, Nat.reduceAdd, Nat.reduceSub, Nat.reduceMul, Nat.reduceLT, Nat.reduceLeDiff, Nat.reduceBEq, reduceCtorEq, Int.reduceAdd, Int.reduceSub, Int.reduceMul, Int.reduceLT, Int.reduceLE, Int.reduceEq, Int.reduceToNat, Int.reduceNeg, Nat.reduceBNe, Int.reduceBEq, Int.reduceBNe, Int.reduceGT, Int.reduceGE, Int.reduceTMod, Bool.false_eq_true, Bool.not_true, Bool.not_false, forall_const, eq_self, decide_true, decide_false, rpC, en]
                    by_cases hk0 : k = 0
                    · simp only [if_pos hk0, RE, ed] at hRE
                      refine hR _ _ ?_ ⟨n + 1, max d dy + 1, .full, 4, 0, ⟨#[]⟩, opAt k T[a']?, [(.mk x1 x2 x3 x4 x5), (.mk y1 y2 y3 y4 y5)], q, 0, 0, by omega, by omega, hq, rfl, .inr ⟨.inr ⟨rfl, hk0, by omega⟩, hRE⟩⟩ ?_
                      · exact less_env rfl (less_env rfl (less_env rfl (less_env rfl (less_env rfl (less_env rfl (less_env rfl (less_env rfl (less_loc rfl (less_loc (by show some _ = some _; simp only [forgets, forget, pvEs, pvE, forgets_Es, forget_E, vi, vs]) (less_nil (.refl _)))))))))))
                      · show ((T.length : Int) + 2 - ((n + 1 : Nat) : Int)).toNat < ((T.length : Int) + 2 - (n : Int)).toNat; omega
                    · simp only [if_neg hk0] at hRE
                      refine hR _ _ ?_ ⟨n + 1, max d dy + 1, .full, 4, 0, ⟨#[]⟩, opAt k T[a']?, [(.mk x1 x2 x3 x4 x5), (.mk y1 y2 y3 y4 y5)], q, 0, 0, by omega, by omega, hq, rfl, .inl ⟨f'', rfl, rfl, ed.symm, .inl (by omega), by omega, by omega, by omega, by omega, hRE⟩⟩ ?_
                      · exact less_env rfl (less_env rfl (less_env rfl (less_env rfl (less_env rfl (less_env rfl (less_env rfl (less_env rfl (less_loc rfl (less_loc (by show some _ = some _; simp only [forgets, forget, pvEs, pvE, forgets_Es, forget_E, vi, vs]) (less_nil (.refl _)))))))))))
                      · show ((T.length : Int) + 2 - ((n + 1 : Nat) : Int)).toNat < ((T.length : Int) + 2 - (n : Int)).toNat; omega
          · simp (config := { maxSteps := 4000000 }) (disch := omega) only [pvK, pvB, sRp6D_71, reduceIte, Nat.reduceEqDiff, Nat.reduceAdd, Nat.reduceSub, Nat.reduceMul, Nat.reduceLT, Nat.reduceLeDiff, Nat.reduceBEq, reduceCtorEq, Int.reduceAdd, Int.reduceSub, Int.reduceMul, Int.reduceLT, Int.reduceLE, Int.reduceEq, Int.reduceToNat, Int.reduceNeg, Nat.reduceBNe, Int.reduceBEq, Int.reduceBNe, Int.reduceGT, Int.reduceGE, Int.reduceTMod, Bool.false_eq_true, Bool.not_true, Bool.not_false, forall_const, eq_self, decide_true, decide_false, rpC]
            refine rnext_c b kt T a' line e free (opsOf k) (by have := ops_len k; omega) .full .full _ (obj_set _ _ _) _ ?_
            rcases he with he | ⟨rfl, rfl, rfl⟩
            · rw [if_neg he]
              simp (config := { maxSteps := 4000000 }) (disch := omega) only [pvK, pvB, sRp6D_71, reduceIte, Nat.reduceEqDiff, Nat.reduceAdd, Nat.reduceSub, Nat.reduceMul, Nat.reduceLT, Nat.reduceLeDiff, Nat.reduceBEq, reduceCtorEq, Int.reduceAdd, Int.reduceSub, Int.reduceMul, Int.reduceLT, Int.reduceLE, Int.reduceEq, Int.reduceToNat, Int.reduceNeg, Nat.reduceBNe, Int.reduceBEq, Int.reduceBNe, Int.reduceGT, Int.reduceGE, Int.reduceTMod, Bool.false_eq_true, Bool.not_true, Bool.not_false, forall_const, eq_self, decide_true, decide_false, rpC, e0f]
              refine ⟨_, .refl _, ?_⟩
              have hh := hKK
              simp only [Res.forget, forget, forgets, pvE, pvEs, binE, numE, nameE, indexE, zeroE, vi, vs, vb', rpC, forgets_Es, forget_E] at hh ⊢
              exact hh
            · rw [if_pos rfl]
              by_cases ho : opL (opsOf 0) T[a']? = 0
              · rw [ho]
                simp (config := { maxSteps := 4000000 }) (disch := omega) only [pvK, pvB, sRp6D_71, reduceIte, Nat.reduceEqDiff, Nat.reduceAdd, Nat.reduceSub, Nat.reduceMul, Nat.reduceLT, Nat.reduceLeDiff, Nat.reduceBEq, reduceCtorEq, Int.reduceAdd, Int.reduceSub, Int.reduceMul, Int.reduceLT, Int.reduceLE, Int.reduceEq, Int.reduceToNat, Int.reduceNeg, Nat.reduceBNe, Int.reduceBEq, Int.reduceBNe, Int.reduceGT, Int.reduceGE, Int.reduceTMod, Bool.false_eq_true, Bool.not_true, Bool.not_false, forall_const, eq_self, decide_true, decide_false, rpC, e0f]
                refine ⟨_, .refl _, ?_⟩
                have hh := hKK
                simp only [Res.forget, forget, forgets, pvE, pvEs, binE, numE, nameE, indexE, zeroE, vi, vs, vb', rpC, forgets_Es, forget_E] at hh ⊢
                exact hh
              · simp (config := { maxSteps := 4000000 }) (disch := omega) only [pvK, pvB, sRp6D_71, reduceIte, Nat.reduceEqDiff, Nat.reduceAdd, Nat.reduceSub, Nat.reduceMul, Nat.reduceLT, Nat.reduceLeDiff, Nat.reduceBEq, reduceCtorEq, Int.reduceAdd, Int.reduceSub, Int.reduceMul, Int.reduceLT, Int.reduceLE, Int.reduceEq, Int.reduceToNat, Int.reduceNeg, Nat.reduceBNe, Int.reduceBEq, Int.reduceBNe, Int.reduceGT, Int.reduceGE, Int.reduceTMod, Bool.false_eq_true, Bool.not_true, Bool.not_false, forall_const, eq_self, decide_true, decide_false, rpC, nz_e ho, cast_1]
                refine ⟨_, .refl _, ?_⟩
                have hh := hKK
                simp only [Res.forget, forget, forgets, pvE, pvEs, binE, numE, nameE, indexE, zeroE, vi, vs, vb', rpC, forgets_Es, forget_E] at hh ⊢
                exact hh
end Go.Pv.D
-- Rp7D
namespace Go.Pv.D
open Go Go.RowKit Go.Proofs Go.Pv
theorem both_c (kt : Cap) (T : List Tk) (free : Bool) (b : Nat) (hT : T.length < 1000000) : ∀ f, f < 10000000 → (∀ f', f' ≤ f → LevelC kt T free b f') ∧ FactorC kt T free b f
  | 0, _ => ⟨fun f' h k a σ K _ _ hf => by omega, fun a σ K _ hf => by omega⟩
  | f + 1, h => by
    obtain ⟨i1, i2⟩ := both_c kt T free b hT f (by omega)
    refine ⟨fun f' hf' => ?_, factor_of kt T free b f hT (by omega) (i1 f (Nat.le_refl _)) i2⟩
    by_cases z : f' ≤ f
    · exact i1 f' z
    · rw [show f' = f + 1 by omega]
      exact level_of kt T free b f hT (by omega) i1 i2
end Go.Pv.D
-- Rp8D
namespace Go.Pv.D
open Go Go.RowKit Go.Proofs Go.Pv
def sRp8D_17 := (And.intro (And.intro (And.intro (And.intro (And.intro @q_fld_88_3 @q_fld_88_1) (And.intro @q_slz_0 @q_tsz_3)) (And.intro (And.intro @q_slz_3 @q_ifc_3) (And.intro @q_tsz_4 @q_slz_4))) (And.intro (And.intro (And.intro @q_ifc_4 @q_isb_4) (And.intro @q_tsz_23 @q_slz_23)) (And.intro (And.intro @q_str_23 @q_arz_23) (And.intro @q_ifc_23 @q_tsz_27)))) (And.intro (And.intro (And.intro (And.intro @q_slz_27 @q_ifc_27) (And.intro @q_tsz_28 @q_slz_28)) (And.intro (And.intro @q_ifc_28 @q_tsz_86) (And.intro @q_slz_86 @q_ifc_86))) (And.intro (And.intro (And.intro @q_tsz_88 @q_slz_88) (And.intro @q_ifc_88 @q_slz_89)) (And.intro (And.intro @q_zcs_88 @q_zcs_27) (And.intro @q_bld_88 @q_bld_27)))))
theorem sub_set {σ : St} {b : Nat} {o : Ob} (h : σ.obj b = none) : σ.sub (σ.set b o) := by
  refine ⟨fun x o' e => ?_, fun _ _ e => e, rfl⟩
  simp only [St.set]
  rw [if_neg]
  · exact e
  · rintro rfl; rw [h] at e; cases e
/-- The longest beginning that is an expression: its reading, its end, the error. -/
def exprM (T : List Tk) : Option (AE × Nat) → AE × Nat × Int
  | some (x, n) => if 8 < dE x then (zeroE, 0, 4) else (x, n, 0)
  | none => (zeroE, 0, 1)
theorem lim_take (T : List Tk) (n : Nat) : (fun i => (T.take n)[i]?) = lim (fun i => T[i]?) n := by
  funext i
  simp [lim, List.getElem?_take]
set_option maxHeartbeats 16000000 in
set_option maxRecDepth 100000 in
theorem rExpr_c (kt : Cap) (T : List Tk) (hT : T.length < 1000000) (σ : St) (K : Res → St → Prop) (hK : K (.ret (.tuple [pvE (exprM T (rX (fun i => T[i]?) (5 * T.length + 5) T.length)).1, vi (exprM T (rX (fun i => T[i]?) (5 * T.length + 5) T.length)).2.1, vi (exprM T (rX (fun i => T[i]?) (5 * T.length + 5) T.length)).2.2])) σ) : PCalls Tryd.prog 17 [.list kt 4 (T.map pvTk)] σ K := by
  refine PCalls.forgetR ?_
  refine PCalls.of_body (tOk Tryd.prog) (by kernel_rfl) Tryd.func17 rfl (by kernel_rfl) [19] [] (by kernel_rfl) (n := 44) (by kernel_rfl) (by kernel_rfl) (rs := [.cell 2 27, .tmp 3, .tmp 4]) (by kernel_rfl) ?_
  simp (config := { maxSteps := 4000000 }) (disch := omega) only [pvK, pvB, sRp8D_17, reduceIte, Nat.reduceEqDiff, Nat.reduceAdd, Nat.reduceSub, Nat.reduceMul, Nat.reduceLT, Nat.reduceLeDiff, Nat.reduceBEq, reduceCtorEq, Int.reduceAdd, Int.reduceSub, Int.reduceMul, Int.reduceLT, Int.reduceLE, Int.reduceEq, Int.reduceToNat, Int.reduceNeg, Nat.reduceBNe, Int.reduceBEq, Int.reduceBNe, Int.reduceGT, Int.reduceGE, Int.reduceTMod, Bool.false_eq_true, Bool.not_true, Bool.not_false, forall_const, eq_self, decide_true, decide_false, rpC]
  refine loop_rule (fun s => ∃ n : Nat, n ≤ T.length ∧ rX (fun i => T[i]?) (5 * T.length + 5) T.length = rX (fun i => T[i]?) (5 * T.length + 5) n ∧ s = ⟨44, [(0, .list kt 4 (T.map pvTk)), (2, .lptr 2 0), (5, vi n)], [(2, [vi 0, vi 0, vs ⟨#[]⟩, vi 0, .list .full 5 []])], σ⟩) (fun s => (ival (get s.env 5)).toNat) ?_ ?_
  · exact ⟨_, less_env rfl (less_env rfl (less_env rfl (less_loc rfl (less_nil (.refl _))))), T.length, Nat.le_refl _, rfl, rfl⟩
  · rintro s ⟨n, hn, hx, rfl⟩ R hR
    rw [hx] at hK
    cases n with
    | zero =>
      simp (config := { maxSteps := 4000000 }) (disch := omega) only [pvK, pvB, sRp8D_17, reduceIte, Nat.reduceEqDiff, Nat.reduceAdd, Nat.reduceSub, Nat.reduceMul, Nat.reduceLT, Nat.reduceLeDiff, Nat.reduceBEq, reduceCtorEq, Int.reduceAdd, Int.reduceSub, Int.reduceMul, Int.reduceLT, Int.reduceLE, Int.reduceEq, Int.reduceToNat, Int.reduceNeg, Nat.reduceBNe, Int.reduceBEq, Int.reduceBNe, Int.reduceGT, Int.reduceGE, Int.reduceTMod, Bool.false_eq_true, Bool.not_true, Bool.not_false, forall_const, eq_self, decide_true, decide_false, rpC]
      refine ⟨σ, ?_, ?_⟩
      · first | exact .refl _ | exact sub_set hb2
      · have hh := hK
        simp only [Res.forget, forget, forgets, pvE, pvEs, zeroE, vi, vs, vb', forgets_Es, forget_E, rX, exprM, cast_0] at hh ⊢
        exact hh
    | succ n =>
      have h0 : (((n + 1 : Nat) : Int) > 0) = True := eq_true (by omega)
      have h1 : (((n + 1 : Nat) : Int) ≤ T.length) = True := eq_true (by omega)
      have tk : List.take (n + 1) (T.map pvTk) = (T.take (n + 1)).map pvTk := List.map_take.symm
      have en : ((n + 1 : Nat) : Int) - 1 = (n : Int) := by omega
      have hlen : (T.take (n + 1)).length = n + 1 := by simp; omega
      simp (config := { maxSteps := 4000000 }) (disch := omega) only [pvK, pvB, sRp8D_17, reduceIte, Nat.reduceEqDiff, Nat.reduceAdd, Nat.reduceSub, Nat.reduceMul, Nat.reduceLT, Nat.reduceLeDiff, Nat.reduceBEq, reduceCtorEq, Int.reduceAdd, Int.reduceSub, Int.reduceMul, Int.reduceLT, Int.reduceLE, Int.reduceEq, Int.reduceToNat, Int.reduceNeg, Nat.reduceBNe, Int.reduceBEq, Int.reduceBNe, Int.reduceGT, Int.reduceGE, Int.reduceTMod, Bool.false_eq_true, Bool.not_true, Bool.not_false, forall_const, eq_self, decide_true, decide_false, rpC, h0, h1, nn, tk]
      intro b hb2 hb3
      refine expr_c _ (T.take (n + 1)) true b (5 * T.length + 5) ((both_c _ _ true b (by omega) _ (by omega)).1 _ (Nat.le_refl _)) 0 _ _ (Nat.zero_le _) (by omega) (obj_set _ _ _) ?_
      rw [rX, ← lim_take] at hK
      rw [rX, ← lim_take] at hx
      have back : ∀ s1 : Cf, rX (fun i => T[i]?) (5 * T.length + 5) T.length = rX (fun i => T[i]?) (5 * T.length + 5) n → Cf.less ⟨44, [(0, .list kt 4 (T.map pvTk)), (2, .lptr 2 0), (5, vi n)], [(2, [vi 0, vi 0, vs ⟨#[]⟩, vi 0, .list .full 5 []])], σ⟩ s1 → R s1 := by
        intro s1 h2 h3
        refine hR _ _ h3 ⟨n, by omega, h2, rfl⟩ ?_
        show ((n : Nat) : Int).toNat < (((n + 1 : Nat) : Int)).toNat
        omega
      cases hm : mL (fun i => (T.take (n + 1))[i]?) true (5 * T.length + 5) 0 0 with
      | error ec =>
        obtain ⟨i, c⟩ := ec
        rw [hm] at hK hx
        have hc := (m_code _ _ _).1 _ _ _ _ hm
        intro x d a' h2 h3
        have fx := forget_E x
        obtain ⟨x1, x2, x3, x4, x5⟩ := x
        simp (config := { maxSteps := 4000000 }) (disch := omega) only [pvK, pvB, sRp8D_17, reduceIte, Nat.reduceEqDiff, Nat.reduceAdd, Nat.reduceSub, Nat.reduceMul, Nat.reduceLT, Nat.reduceLeDiff, Nat.reduceBEq, reduceCtorEq, Int.reduceAdd, Int.reduceSub, Int.reduceMul, Int.reduceLT, Int.reduceLE, Int.reduceEq, Int.reduceToNat, Int.reduceNeg, Nat.reduceBNe, Int.reduceBEq, Int.reduceBNe, Int.reduceGT, Int.reduceGE, Int.reduceTMod, Bool.false_eq_true, Bool.not_true, Bool.not_false, forall_const, eq_self, decide_true, decide_false, rpC, fx, nz_e hc, en]
        refine back _ hx (less_env rfl (less_env rfl (less_env rfl (less_loc rfl (less_nil ?_)))))
        exact sub_set hb2
      | ok xp =>
        obtain ⟨x, p⟩ := xp
        rw [hm] at hK hx
        simp only at hK hx
        simp only [RE]
        have hp := m_le (T := T.take (n + 1)) (fr := true) (f := 0) (e := x) ((m_go _ _ _).1 _ _ _ _ hm)
        have hdx := (m_deep _ _ _).1 _ _ _ _ hm
        by_cases hpn : p = n + 1
        · subst hpn
          rw [if_pos rfl] at hK
          simp only [exprM] at hK
          have e2 : (((n + 1 : Nat) : Int) != ((n + 1 : Nat) : Int)) = false := by simp
          by_cases h8 : 8 < dE x
          · rw [if_pos h8] at hK
            have h9 : (((dE x : Nat) : Int) > 8) = True := eq_true (by omega)
            generalize dE x = dx at *
            have fx := forget_E x
            obtain ⟨x1, x2, x3, x4, x5⟩ := x
            simp (config := { maxSteps := 4000000 }) (disch := omega) only [pvK, pvB, sRp8D_17, reduceIte, Nat.reduceEqDiff, Nat.reduceAdd, Nat.reduceSub, Nat.reduceMul, Nat.reduceLT, Nat.reduceLeDiff, Nat.reduceBEq, reduceCtorEq, Int.reduceAdd, Int.reduceSub, Int.reduceMul, Int.reduceLT, Int.reduceLE, Int.reduceEq, Int.reduceToNat, Int.reduceNeg, Nat.reduceBNe, Int.reduceBEq, Int.reduceBNe, Int.reduceGT, Int.reduceGE, Int.reduceTMod, Bool.false_eq_true, Bool.not_true, Bool.not_false, forall_const, eq_self, decide_true, decide_false, rpC, fx, e0f, e2, h9]
            refine ⟨σ, ?_, ?_⟩
            · first | exact .refl _ | exact sub_set hb2
            · have hh := hK
              simp only [Res.forget, forget, forgets, pvE, pvEs, zeroE, vi, vs, vb', forgets_Es, forget_E, cast_0] at hh ⊢
              exact hh
          · rw [if_neg h8] at hK
            have h9 : (((dE x : Nat) : Int) > 8) = False := eq_false (by omega)
            generalize dE x = dx at *
            have fx := forget_E x
            obtain ⟨x1, x2, x3, x4, x5⟩ := x
            simp (config := { maxSteps := 4000000 }) (disch := omega) only [pvK, pvB, sRp8D_17, reduceIte, Nat.reduceEqDiff, Nat.reduceAdd, Nat.reduceSub, Nat.reduceMul, Nat.reduceLT, Nat.reduceLeDiff, Nat.reduceBEq, reduceCtorEq, Int.reduceAdd, Int.reduceSub, Int.reduceMul, Int.reduceLT, Int.reduceLE, Int.reduceEq, Int.reduceToNat, Int.reduceNeg, Nat.reduceBNe, Int.reduceBEq, Int.reduceBNe, Int.reduceGT, Int.reduceGE, Int.reduceTMod, Bool.false_eq_true, Bool.not_true, Bool.not_false, forall_const, eq_self, decide_true, decide_false, rpC, fx, e0f, e2, h9]
            refine ⟨σ, ?_, ?_⟩
            · first | exact .refl _ | exact sub_set hb2
            · have hh := hK
              simp only [Res.forget, forget, forgets, pvE, pvEs, zeroE, vi, vs, vb', forgets_Es, forget_E] at hh ⊢
              exact hh
        · rw [if_neg hpn] at hK hx
          have e2 : (((p : Nat) : Int) != ((n + 1 : Nat) : Int)) = true := by simp; omega
          generalize dE x = dx at *
          have fx := forget_E x
          obtain ⟨x1, x2, x3, x4, x5⟩ := x
          simp (config := { maxSteps := 4000000 }) (disch := omega) only [pvK, pvB, sRp8D_17, reduceIte, Nat.reduceEqDiff, Nat.reduceAdd, Nat.reduceSub, Nat.reduceMul, Nat.reduceLT, Nat.reduceLeDiff, Nat.reduceBEq, reduceCtorEq, Int.reduceAdd, Int.reduceSub, Int.reduceMul, Int.reduceLT, Int.reduceLE, Int.reduceEq, Int.reduceToNat, Int.reduceNeg, Nat.reduceBNe, Int.reduceBEq, Int.reduceBNe, Int.reduceGT, Int.reduceGE, Int.reduceTMod, Bool.false_eq_true, Bool.not_true, Bool.not_false, forall_const, eq_self, decide_true, decide_false, rpC, fx, e0f, e2, en]
          refine back _ hx (less_env rfl (less_env rfl (less_env rfl (less_loc rfl (less_nil ?_)))))
          exact sub_set hb2
end Go.Pv.D
-- Px4
namespace Go.Pv
open Go Go.RowKit
/-- An expression has at most twice as many parts as tokens. -/
theorem m_wt (g : Nat → Option Tk) (fr : Bool) : ∀ f,
    (∀ k a e p, mL g fr f k a = .ok (e, p) → 2 * (a : Int) + wE e ≤ 2 * p) ∧
    (∀ k x a e p, mR g fr f k x a = .ok (e, p) → ∀ a0 : Nat, 2 * (a0 : Int) + wE x ≤ 2 * a → 2 * (a0 : Int) + wE e ≤ 2 * p) ∧
    (∀ a e p, mF g fr f a = .ok (e, p) → 2 * (a : Int) + wE e ≤ 2 * p) := by
  intro f
  induction f with
  | zero => refine ⟨?_, ?_, ?_⟩ <;> intros <;> simp_all [mL, mR, mF]
  | succ f ih =>
    obtain ⟨i1, i2, i3⟩ := ih
    refine ⟨?_, ?_, ?_⟩
    · intro k a e p h
      rw [mL_s] at h
      split at h
      · exact i3 _ _ _ h
      · split at h
        · cases h
        · rename_i x q hq
          exact i2 _ _ _ _ _ h a (i1 _ _ _ _ hq)
    · intro k x a e p h a0 h0
      rw [mR_s] at h
      split at h
      · cases h; exact h0
      · split at h
        · cases h
        · rename_i y q hq
          have hy := i1 _ _ _ _ hq
          split at h
          · cases h
          · rename_i z q' hz
            obtain ⟨rfl, rfl⟩ := mDeep_pos1 hz
            have hz : 2 * (a0 : Int) + wE (binE (opAt k (g a)) x y) ≤ 2 * q' := by simp only [binE, wE, wEs]; omega
            split at h
            · cases h; exact hz
            · exact i2 _ _ _ _ _ h a0 hz
    · intro a e p h
      rw [mF] at h
      split at h
      · cases h; simp only [numE, wE, wEs]; omega
      · split at h
        · split at h
          · cases h; simp only [numE, wE, wEs]; omega
          · split at h
            · cases h
            · rename_i x q hx
              obtain ⟨rfl, rfl⟩ := mDeep_pos1 h
              have := i3 _ _ _ hx
              simp only [binE, numE, wE, wEs]; omega
        · split at h
          · split at h
            · split at h
              · cases h
              · rename_i x q hx
                split at h
                · obtain ⟨rfl, rfl⟩ := mDeep_pos1 h
                  have := i1 _ _ _ _ hx
                  simp only [indexE, wE, wEs]; omega
                · cases h
            · cases h; simp only [nameE, wE, wEs]; omega
          · split at h
            · split at h
              · cases h
              · rename_i x q hx
                split at h
                · cases h
                  have := i1 _ _ _ _ hx
                  omega
                · cases h
            · cases h
end Go.Pv
-- Pp6D
namespace Go.Pv.D
open Go Go.RowKit Go.Proofs Go.Pv
def sPp6D_15 := (And.intro (And.intro (And.intro (And.intro (And.intro @q_fld_80_1 @q_fld_80_2) (And.intro @q_fld_80_0 @q_slz_0)) (And.intro (And.intro @q_tsz_3 @q_slz_3) (And.intro @q_ifc_3 (And.intro @q_tsz_4 @q_slz_4)))) (And.intro (And.intro (And.intro @q_ifc_4 @q_isb_4) (And.intro @q_tsz_23 @q_slz_23)) (And.intro (And.intro @q_str_23 @q_arz_23) (And.intro @q_ifc_23 (And.intro @q_tsz_27 @q_slz_27))))) (And.intro (And.intro (And.intro (And.intro @q_ifc_27 @q_tsz_28) (And.intro @q_slz_28 @q_ifc_28)) (And.intro (And.intro @q_tsz_80 @q_slz_80) (And.intro @q_ifc_80 (And.intro @q_tsz_81 @q_slz_81)))) (And.intro (And.intro (And.intro @q_ifc_81 @q_tsz_83) (And.intro @q_slz_83 @q_ifc_83)) (And.intro (And.intro @q_zcs_80 @q_zcs_83) (And.intro @q_zcs_27 (And.intro @q_bld_83 @q_bld_27))))))
def sPp6D_18 := (And.intro (And.intro (And.intro (And.intro @q_fld_27_3 (And.intro @q_fld_27_1 @q_fld_27_2)) (And.intro @q_fld_27_0 (And.intro @q_fld_27_4 @q_slz_0))) (And.intro (And.intro @q_tsz_3 (And.intro @q_slz_3 @q_ifc_3)) (And.intro (And.intro @q_tsz_4 @q_slz_4) (And.intro @q_ifc_4 @q_isb_4)))) (And.intro (And.intro (And.intro @q_tsz_9 (And.intro @q_slz_9 @q_str_9)) (And.intro (And.intro @q_arz_9 @q_ifc_9) (And.intro @q_tsz_25 @q_slz_25))) (And.intro (And.intro @q_str_25 (And.intro @q_arz_25 @q_ifc_25)) (And.intro (And.intro @q_tsz_27 @q_slz_27) (And.intro @q_ifc_27 @q_zcs_27)))))
def sPp6D_46 := (And.intro (And.intro (And.intro (And.intro @q_slz_0 @q_tsz_3) (And.intro @q_slz_3 @q_ifc_3)) (And.intro (And.intro @q_tsz_4 @q_slz_4) (And.intro @q_ifc_4 @q_isb_4))) (And.intro (And.intro (And.intro @q_tsz_25 @q_slz_25) (And.intro @q_str_25 @q_arz_25)) (And.intro (And.intro @q_ifc_25 @q_tsz_27) (And.intro @q_slz_27 @q_ifc_27))))
theorem pboth (kt : Cap) (T : List Tk) (b : Nat) (hT : T.length < 1000000) : ∀ f, f < 10000000 → (∀ f', f' ≤ f → LnC kt T b f') ∧ (∀ f', f' ≤ f → LgC kt T b f') ∧ ShC kt T b f
  | 0, _ => ⟨fun f' h k a a0 σ K _ _ _ hf => by omega, fun f' h a a0 σ K _ _ hf => by omega, fun a a0 σ K _ _ hf => by omega⟩
  | f + 1, h => by
    obtain ⟨i1, i2, i3⟩ := pboth kt T b hT f (by omega)
    refine ⟨fun f' hf' => ?_, fun f' hf' => ?_, shortest_of kt T b f hT (by omega) (i2 f (Nat.le_refl _)) i3⟩
    · by_cases z : f' ≤ f
      · exact i1 f' z
      · rw [show f' = f + 1 by omega]
        exact longer_of kt T b f hT (by omega) i1 i3
    · by_cases z : f' ≤ f
      · exact i2 f' z
      · rw [show f' = f + 1 by omega]
        exact longest_of kt T b f hT (by omega) i1
theorem rX_sL (T : List Tk) (F : Nat) : rX (fun i => T[i]?) F T.length = sL (fun i => T[i]?) F 0 0 := by
  cases h : sL (fun i => T[i]?) F 0 0 with
  | none => exact rX_none h _
  | some xp =>
    obtain ⟨x, p⟩ := xp
    exact rX_some h _ (s_le h).2.1
set_option maxHeartbeats 16000000 in
set_option maxRecDepth 100000 in
theorem pExpr_c (kt : Cap) (T : List Tk) (hT : T.length < 1000000) (σ : St) (hg : GlOK σ) (K : Res → St → Prop) (hK : K (.ret (.tuple [pvE (exprM T (rX (fun i => T[i]?) (5 * T.length + 5) T.length)).1, vi (exprM T (rX (fun i => T[i]?) (5 * T.length + 5) T.length)).2.1, vi (exprM T (rX (fun i => T[i]?) (5 * T.length + 5) T.length)).2.2])) σ) : PCalls Tryd.prog 15 [.list kt 4 (T.map pvTk)] σ K := by
  rw [rX_sL] at hK
  refine PCalls.forgetR ?_
  refine PCalls.of_body (tOk Tryd.prog) (by kernel_rfl) Tryd.func15 rfl (by kernel_rfl) [8] [(6, 24, [(0, []), (2, []), (1, []), (3, []), (4, [3]), (5, []), (6, [])])] (by kernel_rfl) (n := 25) (by kernel_rfl) (by kernel_rfl) (rs := [.cell 2 27, .tmp 3, .tmp 4]) (by kernel_rfl) ?_
  simp (config := { maxSteps := 4000000 }) (disch := omega) only [pvK, pvB, sPp6D_15, reduceIte, Nat.reduceEqDiff, Nat.reduceAdd, Nat.reduceSub, Nat.reduceMul, Nat.reduceLT, Nat.reduceLeDiff, Nat.reduceBEq, reduceCtorEq, Int.reduceAdd, Int.reduceSub, Int.reduceMul, Int.reduceLT, Int.reduceLE, Int.reduceEq, Int.reduceToNat, Int.reduceNeg, Nat.reduceBNe, Int.reduceBEq, Int.reduceBNe, Int.reduceGT, Int.reduceGE, Int.reduceTMod, Bool.false_eq_true, Bool.not_true, Bool.not_false, forall_const, eq_self, decide_true, decide_false, ppC]
  intro b hb2 hb3
  refine (pboth kt T b hT (5 * T.length + 5) (by omega)).2.1 _ (Nat.le_refl _) 0 0 _ _ (hg.set _ _) (Nat.zero_le _) (by omega) (Nat.zero_le _) (obj_set _ _ _) fun a1 ha1 => ?_
  cases hm : sL (fun i => T[i]?) (5 * T.length + 5) 0 0 with
  | none =>
    rw [hm] at hK
    simp only [exprM] at hK
    simp (config := { maxSteps := 4000000 }) (disch := omega) only [pvK, pvB, sPp6D_15, reduceIte, Nat.reduceEqDiff, Nat.reduceAdd, Nat.reduceSub, Nat.reduceMul, Nat.reduceLT, Nat.reduceLeDiff, Nat.reduceBEq, reduceCtorEq, Int.reduceAdd, Int.reduceSub, Int.reduceMul, Int.reduceLT, Int.reduceLE, Int.reduceEq, Int.reduceToNat, Int.reduceNeg, Nat.reduceBNe, Int.reduceBEq, Int.reduceBNe, Int.reduceGT, Int.reduceGE, Int.reduceTMod, Bool.false_eq_true, Bool.not_true, Bool.not_false, forall_const, eq_self, decide_true, decide_false, ppC, pvPre]
    refine ⟨σ, sub_set hb2, ?_⟩
    have hh := hK
    simp only [Res.forget, forget, forgets, pvPre, zeroE, pvE, pvEs, vi, vs, vb', forgets_Es, cast_0] at hh ⊢
    exact hh
  | some xp =>
    obtain ⟨x, p⟩ := xp
    have hp := s_le hm
    have hw := (m_wt _ _ _).1 _ _ _ _ ((s_sound _ _).1 _ _ _ _ hm)
    rw [hm] at hK
    simp only [exprM] at hK
    have hd := fun (σ : St) (K : Res → St → Prop) => depth_c 8 x σ K (by omega) (by omega)
    generalize hdx : dE x = dx at *
    obtain ⟨x1, x2, x3, x4, x5⟩ := x
    have c8 : ((8 : Nat) : Int) = 8 := rfl
    simp only [vi, c8, pvE_q] at hd
    simp (config := { maxSteps := 4000000 }) (disch := omega) only [pvK, pvB, sPp6D_15, reduceIte, Nat.reduceEqDiff, Nat.reduceAdd, Nat.reduceSub, Nat.reduceMul, Nat.reduceLT, Nat.reduceLeDiff, Nat.reduceBEq, reduceCtorEq, Int.reduceAdd, Int.reduceSub, Int.reduceMul, Int.reduceLT, Int.reduceLE, Int.reduceEq, Int.reduceToNat, Int.reduceNeg, Nat.reduceBNe, Int.reduceBEq, Int.reduceBNe, Int.reduceGT, Int.reduceGE, Int.reduceTMod, Bool.false_eq_true, Bool.not_true, Bool.not_false, forall_const, eq_self, decide_true, decide_false, ppC, pvPre]
    refine hd _ _ ?_
    by_cases h8 : 8 < dx
    · rw [if_pos h8] at hK
      have h9 : (((min dx (8 + 1) : Nat) : Int) > 8) = True := eq_true (by omega)
      simp (config := { maxSteps := 4000000 }) (disch := omega) only [pvK, pvB, sPp6D_15, reduceIte, Nat.reduceEqDiff, Nat.reduceAdd, Nat.reduceSub, Nat.reduceMul, Nat.reduceLT, Nat.reduceLeDiff, Nat.reduceBEq, reduceCtorEq, Int.reduceAdd, Int.reduceSub, Int.reduceMul, Int.reduceLT, Int.reduceLE, Int.reduceEq, Int.reduceToNat, Int.reduceNeg, Nat.reduceBNe, Int.reduceBEq, Int.reduceBNe, Int.reduceGT, Int.reduceGE, Int.reduceTMod, Bool.false_eq_true, Bool.not_true, Bool.not_false, forall_const, eq_self, decide_true, decide_false, ppC, h9]
      refine ⟨σ, sub_set hb2, ?_⟩
      have hh := hK
      simp only [Res.forget, forget, forgets, pvPre, zeroE, pvE, pvEs, vi, vs, vb', forgets_Es, cast_0] at hh ⊢
      exact hh
    · rw [if_neg h8] at hK
      have h9 : (((min dx (8 + 1) : Nat) : Int) > 8) = False := eq_false (by omega)
      simp (config := { maxSteps := 4000000 }) (disch := omega) only [pvK, pvB, sPp6D_15, reduceIte, Nat.reduceEqDiff, Nat.reduceAdd, Nat.reduceSub, Nat.reduceMul, Nat.reduceLT, Nat.reduceLeDiff, Nat.reduceBEq, reduceCtorEq, Int.reduceAdd, Int.reduceSub, Int.reduceMul, Int.reduceLT, Int.reduceLE, Int.reduceEq, Int.reduceToNat, Int.reduceNeg, Nat.reduceBNe, Int.reduceBEq, Int.reduceBNe, Int.reduceGT, Int.reduceGE, Int.reduceTMod, Bool.false_eq_true, Bool.not_true, Bool.not_false, forall_const, eq_self, decide_true, decide_false, ppC, h9]
      refine ⟨σ, sub_set hb2, ?_⟩
      have hh := hK
      simp only [Res.forget, forget, forgets, pvPre, zeroE, pvE, pvEs, vi, vs, vb', forgets_Es] at hh ⊢
      exact hh
def SameC (n : Nat) : Prop := ∀ (e : AE) (σ : St) (K : Res → St → Prop), dE e ≤ n → wE e < 4611686018427387904 → K (.ret (vb' true)) σ → PCalls Tryd.prog 18 [pvE e, pvE e] σ K
set_option maxHeartbeats 8000000 in
set_option maxRecDepth 100000 in
theorem sameAll_of (n : Nat) (ih : SameC n) (l : List AE) (σ : St) (K : Res → St → Prop) (hd : dEs l ≤ n) (hw : wEs l < 4611686018427387904) (hK : K (.ret (vb' true)) σ) : PCalls Tryd.prog 46 [.list .any 5 (pvEs l), .list .any 5 (pvEs l)] σ K := by
  have hlen := wEs_len l
  refine PCalls.of_body (tOk Tryd.prog) (by kernel_rfl) Tryd.func46 rfl (by kernel_rfl) [] [(6, 26, [(0, []), (1, []), (4, []), (5, []), (2, []), (6, []), (3, []), (7, []), (8, []), (9, [])])] (by kernel_rfl) (n := 27) (by kernel_rfl) (by kernel_rfl) (rs := [.tmp 4]) (by kernel_rfl) ?_
  simp (config := { maxSteps := 4000000 }) (disch := omega) only [pvK, pvB, sPp6D_46, reduceIte, Nat.reduceEqDiff, Nat.reduceAdd, Nat.reduceSub, Nat.reduceMul, Nat.reduceLT, Nat.reduceLeDiff, Nat.reduceBEq, reduceCtorEq, Int.reduceAdd, Int.reduceSub, Int.reduceMul, Int.reduceLT, Int.reduceLE, Int.reduceEq, Int.reduceToNat, Int.reduceNeg, Nat.reduceBNe, Int.reduceBEq, Int.reduceBNe, Int.reduceGT, Int.reduceGE, Int.reduceTMod, Bool.false_eq_true, Bool.not_true, Bool.not_false, forall_const, eq_self, decide_true, decide_false]
  refine loop_rule (fun s => ∃ i : Nat, i ≤ l.length ∧ s = ⟨27, [(0, .list .any 5 (pvEs l)), (1, .list .any 5 (pvEs l)), (5, vi i)], [], σ⟩) (fun s => (l.length - ival (get s.env 5)).toNat) ?_ ?_
  · exact ⟨_, less_env rfl (less_env rfl (less_env rfl (less_nil (.refl _)))), 0, Nat.zero_le _, rfl⟩
  · rintro s ⟨i, hi, rfl⟩ R hR
    by_cases hlt : i < l.length
    · have hd1 := dEs_mem (List.getElem_mem hlt)
      have hw1 := wEs_mem (List.getElem_mem hlt)
      have eg : (pvEs l)[i]? = some (pvE l[i]) := by simp [pvEs_get, hlt]
      have ihx := fun K => ih l[i] σ K (by omega) (by omega)
      generalize l[i] = x at *
      obtain ⟨k1, n1, s1, o1, l1⟩ := x
      rw [pvE_q] at eg
      simp only [pvE_q, vi, vs] at ihx eg
      simp (config := { maxSteps := 4000000 }) (disch := omega) only [pvK, pvB, sPp6D_46, reduceIte, Nat.reduceEqDiff, Nat.reduceAdd, Nat.reduceSub, Nat.reduceMul, Nat.reduceLT, Nat.reduceLeDiff, Nat.reduceBEq, reduceCtorEq, Int.reduceAdd, Int.reduceSub, Int.reduceMul, Int.reduceLT, Int.reduceLE, Int.reduceEq, Int.reduceToNat, Int.reduceNeg, Nat.reduceBNe, Int.reduceBEq, Int.reduceBNe, Int.reduceGT, Int.reduceGE, Int.reduceTMod, Bool.false_eq_true, Bool.not_true, Bool.not_false, forall_const, eq_self, decide_true, decide_false, lt_true hlt, nn, eg]
      refine ihx _ ?_
      simp (config := { maxSteps := 4000000 }) (disch := omega) only [pvK, pvB, sPp6D_46, reduceIte, Nat.reduceEqDiff, Nat.reduceAdd, Nat.reduceSub, Nat.reduceMul, Nat.reduceLT, Nat.reduceLeDiff, Nat.reduceBEq, reduceCtorEq, Int.reduceAdd, Int.reduceSub, Int.reduceMul, Int.reduceLT, Int.reduceLE, Int.reduceEq, Int.reduceToNat, Int.reduceNeg, Nat.reduceBNe, Int.reduceBEq, Int.reduceBNe, Int.reduceGT, Int.reduceGE, Int.reduceTMod, Bool.false_eq_true, Bool.not_true, Bool.not_false, forall_const, eq_self, decide_true, decide_false]
      refine hR _ _ (less_env rfl (less_env rfl (less_env rfl (less_nil (.refl _))))) ⟨i + 1, by omega, rfl⟩ ?_
      show ((l.length : Int) - ((i + 1 : Nat) : Int)).toNat < ((l.length : Int) - (i : Int)).toNat
      omega
    · simp (config := { maxSteps := 4000000 }) (disch := omega) only [pvK, pvB, sPp6D_46, reduceIte, Nat.reduceEqDiff, Nat.reduceAdd, Nat.reduceSub, Nat.reduceMul, Nat.reduceLT, Nat.reduceLeDiff, Nat.reduceBEq, reduceCtorEq, Int.reduceAdd, Int.reduceSub, Int.reduceMul, Int.reduceLT, Int.reduceLE, Int.reduceEq, Int.reduceToNat, Int.reduceNeg, Nat.reduceBNe, Int.reduceBEq, Int.reduceBNe, Int.reduceGT, Int.reduceGE, Int.reduceTMod, Bool.false_eq_true, Bool.not_true, Bool.not_false, forall_const, eq_self, decide_true, decide_false, lt_false (Nat.le_of_not_lt hlt)]
      exact ⟨σ, .refl _, hK⟩
set_option maxHeartbeats 8000000 in
set_option maxRecDepth 100000 in
theorem same_n : ∀ n, SameC n
  | 0 => fun e _ _ h => by have := dE_pos e; omega
  | n + 1 => by
    intro e σ K hd hw hK
    obtain ⟨k, m, s, o, l⟩ := e
    simp only [dE] at hd
    simp only [wE] at hw
    refine PCalls.of_body (tOk Tryd.prog) (by kernel_rfl) Tryd.func18 rfl (by kernel_rfl) [] [] (by kernel_rfl) (n := 36) (by kernel_rfl) (by kernel_rfl) (rs := [.tmp 4]) (by kernel_rfl) ?_
    simp (config := { maxSteps := 4000000 }) (disch := omega) only [pvK, pvB, sPp6D_18, reduceIte, Nat.reduceEqDiff, Nat.reduceAdd, Nat.reduceSub, Nat.reduceMul, Nat.reduceLT, Nat.reduceLeDiff, Nat.reduceBEq, reduceCtorEq, Int.reduceAdd, Int.reduceSub, Int.reduceMul, Int.reduceLT, Int.reduceLE, Int.reduceEq, Int.reduceToNat, Int.reduceNeg, Nat.reduceBNe, Int.reduceBEq, Int.reduceBNe, Int.reduceGT, Int.reduceGE, Int.reduceTMod, Bool.false_eq_true, Bool.not_true, Bool.not_false, forall_const, eq_self, decide_true, decide_false]
    refine sameAll_of n (same_n n) l σ _ (by omega) (by omega) ?_
    simp (config := { maxSteps := 4000000 }) (disch := omega) only [pvK, pvB, sPp6D_18, reduceIte, Nat.reduceEqDiff, Nat.reduceAdd, Nat.reduceSub, Nat.reduceMul, Nat.reduceLT, Nat.reduceLeDiff, Nat.reduceBEq, reduceCtorEq, Int.reduceAdd, Int.reduceSub, Int.reduceMul, Int.reduceLT, Int.reduceLE, Int.reduceEq, Int.reduceToNat, Int.reduceNeg, Nat.reduceBNe, Int.reduceBEq, Int.reduceBNe, Int.reduceGT, Int.reduceGE, Int.reduceTMod, Bool.false_eq_true, Bool.not_true, Bool.not_false, forall_const, eq_self, decide_true, decide_false]
    exact ⟨σ, .refl _, hK⟩
theorem same_c (e : AE) (σ : St) (K : Res → St → Prop) (hw : wE e < 4611686018427387904) (hK : K (.ret (vb' true)) σ) : PCalls Tryd.prog 18 [pvE e, pvE e] σ K := same_n _ e σ K (Nat.le_refl _) hw hK
end Go.Pv.D
-- Aw0
namespace Go.Pv
open Go
def awT : ByteArray := ⟨#[97, 32, 45, 32, 98, 32, 45, 32, 99]⟩
def awL : List Tk := [⟨1, 0, 1, ⟨#[97]⟩⟩, ⟨3, 0, 1, ⟨#[45]⟩⟩, ⟨1, 0, 1, ⟨#[98]⟩⟩, ⟨3, 0, 1, ⟨#[45]⟩⟩, ⟨1, 0, 1, ⟨#[99]⟩⟩]
theorem aw_scan : scanA awT = (awL, 0, 0) := by kernel_rfl
end Go.Pv
namespace Go.Pv
open Go
theorem aw_expr : rX (fun i => awL[i]?) (5 * awL.length + 5) awL.length = some (binE 2 (binE 2 (nameE ⟨#[97]⟩) (nameE ⟨#[98]⟩)) (nameE ⟨#[99]⟩), 5) := by kernel_rfl
end Go.Pv
-- Aw1D
namespace Go.Pv.D
open Go Go.RowKit Go.Proofs Go.Pv
def sAw1D_14 := (And.intro (And.intro (And.intro (And.intro (And.intro @q_fld_27_3 @q_fld_27_2) (And.intro @q_fld_27_4 @q_slz_0)) (And.intro (And.intro @q_tsz_3 @q_slz_3) (And.intro @q_ifc_3 @q_tsz_4))) (And.intro (And.intro (And.intro @q_slz_4 @q_ifc_4) (And.intro @q_isb_4 @q_tsz_9)) (And.intro (And.intro @q_slz_9 @q_str_9) (And.intro @q_arz_9 (And.intro @q_ifc_9 @q_tsz_23))))) (And.intro (And.intro (And.intro (And.intro @q_slz_23 @q_str_23) (And.intro @q_arz_23 @q_ifc_23)) (And.intro (And.intro @q_tsz_25 @q_slz_25) (And.intro @q_str_25 (And.intro @q_arz_25 @q_ifc_25)))) (And.intro (And.intro (And.intro @q_tsz_27 @q_slz_27) (And.intro @q_ifc_27 @q_tsz_28)) (And.intro (And.intro @q_slz_28 @q_ifc_28) (And.intro @q_slz_29 (And.intro @q_slz_55 @q_zcs_27))))))
theorem aw_M : exprM awL (rX (fun i => awL[i]?) (5 * awL.length + 5) awL.length) = (binE 2 (binE 2 (nameE ⟨#[97]⟩) (nameE ⟨#[98]⟩)) (nameE ⟨#[99]⟩), 5, 0) := by
  rw [aw_expr]; rfl
set_option maxHeartbeats 8000000 in
set_option maxRecDepth 100000 in
theorem awake3_c (σ : St) (hg : GlOK σ) (K : Res → St → Prop) (hK : K (.ret (vb' true)) σ) : PCalls Tryd.prog 14 [] σ K := by
  refine PCalls.forgetR ?_
  refine PCalls.of_body (tOk Tryd.prog) (by kernel_rfl) Tryd.func14 rfl (by kernel_rfl) [] [] (by kernel_rfl) (n := 55) (by kernel_rfl) (by kernel_rfl) (rs := [.tmp 0]) (by kernel_rfl) ?_
  simp (config := { maxSteps := 4000000 }) (disch := omega) only [pvK, pvB, sAw1D_14, reduceIte, Nat.reduceEqDiff, Nat.reduceAdd, Nat.reduceSub, Nat.reduceMul, Nat.reduceLT, Nat.reduceLeDiff, Nat.reduceBEq, reduceCtorEq, Int.reduceAdd, Int.reduceSub, Int.reduceMul, Int.reduceLT, Int.reduceLE, Int.reduceEq, Int.reduceToNat, Int.reduceNeg, Nat.reduceBNe, Int.reduceBEq, Int.reduceBNe, Int.reduceGT, Int.reduceGE, Int.reduceTMod, Bool.false_eq_true, Bool.not_true, Bool.not_false, forall_const, eq_self, decide_true, decide_false]
  refine rScan_c awT σ _ ?_
  rw [aw_scan]
  simp only [pvScan]
  simp (config := { maxSteps := 4000000 }) (disch := omega) only [pvK, pvB, sAw1D_14, reduceIte, Nat.reduceEqDiff, Nat.reduceAdd, Nat.reduceSub, Nat.reduceMul, Nat.reduceLT, Nat.reduceLeDiff, Nat.reduceBEq, reduceCtorEq, Int.reduceAdd, Int.reduceSub, Int.reduceMul, Int.reduceLT, Int.reduceLE, Int.reduceEq, Int.reduceToNat, Int.reduceNeg, Nat.reduceBNe, Int.reduceBEq, Int.reduceBNe, Int.reduceGT, Int.reduceGE, Int.reduceTMod, Bool.false_eq_true, Bool.not_true, Bool.not_false, forall_const, eq_self, decide_true, decide_false]
  refine pExpr_c .any awL (by decide) σ hg _ ?_
  rw [aw_M]
  simp only [binE, nameE, pvE, pvEs]
  have ec : (ByteArray.toList ⟨#[99]⟩ == ByteArray.toList ⟨#[99]⟩) = true := beq_self_eq_true _
  have c5 : ((5 : Nat) : Int) = 5 := rfl
  have c2 : ((2 : Nat) : Int) = 2 := rfl
  have c1 : ((1 : Nat) : Int) = 1 := rfl
  simp (config := { maxSteps := 4000000 }) (disch := omega) only [pvK, pvB, sAw1D_14, reduceIte, Nat.reduceEqDiff, Nat.reduceAdd, Nat.reduceSub, Nat.reduceMul, Nat.reduceLT, Nat.reduceLeDiff, Nat.reduceBEq, reduceCtorEq, Int.reduceAdd, Int.reduceSub, Int.reduceMul, Int.reduceLT, Int.reduceLE, Int.reduceEq, Int.reduceToNat, Int.reduceNeg, Nat.reduceBNe, Int.reduceBEq, Int.reduceBNe, Int.reduceGT, Int.reduceGE, Int.reduceTMod, Bool.false_eq_true, Bool.not_true, Bool.not_false, forall_const, eq_self, decide_true, decide_false, ec, c5, c2, c1]
  refine ⟨σ, .refl _, ?_⟩
  exact hK
end Go.Pv.D
-- Sg1D
namespace Go.Pv.D
open Go Go.RowKit Go.Proofs Go.Pv
def sSg1D_16 := (And.intro (And.intro (And.intro (And.intro (And.intro @q_slz_0 @q_tsz_1) (And.intro @q_slz_1 (And.intro @q_ifc_1 @q_tsz_2))) (And.intro (And.intro @q_slz_2 (And.intro @q_ifc_2 @q_tsz_3)) (And.intro @q_slz_3 (And.intro @q_ifc_3 @q_tsz_4)))) (And.intro (And.intro (And.intro @q_slz_4 @q_ifc_4) (And.intro @q_isb_4 (And.intro @q_tsz_5 @q_slz_5))) (And.intro (And.intro @q_ifc_5 (And.intro @q_tsz_9 @q_slz_9)) (And.intro @q_str_9 (And.intro @q_arz_9 @q_ifc_9))))) (And.intro (And.intro (And.intro (And.intro @q_tsz_22 @q_slz_22) (And.intro @q_str_22 (And.intro @q_arz_22 @q_ifc_22))) (And.intro (And.intro @q_tsz_23 (And.intro @q_slz_23 @q_str_23)) (And.intro @q_arz_23 (And.intro @q_ifc_23 @q_tsz_36)))) (And.intro (And.intro (And.intro @q_slz_36 @q_str_36) (And.intro @q_arz_36 (And.intro @q_ifc_36 @q_tsz_59))) (And.intro (And.intro @q_slz_59 (And.intro @q_ifc_59 @q_bsl_36)) (And.intro @q_bsl_23 (And.intro @q_bld_59 @q_cvi_5_3))))))
def sgW : List ByteArray := [⟨#[43]⟩, ⟨#[45]⟩, ⟨#[42]⟩, ⟨#[47]⟩, ⟨#[37]⟩, ⟨#[38]⟩, ⟨#[124]⟩, ⟨#[94]⟩, ⟨#[60, 60]⟩, ⟨#[62, 62]⟩, ⟨#[60]⟩, ⟨#[60, 61]⟩, ⟨#[61, 61]⟩, ⟨#[33, 61]⟩, ⟨#[40]⟩, ⟨#[41]⟩, ⟨#[91]⟩, ⟨#[93]⟩]
def sgN : List ByteArray := [⟨#[97]⟩, ⟨#[98]⟩, ⟨#[101, 110, 100]⟩]
def sgTk (c : Int) : Tk :=
  if c.tmod 40 < 18 then ⟨3, 0, 0, sgW.getD (c.tmod 40).toNat ⟨#[]⟩⟩
  else if c.tmod 40 < 28 then ⟨2, c.tmod 40, 0, ⟨#[]⟩⟩
  else ⟨1, 0, 0, sgN.getD ((c.tmod 40).tmod 3).toNat ⟨#[]⟩⟩
/-- The tokens of a list of bytes. -/
def sgs (l : List Int) : List Tk := (l.take 60).map sgTk
theorem sub_gr {σ σ1 : St} {n sz : Nat} {k : Cap} (g : Gr σ σ1 n sz k) : σ.sub σ1 := ⟨fun b o h => by rw [g.obj]; exact h, g.own, g.gl.symm⟩
def pvu8 (n : Int) : PV := .val (.int .u8 n)
set_option maxHeartbeats 16000000 in
set_option maxRecDepth 100000 in
theorem signs_c (kl : Cap) (l : List Int) (hb : ∀ c ∈ l, 0 ≤ c ∧ c ≤ 255) (σ : St) (K : Res → St → Prop) (hK : K (.ret (.list .any 4 ((sgs l).map pvTk))) σ) : PCalls Tryd.prog 16 [.list kl 1 (l.map pvu8)] σ K := by
  refine PCalls.forgetR ?_
  refine PCalls.of_body (tOk Tryd.prog) (by kernel_rfl) Tryd.func16 rfl (by kernel_rfl) [] [] (by kernel_rfl) (n := 55) (by kernel_rfl) (by kernel_rfl) (rs := [.tmp 2]) (by kernel_rfl) ?_
  simp (config := { maxSteps := 4000000 }) (disch := omega) only [pvK, pvB, sSg1D_16, reduceIte, Nat.reduceEqDiff, Nat.reduceAdd, Nat.reduceSub, Nat.reduceMul, Nat.reduceLT, Nat.reduceLeDiff, Nat.reduceBEq, reduceCtorEq, Int.reduceAdd, Int.reduceSub, Int.reduceMul, Int.reduceLT, Int.reduceLE, Int.reduceEq, Int.reduceToNat, Int.reduceNeg, Nat.reduceBNe, Int.reduceBEq, Int.reduceBNe, Int.reduceGT, Int.reduceGE, Int.reduceTMod, Bool.false_eq_true, Bool.not_true, Bool.not_false, forall_const, eq_self, decide_true, decide_false]
  refine loop_rule (fun s => ∃ (i : Nat) (k : Cap) (σ1 : St), i ≤ l.length ∧ i ≤ 60 ∧ Gr σ σ1 i 4 k ∧ s = ⟨55, [(0, .list kl 1 (l.map pvu8)), (3, .list .full 1 (sgW.map vs)), (4, .list k 4 (((l.take i).map sgTk).map pvTk)), (5, vi i)], [], σ1⟩) (fun s => (l.length - ival (get s.env 5)).toNat) ?_ ?_
  · exact ⟨_, less_env rfl (less_env rfl (less_env rfl (less_env rfl (less_nil (.refl _))))), 0, .full, σ, Nat.zero_le _, Nat.zero_le _, Gr.refl _ _, rfl⟩
  · rintro s ⟨i, k, σ1, hi, hi6, g, rfl⟩ R hR
    by_cases hlt : i < l.length
    · by_cases h60 : i < 60
      · have hc := hb l[i] (List.getElem_mem hlt)
        have h1 : ((i : Int) < (l.length : Int)) = True := eq_true (by omega)
        have h2 : ((i : Int) < 60) = True := eq_true (by omega)
        have h0 : (0 ≤ (i : Int)) = True := eq_true (by omega)
        have g1 : (l.map pvu8)[i]? = some (pvu8 l[i]) := by simp [hlt]
        simp only [pvu8] at g1
        have next : l.take (i + 1) = l.take i ++ [l[i]] := by rw [List.take_append_getElem hlt]
        generalize l[i] = c at *
        have hm0 : 0 ≤ c.tmod 40 := Int.tmod_nonneg _ hc.1
        have hm1 : c.tmod 40 < 40 := Int.tmod_lt_of_pos _ (by omega)
        have ln : (((l.take i).map sgTk).map pvTk).length = i := by simp; omega
        simp (config := { maxSteps := 4000000 }) (disch := omega) only [pvK, pvB, sSg1D_16, reduceIte, Nat.reduceEqDiff, Nat.reduceAdd, Nat.reduceSub, Nat.reduceMul, Nat.reduceLT, Nat.reduceLeDiff, Nat.reduceBEq, reduceCtorEq, Int.reduceAdd, Int.reduceSub, Int.reduceMul, Int.reduceLT, Int.reduceLE, Int.reduceEq, Int.reduceToNat, Int.reduceNeg, Nat.reduceBNe, Int.reduceBEq, Int.reduceBNe, Int.reduceGT, Int.reduceGE, Int.reduceTMod, Bool.false_eq_true, Bool.not_true, Bool.not_false, forall_const, eq_self, decide_true, decide_false, h0, h1, h2, g1]
        have h3 : (0 ≤ c.tmod 40) = True := eq_true hm0
        have lw : (sgW.length : Int) = 18 := rfl
        refine kcond_e (fun h => ?_) (fun h => ?_)
        · rw [lw] at h
          have hlt18 : c.tmod 40 < 18 := of_decide_eq_true h
          have g2 : (sgW.map vs)[(c.tmod 40).toNat]? = some (vs (sgW.getD (c.tmod 40).toNat ⟨#[]⟩)) := by
            have : (c.tmod 40).toNat < sgW.length := by show _ < 18; omega
            simp [List.getD, this]
          have et : sgTk c = ⟨3, 0, 0, sgW.getD (c.tmod 40).toNat ⟨#[]⟩⟩ := by simp only [sgTk, hlt18, if_true]
          simp only [vs] at g2
          simp (config := { maxSteps := 4000000 }) (disch := omega) only [pvK, pvB, sSg1D_16, reduceIte, Nat.reduceEqDiff, Nat.reduceAdd, Nat.reduceSub, Nat.reduceMul, Nat.reduceLT, Nat.reduceLeDiff, Nat.reduceBEq, reduceCtorEq, Int.reduceAdd, Int.reduceSub, Int.reduceMul, Int.reduceLT, Int.reduceLE, Int.reduceEq, Int.reduceToNat, Int.reduceNeg, Nat.reduceBNe, Int.reduceBEq, Int.reduceBNe, Int.reduceGT, Int.reduceGE, Int.reduceTMod, Bool.false_eq_true, Bool.not_true, Bool.not_false, forall_const, eq_self, decide_true, decide_false, h3, g2, ln]
          refine ⟨by omega, by omega, by simpa [ln] using g.owns, fun k1 σ2 ap => ?_⟩
          have m2 := g.app (n := i) (m := i + 1) (by simpa [ln] using ap)
          refine hR _ _ ?_ ⟨i + 1, k1, σ2, by omega, by omega, m2, rfl⟩ ?_
          · exact less_env rfl (less_env rfl (less_env (by show PV.list _ _ _ = PV.list _ _ _; simp only [next, List.map_append, List.map_cons, List.map_nil, et, pvTk, vi, vs]; rfl) (less_env rfl (less_nil (.refl _)))))
          · show ((l.length : Int) - ((i + 1 : Nat) : Int)).toNat < ((l.length : Int) - (i : Int)).toNat
            omega
        · rw [lw] at h
          have hge : ¬ c.tmod 40 < 18 := of_decide_eq_false h
          simp (config := { maxSteps := 4000000 }) (disch := omega) only [pvK, pvB, sSg1D_16, reduceIte, Nat.reduceEqDiff, Nat.reduceAdd, Nat.reduceSub, Nat.reduceMul, Nat.reduceLT, Nat.reduceLeDiff, Nat.reduceBEq, reduceCtorEq, Int.reduceAdd, Int.reduceSub, Int.reduceMul, Int.reduceLT, Int.reduceLE, Int.reduceEq, Int.reduceToNat, Int.reduceNeg, Nat.reduceBNe, Int.reduceBEq, Int.reduceBNe, Int.reduceGT, Int.reduceGE, Int.reduceTMod, Bool.false_eq_true, Bool.not_true, Bool.not_false, forall_const, eq_self, decide_true, decide_false, h3]
          refine kcond_e (fun h' => ?_) (fun h' => ?_)
          · have hlt28 : c.tmod 40 < 28 := of_decide_eq_true h'
            have et : sgTk c = ⟨2, c.tmod 40, 0, ⟨#[]⟩⟩ := by simp only [sgTk, hge, hlt28, if_true, if_false]
            simp (config := { maxSteps := 4000000 }) (disch := omega) only [pvK, pvB, sSg1D_16, reduceIte, Nat.reduceEqDiff, Nat.reduceAdd, Nat.reduceSub, Nat.reduceMul, Nat.reduceLT, Nat.reduceLeDiff, Nat.reduceBEq, reduceCtorEq, Int.reduceAdd, Int.reduceSub, Int.reduceMul, Int.reduceLT, Int.reduceLE, Int.reduceEq, Int.reduceToNat, Int.reduceNeg, Nat.reduceBNe, Int.reduceBEq, Int.reduceBNe, Int.reduceGT, Int.reduceGE, Int.reduceTMod, Bool.false_eq_true, Bool.not_true, Bool.not_false, forall_const, eq_self, decide_true, decide_false, h3, ln]
            refine ⟨by omega, by omega, by simpa [ln] using g.owns, fun k1 σ2 ap => ?_⟩
            have m2 := g.app (n := i) (m := i + 1) (by simpa [ln] using ap)
            refine hR _ _ ?_ ⟨i + 1, k1, σ2, by omega, by omega, m2, rfl⟩ ?_
            · exact less_env rfl (less_env rfl (less_env (by show PV.list _ _ _ = PV.list _ _ _; simp only [next, List.map_append, List.map_cons, List.map_nil, et, pvTk, vi, vs]; rfl) (less_env rfl (less_nil (.refl _)))))
            · show ((l.length : Int) - ((i + 1 : Nat) : Int)).toNat < ((l.length : Int) - (i : Int)).toNat
              omega
          · have hge28 : ¬ c.tmod 40 < 28 := of_decide_eq_false h'
            have hn0 : 0 ≤ (c.tmod 40).tmod 3 := Int.tmod_nonneg _ hm0
            have hn1 : (c.tmod 40).tmod 3 < 3 := Int.tmod_lt_of_pos _ (by omega)
            have h4 : (0 ≤ (c.tmod 40).tmod 3) = True := eq_true hn0
            have et : sgTk c = ⟨1, 0, 0, sgN.getD ((c.tmod 40).tmod 3).toNat ⟨#[]⟩⟩ := by simp only [sgTk, hge, hge28, if_true, if_false]
            have g2 : (([⟨#[97]⟩, ⟨#[98]⟩, ⟨#[101, 110, 100]⟩] : List ByteArray).map vs)[((c.tmod 40).tmod 3).toNat]? = some (vs (sgN.getD ((c.tmod 40).tmod 3).toNat ⟨#[]⟩)) := by
              have : ((c.tmod 40).tmod 3).toNat < sgN.length := by show _ < 3; omega
              show (sgN.map vs)[_]? = _
              simp [List.getD, this]
            simp only [vs, List.map_cons, List.map_nil] at g2
            simp (config := { maxSteps := 4000000 }) (disch := omega) only [pvK, pvB, sSg1D_16, reduceIte, Nat.reduceEqDiff, Nat.reduceAdd, Nat.reduceSub, Nat.reduceMul, Nat.reduceLT, Nat.reduceLeDiff, Nat.reduceBEq, reduceCtorEq, Int.reduceAdd, Int.reduceSub, Int.reduceMul, Int.reduceLT, Int.reduceLE, Int.reduceEq, Int.reduceToNat, Int.reduceNeg, Nat.reduceBNe, Int.reduceBEq, Int.reduceBNe, Int.reduceGT, Int.reduceGE, Int.reduceTMod, Bool.false_eq_true, Bool.not_true, Bool.not_false, forall_const, eq_self, decide_true, decide_false, h3, h4, g2, ln]
            refine ⟨by omega, by omega, by simpa [ln] using g.owns, fun k1 σ2 ap => ?_⟩
            have m2 := g.app (n := i) (m := i + 1) (by simpa [ln] using ap)
            refine hR _ _ ?_ ⟨i + 1, k1, σ2, by omega, by omega, m2, rfl⟩ ?_
            · exact less_env rfl (less_env rfl (less_env (by show PV.list _ _ _ = PV.list _ _ _; simp only [next, List.map_append, List.map_cons, List.map_nil, et, pvTk, vi, vs]; rfl) (less_env rfl (less_nil (.refl _)))))
            · show ((l.length : Int) - ((i + 1 : Nat) : Int)).toNat < ((l.length : Int) - (i : Int)).toNat
              omega
      · have h1 : ((i : Int) < (l.length : Int)) = True := eq_true (by omega)
        have h2 : ((i : Int) < 60) = False := eq_false (by omega)
        simp (config := { maxSteps := 4000000 }) (disch := omega) only [pvK, pvB, sSg1D_16, reduceIte, Nat.reduceEqDiff, Nat.reduceAdd, Nat.reduceSub, Nat.reduceMul, Nat.reduceLT, Nat.reduceLeDiff, Nat.reduceBEq, reduceCtorEq, Int.reduceAdd, Int.reduceSub, Int.reduceMul, Int.reduceLT, Int.reduceLE, Int.reduceEq, Int.reduceToNat, Int.reduceNeg, Nat.reduceBNe, Int.reduceBEq, Int.reduceBNe, Int.reduceGT, Int.reduceGE, Int.reduceTMod, Bool.false_eq_true, Bool.not_true, Bool.not_false, forall_const, eq_self, decide_true, decide_false, h1, h2]
        have e6 : i = 60 := by omega
        subst e6
        refine ⟨σ, sub_gr g, ?_⟩
        have hh := hK
        simp only [Res.forget, forget, forgets_Tks, sgs] at hh ⊢
        exact hh
    · have h1 : ((i : Int) < (l.length : Int)) = False := eq_false (by omega)
      simp (config := { maxSteps := 4000000 }) (disch := omega) only [pvK, pvB, sSg1D_16, reduceIte, Nat.reduceEqDiff, Nat.reduceAdd, Nat.reduceSub, Nat.reduceMul, Nat.reduceLT, Nat.reduceLeDiff, Nat.reduceBEq, reduceCtorEq, Int.reduceAdd, Int.reduceSub, Int.reduceMul, Int.reduceLT, Int.reduceLE, Int.reduceEq, Int.reduceToNat, Int.reduceNeg, Nat.reduceBNe, Int.reduceBEq, Int.reduceBNe, Int.reduceGT, Int.reduceGE, Int.reduceTMod, Bool.false_eq_true, Bool.not_true, Bool.not_false, forall_const, eq_self, decide_true, decide_false, h1]
      have e6 : l.take i = l.take 60 := by rw [List.take_of_length_le (by omega), List.take_of_length_le (by omega)]
      rw [e6]
      refine ⟨σ, sub_gr g, ?_⟩
      have hh := hK
      simp only [Res.forget, forget, forgets_Tks, sgs] at hh ⊢
      exact hh
end Go.Pv.D
-- Pe1D
namespace Go.Pv.D
open Go Go.RowKit Go.Proofs Go.Pv
def sPe1D_3 := (And.intro (And.intro (And.intro (And.intro @q_slz_0 (And.intro @q_tsz_3 @q_slz_3)) (And.intro @q_ifc_3 (And.intro @q_tsz_4 @q_slz_4))) (And.intro (And.intro @q_ifc_4 (And.intro @q_isb_4 @q_tsz_22)) (And.intro (And.intro @q_slz_22 @q_str_22) (And.intro @q_arz_22 @q_ifc_22)))) (And.intro (And.intro (And.intro @q_tsz_23 (And.intro @q_slz_23 @q_str_23)) (And.intro @q_arz_23 (And.intro @q_ifc_23 @q_tsz_27))) (And.intro (And.intro @q_slz_27 (And.intro @q_ifc_27 @q_tsz_28)) (And.intro (And.intro @q_slz_28 @q_ifc_28) (And.intro @q_slz_29 @q_zcs_27)))))
theorem rX_wt (g : Nat → Option Tk) (F : Nat) : ∀ n x p, rX g F n = some (x, p) → wE x ≤ 2 * n
  | 0, x, p, h => by cases h
  | n + 1, x, p, h => by
    have ih := rX_wt g F n x p
    rw [rX] at h
    split at h
    · rename_i y q hm
      split at h
      · cases h
        have := ((m_wt _ _ _).1 _ _ _ _ hm)
        omega
      · have := ih h; omega
    · have := ih h; omega
theorem exprM_wt (T : List Tk) (hT : T.length < 1000000) (g : Nat → Option Tk) (F : Nat) : wE (exprM T (rX g F T.length)).1 < 4611686018427387904 := by
  have hz : wE zeroE < 100 := by decide
  cases h : rX g F T.length with
  | none => simp only [exprM]; omega
  | some xp =>
    obtain ⟨x, p⟩ := xp
    have := rX_wt _ _ _ _ _ h
    simp only [exprM]
    split
    · show wE zeroE < _; omega
    · show wE x < _; omega
set_option maxHeartbeats 16000000 in
set_option maxRecDepth 100000 in
theorem parseExprs_c (kl kr : Cap) (l : List Int) (hb : ∀ c ∈ l, 0 ≤ c ∧ c ≤ 255) (raw : List Tk) (σ : St) (hg : GlOK σ) (K : Res → St → Prop) (hK : K (.ret (vb' true)) σ) : PCalls Tryd.prog 3 [.list kl 1 (l.map pvu8), .list kr 4 (raw.map pvTk)] σ K := by
  refine PCalls.forgetR ?_
  refine PCalls.of_body (tOk Tryd.prog) (by kernel_rfl) Tryd.func3 rfl (by kernel_rfl) [] [] (by kernel_rfl) (n := 78) (by kernel_rfl) (by kernel_rfl) (rs := [.tmp 4]) (by kernel_rfl) ?_
  simp (config := { maxSteps := 4000000 }) (disch := omega) only [pvK, pvB, sPe1D_3, reduceIte, Nat.reduceEqDiff, Nat.reduceAdd, Nat.reduceSub, Nat.reduceMul, Nat.reduceLT, Nat.reduceLeDiff, Nat.reduceBEq, reduceCtorEq, Int.reduceAdd, Int.reduceSub, Int.reduceMul, Int.reduceLT, Int.reduceLE, Int.reduceEq, Int.reduceToNat, Int.reduceNeg, Nat.reduceBNe, Int.reduceBEq, Int.reduceBNe, Int.reduceGT, Int.reduceGE, Int.reduceTMod, Bool.false_eq_true, Bool.not_true, Bool.not_false, forall_const, eq_self, decide_true, decide_false]
  by_cases h60 : 60 < raw.length
  · have a1 : ((raw.length : Int) > 60) = True := eq_true (by omega)
    simp (config := { maxSteps := 4000000 }) (disch := omega) only [pvK, pvB, sPe1D_3, reduceIte, Nat.reduceEqDiff, Nat.reduceAdd, Nat.reduceSub, Nat.reduceMul, Nat.reduceLT, Nat.reduceLeDiff, Nat.reduceBEq, reduceCtorEq, Int.reduceAdd, Int.reduceSub, Int.reduceMul, Int.reduceLT, Int.reduceLE, Int.reduceEq, Int.reduceToNat, Int.reduceNeg, Nat.reduceBNe, Int.reduceBEq, Int.reduceBNe, Int.reduceGT, Int.reduceGE, Int.reduceTMod, Bool.false_eq_true, Bool.not_true, Bool.not_false, forall_const, eq_self, decide_true, decide_false, a1]
    refine awake3_c σ hg _ ?_
    simp (config := { maxSteps := 4000000 }) (disch := omega) only [pvK, pvB, sPe1D_3, reduceIte, Nat.reduceEqDiff, Nat.reduceAdd, Nat.reduceSub, Nat.reduceMul, Nat.reduceLT, Nat.reduceLeDiff, Nat.reduceBEq, reduceCtorEq, Int.reduceAdd, Int.reduceSub, Int.reduceMul, Int.reduceLT, Int.reduceLE, Int.reduceEq, Int.reduceToNat, Int.reduceNeg, Nat.reduceBNe, Int.reduceBEq, Int.reduceBNe, Int.reduceGT, Int.reduceGE, Int.reduceTMod, Bool.false_eq_true, Bool.not_true, Bool.not_false, forall_const, eq_self, decide_true, decide_false, a1]
    exact ⟨σ, .refl _, hK⟩
  · have a1 : ((raw.length : Int) > 60) = False := eq_false (by omega)
    have hs : (sgs l).length < 1000000 := by simp only [sgs, List.length_map, List.length_take]; omega
    simp (config := { maxSteps := 4000000 }) (disch := omega) only [pvK, pvB, sPe1D_3, reduceIte, Nat.reduceEqDiff, Nat.reduceAdd, Nat.reduceSub, Nat.reduceMul, Nat.reduceLT, Nat.reduceLeDiff, Nat.reduceBEq, reduceCtorEq, Int.reduceAdd, Int.reduceSub, Int.reduceMul, Int.reduceLT, Int.reduceLE, Int.reduceEq, Int.reduceToNat, Int.reduceNeg, Nat.reduceBNe, Int.reduceBEq, Int.reduceBNe, Int.reduceGT, Int.reduceGE, Int.reduceTMod, Bool.false_eq_true, Bool.not_true, Bool.not_false, forall_const, eq_self, decide_true, decide_false, a1]
    refine signs_c kl l hb σ _ ?_
    simp (config := { maxSteps := 4000000 }) (disch := omega) only [pvK, pvB, sPe1D_3, reduceIte, Nat.reduceEqDiff, Nat.reduceAdd, Nat.reduceSub, Nat.reduceMul, Nat.reduceLT, Nat.reduceLeDiff, Nat.reduceBEq, reduceCtorEq, Int.reduceAdd, Int.reduceSub, Int.reduceMul, Int.reduceLT, Int.reduceLE, Int.reduceEq, Int.reduceToNat, Int.reduceNeg, Nat.reduceBNe, Int.reduceBEq, Int.reduceBNe, Int.reduceGT, Int.reduceGE, Int.reduceTMod, Bool.false_eq_true, Bool.not_true, Bool.not_false, forall_const, eq_self, decide_true, decide_false, a1]
    refine pExpr_c .any (sgs l) hs σ hg _ ?_
    have w1 : wE (exprM (sgs l) (rX (fun i => (sgs l)[i]?) (5 * (sgs l).length + 5) (sgs l).length)).1 < 4611686018427387904 := exprM_wt _ hs _ _
    have w2 : wE (exprM raw (rX (fun i => raw[i]?) (5 * raw.length + 5) raw.length)).1 < 4611686018427387904 := exprM_wt _ (by omega) _ _
    generalize hA : exprM (sgs l) (rX (fun i => (sgs l)[i]?) (5 * (sgs l).length + 5) (sgs l).length) = A at *
    generalize hB : exprM raw (rX (fun i => raw[i]?) (5 * raw.length + 5) raw.length) = B at *
    obtain ⟨a, n, e⟩ := A
    obtain ⟨b, k, f⟩ := B
    have sa := fun σ K => same_c a σ K w1
    have sb := fun σ K => same_c b σ K w2
    have fa := forget_E a
    have fb := forget_E b
    obtain ⟨a1', a2, a3, a4, a5⟩ := a
    obtain ⟨b1', b2, b3, b4, b5⟩ := b
    simp (config := { maxSteps := 4000000 }) (disch := omega) only [pvK, pvB, sPe1D_3, reduceIte, Nat.reduceEqDiff, Nat.reduceAdd, Nat.reduceSub, Nat.reduceMul, Nat.reduceLT, Nat.reduceLeDiff, Nat.reduceBEq, reduceCtorEq, Int.reduceAdd, Int.reduceSub, Int.reduceMul, Int.reduceLT, Int.reduceLE, Int.reduceEq, Int.reduceToNat, Int.reduceNeg, Nat.reduceBNe, Int.reduceBEq, Int.reduceBNe, Int.reduceGT, Int.reduceGE, Int.reduceTMod, Bool.false_eq_true, Bool.not_true, Bool.not_false, forall_const, eq_self, decide_true, decide_false, fa]
    refine signs_c kl l hb σ _ ?_
    simp (config := { maxSteps := 4000000 }) (disch := omega) only [pvK, pvB, sPe1D_3, reduceIte, Nat.reduceEqDiff, Nat.reduceAdd, Nat.reduceSub, Nat.reduceMul, Nat.reduceLT, Nat.reduceLeDiff, Nat.reduceBEq, reduceCtorEq, Int.reduceAdd, Int.reduceSub, Int.reduceMul, Int.reduceLT, Int.reduceLE, Int.reduceEq, Int.reduceToNat, Int.reduceNeg, Nat.reduceBNe, Int.reduceBEq, Int.reduceBNe, Int.reduceGT, Int.reduceGE, Int.reduceTMod, Bool.false_eq_true, Bool.not_true, Bool.not_false, forall_const, eq_self, decide_true, decide_false, fa]
    refine rExpr_c .any (sgs l) hs σ _ ?_
    rw [hA]
    simp (config := { maxSteps := 4000000 }) (disch := omega) only [pvK, pvB, sPe1D_3, reduceIte, Nat.reduceEqDiff, Nat.reduceAdd, Nat.reduceSub, Nat.reduceMul, Nat.reduceLT, Nat.reduceLeDiff, Nat.reduceBEq, reduceCtorEq, Int.reduceAdd, Int.reduceSub, Int.reduceMul, Int.reduceLT, Int.reduceLE, Int.reduceEq, Int.reduceToNat, Int.reduceNeg, Nat.reduceBNe, Int.reduceBEq, Int.reduceBNe, Int.reduceGT, Int.reduceGE, Int.reduceTMod, Bool.false_eq_true, Bool.not_true, Bool.not_false, forall_const, eq_self, decide_true, decide_false, fa]
    refine pExpr_c kr raw (by omega) σ hg _ ?_
    rw [hB]
    simp (config := { maxSteps := 4000000 }) (disch := omega) only [pvK, pvB, sPe1D_3, reduceIte, Nat.reduceEqDiff, Nat.reduceAdd, Nat.reduceSub, Nat.reduceMul, Nat.reduceLT, Nat.reduceLeDiff, Nat.reduceBEq, reduceCtorEq, Int.reduceAdd, Int.reduceSub, Int.reduceMul, Int.reduceLT, Int.reduceLE, Int.reduceEq, Int.reduceToNat, Int.reduceNeg, Nat.reduceBNe, Int.reduceBEq, Int.reduceBNe, Int.reduceGT, Int.reduceGE, Int.reduceTMod, Bool.false_eq_true, Bool.not_true, Bool.not_false, forall_const, eq_self, decide_true, decide_false, fa, fb]
    refine rExpr_c kr raw (by omega) σ _ ?_
    rw [hB]
    have e1 : (e == e) = true := beq_self_eq_true _
    have e2 : ((n : Int) == (n : Int)) = true := beq_self_eq_true _
    have e3 : (f == f) = true := beq_self_eq_true _
    have e4 : ((k : Int) == (k : Int)) = true := beq_self_eq_true _
    simp (config := { maxSteps := 4000000 }) (disch := omega) only [pvK, pvB, sPe1D_3, reduceIte, Nat.reduceEqDiff, Nat.reduceAdd, Nat.reduceSub, Nat.reduceMul, Nat.reduceLT, Nat.reduceLeDiff, Nat.reduceBEq, reduceCtorEq, Int.reduceAdd, Int.reduceSub, Int.reduceMul, Int.reduceLT, Int.reduceLE, Int.reduceEq, Int.reduceToNat, Int.reduceNeg, Nat.reduceBNe, Int.reduceBEq, Int.reduceBNe, Int.reduceGT, Int.reduceGE, Int.reduceTMod, Bool.false_eq_true, Bool.not_true, Bool.not_false, forall_const, eq_self, decide_true, decide_false, fa, fb, e1, e2, e3, e4]
    simp only [pvE_q, vi, vs] at sa sb
    refine sa σ _ ?_
    simp (config := { maxSteps := 4000000 }) (disch := omega) only [pvK, pvB, sPe1D_3, reduceIte, Nat.reduceEqDiff, Nat.reduceAdd, Nat.reduceSub, Nat.reduceMul, Nat.reduceLT, Nat.reduceLeDiff, Nat.reduceBEq, reduceCtorEq, Int.reduceAdd, Int.reduceSub, Int.reduceMul, Int.reduceLT, Int.reduceLE, Int.reduceEq, Int.reduceToNat, Int.reduceNeg, Nat.reduceBNe, Int.reduceBEq, Int.reduceBNe, Int.reduceGT, Int.reduceGE, Int.reduceTMod, Bool.false_eq_true, Bool.not_true, Bool.not_false, forall_const, eq_self, decide_true, decide_false, fa, fb, e1, e2, e3, e4]
    refine sb σ _ ?_
    simp (config := { maxSteps := 4000000 }) (disch := omega) only [pvK, pvB, sPe1D_3, reduceIte, Nat.reduceEqDiff, Nat.reduceAdd, Nat.reduceSub, Nat.reduceMul, Nat.reduceLT, Nat.reduceLeDiff, Nat.reduceBEq, reduceCtorEq, Int.reduceAdd, Int.reduceSub, Int.reduceMul, Int.reduceLT, Int.reduceLE, Int.reduceEq, Int.reduceToNat, Int.reduceNeg, Nat.reduceBNe, Int.reduceBEq, Int.reduceBNe, Int.reduceGT, Int.reduceGE, Int.reduceTMod, Bool.false_eq_true, Bool.not_true, Bool.not_false, forall_const, eq_self, decide_true, decide_false, fa, fb, e1, e2, e3, e4]
    refine awake3_c σ hg _ ?_
    simp (config := { maxSteps := 4000000 }) (disch := omega) only [pvK, pvB, sPe1D_3, reduceIte, Nat.reduceEqDiff, Nat.reduceAdd, Nat.reduceSub, Nat.reduceMul, Nat.reduceLT, Nat.reduceLeDiff, Nat.reduceBEq, reduceCtorEq, Int.reduceAdd, Int.reduceSub, Int.reduceMul, Int.reduceLT, Int.reduceLE, Int.reduceEq, Int.reduceToNat, Int.reduceNeg, Nat.reduceBNe, Int.reduceBEq, Int.reduceBNe, Int.reduceGT, Int.reduceGE, Int.reduceTMod, Bool.false_eq_true, Bool.not_true, Bool.not_false, forall_const, eq_self, decide_true, decide_false, fa, fb, e1, e2, e3, e4]
    exact ⟨σ, .refl _, hK⟩
end Go.Pv.D
-- PvRow
namespace Go.Pv
open Go Go.RowKit
/-! ### from a walk to a row -/
/-- All cells of a world are settled. -/
def G0 (W : World) : Sett := ⟨fun b o => W.cell? ⟨b, o, none⟩, fun _ => none⟩
def S0 (gl : Nat → Option (List PV)) : St := ⟨fun _ => none, fun _ => none, gl⟩
theorem inv0 (W : World) (gl : Nat → Option (List PV)) (h : ∀ g cs, gl g = some cs → ∃ us, RelL (G0 W) cs us ∧ ∀ (i : Nat) v, us[i]? = some v → (G0 W).cell g i = some v) : Inv (G0 W) (S0 gl) W where
  cell := fun b o v e => e
  size := fun b s e => by cases e
  obj := fun b o e => by cases e
  own := fun b n e => by cases e
  gl := h
theorem calls_true {P : Program} {f : FuncId} {args : List PV} {gl : Nat → Option (List PV)} {W : World} {us : List Value} {K : Res → St → Prop} (h : PCalls P f args (S0 gl) K) (hi : Inv (G0 W) (S0 gl) W) (hr : RelL (G0 W) args us) (hK : ∀ r σ', K r σ' → r = .ret (vb' true)) :
    Calls P f us.toArray W fun e W' => e = .returned (.bool true) ∧ Below W.heap.size W W' := by
  refine (h.2 (G0 W) W us hi hr).mono fun e W' ⟨r, σ', G', k, hrel, hinv, hs⟩ => ?_
  obtain rfl := hK _ _ k
  obtain ⟨u, rfl, hu⟩ := hrel
  have hu : u = .bool true := hu
  subst hu
  refine ⟨rfl, hs.os, hs.tape, hs.output, hs.size, fun b hb => (hs.keep b hb ?_).1⟩
  rintro (q | q) <;> exact q rfl
/-- What a slice of numbers in memory is. -/
def IsRow (k : IntKind) (w : World) (a : Option Addr) (len cap : Nat) (zs : List Int) : Prop :=
  (a = none ∧ len = 0 ∧ cap = 0 ∧ zs = []) ∨
  ∃ x, a = some x ∧ len ≤ cap ∧ cap ≤ maxLen ∧ zs.length = cap ∧ (∀ i, i < zs.length → w.cell? (x.add i) = some (.int k (zs.getD i 0))) ∧ ∀ n ∈ zs, (Lit.int k n).wf = true
theorem relE_ints (G : Sett) (k : IntKind) : ∀ zs : List Int, RelE G 1 (zs.map fun n => .val (.int k n)) (zs.map (Value.int k))
  | [] => rfl
  | z :: zs => ⟨.int k z, zs.map (Value.int k), by simp [Value.cells], ⟨by simp [Value.cells], fun c hc => by simp [Value.cells] at hc; subst hc; rfl⟩, rfl, relE_ints G k zs⟩
theorem row_rel {k : IntKind} {W : World} {a : Option Addr} {len cap : Nat} {zs : List Int} (h : IsRow k W a len cap zs) : Rel (G0 W) (.list .any 1 ((zs.take len).map fun n => .val (.int k n))) (.slice a len cap) := by
  rcases h with ⟨rfl, rfl, rfl, rfl⟩ | ⟨x, rfl, h1, h2, h3, h4, h5⟩
  · exact ⟨none, 0, rfl, Nat.le_refl _, trivial, [], rfl, .inl rfl⟩
  · have hl : ((zs.take len).map fun n => (PV.val (.int k n))).length = len := by simp; omega
    refine ⟨some x, cap, by rw [hl], by rw [hl]; exact h1, trivial, (zs.take len).map (Value.int k), relE_ints _ _ _, ?_⟩
    by_cases h0 : len = 0
    · left; subst h0; rfl
    · right
      refine ⟨x, rfl, ?_⟩
      have hs : x.spot = none := by
        have := h4 0 (by omega)
        unfold World.cell? at this
        split at this
        · split at this
          · cases this
          · rename_i q; simpa [Addr.add] using q
        · cases this
      obtain ⟨b, off, sp⟩ := x
      subst hs
      refine ⟨b, off, rfl, fun i v hv => ?_⟩
      rw [List.getElem?_map] at hv
      have hi : i < len := by
        rcases Nat.lt_or_ge i len with q | q
        · exact q
        · rw [List.getElem?_eq_none (by simp; omega)] at hv; cases hv
      rw [List.getElem?_take, if_pos hi, List.getElem?_eq_getElem (by omega)] at hv
      cases hv
      have := h4 i (by omega)
      rw [List.getD_eq_getElem?_getD, List.getElem?_eq_getElem (by omega), addr_add] at this
      exact this
end Go.Pv
-- PvOpen
namespace Go.Pv
open Go Go.RowKit Go.ChangeShapes Go.WideShapes Go.Deep
variable {H : Type} {enc : TypeId × Value → H} {P : Program} {w : World} {base : Nat} {spare : Nat → Bool} {held : Bool}
theorem relE_range {G : Sett} {sz : Nat} {f : Nat → PV} {C : Nat → List Value} : ∀ (is : List Nat), (∀ i ∈ is, ∃ v : Value, v.cells.toList = C i ∧ v.cells.size = sz ∧ (∀ c ∈ C i, c.oneCell' = true) ∧ Rel G (f i) v) → RelE G sz (is.map f) (is.flatMap C)
  | [], _ => rfl
  | i :: is, h => by
    obtain ⟨v, e, hs, h1, r⟩ := h i (by simp)
    exact ⟨v, is.flatMap C, by rw [e]; rfl, ⟨hs, by rw [e]; exact h1⟩, r, relE_range is fun j hj => h j (by simp [hj])⟩
theorem at_range {G : Sett} {b off sz : Nat} {C : Nat → List Value} : ∀ (n : Nat), (∀ i, i < n → (C i).length = sz ∧ ∀ (j : Nat) v, (C i)[j]? = some v → G.cell b (off + (i * sz + j)) = some v) → ((List.range n).flatMap C).length = n * sz ∧ ∀ (k : Nat) v, ((List.range n).flatMap C)[k]? = some v → G.cell b (off + k) = some v
  | 0, _ => ⟨by simp, fun k v h => by simp at h⟩
  | n + 1, h => by
    obtain ⟨l, q⟩ := at_range n fun i hi => h i (by omega)
    obtain ⟨l2, q2⟩ := h n (by omega)
    rw [List.range_succ, List.flatMap_append]
    refine ⟨by simp [l, l2, Nat.succ_mul], fun k v hv => ?_⟩
    rcases Nat.lt_or_ge k (n * sz) with z | z
    · rw [List.getElem?_append_left (by omega)] at hv
      exact q k v hv
    · rw [List.getElem?_append_right (by omega), l] at hv
      have := q2 (k - n * sz) v (by simpa using hv)
      rwa [show n * sz + (k - n * sz) = k by omega] at this
/-- A slice in memory, its elements as they are read. -/
theorem slice_rel {α : Type} [Inhabited α] (pv : α → PV) (dat : α → DataW H) {t e : TypeId} {sz fuel : Nat} {cs : List Value} {x : DataW H × List MemPlace} (ht : P.underlying t = some (.slice e)) (hc : P.cellsOf e = sz) (h0 : 0 < sz)
    (hel : ∀ (n : Nat) (cs' : List Value) (y : DataW H × List MemPlace), cs'.length = sz → DataW.trod enc P w base spare held n e cs' = some y → ∃ p : α, dat p = y.1 ∧ ∃ v : Value, v.cells.toList = cs' ∧ (∀ c ∈ cs', c.oneCell' = true) ∧ Rel (G0 w) (pv p) v)
    (h : DataW.trod enc P w base spare held fuel t cs = some x) :
    ∃ (l : List α) (v : Value), cs = [v] ∧ Rel (G0 w) (.list .any sz (l.map pv)) v ∧ l.length ≤ maxLen ∧ ((x.1 = .nil ∧ l = []) ∨ ∃ rest, x.1 = .slice (l.map dat) rest) := by
  rcases open_slice ht h with ⟨rfl, rfl⟩ | ⟨a, len, cap, m, n, D, Pl, rfl, hb, hl, hm, hmm, rfl, hx⟩
  · exact ⟨[], _, rfl, ⟨none, 0, rfl, Nat.le_refl _, trivial, [], rfl, .inl rfl⟩, by simp, .inl ⟨rfl, rfl⟩⟩
  have hlm : len ≤ m := by rw [hmm]; split <;> omega
  have each : ∃ f : Nat → α × List Value, ∀ i, i < len → w.cells? base (a.add (i * sz)) sz = some (f i).2 ∧ dat (f i).1 = D i ∧ ∃ v : Value, v.cells.toList = (f i).2 ∧ (∀ c ∈ (f i).2, c.oneCell' = true) ∧ Rel (G0 w) (pv (f i).1) v := by
    refine choose_lt (α := α × List Value) (p := fun i r => w.cells? base (a.add (i * sz)) sz = some r.2 ∧ dat r.1 = D i ∧ ∃ v : Value, v.cells.toList = r.2 ∧ (∀ c ∈ r.2, c.oneCell' = true) ∧ Rel (G0 w) (pv r.1) v) fun i hi => ?_
    obtain ⟨cs', h1, h2⟩ := hx i (by omega)
    rw [hc] at h1
    obtain ⟨p, e1, v, e2, e3, e4⟩ := hel n cs' _ (World.cells?_some h1).2.1 h2
    exact ⟨(p, cs'), h1, e1, v, e2, e3, e4⟩
  obtain ⟨f, hf⟩ := each
  refine ⟨(List.range len).map fun i => (f i).1, .slice (some a) len cap, rfl, ?_, by simp; omega, .inr ⟨(List.range (m - len)).map fun j => D (len + j), ?_⟩⟩
  · have hlen : (((List.range len).map fun i => (f i).1).map pv).length = len := by simp
    refine ⟨some a, cap, by rw [hlen], by rw [hlen]; exact hl, trivial, (List.range len).flatMap fun i => (f i).2, ?_, ?_⟩
    · rw [List.map_map]
      refine relE_range _ fun i hi => ?_
      obtain ⟨h1, h2, v, e2, e3, e4⟩ := hf i (List.mem_range.1 hi)
      have hs := (World.cells?_some h1).2.1
      exact ⟨v, e2, by rw [← Array.length_toList, e2]; exact hs, e3, e4⟩
    · by_cases hz : len = 0
      · left; subst hz; rfl
      · right
        refine ⟨a, rfl, ?_⟩
        have hs : a.spot = none := by
          have h1 := (World.cells?_some (hf 0 (by omega)).1).2
          have h2 := h1.2 0 h0
          have hl0 := h1.1
          rw [List.getElem?_eq_getElem (by omega)] at h2
          unfold World.cell? at h2
          split at h2
          · split at h2
            · cases h2
            · rename_i q; simpa [Addr.add] using q
          · cases h2
        obtain ⟨b, off, sp⟩ := a
        subst hs
        refine ⟨b, off, rfl, (at_range (G := G0 w) (b := b) (off := off) (sz := sz) len fun i hi => ?_).2⟩
        have h1 := (World.cells?_some (hf i hi).1).2
        refine ⟨h1.1, fun j v hv => ?_⟩
        have hj : j < sz := by
          rcases Nat.lt_or_ge j sz with q | q
          · exact q
          · rw [List.getElem?_eq_none (by omega)] at hv; cases hv
        have h2 := h1.2 j hj
        rw [hv, addr_add, addr_add] at h2
        show w.cell? _ = _
        rw [← h2]
        congr 2
        omega
  · show DataW.slice _ _ = _
    congr 1
    rw [List.map_map]
    exact List.map_congr_left fun i hi => ((hf i (List.mem_range.1 hi)).2.1).symm
/-- An array of elements of one cell each. -/
theorem arr_rel {α : Type} [Inhabited α] (pv : α → PV) (Q : α → DataW H → Prop) {t e : TypeId} {m fuel : Nat} {cs : List Value} {x : DataW H × List MemPlace} (ht : P.underlying t = some (.array m e)) (hc : P.cellsOf e = 1) (hc2 : P.cellsOf t = m)
    (hel : ∀ (n : Nat) (c : Value) (y : DataW H × List MemPlace), DataW.trod enc P w base spare held n e [c] = some y → ∃ p : α, Q p y.1 ∧ Rel (G0 w) (pv p) c)
    (h : DataW.trod enc P w base spare held fuel t cs = some x) :
    ∃ (l : List α) (ds : List (DataW H)), RelL (G0 w) (l.map pv) cs ∧ x.1 = .agg ds ∧ l.length = ds.length ∧ ∀ (i : Nat) p d, l[i]? = some p → ds[i]? = some d → Q p d := by
  obtain ⟨xs, n, _, rfl, hl, hlen, hf⟩ := DataW.trod_array ht h
  rw [hc2] at hl
  rw [hc] at hf
  have key : ∀ (cs : List Value) (xs : List (DataW H × List MemPlace)), xs.length = cs.length → (∀ i, i < cs.length → DataW.trod enc P w base spare held n e ((cs.drop (i * 1)).take 1) = xs[i]?) → ∃ l : List α, RelL (G0 w) (l.map pv) cs ∧ l.length = xs.length ∧ ∀ (i : Nat) p y, l[i]? = some p → xs[i]? = some y → Q p y.1 := by
    intro cs
    induction cs with
    | nil => intro xs h0 _; exact ⟨[], rfl, h0.symm, fun i p d h => by simp at h⟩
    | cons c cs ih =>
      intro xs h0 hx
      match xs, h0 with
      | y :: xs, h0 =>
        obtain ⟨l, r, hl, hq⟩ := ih xs (by simpa using h0) (fun i hi => by
          have := hx (i + 1) (by simp; omega)
          simpa using this)
        have h1 := hx 0 (by simp)
        obtain ⟨p, q, rp⟩ := hel n c y (by simpa using h1)
        refine ⟨p :: l, ⟨c, cs, rfl, rp, r⟩, by simp [hl], fun i p' y' e1 e2 => ?_⟩
        cases i with
        | zero => simp at e1 e2; subst e1; subst e2; exact q
        | succ i => simp at e1 e2; exact hq i p' y' e1 e2
  obtain ⟨l, r, hl2, hq⟩ := key cs xs (by omega) fun i hi => hf i (by omega)
  refine ⟨l, xs.map (·.1), r, rfl, by simp [hl2], fun i p d e1 e2 => ?_⟩
  rw [List.getElem?_map, Option.map_eq_some_iff] at e2
  obtain ⟨y, e3, rfl⟩ := e2
  exact hq i p y e1 e3
/-! ### elements -/
def datS (s : ByteArray) : DataW H := .lit (.string s.data.toList)
theorem datS_inj {a b : ByteArray} (h : (datS a : DataW H) = datS b) : a = b := by
  unfold datS at h
  injection h with h
  injection h with h
  cases a; cases b
  simp at h; simp [h]
theorem datS_map {a b : List ByteArray} (h : a.map (datS (H := H)) = b.map datS) : a = b := by
  induction a generalizing b with
  | nil => cases b with
    | nil => rfl
    | cons x l => cases h
  | cons x l ih => cases b with
    | nil => cases h
    | cons y m =>
      simp only [List.map_cons, List.cons.injEq] at h
      rw [datS_inj h.1, ih h.2]
theorem el_str {e : TypeId} (he : P.underlying e = some .string) (n : Nat) (cs' : List Value) (y : DataW H × List MemPlace) (hl : cs'.length = 1) (h : DataW.trod enc P w base spare held n e cs' = some y) : ∃ p : ByteArray, datS p = y.1 ∧ ∃ v : Value, v.cells.toList = cs' ∧ (∀ c ∈ cs', c.oneCell' = true) ∧ Rel (G0 w) (vs p) v := by
  obtain ⟨s, rfl, rfl, hw⟩ := DataW.trod_string he h
  exact ⟨s, rfl, .string s, by simp [Value.cells], fun c hc => by simp at hc; subst hc; rfl, rfl⟩
/-- A list of strings that is laid. -/
theorem strs_rel {t e : TypeId} {fuel : Nat} {cs : List Value} {d : DataW H} {ps : List MemPlace} (ht : P.underlying t = some (.slice e)) (he : P.underlying e = some .string) (hc : P.cellsOf e = 1) (ss : List ByteArray) (hd : d = .slice (ss.map datS) [])
    (h : DataW.trod enc P w base spare held fuel t cs = some (d, ps)) : ∃ v, cs = [v] ∧ Rel (G0 w) (.list .any 1 (ss.map vs)) v := by
  obtain ⟨l, v, rfl, r, _, q⟩ := slice_rel vs datS ht hc (by omega) (fun n cs' y => el_str he n cs' y) h
  rcases q with ⟨q, _⟩ | ⟨rest, q⟩
  · subst hd; cases q
  · subst hd
    injection q with q1 q2
    rw [datS_map q1]
    exact ⟨v, rfl, r⟩
/-- What a listed package variable holds. -/
theorem laid_get {W : World} {laid : List (String × DataW Unit)} {n : String} {d : DataW Unit} {g : Nat} {t : TypeId} (hl : laidMet P laid W) (hm : (n, d) ∈ laid) (hg : P.globalNamed n = some g) (ht : (P.globals[g]?).map (·.type) = some t) :
    ∃ (cs : List Value) (fuel : Nat) (ps : List MemPlace), DataW.trod (fun _ => ()) P W 0 (fun _ => true) false fuel t cs = some (d, ps) ∧ ∀ (i : Nat) v, cs[i]? = some v → (G0 W).cell g i = some v := by
  obtain ⟨ps, hl, hnd, hps⟩ := hl
  clear hps hnd
  induction laid generalizing ps with
  | nil => simp at hm
  | cons x r ih =>
    obtain ⟨n', d'⟩ := x
    obtain ⟨g', t', cs, fuel, p, q, h1, h2, h3, h4, h5, rfl⟩ := hl
    rcases List.mem_cons.1 hm with e | hm
    · cases e
      rw [hg] at h1
      cases h1
      rw [ht] at h2
      cases h2
      refine ⟨cs.toList, fuel, p, h4, fun i v hv => ?_⟩
      unfold World.var? at h3
      rw [hg] at h3
      simp only [Option.bind_some] at h3
      show W.cell? _ = _
      unfold World.cell?
      split at h3
      · rename_i cs' t' z hh
        cases h3
        simp only [hh]
        simpa using hv
      · cases h3
    · exact ih hm q h5
end Go.Pv
-- PeRowD
namespace Go.Proofs.YtcnmejahighkfaaDoor.parseExprs
open Go Go.ChangeShapes Go.WideShapes Go.ChangeAt Go.RowKit Go.Pv
theorem own : ownKnob Tryd.prog.godebug = none := by kernel_rfl
theorem laidOut : laidOutB Tryd.prog = true := by kernel_rfl
/-- What the listed package variables are to a walk. -/
def gls : Nat → Option (List PV)
  | 0 => some [.list .any 1 ((opsOf 0).map fun p => vs p.1)]
  | 1 => some [.list .any 1 ((opsOf 1).map fun p => vs p.1), .list .any 1 ((opsOf 2).map fun p => vs p.1)]
  | 2 => some (Pv.D.sgns.map vs)
  | 3 => some [.list .any 1 (kws.map vs)]
  | _ + 4 => none
theorem glOK : Pv.D.GlOK (S0 gls) := ⟨rfl, rfl, rfl, rfl⟩
theorem opsMap (k : Nat) : (opsOf k).map (fun p => vs p.1) = ((opsOf k).map (·.1)).map vs := by rw [List.map_map]; rfl
/-- A list of strings, laid or nil. -/
def isStrs {H : Type} (p : List ByteArray) (d : DataW H) : Prop := (d = .nil ∧ p = []) ∨ ∃ rest, d = .slice (p.map datS) rest
theorem isStrs_eq {H : Type} {p q : List ByteArray} {rest : List (DataW H)} (h : isStrs p (.slice (q.map datS) rest)) : p = q := by
  rcases h with ⟨h, _⟩ | ⟨r, h⟩
  · cases h
  · injection h with h1 h2; exact (datS_map h1).symm
theorem laid_inv {W : World} (hl : laidMet Tryd.prog Rows.parseExprsRow.laid W) : Inv (G0 W) (S0 gls) W := by
  refine inv0 W gls fun g cs hg => ?_
  match g, hg with
  | 0, hg =>
    cases hg
    obtain ⟨us, fuel, ps, h, hc⟩ := laid_get (n := "timebound/parse.comparisons") (d := Rows.laid_timebound_parse_comparisons) (g := 0) (t := 36) hl (by simp [Rows.parseExprsRow]) (by kernel_rfl) (by kernel_rfl)
    obtain ⟨v, rfl, r⟩ := strs_rel Tryd.underlying36 Tryd.underlying9 (by kernel_rfl) ((opsOf 0).map (·.1)) (by kernel_rfl) h
    exact ⟨_, ⟨v, [], rfl, by rw [opsMap]; exact r, rfl⟩, hc⟩
  | 1, hg =>
    cases hg
    obtain ⟨us, fuel, ps, h, hc⟩ := laid_get (n := "timebound/parse.lines") (d := Rows.laid_timebound_parse_lines) (g := 1) (t := 142) hl (by simp [Rows.parseExprsRow]) (by kernel_rfl) (by kernel_rfl)
    obtain ⟨l, ds, r, e, hlen, hq⟩ := arr_rel (m := 2) (e := 36) (fun p : List ByteArray => PV.list .any 1 (p.map vs)) isStrs (by kernel_rfl) (by kernel_rfl) (by kernel_rfl) (fun n c y hy => by
      obtain ⟨l, v, e, r, _, q⟩ := slice_rel vs datS Tryd.underlying36 (by kernel_rfl) (by omega) (fun n cs' y => el_str Tryd.underlying9 n cs' y) hy
      cases e
      exact ⟨l, q, r⟩) h
    have e2 : ds = [.slice (((opsOf 1).map (·.1)).map datS) [], .slice (((opsOf 2).map (·.1)).map datS) []] := by
      have : Rows.laid_timebound_parse_lines (H := Unit) = .agg [.slice (((opsOf 1).map (·.1)).map datS) [], .slice (((opsOf 2).map (·.1)).map datS) []] := by kernel_rfl
      rw [this] at e
      injection e with e
      exact e.symm
    subst e2
    match l, hlen with
    | [p0, p1], _ =>
      have h0 := isStrs_eq (hq 0 p0 _ rfl rfl)
      have h1 := isStrs_eq (hq 1 p1 _ rfl rfl)
      subst h0 h1
      exact ⟨us, by rw [opsMap, opsMap]; exact r, hc⟩
  | 2, hg =>
    cases hg
    obtain ⟨us, fuel, ps, h, hc⟩ := laid_get (n := "timebound/tree.signs") (d := Rows.laid_timebound_tree_signs) (g := 2) (t := 154) hl (by simp [Rows.parseExprsRow]) (by kernel_rfl) (by kernel_rfl)
    obtain ⟨l, ds, r, e, hlen, hq⟩ := arr_rel (m := 14) (e := 9) vs (fun p d => d = datS p) (by kernel_rfl) (by kernel_rfl) (by kernel_rfl) (fun n c y hy => by
      obtain ⟨p, q, v, q2, _, q4⟩ := el_str Tryd.underlying9 n [c] y rfl hy
      obtain ⟨s, e, _, _⟩ := DataW.trod_string Tryd.underlying9 hy
      cases e
      refine ⟨p, q.symm, ?_⟩
      have hv : v = .string p := q4
      subst hv
      simp [Value.cells] at q2
      show Value.string s = Value.string p
      rw [q2]) h
    have e2 : ds = Pv.D.sgns.map datS := by
      have : Rows.laid_timebound_tree_signs (H := Unit) = .agg (Pv.D.sgns.map datS) := by kernel_rfl
      rw [this] at e
      injection e with e
      exact e.symm
    subst e2
    have e3 : l.map (datS (H := Unit)) = Pv.D.sgns.map datS := by
      refine List.ext_getElem? fun i => ?_
      have hi := hlen
      rw [List.length_map] at hi
      rw [List.getElem?_map]
      by_cases hlt : i < l.length
      · have hd : i < (Pv.D.sgns.map (datS (H := Unit))).length := by rw [List.length_map, ← hi]; exact hlt
        have := hq i l[i] _ (List.getElem?_eq_getElem hlt) (List.getElem?_eq_getElem hd)
        rw [List.getElem?_eq_getElem hlt, List.getElem?_eq_getElem hd, this]
        rfl
      · rw [List.getElem?_eq_none (by omega), List.getElem?_eq_none (by rw [List.length_map]; omega)]
        rfl
    have e4 := datS_map e3
    subst e4
    exact ⟨us, r, hc⟩
  | 3, hg =>
    cases hg
    obtain ⟨us, fuel, ps, h, hc⟩ := laid_get (n := "timebound/tree.words") (d := Rows.laid_timebound_tree_words) (g := 3) (t := 36) hl (by simp [Rows.parseExprsRow]) (by kernel_rfl) (by kernel_rfl)
    obtain ⟨v, rfl, r⟩ := strs_rel Tryd.underlying36 Tryd.underlying9 (by kernel_rfl) kws (by kernel_rfl) h
    exact ⟨_, ⟨v, [], rfl, r, rfl⟩, hc⟩
  | _ + 4, hg => cases hg
/-- A token, as it is read. -/
def datTk {H : Type} (p : Tk) : DataW H := .agg [.lit (.int .i64 p.kind), .lit (.int .i64 p.num), .lit (.int .i64 p.line), datS p.text]
instance : Inhabited Tk := ⟨⟨0, 0, 0, ⟨#[]⟩⟩⟩
set_option maxRecDepth 100000 in
theorem el_tok {H : Type} {enc : TypeId × Value → H} {w : World} {base : Nat} {spare : Nat → Bool} {held : Bool} (n : Nat) (cs' : List Value) (y : DataW H × List MemPlace) (hl : cs'.length = 4) (h : DataW.trod enc Tryd.prog w base spare held n 59 cs' = some y) :
    ∃ p : Tk, datTk p = y.1 ∧ ∃ v : Value, v.cells.toList = cs' ∧ (∀ c ∈ cs', c.oneCell' = true) ∧ Rel (G0 w) (pvTk p) v := by
  obtain ⟨y0, y1, y2, y3, m, rfl, _, h0, h1, h2, h3⟩ := Go.Joins.trod_struct4 Tryd.underlying59 h
  match cs', hl with
  | [c0, c1, c2, c3], _ =>
    have z3 : Tryd.prog.cellsOf 3 = 1 := by kernel_rfl
    have z9 : Tryd.prog.cellsOf 9 = 1 := by kernel_rfl
    simp only [z3, z9, List.drop_zero, List.drop_succ_cons, List.take_succ_cons, List.take_zero] at h0 h1 h2 h3
    obtain ⟨a0, e0, f0, u0⟩ := DataW.trod_int Tryd.underlying3 h0
    obtain ⟨a1, e1, f1, u1⟩ := DataW.trod_int Tryd.underlying3 h1
    obtain ⟨a2, e2, f2, u2⟩ := DataW.trod_int Tryd.underlying3 h2
    obtain ⟨a3, e3, f3, u3⟩ := DataW.trod_string Tryd.underlying9 h3
    cases e0; cases e1; cases e2; cases e3
    subst f0 f1 f2 f3
    refine ⟨⟨a0, a1, a2, a3⟩, rfl, .agg #[.int .i64 a0, .int .i64 a1, .int .i64 a2, .string a3], by simp [Value.cells], ?_, ⟨_, rfl, _, _, rfl, rfl, _, _, rfl, rfl, _, _, rfl, rfl, _, _, rfl, rfl, rfl⟩⟩
    intro c hc
    simp only [List.mem_cons, List.not_mem_nil, or_false] at hc
    rcases hc with rfl | rfl | rfl | rfl <;> rfl
set_option maxRecDepth 100000 in
theorem contract (H : Type) (enc : TypeId × Value → H) (W : World) (base : Nat) (args : Array Value) (ds gs : List (DataW H)) (before : List MemPlace)
    (hval0 : ∀ (j : Nat) t v, Tryd.f3.params[j]? = some t → args[j]? = some v → Value.okWide Tryd.prog W .any base t v)
    (hW : DataW.Whole enc Tryd.prog Tryd.f3.params.toList Rows.parseExprsSpec.vars false W args.toList ds gs before) (hL : laidMetH Tryd.prog Rows.parseExprsRow.laid W) :
    Calls Tryd.prog 3 args W fun e W' => ∃ v, e = .returned v ∧ Rows.parseExprsSpec.post enc Tryd.prog Tryd.f3 false true false false W args v W' := by
  have hval : ∀ (j : Nat) t v, Tryd.f3.params[j]? = some t → args[j]? = some v → Value.okWide Tryd.prog W .any base t v := hval0
  have hL' : laidMet Tryd.prog Rows.parseExprsRow.laid W := (show laidMetH Tryd.prog Rows.parseExprsRow.laid W = laidMet Tryd.prog Rows.parseExprsRow.laid W by kernel_rfl).mp hL
  have hW' := hW
  obtain ⟨p, q, hA0, hV, rfl, hfz, hnd⟩ := hW
  have hA : DataW.TrodAll enc Tryd.prog W 0 (fun _ => true) true Tryd.f3.params.toList args.toList ds p := hA0
  rw [Tryd.params3] at hA hval
  obtain ⟨v0, vs0, d0, ds0, p0, q0, hargs, rfl, rfl, h0, r0⟩ := trodAll_cons hA
  obtain ⟨v1, vs1, d1, ds1, p1, q1, rfl, rfl, rfl, h1, r1⟩ := trodAll_cons r0
  obtain ⟨rfl, rfl, rfl⟩ := trodAll_nil r1
  obtain rfl : args = #[v0, v1] := by cases args; simp_all
  obtain ⟨rfl, rfl⟩ := trodVars_none hV
  obtain ⟨a0, len0, cap0, rfl⟩ := okWide_slice Tryd.underlying22 (hval 0 22 v0 rfl rfl)
  obtain ⟨a1, len1, cap1, rfl⟩ := okWide_slice Tryd.underlying23 (hval 1 23 v1 rfl rfl)
  have k0 := h0
  have lt0 : ∀ x ∈ p0, x.block < W.heap.size := by obtain ⟨m, hm⟩ := k0; exact DataW.trod_lt m _ _ _ hm
  have k1 := h1
  have lt1 : ∀ x ∈ p1, x.block < W.heap.size := by obtain ⟨m, hm⟩ := k1; exact DataW.trod_lt m _ _ _ hm
  obtain ⟨z0, w0⟩ : ∃ zs, Pv.IsRow .u8 W a0 len0 cap0 zs := by
    obtain ⟨fuel, hf⟩ := h0
    rcases open_ints Tryd.underlying22 Tryd.underlying5 (by kernel_rfl) hf with ⟨hcs, _⟩ | ⟨x, l, c, zs, hcs, _, hl, hm, hz, _, hcell, hwz⟩
    · simp [Value.cells] at hcs
      obtain ⟨rfl, rfl, rfl⟩ := hcs
      exact ⟨[], .inl ⟨rfl, rfl, rfl, rfl⟩⟩
    · simp [Value.cells] at hcs
      obtain ⟨rfl, rfl, rfl⟩ := hcs
      exact ⟨zs, .inr ⟨_, rfl, hl, hm, by simpa using hz, hcell, hwz⟩⟩
  obtain ⟨raw, rr⟩ : ∃ raw : List Tk, Rel (G0 W) (.list .any 4 (raw.map pvTk)) (.slice a1 len1 cap1) := by
    obtain ⟨fuel, hf⟩ := h1
    obtain ⟨l, v, e, r, _, _⟩ := slice_rel pvTk datTk Tryd.underlying23 (by kernel_rfl) (by omega) (fun n cs' y => el_tok n cs' y) hf
    have e : [Value.slice a1 len1 cap1] = [v] := by rw [← e]; simp [Value.cells]
    cases e
    exact ⟨l, r⟩
  have hlen : ∀ c ∈ z0.take len0, 0 ≤ c ∧ c ≤ 255 := by
    rcases w0 with ⟨_, _, _, rfl⟩ | ⟨x, _, b1, b2, b3, _, b5⟩
    · simp
    · exact fun c hc => Go.bounds_u8 (b5 c (List.mem_of_mem_take hc))
  clear hA0 hval0
  have hc := Pv.D.parseExprs_c .any .any (z0.take len0) hlen raw (Pv.S0 gls) glOK (fun r _ => r = .ret (vb' true)) rfl
  refine (Pv.calls_true hc (laid_inv hL') (us := [.slice a0 len0 cap0, .slice a1 len1 cap1]) ⟨_, _, rfl, Pv.row_rel w0, _, _, rfl, rr, rfl⟩ fun r σ' h => h).mono fun e W' ⟨he, bel⟩ => ?_
  subst he
  exact ⟨_, rfl, _, _, _, [], _, [], hW', trodAll_mk1 (shut_bool Tryd.underlying4 _), (trodAll_cons_mk (Below.trod laidOut (by kernel_rfl) (of_decide_eq_true (by kernel_rfl)) k0 bel lt0) (trodAll_cons_mk (Below.trod laidOut (by kernel_rfl) (of_decide_eq_true (by kernel_rfl)) k1 bel lt1) trodAll_mk0)), rfl, bel.frame _, fun h => by cases h⟩
/-- A world for the witness: the settled one with four blocks more, the listed variables holding what their initialisers lay. -/
noncomputable def laidWorld (os : Os) : World :=
  let N := (World.settled Tryd.prog os).heap.size
  let w0 := World.holding Tryd.prog os ⟨#[.cells #[.string ⟨#[60]⟩, .string ⟨#[60, 61]⟩, .string ⟨#[61, 61]⟩, .string ⟨#[33, 61]⟩] 9, .cells #[.string ⟨#[43]⟩, .string ⟨#[45]⟩, .string ⟨#[124]⟩, .string ⟨#[94]⟩] 9, .cells #[.string ⟨#[42]⟩, .string ⟨#[47]⟩, .string ⟨#[37]⟩, .string ⟨#[38]⟩, .string ⟨#[60, 60]⟩, .string ⟨#[62, 62]⟩] 9, .cells #[.string ⟨#[114, 101, 115, 111, 117, 114, 99, 101]⟩, .string ⟨#[115, 104, 97, 114, 101, 100]⟩, .string ⟨#[116, 97, 115, 107]⟩, .string ⟨#[112, 101, 114, 105, 111, 100]⟩, .string ⟨#[100, 101, 97, 100, 108, 105, 110, 101]⟩, .string ⟨#[112, 114, 105, 111, 114, 105, 116, 121]⟩, .string ⟨#[106, 105, 116, 116, 101, 114]⟩, .string ⟨#[105, 110, 112, 117, 116]⟩, .string ⟨#[118, 97, 114]⟩, .string ⟨#[97, 114, 114, 97, 121]⟩, .string ⟨#[109, 111, 100, 101]⟩, .string ⟨#[110, 101, 118, 101, 114]⟩, .string ⟨#[98, 111, 100, 121]⟩, .string ⟨#[101, 110, 100]⟩, .string ⟨#[105, 102]⟩, .string ⟨#[108, 97, 98, 101, 108]⟩, .string ⟨#[101, 108, 115, 101]⟩, .string ⟨#[119, 104, 105, 108, 101]⟩, .string ⟨#[109, 97, 120]⟩, .string ⟨#[108, 111, 99, 107]⟩] 9], #[], []⟩
  let put (h : Array Obj) (g : Nat) (cs : Array Value) : Array Obj := h.modify g fun
    | .cells _ t frozen => .cells cs t frozen
    | o => o
  let h1 := put w0.heap 0 #[.slice (some ⟨N, 0, none⟩) 4 4]
  let h2 := put h1 1 #[.slice (some ⟨N + 1, 0, none⟩) 4 4, .slice (some ⟨N + 2, 0, none⟩) 6 6]
  let h3 := put h2 2 #[.string ⟨#[43]⟩, .string ⟨#[45]⟩, .string ⟨#[42]⟩, .string ⟨#[47]⟩, .string ⟨#[37]⟩, .string ⟨#[38]⟩, .string ⟨#[124]⟩, .string ⟨#[94]⟩, .string ⟨#[60, 60]⟩, .string ⟨#[62, 62]⟩, .string ⟨#[60]⟩, .string ⟨#[60, 61]⟩, .string ⟨#[61, 61]⟩, .string ⟨#[33, 61]⟩]
  let h4 := put h3 3 #[.slice (some ⟨N + 3, 0, none⟩) 20 20]
  { w0 with heap := h4 }
theorem laid_met (os : Os) : laidMet Tryd.prog Rows.parseExprsRow.laid ((laidWorld os).forCall (fun _ _ => 0) ⟨#[], #[.slice none 0 0, .slice none 0 0], []⟩).memory := laidMet_of_run' 8 (by kernel_rfl) (by kernel_rfl)
theorem reads (os : Os) {H : Type} (enc : TypeId × Value → H) : DataW.whole enc Tryd.prog ((laidWorld os).forCall (fun _ _ => 0) ⟨#[], #[.slice none 0 0, .slice none 0 0], []⟩).memory Tryd.f3.params.toList Rows.parseExprsSpec.vars false #[.slice none 0 0, .slice none 0 0].toList 8 = some ([.nil, .nil], [], []) := by kernel_rfl
set_option maxRecDepth 100000 in
theorem lifted (os : Os) (started : os.Started) (H : Type) (enc : TypeId × Value → H) (F : Stop.Interp) :
    ReturnsInHanded {} Tryd.checked os 3 .any ((OpenSpec.ofChange Rows.parseExprsSpec).preRow enc Tryd.prog Tryd.f3 Rows.parseExprsRow.domain false Rows.parseExprsRow.laid) (((OpenSpec.ofChange Rows.parseExprsSpec).at F).post enc Tryd.prog Tryd.f3 false true false false) := by
  have hx := reads os enc
  refine returnsInHanded_of_row (C := Tryd.checked) (s := OpenSpec.ofChange Rows.parseExprsSpec) own started (by kernel_rfl) Tryd.func3
    (witness_row_atRef (enc := enc) (C := Tryd.checked) false (laidWorld os) #[.slice none 0 0, .slice none 0 0] rfl (by kernel_rfl) (by kernel_rfl) (by kernel_rfl)
      (OpenSpec.preRow_of_cond 8 hx (by kernel_rfl) (fun k hk => by cases hk) (by kernel_rfl) (laid_met os))) ?_
  intro W base args ds gs before hval hW _ _ hsz hL _ _
  exact contract H enc W base args ds gs before hval hW hL
theorem over : Rows.parseExprsRow.holds Tryd.pinned (OpenSpec.ofChange Rows.parseExprsSpec) :=
  OpenClaim.holds_of_cond 3 Tryd.f3 rfl rfl rfl rfl rfl rfl rfl ⟨rfl, rfl, rfl, rfl, rfl⟩ rfl rfl rfl rfl rfl (by kernel_rfl) Tryd.func3 (by kernel_rfl)
    (of_decide_eq_true (by kernel_rfl)) (by unfold Func.isWrapper; first | (rw [if_pos (by decide +kernel)]; kernel_rfl) | (rw [if_neg (by decide +kernel)]; exact ⟨rfl, rfl⟩))
    (fun os started H enc _ F => by rw [OpenClaim.pre_eq_preRow]; exact lifted os started H enc F)
theorem said : Rows.ParseExprsSaid := over
theorem plain (f : FuncId) (fn : Func) (hf : Tryd.pinned.checked.prog.funcNamed "timebound/timeboundlaw03.ParseExprs" = some f) (hfn : Tryd.pinned.checked.prog.funcs[f]? = some fn) :
    true = Tryd.pinned.checked.prog.looks [] ∧ ∀ (j : Nat) t, fn.params[j]? = some t → Tryd.pinned.checked.prog.wantsStandIn t = false := by
  obtain rfl : f = 3 := Option.some.inj ((show Tryd.prog.funcNamed "timebound/timeboundlaw03.ParseExprs" = some 3 by kernel_rfl).symm.trans hf) |>.symm
  obtain rfl : fn = Tryd.f3 := (Option.some.inj (Tryd.func3.symm.trans hfn)).symm
  refine ⟨by kernel_rfl, fun j t ht => ?_⟩
  rw [Tryd.params3] at ht
  have hm := Array.mem_of_getElem? ht
  have hm' : t = 22 ∨ t = 23 := by simpa [or_assoc] using hm
  rcases hm' with rfl | rfl
  · exact (show Tryd.prog.wantsStandIn 22 = false by kernel_rfl)
  · exact (show Tryd.prog.wantsStandIn 23 = false by kernel_rfl)
/-- THE CARD. -/
theorem card : Rows.ParseExprsCardSaid :=
  Claim7.holds_tied_plain_at .later [] _ _ _ _ said (fun _ h => by cases h) (by kernel_rfl) (fun _ h => by cases h) parseExprs_row_tie rfl ⟨rfl, rfl⟩ (by kernel_rfl) rfl plain (by kernel_rfl)
end Go.Proofs.YtcnmejahighkfaaDoor.parseExprs
namespace Go.Proofs.YtcnmejahighkfaaDoor
/-- The card, under a short name, for the claim. -/
theorem parseExprs_holds : Rows.ParseExprsCardSaid := parseExprs.card
end Go.Proofs.YtcnmejahighkfaaDoor
