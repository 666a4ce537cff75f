/- Part 4 of the texts for: parse.Expr and the specification of layer 3 read every list of tokens alike -/
import Derived.Orders
import Derived.Below
import Derived.Laws.Sem
import Derived.WalkKit
import Derived.Laws.CopyRow
import Derived.Laws.BytesString
import Derived.MapKept
import Derived.Laws.Append
import Derived.LoopN
import Derived.Test.YtcnmejahighkfaaDoorProg
import Derived.KernelRfl
import Derived.IntWalk
import Derived.Test.YtcnmejahighkfaaDoorPvPe3
set_option autoImplicit false
set_option linter.unusedVariables false
set_option linter.unusedSimpArgs false
set_option linter.defProp false
-- Rp1D
namespace Go.Pv.D
open Go Go.RowKit Go.Proofs Go.Pv
def sRp1D_119 := (And.intro (And.intro (And.intro (And.intro @q_slz_0 @q_tsz_3) (And.intro @q_slz_3 @q_ifc_3)) (And.intro (And.intro @q_tsz_4 @q_slz_4) (And.intro @q_ifc_4 (And.intro @q_isb_4 @q_tsz_9)))) (And.intro (And.intro (And.intro @q_slz_9 @q_str_9) (And.intro @q_arz_9 (And.intro @q_ifc_9 @q_tsz_36))) (And.intro (And.intro @q_slz_36 @q_str_36) (And.intro @q_arz_36 (And.intro @q_ifc_36 @q_bsl_36)))))
/-- The reference's parser: tokens, place, line and kind of the first error, whether depths do not matter. -/
def rpC (kt : Cap) (T : List Tk) (at_ : Nat) (line e : Int) (free : Bool) : List PV := [.list kt 4 (T.map pvTk), vi at_, vi line, vi e, vb' free]
def lineAt (T : List Tk) (i : Nat) : Int := match T[min i (T.length - 1)]? with
  | some t => t.line
  | none => 1
theorem tok_get {T : List Tk} {i : Nat} {t : Tk} (h : T[i]? = some t) : (T.map pvTk)[i]? = some (.agg [.val (.int .i64 t.kind), .val (.int .i64 t.num), .val (.int .i64 t.line), .val (.string t.text)]) := by
  rw [List.getElem?_map, h]; rfl
theorem tok_some {T : List Tk} {i : Nat} {t : Tk} (h : T[i]? = some t) : i < T.length := (List.getElem?_eq_some_iff.1 h).1
theorem tok_none {T : List Tk} {i : Nat} (h : T[i]? = none) : T.length ≤ i := List.getElem?_eq_none_iff.1 h
set_option maxHeartbeats 4000000 in
set_option maxRecDepth 100000 in
theorem rkw_c (s : ByteArray) (σ : St) (K : Res → St → Prop) (hK : K (.ret (vb' (kw s))) σ) : PCalls Tryd.prog 119 [vs s] σ K := by
  refine PCalls.of_body (tOk Tryd.prog) (by kernel_rfl) Tryd.func119 rfl (by kernel_rfl) [] [] (by kernel_rfl) (n := 18) (by kernel_rfl) (by kernel_rfl) (rs := [.tmp 2]) (by kernel_rfl) ?_
  simp (config := { maxSteps := 4000000 }) (disch := omega) only [pvK, pvB, sRp1D_119, reduceIte, Nat.reduceEqDiff, Nat.reduceAdd, Nat.reduceSub, Nat.reduceMul, Nat.reduceLT, Nat.reduceLeDiff, Nat.reduceBEq, reduceCtorEq, Int.reduceAdd, Int.reduceSub, Int.reduceMul, Int.reduceLT, Int.reduceLE, Int.reduceEq, Int.reduceToNat, Int.reduceNeg, Nat.reduceBNe, Int.reduceBEq, Int.reduceBNe, Int.reduceGT, Int.reduceGE, Int.reduceTMod, Bool.not_true, Bool.not_false, forall_const, eq_self, decide_true, decide_false]
  have hl : kws.length = 20 := by decide
  refine loop_rule (fun s' => ∃ i : Nat, i ≤ kws.length ∧ (∀ j, (h : j < kws.length) → j < i → eqB kws[j] s = false) ∧ s' = ⟨18, [(0, vs s), (3, .list .full 1 (kws.map vs)), (4, vi i)], [], σ⟩) (fun s => (kws.length - ival (get s.env 4)).toNat) ?_ ?_
  · refine ⟨_, less_env rfl (less_env rfl (less_env rfl (less_nil (.refl _)))), 0, Nat.zero_le _, fun j _ h => by omega, rfl⟩
  · rintro s' ⟨i, hi, ha, rfl⟩ R hR
    have c20 : ((20 : Nat) : Int) = 20 := rfl
    by_cases hlt : (i : Int) < 20
    · have h' : i < kws.length := by omega
      have g1 : (kws.map vs)[i]? = some (vs kws[i]) := by simp [h']
      simp only [vs] at g1
      have z0 : (0 : Int) ≤ i := by omega
      simp (config := { maxSteps := 4000000 }) (disch := omega) only [pvK, pvB, sRp1D_119, reduceIte, Nat.reduceEqDiff, Nat.reduceAdd, Nat.reduceSub, Nat.reduceMul, Nat.reduceLT, Nat.reduceLeDiff, Nat.reduceBEq, reduceCtorEq, Int.reduceAdd, Int.reduceSub, Int.reduceMul, Int.reduceLT, Int.reduceLE, Int.reduceEq, Int.reduceToNat, Int.reduceNeg, Nat.reduceBNe, Int.reduceBEq, Int.reduceBNe, Int.reduceGT, Int.reduceGE, Int.reduceTMod, Bool.not_true, Bool.not_false, forall_const, eq_self, decide_true, decide_false, hlt, g1, z0, hl, c20, pelt_some]
      refine kcond_e (fun h => ?_) (fun h => ?_)
      · simp (config := { maxSteps := 4000000 }) (disch := omega) only [pvK, pvB, sRp1D_119, reduceIte, Nat.reduceEqDiff, Nat.reduceAdd, Nat.reduceSub, Nat.reduceMul, Nat.reduceLT, Nat.reduceLeDiff, Nat.reduceBEq, reduceCtorEq, Int.reduceAdd, Int.reduceSub, Int.reduceMul, Int.reduceLT, Int.reduceLE, Int.reduceEq, Int.reduceToNat, Int.reduceNeg, Nat.reduceBNe, Int.reduceBEq, Int.reduceBNe, Int.reduceGT, Int.reduceGE, Int.reduceTMod, Bool.not_true, Bool.not_false, forall_const, eq_self, decide_true, decide_false]
        refine ⟨σ, .refl _, ?_⟩
        have : kw s = true := List.any_eq_true.2 ⟨kws[i], List.getElem_mem h', h⟩
        rw [this] at hK; exact hK
      · simp (config := { maxSteps := 4000000 }) (disch := omega) only [pvK, pvB, sRp1D_119, reduceIte, Nat.reduceEqDiff, Nat.reduceAdd, Nat.reduceSub, Nat.reduceMul, Nat.reduceLT, Nat.reduceLeDiff, Nat.reduceBEq, reduceCtorEq, Int.reduceAdd, Int.reduceSub, Int.reduceMul, Int.reduceLT, Int.reduceLE, Int.reduceEq, Int.reduceToNat, Int.reduceNeg, Nat.reduceBNe, Int.reduceBEq, Int.reduceBNe, Int.reduceGT, Int.reduceGE, Int.reduceTMod, Bool.not_true, Bool.not_false, forall_const, eq_self, decide_true, decide_false]
        refine hR _ _ (less_env rfl (less_env rfl (less_env rfl (less_nil (.refl _))))) ⟨i + 1, by omega, ?_, rfl⟩ ?_
        · intro j hj hji
          by_cases z : j = i
          · subst z
            exact h
          · exact ha j hj (by omega)
        · show ((kws.length : Int) - ((i + 1 : Nat) : Int)).toNat < ((kws.length : Int) - (i : Int)).toNat
          omega
    · simp (config := { maxSteps := 4000000 }) (disch := omega) only [pvK, pvB, sRp1D_119, reduceIte, Nat.reduceEqDiff, Nat.reduceAdd, Nat.reduceSub, Nat.reduceMul, Nat.reduceLT, Nat.reduceLeDiff, Nat.reduceBEq, reduceCtorEq, Int.reduceAdd, Int.reduceSub, Int.reduceMul, Int.reduceLT, Int.reduceLE, Int.reduceEq, Int.reduceToNat, Int.reduceNeg, Nat.reduceBNe, Int.reduceBEq, Int.reduceBNe, Int.reduceGT, Int.reduceGE, Int.reduceTMod, Bool.not_true, Bool.not_false, forall_const, eq_self, decide_true, decide_false, hlt, hl, c20]
      refine ⟨σ, .refl _, ?_⟩
      have : kw s = false := by
        rw [kw, List.any_eq_false]
        intro x hx
        obtain ⟨j, hj, rfl⟩ := List.getElem_of_mem hx
        rw [ha j hj (by omega)]
        simp
      rw [this] at hK; exact hK
end Go.Pv.D
-- Pp1D
namespace Go.Pv.D
open Go Go.RowKit Go.Proofs Go.Pv
def sPp1D_44 := (And.intro (And.intro (And.intro (And.intro @q_fld_27_4 @q_slz_0) (And.intro @q_tsz_3 @q_slz_3)) (And.intro (And.intro @q_ifc_3 @q_tsz_4) (And.intro @q_slz_4 (And.intro @q_ifc_4 @q_isb_4)))) (And.intro (And.intro (And.intro @q_tsz_25 @q_slz_25) (And.intro @q_str_25 @q_arz_25)) (And.intro (And.intro @q_ifc_25 @q_tsz_27) (And.intro @q_slz_27 (And.intro @q_ifc_27 @q_zcs_27)))))
def sPp1D_70 := (And.intro (And.intro (And.intro (And.intro @q_slz_0 @q_tsz_3) (And.intro @q_slz_3 @q_ifc_3)) (And.intro (And.intro @q_tsz_4 @q_slz_4) (And.intro @q_ifc_4 (And.intro @q_isb_4 @q_tsz_25)))) (And.intro (And.intro (And.intro @q_slz_25 @q_str_25) (And.intro @q_arz_25 (And.intro @q_ifc_25 @q_tsz_27))) (And.intro (And.intro @q_slz_27 @q_ifc_27) (And.intro @q_zcs_27 (And.intro @q_bsl_25 @q_bld_27)))))
def sPp1D_107 := (And.intro (And.intro (And.intro (And.intro @q_tsz_3 @q_slz_3) (And.intro @q_ifc_3 @q_tsz_9)) (And.intro (And.intro @q_slz_9 @q_str_9) (And.intro @q_arz_9 (And.intro @q_ifc_9 @q_tsz_36)))) (And.intro (And.intro (And.intro @q_slz_36 @q_str_36) (And.intro @q_arz_36 @q_ifc_36)) (And.intro (And.intro @q_tsz_154 @q_slz_154) (And.intro @q_str_154 (And.intro @q_arz_154 @q_ifc_154)))))
def sPp1D_118 := (And.intro (And.intro (And.intro @q_tsz_4 (And.intro @q_slz_4 @q_ifc_4)) (And.intro (And.intro @q_isb_4 @q_tsz_9) (And.intro @q_slz_9 @q_str_9))) (And.intro (And.intro @q_arz_9 (And.intro @q_ifc_9 @q_tsz_36)) (And.intro (And.intro @q_slz_36 @q_str_36) (And.intro @q_arz_36 @q_ifc_36))))
def sPp1D_133 := (And.intro (And.intro (And.intro (And.intro @q_slz_0 @q_tsz_3) (And.intro @q_slz_3 @q_ifc_3)) (And.intro (And.intro @q_tsz_4 @q_slz_4) (And.intro @q_ifc_4 (And.intro @q_isb_4 @q_tsz_9)))) (And.intro (And.intro (And.intro @q_slz_9 @q_str_9) (And.intro @q_arz_9 @q_ifc_9)) (And.intro (And.intro @q_tsz_36 @q_slz_36) (And.intro @q_str_36 (And.intro @q_arz_36 @q_ifc_36)))))
def sPp1D_143 := (And.intro (And.intro (And.intro (And.intro @q_tsz_3 @q_slz_3) (And.intro @q_ifc_3 @q_tsz_4)) (And.intro (And.intro @q_slz_4 @q_ifc_4) (And.intro @q_isb_4 @q_tsz_9))) (And.intro (And.intro (And.intro @q_slz_9 @q_str_9) (And.intro @q_arz_9 @q_ifc_9)) (And.intro (And.intro @q_tsz_36 @q_slz_36) (And.intro @q_str_36 (And.intro @q_arz_36 @q_ifc_36)))))
/-- The signs of the operators, from the first one on. -/
def sgns : List ByteArray := [⟨#[43]⟩, ⟨#[45]⟩, ⟨#[42]⟩, ⟨#[47]⟩, ⟨#[37]⟩, ⟨#[38]⟩, ⟨#[124]⟩, ⟨#[94]⟩, ⟨#[60, 60]⟩, ⟨#[62, 62]⟩, ⟨#[60]⟩, ⟨#[60, 61]⟩, ⟨#[61, 61]⟩, ⟨#[33, 61]⟩]
/-- The listed package variables. -/
structure GlOK (σ : St) : Prop where
  words : σ.gl 3 = some [.list .any 1 (kws.map vs)]
  signs : σ.gl 2 = some (sgns.map vs)
  cmps : σ.gl 0 = some [.list .any 1 ((opsOf 0).map fun p => vs p.1)]
  lines : σ.gl 1 = some [.list .any 1 ((opsOf 1).map fun p => vs p.1), .list .any 1 ((opsOf 2).map fun p => vs p.1)]
theorem GlOK.of {σ σ' : St} (h : GlOK σ) (e : σ'.gl = σ.gl) : GlOK σ' := ⟨by rw [e]; exact h.words, by rw [e]; exact h.signs, by rw [e]; exact h.cmps, by rw [e]; exact h.lines⟩
theorem GlOK.set {σ : St} (h : GlOK σ) (b : Nat) (o : Ob) : GlOK (σ.set b o) := h.of rfl
theorem dE_pos1 (e : AE) : 1 ≤ dE e := by cases e; simp only [dE]; omega
def findI (v : ByteArray) : List ByteArray → Int → Int
  | [], _ => -1
  | w :: r, i => if eqB v w then i else findI v r (i + 1)
theorem eqB_comm (a b : ByteArray) : eqB a b = eqB b a := by
  unfold eqB
  rw [Bool.eq_iff_iff, beq_iff_eq, beq_iff_eq]
  exact eq_comm
theorem findI_iff (v : ByteArray) : ∀ (l : List ByteArray) (i : Int), 0 ≤ i → (0 ≤ findI v l i ↔ (l.any fun w => eqB w v) = true)
  | [], _, _ => by simp [findI]
  | w :: r, i, h => by
    simp only [findI, List.any_cons, eqB_comm w v]
    by_cases q : eqB v w = true
    · simp [q, h]
    · simp only [q, if_false, Bool.eq_false_iff.2 q, Bool.false_or]
      exact findI_iff v r (i + 1) (by omega)
theorem findI_any (v : ByteArray) (l : List ByteArray) : decide (findI v l 0 ≥ 0) = l.any fun w => eqB w v := by
  rw [Bool.eq_iff_iff, decide_eq_true_iff]
  exact findI_iff v l 0 (by omega)
def opsB (k : Nat) : Bool := (opsOf k).all fun p => findI p.1 sgns 0 + 1 == p.2 && !(p.2 == 0)
theorem ops_all : ∀ k, opsB k = true
  | 0 => by decide +kernel
  | 1 => by decide +kernel
  | 2 => by decide +kernel
  | _ + 3 => rfl
theorem ops_op {k : Nat} {p : ByteArray × Int} (h : p ∈ opsOf k) : findI p.1 sgns 0 + 1 = p.2 ∧ p.2 ≠ 0 := by
  have := List.all_eq_true.1 (ops_all k) p h
  simp only [Bool.and_eq_true, beq_iff_eq, Bool.not_eq_true', beq_eq_false_iff_ne] at this
  exact this
theorem findI_range (v : ByteArray) : ∀ (l : List ByteArray) (i : Int), 0 ≤ i → -1 ≤ findI v l i ∧ findI v l i ≤ i + l.length
  | [], i, h => by simp [findI]; omega
  | w :: r, i, h => by
    simp only [findI]
    have := findI_range v r (i + 1) (by omega)
    split
    · constructor
      · omega
      · simp only [List.length_cons]; omega
    · constructor
      · omega
      · simp only [List.length_cons]; omega
set_option maxHeartbeats 4000000 in
set_option maxRecDepth 100000 in
theorem index_c (kk : Cap) (l : List ByteArray) (hl : l.length < 1000000) (v : ByteArray) (σ : St) (K : Res → St → Prop) (hK : K (.ret (vi (findI v l 0))) σ) : PCalls Tryd.prog 133 [.list kk 1 (l.map vs), vs v] σ K := by
  refine PCalls.of_body (tOk Tryd.prog) (by kernel_rfl) Tryd.func133 rfl (by kernel_rfl) [] [] (by kernel_rfl) (n := 19) (by kernel_rfl) (by kernel_rfl) (rs := [.tmp 4]) (by kernel_rfl) ?_
  simp (config := { maxSteps := 4000000 }) (disch := omega) only [pvK, pvB, sPp1D_133, reduceIte, Nat.reduceEqDiff, Nat.reduceAdd, Nat.reduceSub, Nat.reduceMul, Nat.reduceLT, Nat.reduceLeDiff, Nat.reduceBEq, reduceCtorEq, Int.reduceAdd, Int.reduceSub, Int.reduceMul, Int.reduceLT, Int.reduceLE, Int.reduceEq, Int.reduceToNat, Int.reduceNeg, Nat.reduceBNe, Int.reduceBEq, Int.reduceBNe, Int.reduceGT, Int.reduceGE, Int.reduceTMod, Bool.false_eq_true, Bool.not_true, Bool.not_false, forall_const, eq_self, decide_true, decide_false]
  refine loop_rule (fun s => ∃ i : Nat, i ≤ l.length ∧ findI v l 0 = findI v (l.drop i) i ∧ s = ⟨19, [(0, .list kk 1 (l.map vs)), (1, vs v), (7, vi l.length), (8, vi i)], [], σ⟩) (fun s => (l.length - ival (get s.env 8)).toNat) ?_ ?_
  · exact ⟨_, less_env rfl (less_env rfl (less_env rfl (less_env rfl (less_nil (.refl _))))), 0, Nat.zero_le _, rfl, rfl⟩
  · rintro s ⟨i, hi, hf, rfl⟩ R hR
    by_cases hlt : i < l.length
    · have h1 : ((i : Int) < (l.length : Int)) = True := eq_true (by omega)
      have h2 : (0 ≤ (i : Int)) = True := eq_true (by omega)
      have g1 : (l.map vs)[i]? = some (vs l[i]) := by simp [hlt]
      simp only [vs] at g1
      rw [List.drop_eq_getElem_cons hlt] at hf
      simp only [findI] at hf
      cases hb : v.toList == l[i].toList
      · simp (config := { maxSteps := 4000000 }) (disch := omega) only [pvK, pvB, sPp1D_133, reduceIte, Nat.reduceEqDiff, Nat.reduceAdd, Nat.reduceSub, Nat.reduceMul, Nat.reduceLT, Nat.reduceLeDiff, Nat.reduceBEq, reduceCtorEq, Int.reduceAdd, Int.reduceSub, Int.reduceMul, Int.reduceLT, Int.reduceLE, Int.reduceEq, Int.reduceToNat, Int.reduceNeg, Nat.reduceBNe, Int.reduceBEq, Int.reduceBNe, Int.reduceGT, Int.reduceGE, Int.reduceTMod, Bool.false_eq_true, Bool.not_true, Bool.not_false, forall_const, eq_self, decide_true, decide_false, h1, h2, g1, pelt_some, hb]
        refine hR _ _ (less_env rfl (less_env rfl (less_env rfl (less_env rfl (less_nil (.refl _)))))) ⟨i + 1, by omega, ?_, rfl⟩ ?_
        · rw [hf]
          unfold eqB
          rw [hb]
          rfl
        · show ((l.length : Int) - ((i + 1 : Nat) : Int)).toNat < ((l.length : Int) - (i : Int)).toNat
          omega
      · simp (config := { maxSteps := 4000000 }) (disch := omega) only [pvK, pvB, sPp1D_133, reduceIte, Nat.reduceEqDiff, Nat.reduceAdd, Nat.reduceSub, Nat.reduceMul, Nat.reduceLT, Nat.reduceLeDiff, Nat.reduceBEq, reduceCtorEq, Int.reduceAdd, Int.reduceSub, Int.reduceMul, Int.reduceLT, Int.reduceLE, Int.reduceEq, Int.reduceToNat, Int.reduceNeg, Nat.reduceBNe, Int.reduceBEq, Int.reduceBNe, Int.reduceGT, Int.reduceGE, Int.reduceTMod, Bool.false_eq_true, Bool.not_true, Bool.not_false, forall_const, eq_self, decide_true, decide_false, h1, h2, g1, pelt_some, hb]
        refine ⟨σ, .refl _, ?_⟩
        unfold eqB at hf
        rw [hb] at hf
        rw [hf] at hK
        exact hK
    · have h1 : ((i : Int) < (l.length : Int)) = False := eq_false (by omega)
      simp (config := { maxSteps := 4000000 }) (disch := omega) only [pvK, pvB, sPp1D_133, reduceIte, Nat.reduceEqDiff, Nat.reduceAdd, Nat.reduceSub, Nat.reduceMul, Nat.reduceLT, Nat.reduceLeDiff, Nat.reduceBEq, reduceCtorEq, Int.reduceAdd, Int.reduceSub, Int.reduceMul, Int.reduceLT, Int.reduceLE, Int.reduceEq, Int.reduceToNat, Int.reduceNeg, Nat.reduceBNe, Int.reduceBEq, Int.reduceBNe, Int.reduceGT, Int.reduceGE, Int.reduceTMod, Bool.false_eq_true, Bool.not_true, Bool.not_false, forall_const, eq_self, decide_true, decide_false, h1]
      refine ⟨σ, .refl _, ?_⟩
      rw [hf, List.drop_eq_nil_of_le (by omega)] at hK
      exact hK
set_option maxRecDepth 100000 in
theorem keyword_c (s : ByteArray) (σ : St) (hg : GlOK σ) (K : Res → St → Prop) (hK : K (.ret (vb' (kw s))) σ) : PCalls Tryd.prog 118 [vs s] σ K := by
  refine PCalls.of_body (tOk Tryd.prog) (by kernel_rfl) Tryd.func118 rfl (by kernel_rfl) [] [] (by kernel_rfl) (n := 6) (by kernel_rfl) (by kernel_rfl) (rs := [.tmp 2]) (by kernel_rfl) ?_
  have g := hg.words
  simp (config := { maxSteps := 4000000 }) (disch := omega) only [pvK, pvB, sPp1D_118, reduceIte, Nat.reduceEqDiff, Nat.reduceAdd, Nat.reduceSub, Nat.reduceMul, Nat.reduceLT, Nat.reduceLeDiff, Nat.reduceBEq, reduceCtorEq, Int.reduceAdd, Int.reduceSub, Int.reduceMul, Int.reduceLT, Int.reduceLE, Int.reduceEq, Int.reduceToNat, Int.reduceNeg, Nat.reduceBNe, Int.reduceBEq, Int.reduceBNe, Int.reduceGT, Int.reduceGE, Int.reduceTMod, Bool.false_eq_true, Bool.not_true, Bool.not_false, forall_const, eq_self, decide_true, decide_false, g]
  refine PCalls.of_body (tOk Tryd.prog) (by kernel_rfl) Tryd.func143 rfl (by kernel_rfl) [] [] (by kernel_rfl) (n := 9) (by kernel_rfl) (by kernel_rfl) (rs := [.tmp 4]) (by kernel_rfl) ?_
  simp (config := { maxSteps := 4000000 }) (disch := omega) only [pvK, pvB, sPp1D_143, reduceIte, Nat.reduceEqDiff, Nat.reduceAdd, Nat.reduceSub, Nat.reduceMul, Nat.reduceLT, Nat.reduceLeDiff, Nat.reduceBEq, reduceCtorEq, Int.reduceAdd, Int.reduceSub, Int.reduceMul, Int.reduceLT, Int.reduceLE, Int.reduceEq, Int.reduceToNat, Int.reduceNeg, Nat.reduceBNe, Int.reduceBEq, Int.reduceBNe, Int.reduceGT, Int.reduceGE, Int.reduceTMod, Bool.false_eq_true, Bool.not_true, Bool.not_false, forall_const, eq_self, decide_true, decide_false]
  refine index_c .any kws (by decide) s σ _ ?_
  have h : decide (findI s kws 0 ≥ 0) = kw s := findI_any s kws
  have hr := findI_range s kws 0 (by omega)
  simp (config := { maxSteps := 4000000 }) (disch := omega) only [pvK, pvB, sPp1D_143, reduceIte, Nat.reduceEqDiff, Nat.reduceAdd, Nat.reduceSub, Nat.reduceMul, Nat.reduceLT, Nat.reduceLeDiff, Nat.reduceBEq, reduceCtorEq, Int.reduceAdd, Int.reduceSub, Int.reduceMul, Int.reduceLT, Int.reduceLE, Int.reduceEq, Int.reduceToNat, Int.reduceNeg, Nat.reduceBNe, Int.reduceBEq, Int.reduceBNe, Int.reduceGT, Int.reduceGE, Int.reduceTMod, Bool.false_eq_true, Bool.not_true, Bool.not_false, forall_const, eq_self, decide_true, decide_false, h]
  refine ⟨σ, .refl _, ?_⟩
  simp (config := { maxSteps := 4000000 }) (disch := omega) only [pvK, pvB, sPp1D_118, reduceIte, Nat.reduceEqDiff, Nat.reduceAdd, Nat.reduceSub, Nat.reduceMul, Nat.reduceLT, Nat.reduceLeDiff, Nat.reduceBEq, reduceCtorEq, Int.reduceAdd, Int.reduceSub, Int.reduceMul, Int.reduceLT, Int.reduceLE, Int.reduceEq, Int.reduceToNat, Int.reduceNeg, Nat.reduceBNe, Int.reduceBEq, Int.reduceBNe, Int.reduceGT, Int.reduceGE, Int.reduceTMod, Bool.false_eq_true, Bool.not_true, Bool.not_false, forall_const, eq_self, decide_true, decide_false]
  exact ⟨σ, .refl _, hK⟩
set_option maxRecDepth 100000 in
theorem operator_c (s : ByteArray) (σ : St) (hg : GlOK σ) (K : Res → St → Prop) (hK : K (.ret (vi (findI s sgns 0 + 1))) σ) : PCalls Tryd.prog 107 [vs s] σ K := by
  refine PCalls.of_body (tOk Tryd.prog) (by kernel_rfl) Tryd.func107 rfl (by kernel_rfl) [] [] (by kernel_rfl) (n := 7) (by kernel_rfl) (by kernel_rfl) (rs := [.tmp 2]) (by kernel_rfl) ?_
  have g := hg.signs
  have e : (sgns.map vs).all stor = true := by decide
  have e2 : (14 = sgns.length) = True := eq_true rfl
  simp (config := { maxSteps := 4000000 }) (disch := omega) only [pvK, pvB, sPp1D_107, reduceIte, Nat.reduceEqDiff, Nat.reduceAdd, Nat.reduceSub, Nat.reduceMul, Nat.reduceLT, Nat.reduceLeDiff, Nat.reduceBEq, reduceCtorEq, Int.reduceAdd, Int.reduceSub, Int.reduceMul, Int.reduceLT, Int.reduceLE, Int.reduceEq, Int.reduceToNat, Int.reduceNeg, Nat.reduceBNe, Int.reduceBEq, Int.reduceBNe, Int.reduceGT, Int.reduceGE, Int.reduceTMod, Bool.false_eq_true, Bool.not_true, Bool.not_false, forall_const, eq_self, decide_true, decide_false, g, e, e2]
  refine index_c .any sgns (by decide) s σ _ ?_
  have hr := findI_range s sgns 0 (by omega)
  have hl : sgns.length = 14 := rfl
  simp (config := { maxSteps := 4000000 }) (disch := omega) only [pvK, pvB, sPp1D_107, reduceIte, Nat.reduceEqDiff, Nat.reduceAdd, Nat.reduceSub, Nat.reduceMul, Nat.reduceLT, Nat.reduceLeDiff, Nat.reduceBEq, reduceCtorEq, Int.reduceAdd, Int.reduceSub, Int.reduceMul, Int.reduceLT, Int.reduceLE, Int.reduceEq, Int.reduceToNat, Int.reduceNeg, Nat.reduceBNe, Int.reduceBEq, Int.reduceBNe, Int.reduceGT, Int.reduceGE, Int.reduceTMod, Bool.false_eq_true, Bool.not_true, Bool.not_false, forall_const, eq_self, decide_true, decide_false]
  exact ⟨σ, .refl _, hK⟩
set_option maxRecDepth 100000 in
theorem binary_c (op : Int) (x y : AE) (σ : St) (K : Res → St → Prop) (hK : K (.ret (pvE (binE op x y))) σ) : PCalls Tryd.prog 70 [vi op, pvE x, pvE y] σ K := by
  refine PCalls.forgetR ?_
  refine PCalls.of_body (tOk Tryd.prog) (by kernel_rfl) Tryd.func70 rfl (by kernel_rfl) [] [] (by kernel_rfl) (n := 12) (by kernel_rfl) (by kernel_rfl) (rs := [.cell 6 27]) (by kernel_rfl) ?_
  have fx := forget_E x
  have fy := forget_E y
  obtain ⟨x1, x2, x3, x4, x5⟩ := x
  obtain ⟨y1, y2, y3, y4, y5⟩ := y
  simp (config := { maxSteps := 4000000 }) (disch := omega) only [pvK, pvB, sPp1D_70, reduceIte, Nat.reduceEqDiff, Nat.reduceAdd, Nat.reduceSub, Nat.reduceMul, Nat.reduceLT, Nat.reduceLeDiff, Nat.reduceBEq, reduceCtorEq, Int.reduceAdd, Int.reduceSub, Int.reduceMul, Int.reduceLT, Int.reduceLE, Int.reduceEq, Int.reduceToNat, Int.reduceNeg, Nat.reduceBNe, Int.reduceBEq, Int.reduceBNe, Int.reduceGT, Int.reduceGE, Int.reduceTMod, Bool.false_eq_true, Bool.not_true, Bool.not_false, forall_const, eq_self, decide_true, decide_false]
  refine ⟨σ, .refl _, ?_⟩
  simp only [Res.forget, forget, forgets, pvE, pvEs, binE, vi, vs, forgets_Es] at hK ⊢
  exact hK
set_option maxHeartbeats 4000000 in
set_option maxRecDepth 100000 in
theorem depth_c : ∀ (n : Nat) (e : AE) (σ : St) (K : Res → St → Prop), n < 1000000 → wE e < 4611686018427387904 → K (.ret (vi (min (dE e) (n + 1) : Nat))) σ → PCalls Tryd.prog 44 [pvE e, vi n] σ K := by
  intro n
  induction n with
  | zero =>
    intro e σ K hn hw hK
    have h1 := dE_pos1 e
    obtain ⟨k, m, s, o, l⟩ := e
    refine PCalls.of_body (tOk Tryd.prog) (by kernel_rfl) Tryd.func44 rfl (by kernel_rfl) [] [] (by kernel_rfl) (n := 26) (by kernel_rfl) (by kernel_rfl) (rs := [.tmp 4]) (by kernel_rfl) ?_
    simp (config := { maxSteps := 4000000 }) (disch := omega) only [pvK, pvB, sPp1D_44, reduceIte, Nat.reduceEqDiff, Nat.reduceAdd, Nat.reduceSub, Nat.reduceMul, Nat.reduceLT, Nat.reduceLeDiff, Nat.reduceBEq, reduceCtorEq, Int.reduceAdd, Int.reduceSub, Int.reduceMul, Int.reduceLT, Int.reduceLE, Int.reduceEq, Int.reduceToNat, Int.reduceNeg, Nat.reduceBNe, Int.reduceBEq, Int.reduceBNe, Int.reduceGT, Int.reduceGE, Int.reduceTMod, Bool.false_eq_true, Bool.not_true, Bool.not_false, forall_const, eq_self, decide_true, decide_false]
    refine ⟨σ, .refl _, ?_⟩
    rw [show min (dE (AE.mk k m s o l)) (0 + 1) = 1 by omega] at hK
    exact hK
  | succ n ih =>
    intro e σ K hn hw hK
    obtain ⟨k, m, s, o, l⟩ := e
    simp only [wE] at hw
    have hlen := wEs_len l
    refine PCalls.of_body (tOk Tryd.prog) (by kernel_rfl) Tryd.func44 rfl (by kernel_rfl) [] [] (by kernel_rfl) (n := 26) (by kernel_rfl) (by kernel_rfl) (rs := [.tmp 4]) (by kernel_rfl) ?_
    have h0 : (((n + 1 : Nat) : Int) > 0) = True := eq_true (by omega)
    have en : ((n + 1 : Nat) : Int) - 1 = (n : Int) := by omega
    simp (config := { maxSteps := 4000000 }) (disch := omega) only [pvK, pvB, sPp1D_44, reduceIte, Nat.reduceEqDiff, Nat.reduceAdd, Nat.reduceSub, Nat.reduceMul, Nat.reduceLT, Nat.reduceLeDiff, Nat.reduceBEq, reduceCtorEq, Int.reduceAdd, Int.reduceSub, Int.reduceMul, Int.reduceLT, Int.reduceLE, Int.reduceEq, Int.reduceToNat, Int.reduceNeg, Nat.reduceBNe, Int.reduceBEq, Int.reduceBNe, Int.reduceGT, Int.reduceGE, Int.reduceTMod, Bool.false_eq_true, Bool.not_true, Bool.not_false, forall_const, eq_self, decide_true, decide_false, h0]
    refine loop_rule (fun st => ∃ i : Nat, i ≤ l.length ∧ st = ⟨26, [(1, vi (n + 1 : Nat)), (5, vi (min (dEs (l.take i)) (n + 1) : Nat)), (11, .list .any 5 (pvEs l)), (12, vi l.length), (13, vi i)], [], σ⟩) (fun s => (l.length - ival (get s.env 13)).toNat) ?_ ?_
    · refine ⟨_, ?_, 0, Nat.zero_le _, rfl⟩
      exact less_env rfl (less_env (by show vi _ = vi _; simp [dEs]) (less_env rfl (less_env rfl (less_env rfl (less_nil (.refl _))))))
    · rintro st ⟨i, hi, rfl⟩ R hR
      by_cases hlt : i < l.length
      · have h1 : ((i : Int) < (l.length : Int)) = True := eq_true (by omega)
        have h2 : (0 ≤ (i : Int)) = True := eq_true (by omega)
        have hw1 := wEs_mem (List.getElem_mem hlt)
        have ed : dEs (l.take (i + 1)) = max (dEs (l.take i)) (dE l[i]) := by
          rw [List.take_succ_eq_append_getElem hlt]
          have : ∀ a : List AE, dEs (a ++ [l[i]]) = max (dEs a) (dE l[i]) := by
            intro a
            induction a with
            | nil => simp [dEs]
            | cons y a ih => simp only [List.cons_append, dEs, ih]; omega
          exact this _
        have eg : (pvEs l)[i]? = some (pvE l[i]) := by simp [pvEs_get, hlt]
        have ihx := fun K => ih l[i] σ K (by omega) (by omega)
        generalize l[i] = x at *
        have em : (if ((min (dE x) (n + 1) : Nat) : Int) > ((min (dEs (l.take i)) (n + 1) : Nat) : Int) then ((min (dE x) (n + 1) : Nat) : Int) else ((min (dEs (l.take i)) (n + 1) : Nat) : Int)) = ((min (dEs (l.take (i + 1))) (n + 1) : Nat) : Int) := by
          rw [ed]
          split <;> omega
        obtain ⟨k1, n1, s1, o1, l1⟩ := x
        rw [pvE_q] at eg
        simp only [pvE_q, vi, vs] at ihx eg
        simp (config := { maxSteps := 4000000 }) (disch := omega) only [pvK, pvB, sPp1D_44, reduceIte, Nat.reduceEqDiff, Nat.reduceAdd, Nat.reduceSub, Nat.reduceMul, Nat.reduceLT, Nat.reduceLeDiff, Nat.reduceBEq, reduceCtorEq, Int.reduceAdd, Int.reduceSub, Int.reduceMul, Int.reduceLT, Int.reduceLE, Int.reduceEq, Int.reduceToNat, Int.reduceNeg, Nat.reduceBNe, Int.reduceBEq, Int.reduceBNe, Int.reduceGT, Int.reduceGE, Int.reduceTMod, Bool.false_eq_true, Bool.not_true, Bool.not_false, forall_const, eq_self, decide_true, decide_false, h1, h2, eg, en]
        refine ihx _ ?_
        simp (config := { maxSteps := 4000000 }) (disch := omega) only [pvK, pvB, sPp1D_44, reduceIte, Nat.reduceEqDiff, Nat.reduceAdd, Nat.reduceSub, Nat.reduceMul, Nat.reduceLT, Nat.reduceLeDiff, Nat.reduceBEq, reduceCtorEq, Int.reduceAdd, Int.reduceSub, Int.reduceMul, Int.reduceLT, Int.reduceLE, Int.reduceEq, Int.reduceToNat, Int.reduceNeg, Nat.reduceBNe, Int.reduceBEq, Int.reduceBNe, Int.reduceGT, Int.reduceGE, Int.reduceTMod, Bool.false_eq_true, Bool.not_true, Bool.not_false, forall_const, eq_self, decide_true, decide_false, em]
        refine hR _ _ ?_ ⟨i + 1, by omega, rfl⟩ ?_
        · exact less_env rfl (less_env rfl (less_env rfl (less_env rfl (less_env rfl (less_nil (.refl _))))))
        · show ((l.length : Int) - ((i + 1 : Nat) : Int)).toNat < ((l.length : Int) - (i : Int)).toNat
          omega
      · have h1 : ((i : Int) < (l.length : Int)) = False := eq_false (by omega)
        have hi' : i = l.length := by omega
        subst hi'
        simp (config := { maxSteps := 4000000 }) (disch := omega) only [pvK, pvB, sPp1D_44, reduceIte, Nat.reduceEqDiff, Nat.reduceAdd, Nat.reduceSub, Nat.reduceMul, Nat.reduceLT, Nat.reduceLeDiff, Nat.reduceBEq, reduceCtorEq, Int.reduceAdd, Int.reduceSub, Int.reduceMul, Int.reduceLT, Int.reduceLE, Int.reduceEq, Int.reduceToNat, Int.reduceNeg, Nat.reduceBNe, Int.reduceBEq, Int.reduceBNe, Int.reduceGT, Int.reduceGE, Int.reduceTMod, Bool.false_eq_true, Bool.not_true, Bool.not_false, forall_const, eq_self, decide_true, decide_false, h1]
        refine ⟨σ, .refl _, ?_⟩
        rw [List.take_length]
        simp only [dE] at hK
        rw [show min (1 + dEs l) (n + 1 + 1) = min (dEs l) (n + 1) + 1 by omega] at hK
        exact hK
end Go.Pv.D
-- Rp2D
namespace Go.Pv.D
open Go Go.RowKit Go.Proofs Go.Pv
def sRp2D_93 := (And.intro (And.intro (And.intro (And.intro @q_fld_88_1 @q_slz_0) (And.intro @q_tsz_3 (And.intro @q_slz_3 @q_ifc_3))) (And.intro (And.intro @q_tsz_4 @q_slz_4) (And.intro @q_ifc_4 (And.intro @q_isb_4 @q_tsz_9)))) (And.intro (And.intro (And.intro @q_slz_9 @q_str_9) (And.intro @q_arz_9 (And.intro @q_ifc_9 @q_tsz_86))) (And.intro (And.intro @q_slz_86 @q_ifc_86) (And.intro @q_tsz_88 (And.intro @q_slz_88 @q_ifc_88)))))
def sRp2D_94 := (And.intro (And.intro (And.intro (And.intro (And.intro @q_fld_88_1 @q_fld_59_3) (And.intro @q_fld_88_0 @q_slz_0)) (And.intro (And.intro @q_tsz_3 @q_slz_3) (And.intro @q_ifc_3 @q_tsz_4))) (And.intro (And.intro (And.intro @q_slz_4 @q_ifc_4) (And.intro @q_isb_4 @q_tsz_9)) (And.intro (And.intro @q_slz_9 @q_str_9) (And.intro @q_arz_9 @q_ifc_9)))) (And.intro (And.intro (And.intro (And.intro @q_tsz_23 @q_slz_23) (And.intro @q_str_23 @q_arz_23)) (And.intro (And.intro @q_ifc_23 @q_tsz_28) (And.intro @q_slz_28 @q_ifc_28))) (And.intro (And.intro (And.intro @q_tsz_59 @q_slz_59) (And.intro @q_ifc_59 @q_tsz_86)) (And.intro (And.intro @q_slz_86 @q_ifc_86) (And.intro @q_tsz_88 (And.intro @q_slz_88 @q_ifc_88))))))
def sRp2D_95 := (And.intro (And.intro (And.intro (And.intro @q_fld_88_1 (And.intro @q_fld_59_1 @q_fld_88_0)) (And.intro (And.intro @q_fld_59_0 @q_fld_88_3) (And.intro @q_slz_0 @q_tsz_3))) (And.intro (And.intro (And.intro @q_slz_3 @q_ifc_3) (And.intro @q_tsz_4 @q_slz_4)) (And.intro (And.intro @q_ifc_4 @q_isb_4) (And.intro @q_tsz_23 @q_slz_23)))) (And.intro (And.intro (And.intro @q_str_23 (And.intro @q_arz_23 @q_ifc_23)) (And.intro (And.intro @q_tsz_28 @q_slz_28) (And.intro @q_ifc_28 @q_tsz_59))) (And.intro (And.intro (And.intro @q_slz_59 @q_ifc_59) (And.intro @q_tsz_86 @q_slz_86)) (And.intro (And.intro @q_ifc_86 @q_tsz_88) (And.intro @q_slz_88 @q_ifc_88)))))
def sRp2D_97 := (And.intro (And.intro (And.intro (And.intro @q_fld_59_2 (And.intro @q_fld_88_2 @q_fld_88_3)) (And.intro (And.intro @q_fld_88_0 @q_slz_0) (And.intro @q_tsz_3 @q_slz_3))) (And.intro (And.intro @q_ifc_3 (And.intro @q_tsz_4 @q_slz_4)) (And.intro (And.intro @q_ifc_4 @q_isb_4) (And.intro @q_tsz_23 @q_slz_23)))) (And.intro (And.intro (And.intro @q_str_23 (And.intro @q_arz_23 @q_ifc_23)) (And.intro (And.intro @q_tsz_28 @q_slz_28) (And.intro @q_ifc_28 @q_tsz_59))) (And.intro (And.intro (And.intro @q_slz_59 @q_ifc_59) (And.intro @q_tsz_86 @q_slz_86)) (And.intro (And.intro @q_ifc_86 @q_tsz_88) (And.intro @q_slz_88 @q_ifc_88)))))
def sRp2D_110 := (And.intro (And.intro (And.intro (And.intro @q_fld_88_1 @q_fld_88_4) (And.intro @q_slz_0 @q_tsz_3)) (And.intro (And.intro @q_slz_3 @q_ifc_3) (And.intro @q_tsz_4 (And.intro @q_slz_4 @q_ifc_4)))) (And.intro (And.intro (And.intro @q_isb_4 @q_tsz_28) (And.intro @q_slz_28 (And.intro @q_ifc_28 @q_tsz_86))) (And.intro (And.intro @q_slz_86 @q_ifc_86) (And.intro @q_tsz_88 (And.intro @q_slz_88 @q_ifc_88)))))
def sRp2D_120 := (And.intro (And.intro (And.intro (And.intro (And.intro @q_fld_88_1 @q_fld_59_3) (And.intro @q_fld_88_0 @q_fld_59_0)) (And.intro (And.intro @q_fld_88_3 @q_slz_0) (And.intro @q_tsz_3 @q_slz_3))) (And.intro (And.intro (And.intro @q_ifc_3 @q_tsz_4) (And.intro @q_slz_4 @q_ifc_4)) (And.intro (And.intro @q_isb_4 @q_tsz_9) (And.intro @q_slz_9 (And.intro @q_str_9 @q_arz_9))))) (And.intro (And.intro (And.intro (And.intro @q_ifc_9 @q_tsz_23) (And.intro @q_slz_23 @q_str_23)) (And.intro (And.intro @q_arz_23 @q_ifc_23) (And.intro @q_tsz_28 (And.intro @q_slz_28 @q_ifc_28)))) (And.intro (And.intro (And.intro @q_tsz_59 @q_slz_59) (And.intro @q_ifc_59 @q_tsz_86)) (And.intro (And.intro @q_slz_86 @q_ifc_86) (And.intro @q_tsz_88 (And.intro @q_slz_88 @q_ifc_88))))))
def sRp2D_121 := (And.intro (And.intro (And.intro (And.intro (And.intro @q_fld_88_1 @q_fld_59_3) (And.intro @q_fld_88_0 @q_fld_59_0)) (And.intro (And.intro @q_fld_88_3 @q_slz_0) (And.intro @q_tsz_3 @q_slz_3))) (And.intro (And.intro (And.intro @q_ifc_3 @q_tsz_4) (And.intro @q_slz_4 @q_ifc_4)) (And.intro (And.intro @q_isb_4 @q_tsz_9) (And.intro @q_slz_9 (And.intro @q_str_9 @q_arz_9))))) (And.intro (And.intro (And.intro (And.intro @q_ifc_9 @q_tsz_23) (And.intro @q_slz_23 @q_str_23)) (And.intro (And.intro @q_arz_23 @q_ifc_23) (And.intro @q_tsz_28 (And.intro @q_slz_28 @q_ifc_28)))) (And.intro (And.intro (And.intro @q_tsz_59 @q_slz_59) (And.intro @q_ifc_59 @q_tsz_86)) (And.intro (And.intro @q_slz_86 @q_ifc_86) (And.intro @q_tsz_88 (And.intro @q_slz_88 @q_ifc_88))))))
def sRp2D_122 := (And.intro (And.intro (And.intro (And.intro @q_fld_88_1 @q_slz_0) (And.intro @q_tsz_3 (And.intro @q_slz_3 @q_ifc_3))) (And.intro (And.intro @q_tsz_4 (And.intro @q_slz_4 @q_ifc_4)) (And.intro @q_isb_4 (And.intro @q_tsz_9 @q_slz_9)))) (And.intro (And.intro (And.intro @q_str_9 (And.intro @q_arz_9 @q_ifc_9)) (And.intro @q_tsz_28 (And.intro @q_slz_28 @q_ifc_28))) (And.intro (And.intro @q_tsz_86 (And.intro @q_slz_86 @q_ifc_86)) (And.intro @q_tsz_88 (And.intro @q_slz_88 @q_ifc_88)))))
theorem e_true {e : Int} (h : e = 0) : (e == 0) = true := by simp [h]
theorem e_false {e : Int} (h : e ≠ 0) : (e == 0) = false := by simp [h]
theorem ne_true {e : Int} (h : e ≠ 0) : (e != 0) = true := by simp [h]
theorem ne_false {e : Int} (h : e = 0) : (e != 0) = false := by simp [h]
theorem lt_true {i n : Nat} (h : i < n) : ((i : Int) < (n : Int)) = True := eq_true (by omega)
theorem lt_false {i n : Nat} (h : n ≤ i) : ((i : Int) < (n : Int)) = False := eq_false (by omega)
theorem ge_true {i n : Nat} (h : n ≤ i) : ((i : Int) ≥ (n : Int)) = True := eq_true (by omega)
theorem ge_false {i n : Nat} (h : i < n) : ((i : Int) ≥ (n : Int)) = False := eq_false (by omega)
theorem nn (i : Nat) : (0 ≤ (i : Int)) = True := eq_true (by omega)
set_option maxHeartbeats 4000000 in
set_option maxRecDepth 100000 in
theorem fail_c (b : Nat) (kt : Cap) (T : List Tk) (a : Nat) (line e : Int) (free : Bool) (i : Int) (j : Nat) (hj : i = j ∨ (i = -1 ∧ j = 0)) (hT : T.length < 1000000) (hi : i < 1000000000) (c : Int) (σ : St) (h : σ.obj b = some (.cells (rpC kt T a line e free))) (K : Res → St → Prop)
    (hK : K (.ret (.tuple [])) (if e = 0 then σ.set b (.cells (rpC kt T a (lineAt T j) c free)) else σ)) : PCalls Tryd.prog 97 [vp b 0, vi i, vi c] σ K := by
  unfold rpC at h
  simp only [vi, vb'] at h
  refine PCalls.of_body (tOk Tryd.prog) (by kernel_rfl) Tryd.func97 rfl (by kernel_rfl) [] [(3, 42, [(0, []), (1, []), (5, []), (6, []), (2, []), (7, []), (3, []), (8, []), (4, []), (9, []), (10, []), (11, []), (12, []), (13, []), (14, []), (15, []), (16, []), (17, []), (18, []), (19, [])])] (by kernel_rfl) (n := 43) (by kernel_rfl) (by kernel_rfl) (rs := []) (by kernel_rfl) ?_
  by_cases he : e = 0
  · rw [if_pos he] at hK
    cases T with
    | nil =>
      simp (config := { maxSteps := 4000000 }) (disch := omega) only [pvK, pvB, sRp2D_97, reduceIte, Nat.reduceEqDiff, Nat.reduceAdd, Nat.reduceSub, Nat.reduceMul, Nat.reduceLT, Nat.reduceLeDiff, Nat.reduceBEq, reduceCtorEq, Int.reduceAdd, Int.reduceSub, Int.reduceMul, Int.reduceLT, Int.reduceLE, Int.reduceEq, Int.reduceToNat, Int.reduceNeg, Nat.reduceBNe, Int.reduceBEq, Int.reduceBNe, Int.reduceGT, Int.reduceGE, Int.reduceTMod, Bool.not_true, Bool.not_false, forall_const, eq_self, decide_true, decide_false, h, ne_false he, List.map_nil]
      have e1 : lineAt [] j = 1 := rfl
      rw [e1] at hK
      simp only [rpC, vi, vb', List.map_nil] at hK
      exact ⟨_, .refl _, hK⟩
    | cons t T =>
      simp only [List.length_cons] at hT
      have hl : ((T.length + 1 : Nat) : Int) > 0 := by omega
      have e1 : (if (if ((T.length + 1 : Nat) : Int) - 1 < i then ((T.length + 1 : Nat) : Int) - 1 else i) > 0 then (if ((T.length + 1 : Nat) : Int) - 1 < i then ((T.length + 1 : Nat) : Int) - 1 else i) else 0) = ((min j T.length : Nat) : Int) := by
        repeat' split
        all_goals omega
      have e2 : (t :: T)[min j T.length]? = some ((t :: T)[min j T.length]'(by simp; omega)) := List.getElem?_eq_getElem _
      have e3 : lineAt (t :: T) j = ((t :: T)[min j T.length]'(by simp; omega)).line := by
        simp only [lineAt, List.length_cons, Nat.add_sub_cancel]
        rw [e2]
      have e4 := tok_get e2
      rw [e3] at hK
      generalize (t :: T)[min j T.length]'(by simp; omega) = x at e4 hK
      simp only [List.map_cons] at e4
      simp only [rpC, vi, vb', List.map_cons] at hK
      simp (config := { maxSteps := 4000000 }) (disch := omega) only [pvK, pvB, sRp2D_97, reduceIte, Nat.reduceEqDiff, Nat.reduceAdd, Nat.reduceSub, Nat.reduceMul, Nat.reduceLT, Nat.reduceLeDiff, Nat.reduceBEq, reduceCtorEq, Int.reduceAdd, Int.reduceSub, Int.reduceMul, Int.reduceLT, Int.reduceLE, Int.reduceEq, Int.reduceToNat, Int.reduceNeg, Nat.reduceBNe, Int.reduceBEq, Int.reduceBNe, Int.reduceGT, Int.reduceGE, Int.reduceTMod, Bool.not_true, Bool.not_false, forall_const, eq_self, decide_true, decide_false, h, ne_false he, hl, e1, e4, nn]
      exact ⟨_, .refl _, hK⟩
  · rw [if_neg he] at hK
    simp (config := { maxSteps := 4000000 }) (disch := omega) only [pvK, pvB, sRp2D_97, reduceIte, Nat.reduceEqDiff, Nat.reduceAdd, Nat.reduceSub, Nat.reduceMul, Nat.reduceLT, Nat.reduceLeDiff, Nat.reduceBEq, reduceCtorEq, Int.reduceAdd, Int.reduceSub, Int.reduceMul, Int.reduceLT, Int.reduceLE, Int.reduceEq, Int.reduceToNat, Int.reduceNeg, Nat.reduceBNe, Int.reduceBEq, Int.reduceBNe, Int.reduceGT, Int.reduceGE, Int.reduceTMod, Bool.not_true, Bool.not_false, forall_const, eq_self, decide_true, decide_false, h, ne_true he]
    exact ⟨_, .refl _, hK⟩
set_option maxHeartbeats 4000000 in
set_option maxRecDepth 100000 in
theorem is_c (b : Nat) (kt : Cap) (T : List Tk) (a : Nat) (line e : Int) (free : Bool) (w : ByteArray) (σ : St) (h : σ.obj b = some (.cells (rpC kt T a line e free))) (K : Res → St → Prop)
    (hK : K (.ret (vb' (decide (e = 0) && tW T[a]? w))) σ) : PCalls Tryd.prog 120 [vp b 0, vs w] σ K := by
  unfold rpC at h
  simp only [vi, vb'] at h
  refine PCalls.of_body (tOk Tryd.prog) (by kernel_rfl) Tryd.func120 rfl (by kernel_rfl) [] [(1, 50, [(0, []), (1, []), (2, []), (3, []), (4, []), (5, []), (6, []), (10, []), (7, []), (11, []), (8, []), (12, []), (9, []), (13, []), (14, []), (15, []), (16, []), (17, []), (18, []), (22, []), (19, []), (23, []), (20, []), (24, []), (21, []), (25, []), (26, []), (27, []), (28, []), (29, []), (30, []), (31, []), (32, []), (36, []), (43, []), (33, []), (37, []), (34, []), (38, []), (35, []), (39, []), (40, []), (41, []), (42, []), (44, []), (45, []), (46, [])])] (by kernel_rfl) (n := 51) (by kernel_rfl) (by kernel_rfl) (rs := [.tmp 4]) (by kernel_rfl) ?_
  by_cases he : e = 0
  · have hd : decide (e = 0) = true := by simp [he]
    rw [hd] at hK
    cases ht : T[a]? with
    | none =>
      simp (config := { maxSteps := 4000000 }) (disch := omega) only [pvK, pvB, sRp2D_120, reduceIte, Nat.reduceEqDiff, Nat.reduceAdd, Nat.reduceSub, Nat.reduceMul, Nat.reduceLT, Nat.reduceLeDiff, Nat.reduceBEq, reduceCtorEq, Int.reduceAdd, Int.reduceSub, Int.reduceMul, Int.reduceLT, Int.reduceLE, Int.reduceEq, Int.reduceToNat, Int.reduceNeg, Nat.reduceBNe, Int.reduceBEq, Int.reduceBNe, Int.reduceGT, Int.reduceGE, Int.reduceTMod, Bool.not_true, Bool.not_false, forall_const, eq_self, decide_true, decide_false, h, e_true he, lt_false (tok_none ht)]
      rw [ht] at hK
      exact ⟨_, .refl _, hK⟩
    | some t =>
      rw [ht] at hK
      cases hk : t.kind == 2
      · have hk2 : (t.kind != 2) = true := by simp [bne, hk]
        simp (config := { maxSteps := 4000000 }) (disch := omega) only [pvK, pvB, sRp2D_120, reduceIte, Nat.reduceEqDiff, Nat.reduceAdd, Nat.reduceSub, Nat.reduceMul, Nat.reduceLT, Nat.reduceLeDiff, Nat.reduceBEq, reduceCtorEq, Int.reduceAdd, Int.reduceSub, Int.reduceMul, Int.reduceLT, Int.reduceLE, Int.reduceEq, Int.reduceToNat, Int.reduceNeg, Nat.reduceBNe, Int.reduceBEq, Int.reduceBNe, Int.reduceGT, Int.reduceGE, Int.reduceTMod, Bool.not_true, Bool.not_false, forall_const, eq_self, decide_true, decide_false, h, e_true he, lt_true (tok_some ht), tok_get ht, nn, hk2]
        refine ⟨_, .refl _, ?_⟩
        simpa [tW, hk, eqB] using hK
      · have hk2 : (t.kind != 2) = false := by simp [bne, hk]
        simp (config := { maxSteps := 4000000 }) (disch := omega) only [pvK, pvB, sRp2D_120, reduceIte, Nat.reduceEqDiff, Nat.reduceAdd, Nat.reduceSub, Nat.reduceMul, Nat.reduceLT, Nat.reduceLeDiff, Nat.reduceBEq, reduceCtorEq, Int.reduceAdd, Int.reduceSub, Int.reduceMul, Int.reduceLT, Int.reduceLE, Int.reduceEq, Int.reduceToNat, Int.reduceNeg, Nat.reduceBNe, Int.reduceBEq, Int.reduceBNe, Int.reduceGT, Int.reduceGE, Int.reduceTMod, Bool.not_true, Bool.not_false, forall_const, eq_self, decide_true, decide_false, h, e_true he, lt_true (tok_some ht), tok_get ht, nn, hk2]
        refine ⟨_, .refl _, ?_⟩
        simpa [tW, hk] using hK
  · have hd : decide (e = 0) = false := by simp [he]
    rw [hd] at hK
    simp (config := { maxSteps := 4000000 }) (disch := omega) only [pvK, pvB, sRp2D_120, reduceIte, Nat.reduceEqDiff, Nat.reduceAdd, Nat.reduceSub, Nat.reduceMul, Nat.reduceLT, Nat.reduceLeDiff, Nat.reduceBEq, reduceCtorEq, Int.reduceAdd, Int.reduceSub, Int.reduceMul, Int.reduceLT, Int.reduceLE, Int.reduceEq, Int.reduceToNat, Int.reduceNeg, Nat.reduceBNe, Int.reduceBEq, Int.reduceBNe, Int.reduceGT, Int.reduceGE, Int.reduceTMod, Bool.not_true, Bool.not_false, forall_const, eq_self, decide_true, decide_false, h, e_false he]
    exact ⟨_, .refl _, hK⟩
set_option maxHeartbeats 4000000 in
set_option maxRecDepth 100000 in
theorem isName_c (b : Nat) (kt : Cap) (T : List Tk) (a : Nat) (line e : Int) (free : Bool) (σ : St) (h : σ.obj b = some (.cells (rpC kt T a line e free))) (K : Res → St → Prop)
    (hK : K (.ret (vb' (decide (e = 0) && tNm T[a]?))) σ) : PCalls Tryd.prog 121 [vp b 0] σ K := by
  unfold rpC at h
  simp only [vi, vb'] at h
  refine PCalls.of_body (tOk Tryd.prog) (by kernel_rfl) Tryd.func121 rfl (by kernel_rfl) [] [(1, 48, [(0, []), (1, []), (2, []), (3, []), (4, []), (5, []), (6, []), (10, []), (7, []), (11, []), (8, []), (12, []), (9, []), (13, []), (14, []), (15, []), (16, []), (17, []), (18, []), (22, []), (19, []), (23, []), (20, []), (24, []), (21, []), (25, []), (26, []), (27, []), (28, []), (29, []), (30, []), (31, []), (32, []), (36, []), (33, []), (37, []), (34, []), (38, []), (35, []), (39, []), (40, []), (41, []), (42, []), (43, []), (44, []), (45, []), (46, [])])] (by kernel_rfl) (n := 49) (by kernel_rfl) (by kernel_rfl) (rs := [.tmp 2]) (by kernel_rfl) ?_
  by_cases he : e = 0
  · have hd : decide (e = 0) = true := by simp [he]
    rw [hd] at hK
    cases ht : T[a]? with
    | none =>
      simp (config := { maxSteps := 4000000 }) (disch := omega) only [pvK, pvB, sRp2D_121, reduceIte, Nat.reduceEqDiff, Nat.reduceAdd, Nat.reduceSub, Nat.reduceMul, Nat.reduceLT, Nat.reduceLeDiff, Nat.reduceBEq, reduceCtorEq, Int.reduceAdd, Int.reduceSub, Int.reduceMul, Int.reduceLT, Int.reduceLE, Int.reduceEq, Int.reduceToNat, Int.reduceNeg, Nat.reduceBNe, Int.reduceBEq, Int.reduceBNe, Int.reduceGT, Int.reduceGE, Int.reduceTMod, Bool.not_true, Bool.not_false, forall_const, eq_self, decide_true, decide_false, h, e_true he, lt_false (tok_none ht)]
      rw [ht] at hK
      exact ⟨_, .refl _, hK⟩
    | some t =>
      rw [ht] at hK
      cases hk : t.kind == 1
      · simp (config := { maxSteps := 4000000 }) (disch := omega) only [pvK, pvB, sRp2D_121, reduceIte, Nat.reduceEqDiff, Nat.reduceAdd, Nat.reduceSub, Nat.reduceMul, Nat.reduceLT, Nat.reduceLeDiff, Nat.reduceBEq, reduceCtorEq, Int.reduceAdd, Int.reduceSub, Int.reduceMul, Int.reduceLT, Int.reduceLE, Int.reduceEq, Int.reduceToNat, Int.reduceNeg, Nat.reduceBNe, Int.reduceBEq, Int.reduceBNe, Int.reduceGT, Int.reduceGE, Int.reduceTMod, Bool.not_true, Bool.not_false, forall_const, eq_self, decide_true, decide_false, h, e_true he, lt_true (tok_some ht), tok_get ht, nn, hk]
        refine ⟨_, .refl _, ?_⟩
        simpa [tNm, hk] using hK
      · simp (config := { maxSteps := 4000000 }) (disch := omega) only [pvK, pvB, sRp2D_121, reduceIte, Nat.reduceEqDiff, Nat.reduceAdd, Nat.reduceSub, Nat.reduceMul, Nat.reduceLT, Nat.reduceLeDiff, Nat.reduceBEq, reduceCtorEq, Int.reduceAdd, Int.reduceSub, Int.reduceMul, Int.reduceLT, Int.reduceLE, Int.reduceEq, Int.reduceToNat, Int.reduceNeg, Nat.reduceBNe, Int.reduceBEq, Int.reduceBNe, Int.reduceGT, Int.reduceGE, Int.reduceTMod, Bool.not_true, Bool.not_false, forall_const, eq_self, decide_true, decide_false, h, e_true he, lt_true (tok_some ht), tok_get ht, nn, hk]
        refine rkw_c t.text σ _ ?_
        simp (config := { maxSteps := 4000000 }) (disch := omega) only [pvK, pvB, sRp2D_121, reduceIte, Nat.reduceEqDiff, Nat.reduceAdd, Nat.reduceSub, Nat.reduceMul, Nat.reduceLT, Nat.reduceLeDiff, Nat.reduceBEq, reduceCtorEq, Int.reduceAdd, Int.reduceSub, Int.reduceMul, Int.reduceLT, Int.reduceLE, Int.reduceEq, Int.reduceToNat, Int.reduceNeg, Nat.reduceBNe, Int.reduceBEq, Int.reduceBNe, Int.reduceGT, Int.reduceGE, Int.reduceTMod, Bool.not_true, Bool.not_false, forall_const, eq_self, decide_true, decide_false]
        refine ⟨_, .refl _, ?_⟩
        simpa [tNm, hk] using hK
  · have hd : decide (e = 0) = false := by simp [he]
    rw [hd] at hK
    simp (config := { maxSteps := 4000000 }) (disch := omega) only [pvK, pvB, sRp2D_121, reduceIte, Nat.reduceEqDiff, Nat.reduceAdd, Nat.reduceSub, Nat.reduceMul, Nat.reduceLT, Nat.reduceLeDiff, Nat.reduceBEq, reduceCtorEq, Int.reduceAdd, Int.reduceSub, Int.reduceMul, Int.reduceLT, Int.reduceLE, Int.reduceEq, Int.reduceToNat, Int.reduceNeg, Nat.reduceBNe, Int.reduceBEq, Int.reduceBNe, Int.reduceGT, Int.reduceGE, Int.reduceTMod, Bool.not_true, Bool.not_false, forall_const, eq_self, decide_true, decide_false, h, e_false he]
    exact ⟨_, .refl _, hK⟩
set_option maxHeartbeats 4000000 in
set_option maxRecDepth 100000 in
theorem skip_c (b : Nat) (kt : Cap) (T : List Tk) (a : Nat) (line e : Int) (free : Bool) (w : ByteArray) (ha : a < 1000000) (σ : St) (h : σ.obj b = some (.cells (rpC kt T a line e free))) (K : Res → St → Prop)
    (hK : K (.ret (vb' (decide (e = 0) && tW T[a]? w))) (if (decide (e = 0) && tW T[a]? w) = true then σ.set b (.cells (rpC kt T (a + 1) line e free)) else σ)) : PCalls Tryd.prog 93 [vp b 0, vs w] σ K := by
  refine PCalls.of_body (tOk Tryd.prog) (by kernel_rfl) Tryd.func93 rfl (by kernel_rfl) [] [] (by kernel_rfl) (n := 16) (by kernel_rfl) (by kernel_rfl) (rs := [.tmp 4]) (by kernel_rfl) ?_
  simp (config := { maxSteps := 4000000 }) (disch := omega) only [pvK, pvB, sRp2D_93, reduceIte, Nat.reduceEqDiff, Nat.reduceAdd, Nat.reduceSub, Nat.reduceMul, Nat.reduceLT, Nat.reduceLeDiff, Nat.reduceBEq, reduceCtorEq, Int.reduceAdd, Int.reduceSub, Int.reduceMul, Int.reduceLT, Int.reduceLE, Int.reduceEq, Int.reduceToNat, Int.reduceNeg, Nat.reduceBNe, Int.reduceBEq, Int.reduceBNe, Int.reduceGT, Int.reduceGE, Int.reduceTMod, Bool.not_true, Bool.not_false, forall_const, eq_self, decide_true, decide_false]
  refine is_c b kt T a line e free w σ h _ ?_
  cases hb : (decide (e = 0) && tW T[a]? w)
  · rw [hb] at hK
    simp (config := { maxSteps := 4000000 }) (disch := omega) only [pvK, pvB, sRp2D_93, reduceIte, Nat.reduceEqDiff, Nat.reduceAdd, Nat.reduceSub, Nat.reduceMul, Nat.reduceLT, Nat.reduceLeDiff, Nat.reduceBEq, reduceCtorEq, Int.reduceAdd, Int.reduceSub, Int.reduceMul, Int.reduceLT, Int.reduceLE, Int.reduceEq, Int.reduceToNat, Int.reduceNeg, Nat.reduceBNe, Int.reduceBEq, Int.reduceBNe, Int.reduceGT, Int.reduceGE, Int.reduceTMod, Bool.not_true, Bool.not_false, forall_const, eq_self, decide_true, decide_false]
    exact ⟨_, .refl _, hK⟩
  · rw [hb, if_pos rfl] at hK
    unfold rpC at h
    simp only [vi, vb'] at h
    simp (config := { maxSteps := 4000000 }) (disch := omega) only [pvK, pvB, sRp2D_93, reduceIte, Nat.reduceEqDiff, Nat.reduceAdd, Nat.reduceSub, Nat.reduceMul, Nat.reduceLT, Nat.reduceLeDiff, Nat.reduceBEq, reduceCtorEq, Int.reduceAdd, Int.reduceSub, Int.reduceMul, Int.reduceLT, Int.reduceLE, Int.reduceEq, Int.reduceToNat, Int.reduceNeg, Nat.reduceBNe, Int.reduceBEq, Int.reduceBNe, Int.reduceGT, Int.reduceGE, Int.reduceTMod, Bool.not_true, Bool.not_false, forall_const, eq_self, decide_true, decide_false, h]
    refine ⟨_, .refl _, ?_⟩
    simpa [rpC, vi, vb'] using hK
set_option maxHeartbeats 4000000 in
set_option maxRecDepth 100000 in
theorem need_c (b : Nat) (kt : Cap) (T : List Tk) (a : Nat) (line e : Int) (free : Bool) (w : ByteArray) (hT : T.length < 1000000) (ha : a < 1000000) (σ : St) (h : σ.obj b = some (.cells (rpC kt T a line e free))) (K : Res → St → Prop)
    (hK : K (.ret (.tuple [])) (if e = 0 then (if tW T[a]? w = true then σ.set b (.cells (rpC kt T (a + 1) line e free)) else σ.set b (.cells (rpC kt T a (lineAt T a) 1 free))) else σ)) : PCalls Tryd.prog 122 [vp b 0, vs w] σ K := by
  refine PCalls.of_body (tOk Tryd.prog) (by kernel_rfl) Tryd.func122 rfl (by kernel_rfl) [] [] (by kernel_rfl) (n := 14) (by kernel_rfl) (by kernel_rfl) (rs := []) (by kernel_rfl) ?_
  simp (config := { maxSteps := 4000000 }) (disch := omega) only [pvK, pvB, sRp2D_122, reduceIte, Nat.reduceEqDiff, Nat.reduceAdd, Nat.reduceSub, Nat.reduceMul, Nat.reduceLT, Nat.reduceLeDiff, Nat.reduceBEq, reduceCtorEq, Int.reduceAdd, Int.reduceSub, Int.reduceMul, Int.reduceLT, Int.reduceLE, Int.reduceEq, Int.reduceToNat, Int.reduceNeg, Nat.reduceBNe, Int.reduceBEq, Int.reduceBNe, Int.reduceGT, Int.reduceGE, Int.reduceTMod, Bool.not_true, Bool.not_false, forall_const, eq_self, decide_true, decide_false]
  refine skip_c b kt T a line e free w ha σ h _ ?_
  have h0 := h
  unfold rpC at h
  simp only [vi, vb'] at h
  by_cases he : e = 0
  · have hd : decide (e = 0) = true := by simp [he]
    rw [if_pos he] at hK
    cases hb : tW T[a]? w
    · rw [hb, if_neg (by simp)] at hK
      simp (config := { maxSteps := 4000000 }) (disch := omega) only [pvK, pvB, sRp2D_122, reduceIte, Nat.reduceEqDiff, Nat.reduceAdd, Nat.reduceSub, Nat.reduceMul, Nat.reduceLT, Nat.reduceLeDiff, Nat.reduceBEq, reduceCtorEq, Int.reduceAdd, Int.reduceSub, Int.reduceMul, Int.reduceLT, Int.reduceLE, Int.reduceEq, Int.reduceToNat, Int.reduceNeg, Nat.reduceBNe, Int.reduceBEq, Int.reduceBNe, Int.reduceGT, Int.reduceGE, Int.reduceTMod, Bool.not_true, Bool.not_false, forall_const, eq_self, decide_true, decide_false, hd, h]
      refine fail_c b kt T a line e free a a (.inl rfl) hT (by omega) 1 σ h0 _ ?_
      rw [if_pos he]
      simp (config := { maxSteps := 4000000 }) (disch := omega) only [pvK, pvB, sRp2D_122, reduceIte, Nat.reduceEqDiff, Nat.reduceAdd, Nat.reduceSub, Nat.reduceMul, Nat.reduceLT, Nat.reduceLeDiff, Nat.reduceBEq, reduceCtorEq, Int.reduceAdd, Int.reduceSub, Int.reduceMul, Int.reduceLT, Int.reduceLE, Int.reduceEq, Int.reduceToNat, Int.reduceNeg, Nat.reduceBNe, Int.reduceBEq, Int.reduceBNe, Int.reduceGT, Int.reduceGE, Int.reduceTMod, Bool.not_true, Bool.not_false, forall_const, eq_self, decide_true, decide_false]
      exact ⟨_, .refl _, hK⟩
    · rw [hb, if_pos rfl] at hK
      simp (config := { maxSteps := 4000000 }) (disch := omega) only [pvK, pvB, sRp2D_122, reduceIte, Nat.reduceEqDiff, Nat.reduceAdd, Nat.reduceSub, Nat.reduceMul, Nat.reduceLT, Nat.reduceLeDiff, Nat.reduceBEq, reduceCtorEq, Int.reduceAdd, Int.reduceSub, Int.reduceMul, Int.reduceLT, Int.reduceLE, Int.reduceEq, Int.reduceToNat, Int.reduceNeg, Nat.reduceBNe, Int.reduceBEq, Int.reduceBNe, Int.reduceGT, Int.reduceGE, Int.reduceTMod, Bool.not_true, Bool.not_false, forall_const, eq_self, decide_true, decide_false, hd, h]
      exact ⟨_, .refl _, hK⟩
  · have hd : decide (e = 0) = false := by simp [he]
    rw [if_neg he] at hK
    simp (config := { maxSteps := 4000000 }) (disch := omega) only [pvK, pvB, sRp2D_122, reduceIte, Nat.reduceEqDiff, Nat.reduceAdd, Nat.reduceSub, Nat.reduceMul, Nat.reduceLT, Nat.reduceLeDiff, Nat.reduceBEq, reduceCtorEq, Int.reduceAdd, Int.reduceSub, Int.reduceMul, Int.reduceLT, Int.reduceLE, Int.reduceEq, Int.reduceToNat, Int.reduceNeg, Nat.reduceBNe, Int.reduceBEq, Int.reduceBNe, Int.reduceGT, Int.reduceGE, Int.reduceTMod, Bool.not_true, Bool.not_false, forall_const, eq_self, decide_true, decide_false, hd, h]
    refine fail_c b kt T a line e free a a (.inl rfl) hT (by omega) 1 σ h0 _ ?_
    rw [if_neg he]
    simp (config := { maxSteps := 4000000 }) (disch := omega) only [pvK, pvB, sRp2D_122, reduceIte, Nat.reduceEqDiff, Nat.reduceAdd, Nat.reduceSub, Nat.reduceMul, Nat.reduceLT, Nat.reduceLeDiff, Nat.reduceBEq, reduceCtorEq, Int.reduceAdd, Int.reduceSub, Int.reduceMul, Int.reduceLT, Int.reduceLE, Int.reduceEq, Int.reduceToNat, Int.reduceNeg, Nat.reduceBNe, Int.reduceBEq, Int.reduceBNe, Int.reduceGT, Int.reduceGE, Int.reduceTMod, Bool.not_true, Bool.not_false, forall_const, eq_self, decide_true, decide_false]
    exact ⟨_, .refl _, hK⟩
set_option maxHeartbeats 4000000 in
set_option maxRecDepth 100000 in
theorem rname_c (b : Nat) (kt : Cap) (T : List Tk) (a : Nat) (line e : Int) (free : Bool) (hT : T.length < 1000000) (ha : a < 1000000) (σ : St) (h : σ.obj b = some (.cells (rpC kt T a line e free))) (K : Res → St → Prop)
    (hK : if e = 0 then (if tNm T[a]? = true then K (.ret (vs (txt T[a]?))) (σ.set b (.cells (rpC kt T (a + 1) line e free))) else K (.ret (vs ⟨#[]⟩)) (σ.set b (.cells (rpC kt T a (lineAt T a) 1 free)))) else K (.ret (vs ⟨#[]⟩)) σ) : PCalls Tryd.prog 94 [vp b 0] σ K := by
  refine PCalls.of_body (tOk Tryd.prog) (by kernel_rfl) Tryd.func94 rfl (by kernel_rfl) [] [(5, 30, [(0, []), (4, []), (1, []), (5, []), (2, []), (6, []), (3, []), (7, []), (8, []), (9, []), (10, []), (11, []), (12, [])])] (by kernel_rfl) (n := 31) (by kernel_rfl) (by kernel_rfl) (rs := [.tmp 2]) (by kernel_rfl) ?_
  simp (config := { maxSteps := 4000000 }) (disch := omega) only [pvK, pvB, sRp2D_94, reduceIte, Nat.reduceEqDiff, Nat.reduceAdd, Nat.reduceSub, Nat.reduceMul, Nat.reduceLT, Nat.reduceLeDiff, Nat.reduceBEq, reduceCtorEq, Int.reduceAdd, Int.reduceSub, Int.reduceMul, Int.reduceLT, Int.reduceLE, Int.reduceEq, Int.reduceToNat, Int.reduceNeg, Nat.reduceBNe, Int.reduceBEq, Int.reduceBNe, Int.reduceGT, Int.reduceGE, Int.reduceTMod, Bool.not_true, Bool.not_false, forall_const, eq_self, decide_true, decide_false]
  refine isName_c b kt T a line e free σ h _ ?_
  have h0 := h
  unfold rpC at h
  simp only [vi, vb'] at h
  by_cases he : e = 0
  · have hd : decide (e = 0) = true := by simp [he]
    rw [if_pos he] at hK
    cases hb : tNm T[a]?
    · rw [hb, if_neg (by simp)] at hK
      simp (config := { maxSteps := 4000000 }) (disch := omega) only [pvK, pvB, sRp2D_94, reduceIte, Nat.reduceEqDiff, Nat.reduceAdd, Nat.reduceSub, Nat.reduceMul, Nat.reduceLT, Nat.reduceLeDiff, Nat.reduceBEq, reduceCtorEq, Int.reduceAdd, Int.reduceSub, Int.reduceMul, Int.reduceLT, Int.reduceLE, Int.reduceEq, Int.reduceToNat, Int.reduceNeg, Nat.reduceBNe, Int.reduceBEq, Int.reduceBNe, Int.reduceGT, Int.reduceGE, Int.reduceTMod, Bool.not_true, Bool.not_false, forall_const, eq_self, decide_true, decide_false, hd, h]
      refine fail_c b kt T a line e free a a (.inl rfl) hT (by omega) 1 σ h0 _ ?_
      rw [if_pos he]
      simp (config := { maxSteps := 4000000 }) (disch := omega) only [pvK, pvB, sRp2D_94, reduceIte, Nat.reduceEqDiff, Nat.reduceAdd, Nat.reduceSub, Nat.reduceMul, Nat.reduceLT, Nat.reduceLeDiff, Nat.reduceBEq, reduceCtorEq, Int.reduceAdd, Int.reduceSub, Int.reduceMul, Int.reduceLT, Int.reduceLE, Int.reduceEq, Int.reduceToNat, Int.reduceNeg, Nat.reduceBNe, Int.reduceBEq, Int.reduceBNe, Int.reduceGT, Int.reduceGE, Int.reduceTMod, Bool.not_true, Bool.not_false, forall_const, eq_self, decide_true, decide_false]
      exact ⟨_, .refl _, hK⟩
    · rw [hb, if_pos rfl] at hK
      cases ht : T[a]? with
      | none => rw [ht] at hb; cases hb
      | some t =>
        rw [ht] at hK
        have e1 : ((a : Int) + 1 - 1) = a := by omega
        simp (config := { maxSteps := 4000000 }) (disch := omega) only [pvK, pvB, sRp2D_94, reduceIte, Nat.reduceEqDiff, Nat.reduceAdd, Nat.reduceSub, Nat.reduceMul, Nat.reduceLT, Nat.reduceLeDiff, Nat.reduceBEq, reduceCtorEq, Int.reduceAdd, Int.reduceSub, Int.reduceMul, Int.reduceLT, Int.reduceLE, Int.reduceEq, Int.reduceToNat, Int.reduceNeg, Nat.reduceBNe, Int.reduceBEq, Int.reduceBNe, Int.reduceGT, Int.reduceGE, Int.reduceTMod, Bool.not_true, Bool.not_false, forall_const, eq_self, decide_true, decide_false, hd, h, e1, tok_get ht, nn]
        refine ⟨_, .refl _, ?_⟩
        simpa [rpC, vi, vb', txt] using hK
  · have hd : decide (e = 0) = false := by simp [he]
    rw [if_neg he] at hK
    simp (config := { maxSteps := 4000000 }) (disch := omega) only [pvK, pvB, sRp2D_94, reduceIte, Nat.reduceEqDiff, Nat.reduceAdd, Nat.reduceSub, Nat.reduceMul, Nat.reduceLT, Nat.reduceLeDiff, Nat.reduceBEq, reduceCtorEq, Int.reduceAdd, Int.reduceSub, Int.reduceMul, Int.reduceLT, Int.reduceLE, Int.reduceEq, Int.reduceToNat, Int.reduceNeg, Nat.reduceBNe, Int.reduceBEq, Int.reduceBNe, Int.reduceGT, Int.reduceGE, Int.reduceTMod, Bool.not_true, Bool.not_false, forall_const, eq_self, decide_true, decide_false, hd, h]
    refine fail_c b kt T a line e free a a (.inl rfl) hT (by omega) 1 σ h0 _ ?_
    rw [if_neg he]
    simp (config := { maxSteps := 4000000 }) (disch := omega) only [pvK, pvB, sRp2D_94, reduceIte, Nat.reduceEqDiff, Nat.reduceAdd, Nat.reduceSub, Nat.reduceMul, Nat.reduceLT, Nat.reduceLeDiff, Nat.reduceBEq, reduceCtorEq, Int.reduceAdd, Int.reduceSub, Int.reduceMul, Int.reduceLT, Int.reduceLE, Int.reduceEq, Int.reduceToNat, Int.reduceNeg, Nat.reduceBNe, Int.reduceBEq, Int.reduceBNe, Int.reduceGT, Int.reduceGE, Int.reduceTMod, Bool.not_true, Bool.not_false, forall_const, eq_self, decide_true, decide_false]
    exact ⟨_, .refl _, hK⟩
set_option maxHeartbeats 4000000 in
set_option maxRecDepth 100000 in
theorem rnum_c (b : Nat) (kt : Cap) (T : List Tk) (a : Nat) (line e : Int) (free : Bool) (hT : T.length < 1000000) (ha : a < 1000000) (σ : St) (h : σ.obj b = some (.cells (rpC kt T a line e free))) (K : Res → St → Prop)
    (hK : if e = 0 then (if tNum T[a]? = true then K (.ret (vi (tnum T[a]?))) (σ.set b (.cells (rpC kt T (a + 1) line e free))) else K (.ret (vi 0)) (σ.set b (.cells (rpC kt T a (lineAt T a) 1 free)))) else K (.ret (vi 0)) σ) : PCalls Tryd.prog 95 [vp b 0] σ K := by
  refine PCalls.of_body (tOk Tryd.prog) (by kernel_rfl) Tryd.func95 rfl (by kernel_rfl) [] [(1, 33, [(0, []), (1, []), (2, []), (3, []), (4, []), (5, []), (6, []), (10, []), (7, []), (11, []), (8, []), (12, []), (9, []), (13, []), (14, []), (15, []), (16, []), (17, []), (18, []), (22, []), (19, []), (23, []), (20, []), (24, []), (21, []), (25, []), (26, []), (27, []), (28, []), (29, []), (30, [])]), (5, 58, [(0, []), (4, []), (1, []), (5, []), (2, []), (6, []), (3, []), (7, []), (8, []), (9, []), (10, []), (11, []), (12, [])])] (by kernel_rfl) (n := 59) (by kernel_rfl) (by kernel_rfl) (rs := [.tmp 2]) (by kernel_rfl) ?_
  have h0 := h
  unfold rpC at h
  simp only [vi, vb'] at h
  by_cases he : e = 0
  · rw [if_pos he] at hK
    cases ht : T[a]? with
    | none =>
      rw [ht, if_neg (by simp [tNum])] at hK
      simp (config := { maxSteps := 4000000 }) (disch := omega) only [pvK, pvB, sRp2D_95, reduceIte, Nat.reduceEqDiff, Nat.reduceAdd, Nat.reduceSub, Nat.reduceMul, Nat.reduceLT, Nat.reduceLeDiff, Nat.reduceBEq, reduceCtorEq, Int.reduceAdd, Int.reduceSub, Int.reduceMul, Int.reduceLT, Int.reduceLE, Int.reduceEq, Int.reduceToNat, Int.reduceNeg, Nat.reduceBNe, Int.reduceBEq, Int.reduceBNe, Int.reduceGT, Int.reduceGE, Int.reduceTMod, Bool.not_true, Bool.not_false, forall_const, eq_self, decide_true, decide_false, h, ne_false he, ge_true (tok_none ht)]
      refine fail_c b kt T a line e free a a (.inl rfl) hT (by omega) 1 σ h0 _ ?_
      rw [if_pos he]
      simp (config := { maxSteps := 4000000 }) (disch := omega) only [pvK, pvB, sRp2D_95, reduceIte, Nat.reduceEqDiff, Nat.reduceAdd, Nat.reduceSub, Nat.reduceMul, Nat.reduceLT, Nat.reduceLeDiff, Nat.reduceBEq, reduceCtorEq, Int.reduceAdd, Int.reduceSub, Int.reduceMul, Int.reduceLT, Int.reduceLE, Int.reduceEq, Int.reduceToNat, Int.reduceNeg, Nat.reduceBNe, Int.reduceBEq, Int.reduceBNe, Int.reduceGT, Int.reduceGE, Int.reduceTMod, Bool.not_true, Bool.not_false, forall_const, eq_self, decide_true, decide_false]
      exact ⟨_, .refl _, hK⟩
    | some t =>
      rw [ht] at hK
      cases hk : t.kind == 2
      · have hk2 : (t.kind != 2) = true := by simp [bne, hk]
        rw [if_neg (by simp [tNum, hk])] at hK
        simp (config := { maxSteps := 4000000 }) (disch := omega) only [pvK, pvB, sRp2D_95, reduceIte, Nat.reduceEqDiff, Nat.reduceAdd, Nat.reduceSub, Nat.reduceMul, Nat.reduceLT, Nat.reduceLeDiff, Nat.reduceBEq, reduceCtorEq, Int.reduceAdd, Int.reduceSub, Int.reduceMul, Int.reduceLT, Int.reduceLE, Int.reduceEq, Int.reduceToNat, Int.reduceNeg, Nat.reduceBNe, Int.reduceBEq, Int.reduceBNe, Int.reduceGT, Int.reduceGE, Int.reduceTMod, Bool.not_true, Bool.not_false, forall_const, eq_self, decide_true, decide_false, h, ne_false he, ge_false (tok_some ht), tok_get ht, nn, hk2]
        refine fail_c b kt T a line e free a a (.inl rfl) hT (by omega) 1 σ h0 _ ?_
        rw [if_pos he]
        simp (config := { maxSteps := 4000000 }) (disch := omega) only [pvK, pvB, sRp2D_95, reduceIte, Nat.reduceEqDiff, Nat.reduceAdd, Nat.reduceSub, Nat.reduceMul, Nat.reduceLT, Nat.reduceLeDiff, Nat.reduceBEq, reduceCtorEq, Int.reduceAdd, Int.reduceSub, Int.reduceMul, Int.reduceLT, Int.reduceLE, Int.reduceEq, Int.reduceToNat, Int.reduceNeg, Nat.reduceBNe, Int.reduceBEq, Int.reduceBNe, Int.reduceGT, Int.reduceGE, Int.reduceTMod, Bool.not_true, Bool.not_false, forall_const, eq_self, decide_true, decide_false]
        exact ⟨_, .refl _, hK⟩
      · have hk2 : (t.kind != 2) = false := by simp [bne, hk]
        rw [if_pos (by simp [tNum, hk])] at hK
        have e1 : ((a : Int) + 1 - 1) = a := by omega
        simp (config := { maxSteps := 4000000 }) (disch := omega) only [pvK, pvB, sRp2D_95, reduceIte, Nat.reduceEqDiff, Nat.reduceAdd, Nat.reduceSub, Nat.reduceMul, Nat.reduceLT, Nat.reduceLeDiff, Nat.reduceBEq, reduceCtorEq, Int.reduceAdd, Int.reduceSub, Int.reduceMul, Int.reduceLT, Int.reduceLE, Int.reduceEq, Int.reduceToNat, Int.reduceNeg, Nat.reduceBNe, Int.reduceBEq, Int.reduceBNe, Int.reduceGT, Int.reduceGE, Int.reduceTMod, Bool.not_true, Bool.not_false, forall_const, eq_self, decide_true, decide_false, h, ne_false he, ge_false (tok_some ht), tok_get ht, nn, hk2, e1]
        refine ⟨_, .refl _, ?_⟩
        simpa [rpC, vi, vb', tnum] using hK
  · rw [if_neg he] at hK
    simp (config := { maxSteps := 4000000 }) (disch := omega) only [pvK, pvB, sRp2D_95, reduceIte, Nat.reduceEqDiff, Nat.reduceAdd, Nat.reduceSub, Nat.reduceMul, Nat.reduceLT, Nat.reduceLeDiff, Nat.reduceBEq, reduceCtorEq, Int.reduceAdd, Int.reduceSub, Int.reduceMul, Int.reduceLT, Int.reduceLE, Int.reduceEq, Int.reduceToNat, Int.reduceNeg, Nat.reduceBNe, Int.reduceBEq, Int.reduceBNe, Int.reduceGT, Int.reduceGE, Int.reduceTMod, Bool.not_true, Bool.not_false, forall_const, eq_self, decide_true, decide_false, h, ne_true he]
    refine fail_c b kt T a line e free a a (.inl rfl) hT (by omega) 1 σ h0 _ ?_
    rw [if_neg he]
    simp (config := { maxSteps := 4000000 }) (disch := omega) only [pvK, pvB, sRp2D_95, reduceIte, Nat.reduceEqDiff, Nat.reduceAdd, Nat.reduceSub, Nat.reduceMul, Nat.reduceLT, Nat.reduceLeDiff, Nat.reduceBEq, reduceCtorEq, Int.reduceAdd, Int.reduceSub, Int.reduceMul, Int.reduceLT, Int.reduceLE, Int.reduceEq, Int.reduceToNat, Int.reduceNeg, Nat.reduceBNe, Int.reduceBEq, Int.reduceBNe, Int.reduceGT, Int.reduceGE, Int.reduceTMod, Bool.not_true, Bool.not_false, forall_const, eq_self, decide_true, decide_false]
    exact ⟨_, .refl _, hK⟩
set_option maxHeartbeats 4000000 in
set_option maxRecDepth 100000 in
theorem deep_c (b : Nat) (kt : Cap) (T : List Tk) (a : Nat) (line e : Int) (free : Bool) (d : Int) (hT : T.length < 1000000) (ha : a < 1000000) (σ : St) (h : σ.obj b = some (.cells (rpC kt T a line e free))) (K : Res → St → Prop)
    (hK : K (.ret (.tuple [])) (if free = false ∧ 8 < d ∧ e = 0 then σ.set b (.cells (rpC kt T a (lineAt T (a - 1)) 4 free)) else σ)) : PCalls Tryd.prog 110 [vp b 0, vi d] σ K := by
  refine PCalls.of_body (tOk Tryd.prog) (by kernel_rfl) Tryd.func110 rfl (by kernel_rfl) [] [] (by kernel_rfl) (n := 20) (by kernel_rfl) (by kernel_rfl) (rs := []) (by kernel_rfl) ?_
  have h0 := h
  unfold rpC at h
  simp only [vi, vb'] at h
  by_cases hd : 8 < d
  · have hd1 : (d > 8) = True := eq_true hd
    cases free
    · simp (config := { maxSteps := 4000000 }) (disch := omega) only [pvK, pvB, sRp2D_110, reduceIte, Nat.reduceEqDiff, Nat.reduceAdd, Nat.reduceSub, Nat.reduceMul, Nat.reduceLT, Nat.reduceLeDiff, Nat.reduceBEq, reduceCtorEq, Int.reduceAdd, Int.reduceSub, Int.reduceMul, Int.reduceLT, Int.reduceLE, Int.reduceEq, Int.reduceToNat, Int.reduceNeg, Nat.reduceBNe, Int.reduceBEq, Int.reduceBNe, Int.reduceGT, Int.reduceGE, Int.reduceTMod, Bool.not_true, Bool.not_false, forall_const, eq_self, decide_true, decide_false, h, hd1]
      refine fail_c b kt T a line e false (a - 1) (a - 1) (by omega) hT (by omega) 4 σ h0 _ ?_
      simp (config := { maxSteps := 4000000 }) (disch := omega) only [pvK, pvB, sRp2D_110, reduceIte, Nat.reduceEqDiff, Nat.reduceAdd, Nat.reduceSub, Nat.reduceMul, Nat.reduceLT, Nat.reduceLeDiff, Nat.reduceBEq, reduceCtorEq, Int.reduceAdd, Int.reduceSub, Int.reduceMul, Int.reduceLT, Int.reduceLE, Int.reduceEq, Int.reduceToNat, Int.reduceNeg, Nat.reduceBNe, Int.reduceBEq, Int.reduceBNe, Int.reduceGT, Int.reduceGE, Int.reduceTMod, Bool.not_true, Bool.not_false, forall_const, eq_self, decide_true, decide_false]
      refine ⟨_, .refl _, ?_⟩
      by_cases he : e = 0
      · rw [if_pos he]; rw [if_pos ⟨rfl, hd, he⟩] at hK; exact hK
      · rw [if_neg he]; rw [if_neg (fun q => he q.2.2)] at hK; exact hK
    · simp (config := { maxSteps := 4000000 }) (disch := omega) only [pvK, pvB, sRp2D_110, reduceIte, Nat.reduceEqDiff, Nat.reduceAdd, Nat.reduceSub, Nat.reduceMul, Nat.reduceLT, Nat.reduceLeDiff, Nat.reduceBEq, reduceCtorEq, Int.reduceAdd, Int.reduceSub, Int.reduceMul, Int.reduceLT, Int.reduceLE, Int.reduceEq, Int.reduceToNat, Int.reduceNeg, Nat.reduceBNe, Int.reduceBEq, Int.reduceBNe, Int.reduceGT, Int.reduceGE, Int.reduceTMod, Bool.not_true, Bool.not_false, forall_const, eq_self, decide_true, decide_false, h, hd1]
      exact ⟨_, .refl _, by simpa using hK⟩
  · have hd1 : (d > 8) = False := eq_false hd
    simp (config := { maxSteps := 4000000 }) (disch := omega) only [pvK, pvB, sRp2D_110, reduceIte, Nat.reduceEqDiff, Nat.reduceAdd, Nat.reduceSub, Nat.reduceMul, Nat.reduceLT, Nat.reduceLeDiff, Nat.reduceBEq, reduceCtorEq, Int.reduceAdd, Int.reduceSub, Int.reduceMul, Int.reduceLT, Int.reduceLE, Int.reduceEq, Int.reduceToNat, Int.reduceNeg, Nat.reduceBNe, Int.reduceBEq, Int.reduceBNe, Int.reduceGT, Int.reduceGE, Int.reduceTMod, Bool.not_true, Bool.not_false, forall_const, eq_self, decide_true, decide_false, h, hd1]
    refine ⟨_, .refl _, ?_⟩
    rw [if_neg (fun q => hd q.2.1)] at hK
    exact hK
end Go.Pv.D
-- Rp3D
namespace Go.Pv.D
open Go Go.RowKit Go.Proofs Go.Pv
def sRp3D_109 := (And.intro (And.intro (And.intro (And.intro (And.intro @q_fld_59_3 @q_fld_88_1) (And.intro @q_fld_88_3 (And.intro @q_fld_59_0 @q_fld_88_0))) (And.intro (And.intro @q_slz_0 (And.intro @q_tsz_3 @q_slz_3)) (And.intro @q_ifc_3 (And.intro @q_tsz_4 @q_slz_4)))) (And.intro (And.intro (And.intro @q_ifc_4 @q_isb_4) (And.intro @q_tsz_9 (And.intro @q_slz_9 @q_str_9))) (And.intro (And.intro @q_arz_9 (And.intro @q_ifc_9 @q_tsz_23)) (And.intro @q_slz_23 (And.intro @q_str_23 @q_arz_23))))) (And.intro (And.intro (And.intro (And.intro @q_ifc_23 @q_tsz_28) (And.intro @q_slz_28 (And.intro @q_ifc_28 @q_tsz_34))) (And.intro (And.intro @q_slz_34 (And.intro @q_str_34 @q_arz_34)) (And.intro @q_ifc_34 (And.intro @q_tsz_36 @q_slz_36)))) (And.intro (And.intro (And.intro @q_str_36 (And.intro @q_arz_36 @q_ifc_36)) (And.intro @q_tsz_59 (And.intro @q_slz_59 @q_ifc_59))) (And.intro (And.intro @q_tsz_86 (And.intro @q_slz_86 @q_ifc_86)) (And.intro @q_tsz_88 (And.intro @q_slz_88 @q_ifc_88))))))
def sRp3D_134 := (And.intro (And.intro (And.intro (And.intro @q_slz_0 @q_tsz_3) (And.intro @q_slz_3 (And.intro @q_ifc_3 @q_tsz_4))) (And.intro (And.intro @q_slz_4 (And.intro @q_ifc_4 @q_isb_4)) (And.intro @q_tsz_9 (And.intro @q_slz_9 @q_str_9)))) (And.intro (And.intro (And.intro @q_arz_9 (And.intro @q_ifc_9 @q_tsz_34)) (And.intro @q_slz_34 (And.intro @q_str_34 @q_arz_34))) (And.intro (And.intro @q_ifc_34 (And.intro @q_tsz_36 @q_slz_36)) (And.intro @q_str_36 (And.intro @q_arz_36 @q_ifc_36)))))
set_option maxHeartbeats 4000000 in
set_option maxRecDepth 100000 in
theorem rop_c (s : ByteArray) (l : List (ByteArray × Int)) (hl : l.length < 1000000) (ka ko : Cap) (σ : St) (K : Res → St → Prop) (hK : K (.ret (vi (opIn s l))) σ) : PCalls Tryd.prog 134 [vs s, .list ka 1 (l.map fun p => vs p.1), .list ko 1 (l.map fun p => vi p.2)] σ K := by
  refine PCalls.of_body (tOk Tryd.prog) (by kernel_rfl) Tryd.func134 rfl (by kernel_rfl) [] [] (by kernel_rfl) (n := 24) (by kernel_rfl) (by kernel_rfl) (rs := [.tmp 6]) (by kernel_rfl) ?_
  simp (config := { maxSteps := 4000000 }) (disch := omega) only [pvK, pvB, sRp3D_134, reduceIte, Nat.reduceEqDiff, Nat.reduceAdd, Nat.reduceSub, Nat.reduceMul, Nat.reduceLT, Nat.reduceLeDiff, Nat.reduceBEq, reduceCtorEq, Int.reduceAdd, Int.reduceSub, Int.reduceMul, Int.reduceLT, Int.reduceLE, Int.reduceEq, Int.reduceToNat, Int.reduceNeg, Nat.reduceBNe, Int.reduceBEq, Int.reduceBNe, Int.reduceGT, Int.reduceGE, Int.reduceTMod, Bool.not_true, Bool.not_false, forall_const, eq_self, decide_true, decide_false]
  refine loop_rule (fun s' => ∃ i : Nat, i ≤ l.length ∧ opIn s l = opIn s (l.drop i) ∧ s' = ⟨24, [(0, vs s), (1, .list ka 1 (l.map fun p => vs p.1)), (2, .list ko 1 (l.map fun p => vi p.2)), (7, vi i)], [], σ⟩) (fun s => (l.length - ival (get s.env 7)).toNat) ?_ ?_
  · exact ⟨_, less_env rfl (less_env rfl (less_env rfl (less_env rfl (less_nil (.refl _))))), 0, Nat.zero_le _, rfl, rfl⟩
  · rintro s' ⟨i, hi, ha, rfl⟩ R hR
    by_cases hlt : i < l.length
    · have g1 : (l.map fun p => vs p.1)[i]? = some (vs l[i].1) := by simp [hlt]
      have g2 : (l.map fun p => vi p.2)[i]? = some (vi l[i].2) := by simp [hlt]
      have ed : opIn s (l.drop i) = if eqB l[i].1 s then l[i].2 else opIn s (l.drop (i + 1)) := by
        rw [List.drop_eq_getElem_cons hlt]; rfl
      simp only [vs, vi] at g1 g2
      cases hb : l[i].1.toList == s.toList
      · simp (config := { maxSteps := 4000000 }) (disch := omega) only [pvK, pvB, sRp3D_134, reduceIte, Nat.reduceEqDiff, Nat.reduceAdd, Nat.reduceSub, Nat.reduceMul, Nat.reduceLT, Nat.reduceLeDiff, Nat.reduceBEq, reduceCtorEq, Int.reduceAdd, Int.reduceSub, Int.reduceMul, Int.reduceLT, Int.reduceLE, Int.reduceEq, Int.reduceToNat, Int.reduceNeg, Nat.reduceBNe, Int.reduceBEq, Int.reduceBNe, Int.reduceGT, Int.reduceGE, Int.reduceTMod, Bool.not_true, Bool.not_false, forall_const, eq_self, decide_true, decide_false, lt_true hlt, g1, g2, nn, pelt_some, hb]
        refine hR _ _ (less_env rfl (less_env rfl (less_env rfl (less_env rfl (less_nil (.refl _)))))) ⟨i + 1, by omega, ?_, rfl⟩ ?_
        · rw [ha, ed]; unfold eqB; rw [hb]; rfl
        · show ((l.length : Int) - ((i + 1 : Nat) : Int)).toNat < ((l.length : Int) - (i : Int)).toNat
          omega
      · simp (config := { maxSteps := 4000000 }) (disch := omega) only [pvK, pvB, sRp3D_134, reduceIte, Nat.reduceEqDiff, Nat.reduceAdd, Nat.reduceSub, Nat.reduceMul, Nat.reduceLT, Nat.reduceLeDiff, Nat.reduceBEq, reduceCtorEq, Int.reduceAdd, Int.reduceSub, Int.reduceMul, Int.reduceLT, Int.reduceLE, Int.reduceEq, Int.reduceToNat, Int.reduceNeg, Nat.reduceBNe, Int.reduceBEq, Int.reduceBNe, Int.reduceGT, Int.reduceGE, Int.reduceTMod, Bool.not_true, Bool.not_false, forall_const, eq_self, decide_true, decide_false, lt_true hlt, g1, g2, nn, pelt_some, hb]
        refine ⟨σ, .refl _, ?_⟩
        rw [ha, ed] at hK
        unfold eqB at hK
        rw [hb] at hK
        exact hK
    · simp (config := { maxSteps := 4000000 }) (disch := omega) only [pvK, pvB, sRp3D_134, reduceIte, Nat.reduceEqDiff, Nat.reduceAdd, Nat.reduceSub, Nat.reduceMul, Nat.reduceLT, Nat.reduceLeDiff, Nat.reduceBEq, reduceCtorEq, Int.reduceAdd, Int.reduceSub, Int.reduceMul, Int.reduceLT, Int.reduceLE, Int.reduceEq, Int.reduceToNat, Int.reduceNeg, Nat.reduceBNe, Int.reduceBEq, Int.reduceBNe, Int.reduceGT, Int.reduceGE, Int.reduceTMod, Bool.not_true, Bool.not_false, forall_const, eq_self, decide_true, decide_false, lt_false (Nat.le_of_not_lt hlt)]
      refine ⟨σ, .refl _, ?_⟩
      rw [ha, List.drop_eq_nil_of_le (by omega)] at hK
      exact hK
def opL (l : List (ByteArray × Int)) : Option Tk → Int
  | some t => if t.kind == 3 then opIn t.text l else 0
  | none => 0
theorem opL_at (k : Nat) (o : Option Tk) : opL (opsOf k) o = opAt k o := by cases o <;> rfl
set_option maxHeartbeats 4000000 in
set_option maxRecDepth 100000 in
theorem rnext_c (b : Nat) (kt : Cap) (T : List Tk) (a : Nat) (line e : Int) (free : Bool) (l : List (ByteArray × Int)) (hl : l.length < 1000000) (ka ko : Cap) (σ : St) (h : σ.obj b = some (.cells (rpC kt T a line e free))) (K : Res → St → Prop)
    (hK : K (.ret (vi (if e = 0 then opL l T[a]? else 0))) σ) : PCalls Tryd.prog 109 [vp b 0, .list ka 1 (l.map fun p => vs p.1), .list ko 1 (l.map fun p => vi p.2)] σ K := by
  refine PCalls.of_body (tOk Tryd.prog) (by kernel_rfl) Tryd.func109 rfl (by kernel_rfl) [] [(1, 37, [(0, []), (1, []), (2, []), (3, []), (4, []), (5, []), (6, []), (10, []), (7, []), (11, []), (8, []), (12, []), (9, []), (13, []), (14, []), (15, []), (16, []), (17, []), (18, []), (22, []), (19, []), (23, []), (20, []), (24, []), (21, []), (25, []), (26, []), (27, []), (28, []), (29, []), (30, [])]), (3, 51, [(0, []), (4, []), (11, []), (12, []), (1, []), (5, []), (2, []), (6, []), (3, []), (7, []), (8, []), (9, []), (10, []), (13, []), (14, [])])] (by kernel_rfl) (n := 52) (by kernel_rfl) (by kernel_rfl) (rs := [.tmp 6]) (by kernel_rfl) ?_
  unfold rpC at h
  simp only [vi, vb'] at h
  by_cases he : e = 0
  · rw [if_pos he] at hK
    cases ht : T[a]? with
    | none =>
      rw [ht] at hK
      simp (config := { maxSteps := 4000000 }) (disch := omega) only [pvK, pvB, sRp3D_109, reduceIte, Nat.reduceEqDiff, Nat.reduceAdd, Nat.reduceSub, Nat.reduceMul, Nat.reduceLT, Nat.reduceLeDiff, Nat.reduceBEq, reduceCtorEq, Int.reduceAdd, Int.reduceSub, Int.reduceMul, Int.reduceLT, Int.reduceLE, Int.reduceEq, Int.reduceToNat, Int.reduceNeg, Nat.reduceBNe, Int.reduceBEq, Int.reduceBNe, Int.reduceGT, Int.reduceGE, Int.reduceTMod, Bool.not_true, Bool.not_false, forall_const, eq_self, decide_true, decide_false, h, ne_false he, ge_true (tok_none ht)]
      exact ⟨_, .refl _, hK⟩
    | some t =>
      rw [ht] at hK
      cases hk : t.kind == 3
      · have hk2 : (t.kind != 3) = true := by simp [bne, hk]
        simp (config := { maxSteps := 4000000 }) (disch := omega) only [pvK, pvB, sRp3D_109, reduceIte, Nat.reduceEqDiff, Nat.reduceAdd, Nat.reduceSub, Nat.reduceMul, Nat.reduceLT, Nat.reduceLeDiff, Nat.reduceBEq, reduceCtorEq, Int.reduceAdd, Int.reduceSub, Int.reduceMul, Int.reduceLT, Int.reduceLE, Int.reduceEq, Int.reduceToNat, Int.reduceNeg, Nat.reduceBNe, Int.reduceBEq, Int.reduceBNe, Int.reduceGT, Int.reduceGE, Int.reduceTMod, Bool.not_true, Bool.not_false, forall_const, eq_self, decide_true, decide_false, h, ne_false he, ge_false (tok_some ht), tok_get ht, nn, hk2]
        refine ⟨_, .refl _, ?_⟩
        simpa [opL, hk] using hK
      · have hk2 : (t.kind != 3) = false := by simp [bne, hk]
        simp (config := { maxSteps := 4000000 }) (disch := omega) only [pvK, pvB, sRp3D_109, reduceIte, Nat.reduceEqDiff, Nat.reduceAdd, Nat.reduceSub, Nat.reduceMul, Nat.reduceLT, Nat.reduceLeDiff, Nat.reduceBEq, reduceCtorEq, Int.reduceAdd, Int.reduceSub, Int.reduceMul, Int.reduceLT, Int.reduceLE, Int.reduceEq, Int.reduceToNat, Int.reduceNeg, Nat.reduceBNe, Int.reduceBEq, Int.reduceBNe, Int.reduceGT, Int.reduceGE, Int.reduceTMod, Bool.not_true, Bool.not_false, forall_const, eq_self, decide_true, decide_false, h, ne_false he, ge_false (tok_some ht), tok_get ht, nn, hk2]
        refine rop_c t.text l hl ka ko σ _ ?_
        simp (config := { maxSteps := 4000000 }) (disch := omega) only [pvK, pvB, sRp3D_109, reduceIte, Nat.reduceEqDiff, Nat.reduceAdd, Nat.reduceSub, Nat.reduceMul, Nat.reduceLT, Nat.reduceLeDiff, Nat.reduceBEq, reduceCtorEq, Int.reduceAdd, Int.reduceSub, Int.reduceMul, Int.reduceLT, Int.reduceLE, Int.reduceEq, Int.reduceToNat, Int.reduceNeg, Nat.reduceBNe, Int.reduceBEq, Int.reduceBNe, Int.reduceGT, Int.reduceGE, Int.reduceTMod, Bool.not_true, Bool.not_false, forall_const, eq_self, decide_true, decide_false]
        refine ⟨_, .refl _, ?_⟩
        simpa [opL, hk] using hK
  · rw [if_neg he] at hK
    simp (config := { maxSteps := 4000000 }) (disch := omega) only [pvK, pvB, sRp3D_109, reduceIte, Nat.reduceEqDiff, Nat.reduceAdd, Nat.reduceSub, Nat.reduceMul, Nat.reduceLT, Nat.reduceLeDiff, Nat.reduceBEq, reduceCtorEq, Int.reduceAdd, Int.reduceSub, Int.reduceMul, Int.reduceLT, Int.reduceLE, Int.reduceEq, Int.reduceToNat, Int.reduceNeg, Nat.reduceBNe, Int.reduceBEq, Int.reduceBNe, Int.reduceGT, Int.reduceGE, Int.reduceTMod, Bool.not_true, Bool.not_false, forall_const, eq_self, decide_true, decide_false, h, ne_true he]
    exact ⟨_, .refl _, hK⟩
end Go.Pv.D
-- Pp2D
namespace Go.Pv.D
open Go Go.RowKit Go.Proofs Go.Pv
def sPp2D_69 := (And.intro (And.intro (And.intro @q_slz_0 (And.intro @q_tsz_36 @q_slz_36)) (And.intro (And.intro @q_str_36 @q_arz_36) (And.intro @q_ifc_36 @q_tsz_81))) (And.intro (And.intro @q_slz_81 (And.intro @q_ifc_81 @q_tsz_113)) (And.intro (And.intro @q_slz_113 @q_ifc_113) (And.intro @q_zcs_81 @q_zcs_36))))
def sPp2D_100 := (And.intro (And.intro (And.intro (And.intro @q_fld_83_1 @q_slz_0) (And.intro @q_tsz_3 (And.intro @q_slz_3 @q_ifc_3))) (And.intro (And.intro @q_tsz_4 @q_slz_4) (And.intro @q_ifc_4 (And.intro @q_isb_4 @q_tsz_9)))) (And.intro (And.intro (And.intro @q_slz_9 @q_str_9) (And.intro @q_arz_9 (And.intro @q_ifc_9 @q_tsz_81))) (And.intro (And.intro @q_slz_81 @q_ifc_81) (And.intro @q_tsz_83 (And.intro @q_slz_83 @q_ifc_83)))))
def sPp2D_101 := (And.intro (And.intro (And.intro (And.intro (And.intro @q_fld_83_1 @q_fld_59_3) (And.intro @q_fld_83_0 @q_slz_0)) (And.intro (And.intro @q_tsz_1 @q_slz_1) (And.intro @q_ifc_1 (And.intro @q_tsz_3 @q_slz_3)))) (And.intro (And.intro (And.intro @q_ifc_3 @q_tsz_4) (And.intro @q_slz_4 @q_ifc_4)) (And.intro (And.intro @q_isb_4 @q_tsz_9) (And.intro @q_slz_9 (And.intro @q_str_9 @q_arz_9))))) (And.intro (And.intro (And.intro (And.intro @q_ifc_9 @q_tsz_23) (And.intro @q_slz_23 @q_str_23)) (And.intro (And.intro @q_arz_23 @q_ifc_23) (And.intro @q_tsz_28 (And.intro @q_slz_28 @q_ifc_28)))) (And.intro (And.intro (And.intro @q_tsz_59 @q_slz_59) (And.intro @q_ifc_59 @q_tsz_81)) (And.intro (And.intro @q_slz_81 @q_ifc_81) (And.intro @q_tsz_83 (And.intro @q_slz_83 @q_ifc_83))))))
def sPp2D_102 := (And.intro (And.intro (And.intro (And.intro @q_fld_83_1 (And.intro @q_fld_59_1 @q_fld_83_0)) (And.intro (And.intro @q_slz_0 @q_tsz_1) (And.intro @q_slz_1 @q_ifc_1))) (And.intro (And.intro (And.intro @q_tsz_3 @q_slz_3) (And.intro @q_ifc_3 @q_tsz_4)) (And.intro (And.intro @q_slz_4 @q_ifc_4) (And.intro @q_isb_4 @q_tsz_23)))) (And.intro (And.intro (And.intro (And.intro @q_slz_23 @q_str_23) (And.intro @q_arz_23 @q_ifc_23)) (And.intro (And.intro @q_tsz_28 @q_slz_28) (And.intro @q_ifc_28 @q_tsz_59))) (And.intro (And.intro (And.intro @q_slz_59 @q_ifc_59) (And.intro @q_tsz_81 @q_slz_81)) (And.intro (And.intro @q_ifc_81 @q_tsz_83) (And.intro @q_slz_83 @q_ifc_83)))))
def sPp2D_106 := (And.intro (And.intro (And.intro (And.intro (And.intro @q_fld_83_1 @q_fld_59_0) (And.intro @q_fld_59_3 @q_fld_83_0)) (And.intro (And.intro @q_slz_0 @q_tsz_3) (And.intro @q_slz_3 (And.intro @q_ifc_3 @q_tsz_4)))) (And.intro (And.intro (And.intro @q_slz_4 @q_ifc_4) (And.intro @q_isb_4 @q_tsz_9)) (And.intro (And.intro @q_slz_9 @q_str_9) (And.intro @q_arz_9 (And.intro @q_ifc_9 @q_tsz_23))))) (And.intro (And.intro (And.intro (And.intro @q_slz_23 @q_str_23) (And.intro @q_arz_23 @q_ifc_23)) (And.intro (And.intro @q_tsz_36 @q_slz_36) (And.intro @q_str_36 (And.intro @q_arz_36 @q_ifc_36)))) (And.intro (And.intro (And.intro @q_tsz_59 @q_slz_59) (And.intro @q_ifc_59 @q_tsz_81)) (And.intro (And.intro @q_slz_81 @q_ifc_81) (And.intro @q_tsz_83 (And.intro @q_slz_83 @q_ifc_83))))))
def sPp2D_126 := (And.intro (And.intro (And.intro (And.intro (And.intro @q_fld_83_1 @q_fld_59_0) (And.intro @q_fld_59_3 @q_fld_83_0)) (And.intro (And.intro @q_slz_0 @q_tsz_3) (And.intro @q_slz_3 @q_ifc_3))) (And.intro (And.intro (And.intro @q_tsz_4 @q_slz_4) (And.intro @q_ifc_4 @q_isb_4)) (And.intro (And.intro @q_tsz_9 @q_slz_9) (And.intro @q_str_9 @q_arz_9)))) (And.intro (And.intro (And.intro (And.intro @q_ifc_9 @q_tsz_23) (And.intro @q_slz_23 @q_str_23)) (And.intro (And.intro @q_arz_23 @q_ifc_23) (And.intro @q_tsz_59 @q_slz_59))) (And.intro (And.intro (And.intro @q_ifc_59 @q_tsz_81) (And.intro @q_slz_81 @q_ifc_81)) (And.intro (And.intro @q_tsz_83 @q_slz_83) (And.intro @q_ifc_83 @q_zcs_59)))))
def sPp2D_127 := (And.intro (And.intro (And.intro (And.intro @q_fld_83_1 (And.intro @q_fld_59_0 @q_fld_59_3)) (And.intro (And.intro @q_fld_83_0 @q_slz_0) (And.intro @q_tsz_3 @q_slz_3))) (And.intro (And.intro (And.intro @q_ifc_3 @q_tsz_4) (And.intro @q_slz_4 @q_ifc_4)) (And.intro (And.intro @q_isb_4 @q_tsz_9) (And.intro @q_slz_9 @q_str_9)))) (And.intro (And.intro (And.intro (And.intro @q_arz_9 @q_ifc_9) (And.intro @q_tsz_23 @q_slz_23)) (And.intro (And.intro @q_str_23 @q_arz_23) (And.intro @q_ifc_23 @q_tsz_59))) (And.intro (And.intro (And.intro @q_slz_59 @q_ifc_59) (And.intro @q_tsz_81 @q_slz_81)) (And.intro (And.intro @q_ifc_81 @q_tsz_83) (And.intro @q_slz_83 @q_ifc_83)))))
def sPp2D_128 := (And.intro (And.intro (And.intro (And.intro (And.intro @q_fld_59_2 @q_fld_83_0) (And.intro @q_slz_0 @q_tsz_3)) (And.intro (And.intro @q_slz_3 @q_ifc_3) (And.intro @q_tsz_4 @q_slz_4))) (And.intro (And.intro (And.intro @q_ifc_4 @q_isb_4) (And.intro @q_tsz_20 @q_slz_20)) (And.intro (And.intro @q_ifc_20 @q_tsz_23) (And.intro @q_slz_23 (And.intro @q_str_23 @q_arz_23))))) (And.intro (And.intro (And.intro (And.intro @q_ifc_23 @q_tsz_28) (And.intro @q_slz_28 @q_ifc_28)) (And.intro (And.intro @q_tsz_59 @q_slz_59) (And.intro @q_ifc_59 @q_tsz_81))) (And.intro (And.intro (And.intro @q_slz_81 @q_ifc_81) (And.intro @q_tsz_83 @q_slz_83)) (And.intro (And.intro @q_ifc_83 @q_tsz_108) (And.intro @q_slz_108 (And.intro @q_ifc_108 @q_bld_108))))))
def sPp2D_129 := (And.intro (And.intro (And.intro (And.intro @q_fld_83_1 (And.intro @q_fld_59_0 @q_fld_83_0)) (And.intro @q_slz_0 (And.intro @q_tsz_3 @q_slz_3))) (And.intro (And.intro @q_ifc_3 (And.intro @q_tsz_4 @q_slz_4)) (And.intro @q_ifc_4 (And.intro @q_isb_4 @q_tsz_23)))) (And.intro (And.intro (And.intro @q_slz_23 (And.intro @q_str_23 @q_arz_23)) (And.intro @q_ifc_23 (And.intro @q_tsz_59 @q_slz_59))) (And.intro (And.intro @q_ifc_59 (And.intro @q_tsz_81 @q_slz_81)) (And.intro (And.intro @q_ifc_81 @q_tsz_83) (And.intro @q_slz_83 @q_ifc_83)))))
/-- The parser: tokens and place. -/
def ppC (kt : Cap) (T : List Tk) (at_ : Nat) : List PV := [.list kt 4 (T.map pvTk), vi at_]
/-- A parser's end at an error. -/
def stopV (T : List Tk) (i : Nat) (c : Int) : PV := .iface 108 (.agg [vi (lineAt T i), vi c])
set_option maxHeartbeats 4000000 in
set_option maxRecDepth 100000 in
theorem pfail_c (b : Nat) (kt : Cap) (T : List Tk) (a : Nat) (i : Int) (j : Nat) (hj : i = j ∨ (i = -1 ∧ j = 0)) (hT : T.length < 1000000) (hi : i < 1000000000) (c : Int) (σ : St) (h : σ.obj b = some (.cells (ppC kt T a))) (K : Res → St → Prop)
    (hK : K (.panic (stopV T j c)) σ) : PCalls Tryd.prog 128 [vp b 0, vi c, vi i] σ K := by
  unfold ppC at h
  simp only [vi] at h
  unfold stopV at hK
  refine PCalls.of_body (tOk Tryd.prog) (by kernel_rfl) Tryd.func128 rfl (by kernel_rfl) [] [] (by kernel_rfl) (n := 31) (by kernel_rfl) (by kernel_rfl) (rs := []) (by kernel_rfl) ?_
  cases T with
  | nil =>
    simp (config := { maxSteps := 4000000 }) (disch := omega) only [pvK, pvB, sPp2D_128, reduceIte, Nat.reduceEqDiff, Nat.reduceAdd, Nat.reduceSub, Nat.reduceMul, Nat.reduceLT, Nat.reduceLeDiff, Nat.reduceBEq, reduceCtorEq, Int.reduceAdd, Int.reduceSub, Int.reduceMul, Int.reduceLT, Int.reduceLE, Int.reduceEq, Int.reduceToNat, Int.reduceNeg, Nat.reduceBNe, Int.reduceBEq, Int.reduceBNe, Int.reduceGT, Int.reduceGE, Int.reduceTMod, Bool.false_eq_true, Bool.not_true, Bool.not_false, forall_const, eq_self, decide_true, decide_false, h, List.map_nil]
    exact ⟨_, .refl _, hK⟩
  | cons t T =>
    simp only [List.length_cons] at hT
    have hl : ((T.length + 1 : Nat) : Int) > 0 := by omega
    have e1 : (if (if ((T.length + 1 : Nat) : Int) - 1 < i then ((T.length + 1 : Nat) : Int) - 1 else i) > 0 then (if ((T.length + 1 : Nat) : Int) - 1 < i then ((T.length + 1 : Nat) : Int) - 1 else i) else 0) = ((min j T.length : Nat) : Int) := by
      repeat' split
      all_goals omega
    have e2 : (t :: T)[min j T.length]? = some ((t :: T)[min j T.length]'(by simp; omega)) := List.getElem?_eq_getElem _
    have e3 : lineAt (t :: T) j = ((t :: T)[min j T.length]'(by simp; omega)).line := by
      simp only [lineAt, List.length_cons, Nat.add_sub_cancel]
      rw [e2]
    have e4 := tok_get e2
    rw [e3] at hK
    generalize (t :: T)[min j T.length]'(by simp; omega) = x at e4 hK
    simp only [List.map_cons] at e4
    simp (config := { maxSteps := 4000000 }) (disch := omega) only [pvK, pvB, sPp2D_128, reduceIte, Nat.reduceEqDiff, Nat.reduceAdd, Nat.reduceSub, Nat.reduceMul, Nat.reduceLT, Nat.reduceLeDiff, Nat.reduceBEq, reduceCtorEq, Int.reduceAdd, Int.reduceSub, Int.reduceMul, Int.reduceLT, Int.reduceLE, Int.reduceEq, Int.reduceToNat, Int.reduceNeg, Nat.reduceBNe, Int.reduceBEq, Int.reduceBNe, Int.reduceGT, Int.reduceGE, Int.reduceTMod, Bool.false_eq_true, Bool.not_true, Bool.not_false, forall_const, eq_self, decide_true, decide_false, h, hl, e1, e4, nn]
    exact ⟨_, .refl _, hK⟩
set_option maxHeartbeats 4000000 in
set_option maxRecDepth 100000 in
theorem pis_c (b : Nat) (kt : Cap) (T : List Tk) (a : Nat) (w : ByteArray) (σ : St) (h : σ.obj b = some (.cells (ppC kt T a))) (K : Res → St → Prop)
    (hK : K (.ret (vb' (tW T[a]? w))) σ) : PCalls Tryd.prog 126 [vp b 0, vs w] σ K := by
  unfold ppC at h
  simp only [vi] at h
  refine PCalls.of_body (tOk Tryd.prog) (by kernel_rfl) Tryd.func126 rfl (by kernel_rfl) [] [(1, 15, [(0, []), (4, []), (1, []), (5, []), (2, []), (6, []), (3, []), (7, []), (8, []), (9, [])]), (3, 25, [(0, []), (4, []), (10, []), (1, []), (5, []), (2, []), (6, []), (3, []), (7, []), (8, []), (9, []), (11, [])])] (by kernel_rfl) (n := 35) (by kernel_rfl) (by kernel_rfl) (rs := [.tmp 4]) (by kernel_rfl) ?_
  cases ht : T[a]? with
  | none =>
    simp (config := { maxSteps := 4000000 }) (disch := omega) only [pvK, pvB, sPp2D_126, reduceIte, Nat.reduceEqDiff, Nat.reduceAdd, Nat.reduceSub, Nat.reduceMul, Nat.reduceLT, Nat.reduceLeDiff, Nat.reduceBEq, reduceCtorEq, Int.reduceAdd, Int.reduceSub, Int.reduceMul, Int.reduceLT, Int.reduceLE, Int.reduceEq, Int.reduceToNat, Int.reduceNeg, Nat.reduceBNe, Int.reduceBEq, Int.reduceBNe, Int.reduceGT, Int.reduceGE, Int.reduceTMod, Bool.false_eq_true, Bool.not_true, Bool.not_false, forall_const, eq_self, decide_true, decide_false, h, ge_true (tok_none ht)]
    rw [ht] at hK
    exact ⟨_, .refl _, hK⟩
  | some t =>
    rw [ht] at hK
    cases hk : t.kind == 2
    · have hk2 : (t.kind != 2) = true := by simp [bne, hk]
      simp (config := { maxSteps := 4000000 }) (disch := omega) only [pvK, pvB, sPp2D_126, reduceIte, Nat.reduceEqDiff, Nat.reduceAdd, Nat.reduceSub, Nat.reduceMul, Nat.reduceLT, Nat.reduceLeDiff, Nat.reduceBEq, reduceCtorEq, Int.reduceAdd, Int.reduceSub, Int.reduceMul, Int.reduceLT, Int.reduceLE, Int.reduceEq, Int.reduceToNat, Int.reduceNeg, Nat.reduceBNe, Int.reduceBEq, Int.reduceBNe, Int.reduceGT, Int.reduceGE, Int.reduceTMod, Bool.false_eq_true, Bool.not_true, Bool.not_false, forall_const, eq_self, decide_true, decide_false, h, ge_false (tok_some ht), tok_get ht, nn, hk2]
      refine ⟨_, .refl _, ?_⟩
      simpa [tW, hk, eqB] using hK
    · have hk2 : (t.kind != 2) = false := by simp [bne, hk]
      simp (config := { maxSteps := 4000000 }) (disch := omega) only [pvK, pvB, sPp2D_126, reduceIte, Nat.reduceEqDiff, Nat.reduceAdd, Nat.reduceSub, Nat.reduceMul, Nat.reduceLT, Nat.reduceLeDiff, Nat.reduceBEq, reduceCtorEq, Int.reduceAdd, Int.reduceSub, Int.reduceMul, Int.reduceLT, Int.reduceLE, Int.reduceEq, Int.reduceToNat, Int.reduceNeg, Nat.reduceBNe, Int.reduceBEq, Int.reduceBNe, Int.reduceGT, Int.reduceGE, Int.reduceTMod, Bool.false_eq_true, Bool.not_true, Bool.not_false, forall_const, eq_self, decide_true, decide_false, h, ge_false (tok_some ht), tok_get ht, nn, hk2]
      refine ⟨_, .refl _, ?_⟩
      simpa [tW, hk] using hK
set_option maxHeartbeats 4000000 in
set_option maxRecDepth 100000 in
theorem phas_c (b : Nat) (kt : Cap) (T : List Tk) (a : Nat) (w : ByteArray) (ha : a < 1000000) (σ : St) (h : σ.obj b = some (.cells (ppC kt T a))) (K : Res → St → Prop)
    (hK : K (.ret (vb' (tW T[a]? w))) (if tW T[a]? w = true then σ.set b (.cells (ppC kt T (a + 1))) else σ)) : PCalls Tryd.prog 100 [vp b 0, vs w] σ K := by
  refine PCalls.of_body (tOk Tryd.prog) (by kernel_rfl) Tryd.func100 rfl (by kernel_rfl) [] [] (by kernel_rfl) (n := 18) (by kernel_rfl) (by kernel_rfl) (rs := [.tmp 4]) (by kernel_rfl) ?_
  simp (config := { maxSteps := 4000000 }) (disch := omega) only [pvK, pvB, sPp2D_100, reduceIte, Nat.reduceEqDiff, Nat.reduceAdd, Nat.reduceSub, Nat.reduceMul, Nat.reduceLT, Nat.reduceLeDiff, Nat.reduceBEq, reduceCtorEq, Int.reduceAdd, Int.reduceSub, Int.reduceMul, Int.reduceLT, Int.reduceLE, Int.reduceEq, Int.reduceToNat, Int.reduceNeg, Nat.reduceBNe, Int.reduceBEq, Int.reduceBNe, Int.reduceGT, Int.reduceGE, Int.reduceTMod, Bool.false_eq_true, Bool.not_true, Bool.not_false, forall_const, eq_self, decide_true, decide_false]
  refine pis_c b kt T a w σ h _ ?_
  cases hb : tW T[a]? w
  · rw [hb] at hK
    simp (config := { maxSteps := 4000000 }) (disch := omega) only [pvK, pvB, sPp2D_100, reduceIte, Nat.reduceEqDiff, Nat.reduceAdd, Nat.reduceSub, Nat.reduceMul, Nat.reduceLT, Nat.reduceLeDiff, Nat.reduceBEq, reduceCtorEq, Int.reduceAdd, Int.reduceSub, Int.reduceMul, Int.reduceLT, Int.reduceLE, Int.reduceEq, Int.reduceToNat, Int.reduceNeg, Nat.reduceBNe, Int.reduceBEq, Int.reduceBNe, Int.reduceGT, Int.reduceGE, Int.reduceTMod, Bool.false_eq_true, Bool.not_true, Bool.not_false, forall_const, eq_self, decide_true, decide_false]
    exact ⟨_, .refl _, hK⟩
  · rw [hb, if_pos rfl] at hK
    unfold ppC at h
    simp only [vi] at h
    simp (config := { maxSteps := 4000000 }) (disch := omega) only [pvK, pvB, sPp2D_100, reduceIte, Nat.reduceEqDiff, Nat.reduceAdd, Nat.reduceSub, Nat.reduceMul, Nat.reduceLT, Nat.reduceLeDiff, Nat.reduceBEq, reduceCtorEq, Int.reduceAdd, Int.reduceSub, Int.reduceMul, Int.reduceLT, Int.reduceLE, Int.reduceEq, Int.reduceToNat, Int.reduceNeg, Nat.reduceBNe, Int.reduceBEq, Int.reduceBNe, Int.reduceGT, Int.reduceGE, Int.reduceTMod, Bool.false_eq_true, Bool.not_true, Bool.not_false, forall_const, eq_self, decide_true, decide_false, h]
    refine ⟨_, .refl _, ?_⟩
    simpa [ppC, vi] using hK
set_option maxHeartbeats 4000000 in
set_option maxRecDepth 100000 in
theorem pnamed_c (b : Nat) (kt : Cap) (T : List Tk) (a : Nat) (σ : St) (hg : GlOK σ) (h : σ.obj b = some (.cells (ppC kt T a))) (K : Res → St → Prop)
    (hK : K (.ret (vb' (tNm T[a]?))) σ) : PCalls Tryd.prog 127 [vp b 0] σ K := by
  unfold ppC at h
  simp only [vi] at h
  refine PCalls.of_body (tOk Tryd.prog) (by kernel_rfl) Tryd.func127 rfl (by kernel_rfl) [] [(1, 41, [(0, []), (4, []), (1, []), (5, []), (2, []), (6, []), (3, []), (7, []), (8, []), (9, []), (10, []), (11, []), (15, []), (12, []), (16, []), (13, []), (17, []), (14, []), (18, []), (19, []), (20, []), (21, []), (22, []), (23, []), (24, []), (25, []), (29, []), (26, []), (30, []), (27, []), (31, []), (28, []), (32, []), (33, []), (34, []), (35, []), (36, []), (37, []), (38, []), (39, [])])] (by kernel_rfl) (n := 42) (by kernel_rfl) (by kernel_rfl) (rs := [.tmp 2]) (by kernel_rfl) ?_
  cases ht : T[a]? with
  | none =>
    simp (config := { maxSteps := 4000000 }) (disch := omega) only [pvK, pvB, sPp2D_127, reduceIte, Nat.reduceEqDiff, Nat.reduceAdd, Nat.reduceSub, Nat.reduceMul, Nat.reduceLT, Nat.reduceLeDiff, Nat.reduceBEq, reduceCtorEq, Int.reduceAdd, Int.reduceSub, Int.reduceMul, Int.reduceLT, Int.reduceLE, Int.reduceEq, Int.reduceToNat, Int.reduceNeg, Nat.reduceBNe, Int.reduceBEq, Int.reduceBNe, Int.reduceGT, Int.reduceGE, Int.reduceTMod, Bool.false_eq_true, Bool.not_true, Bool.not_false, forall_const, eq_self, decide_true, decide_false, h, lt_false (tok_none ht)]
    rw [ht] at hK
    exact ⟨_, .refl _, hK⟩
  | some t =>
    rw [ht] at hK
    cases hk : t.kind == 1
    · simp (config := { maxSteps := 4000000 }) (disch := omega) only [pvK, pvB, sPp2D_127, reduceIte, Nat.reduceEqDiff, Nat.reduceAdd, Nat.reduceSub, Nat.reduceMul, Nat.reduceLT, Nat.reduceLeDiff, Nat.reduceBEq, reduceCtorEq, Int.reduceAdd, Int.reduceSub, Int.reduceMul, Int.reduceLT, Int.reduceLE, Int.reduceEq, Int.reduceToNat, Int.reduceNeg, Nat.reduceBNe, Int.reduceBEq, Int.reduceBNe, Int.reduceGT, Int.reduceGE, Int.reduceTMod, Bool.false_eq_true, Bool.not_true, Bool.not_false, forall_const, eq_self, decide_true, decide_false, h, lt_true (tok_some ht), tok_get ht, nn, hk]
      refine ⟨_, .refl _, ?_⟩
      simpa [tNm, hk] using hK
    · simp (config := { maxSteps := 4000000 }) (disch := omega) only [pvK, pvB, sPp2D_127, reduceIte, Nat.reduceEqDiff, Nat.reduceAdd, Nat.reduceSub, Nat.reduceMul, Nat.reduceLT, Nat.reduceLeDiff, Nat.reduceBEq, reduceCtorEq, Int.reduceAdd, Int.reduceSub, Int.reduceMul, Int.reduceLT, Int.reduceLE, Int.reduceEq, Int.reduceToNat, Int.reduceNeg, Nat.reduceBNe, Int.reduceBEq, Int.reduceBNe, Int.reduceGT, Int.reduceGE, Int.reduceTMod, Bool.false_eq_true, Bool.not_true, Bool.not_false, forall_const, eq_self, decide_true, decide_false, h, lt_true (tok_some ht), tok_get ht, nn, hk]
      refine keyword_c t.text σ hg _ ?_
      simp (config := { maxSteps := 4000000 }) (disch := omega) only [pvK, pvB, sPp2D_127, reduceIte, Nat.reduceEqDiff, Nat.reduceAdd, Nat.reduceSub, Nat.reduceMul, Nat.reduceLT, Nat.reduceLeDiff, Nat.reduceBEq, reduceCtorEq, Int.reduceAdd, Int.reduceSub, Int.reduceMul, Int.reduceLT, Int.reduceLE, Int.reduceEq, Int.reduceToNat, Int.reduceNeg, Nat.reduceBNe, Int.reduceBEq, Int.reduceBNe, Int.reduceGT, Int.reduceGE, Int.reduceTMod, Bool.false_eq_true, Bool.not_true, Bool.not_false, forall_const, eq_self, decide_true, decide_false]
      refine ⟨_, .refl _, ?_⟩
      simpa [tNm, hk] using hK
set_option maxHeartbeats 4000000 in
set_option maxRecDepth 100000 in
theorem pnumbered_c (b : Nat) (kt : Cap) (T : List Tk) (a : Nat) (σ : St) (h : σ.obj b = some (.cells (ppC kt T a))) (K : Res → St → Prop)
    (hK : K (.ret (vb' (tNum T[a]?))) σ) : PCalls Tryd.prog 129 [vp b 0] σ K := by
  unfold ppC at h
  simp only [vi] at h
  refine PCalls.of_body (tOk Tryd.prog) (by kernel_rfl) Tryd.func129 rfl (by kernel_rfl) [] [(1, 26, [(0, []), (4, []), (1, []), (5, []), (2, []), (6, []), (3, []), (7, []), (8, []), (9, []), (10, []), (11, []), (15, []), (12, []), (16, []), (13, []), (17, []), (14, []), (18, []), (19, []), (20, []), (21, []), (22, []), (23, []), (24, [])])] (by kernel_rfl) (n := 27) (by kernel_rfl) (by kernel_rfl) (rs := [.tmp 2]) (by kernel_rfl) ?_
  cases ht : T[a]? with
  | none =>
    simp (config := { maxSteps := 4000000 }) (disch := omega) only [pvK, pvB, sPp2D_129, reduceIte, Nat.reduceEqDiff, Nat.reduceAdd, Nat.reduceSub, Nat.reduceMul, Nat.reduceLT, Nat.reduceLeDiff, Nat.reduceBEq, reduceCtorEq, Int.reduceAdd, Int.reduceSub, Int.reduceMul, Int.reduceLT, Int.reduceLE, Int.reduceEq, Int.reduceToNat, Int.reduceNeg, Nat.reduceBNe, Int.reduceBEq, Int.reduceBNe, Int.reduceGT, Int.reduceGE, Int.reduceTMod, Bool.false_eq_true, Bool.not_true, Bool.not_false, forall_const, eq_self, decide_true, decide_false, h, lt_false (tok_none ht)]
    rw [ht] at hK
    exact ⟨_, .refl _, hK⟩
  | some t =>
    rw [ht] at hK
    simp (config := { maxSteps := 4000000 }) (disch := omega) only [pvK, pvB, sPp2D_129, reduceIte, Nat.reduceEqDiff, Nat.reduceAdd, Nat.reduceSub, Nat.reduceMul, Nat.reduceLT, Nat.reduceLeDiff, Nat.reduceBEq, reduceCtorEq, Int.reduceAdd, Int.reduceSub, Int.reduceMul, Int.reduceLT, Int.reduceLE, Int.reduceEq, Int.reduceToNat, Int.reduceNeg, Nat.reduceBNe, Int.reduceBEq, Int.reduceBNe, Int.reduceGT, Int.reduceGE, Int.reduceTMod, Bool.false_eq_true, Bool.not_true, Bool.not_false, forall_const, eq_self, decide_true, decide_false, h, lt_true (tok_some ht), tok_get ht, nn]
    refine ⟨_, .refl _, ?_⟩
    simpa [tNum] using hK
set_option maxHeartbeats 4000000 in
set_option maxRecDepth 100000 in
theorem pname_c (b : Nat) (kt : Cap) (T : List Tk) (a : Nat) (hT : T.length < 1000000) (ha : a < 1000000) (σ : St) (hg : GlOK σ) (h : σ.obj b = some (.cells (ppC kt T a))) (K : Res → St → Prop)
    (hK : if tNm T[a]? = true then K (.ret (vs (txt T[a]?))) (σ.set b (.cells (ppC kt T (a + 1)))) else K (.panic (stopV T a 1)) σ) : PCalls Tryd.prog 101 [vp b 0] σ K := by
  refine PCalls.of_body (tOk Tryd.prog) (by kernel_rfl) Tryd.func101 rfl (by kernel_rfl) [] [(4, 30, [(0, []), (4, []), (1, []), (5, []), (2, []), (6, []), (3, []), (7, []), (8, []), (9, []), (10, []), (11, []), (12, [])])] (by kernel_rfl) (n := 31) (by kernel_rfl) (by kernel_rfl) (rs := [.tmp 2]) (by kernel_rfl) ?_
  simp (config := { maxSteps := 4000000 }) (disch := omega) only [pvK, pvB, sPp2D_101, reduceIte, Nat.reduceEqDiff, Nat.reduceAdd, Nat.reduceSub, Nat.reduceMul, Nat.reduceLT, Nat.reduceLeDiff, Nat.reduceBEq, reduceCtorEq, Int.reduceAdd, Int.reduceSub, Int.reduceMul, Int.reduceLT, Int.reduceLE, Int.reduceEq, Int.reduceToNat, Int.reduceNeg, Nat.reduceBNe, Int.reduceBEq, Int.reduceBNe, Int.reduceGT, Int.reduceGE, Int.reduceTMod, Bool.false_eq_true, Bool.not_true, Bool.not_false, forall_const, eq_self, decide_true, decide_false]
  refine pnamed_c b kt T a σ hg h _ ?_
  have h0 := h
  unfold ppC at h
  simp only [vi] at h
  cases hb : tNm T[a]?
  · rw [hb, if_neg (by simp)] at hK
    simp (config := { maxSteps := 4000000 }) (disch := omega) only [pvK, pvB, sPp2D_101, reduceIte, Nat.reduceEqDiff, Nat.reduceAdd, Nat.reduceSub, Nat.reduceMul, Nat.reduceLT, Nat.reduceLeDiff, Nat.reduceBEq, reduceCtorEq, Int.reduceAdd, Int.reduceSub, Int.reduceMul, Int.reduceLT, Int.reduceLE, Int.reduceEq, Int.reduceToNat, Int.reduceNeg, Nat.reduceBNe, Int.reduceBEq, Int.reduceBNe, Int.reduceGT, Int.reduceGE, Int.reduceTMod, Bool.false_eq_true, Bool.not_true, Bool.not_false, forall_const, eq_self, decide_true, decide_false, h]
    refine pfail_c b kt T a a a (.inl rfl) hT (by omega) 1 σ h0 _ ?_
    simp (config := { maxSteps := 4000000 }) (disch := omega) only [pvK, pvB, sPp2D_101, reduceIte, Nat.reduceEqDiff, Nat.reduceAdd, Nat.reduceSub, Nat.reduceMul, Nat.reduceLT, Nat.reduceLeDiff, Nat.reduceBEq, reduceCtorEq, Int.reduceAdd, Int.reduceSub, Int.reduceMul, Int.reduceLT, Int.reduceLE, Int.reduceEq, Int.reduceToNat, Int.reduceNeg, Nat.reduceBNe, Int.reduceBEq, Int.reduceBNe, Int.reduceGT, Int.reduceGE, Int.reduceTMod, Bool.false_eq_true, Bool.not_true, Bool.not_false, forall_const, eq_self, decide_true, decide_false]
    exact ⟨_, .refl _, hK⟩
  · rw [hb, if_pos rfl] at hK
    cases ht : T[a]? with
    | none => rw [ht] at hb; cases hb
    | some t =>
      rw [ht] at hK
      have e1 : ((a : Int) + 1 - 1) = a := by omega
      simp (config := { maxSteps := 4000000 }) (disch := omega) only [pvK, pvB, sPp2D_101, reduceIte, Nat.reduceEqDiff, Nat.reduceAdd, Nat.reduceSub, Nat.reduceMul, Nat.reduceLT, Nat.reduceLeDiff, Nat.reduceBEq, reduceCtorEq, Int.reduceAdd, Int.reduceSub, Int.reduceMul, Int.reduceLT, Int.reduceLE, Int.reduceEq, Int.reduceToNat, Int.reduceNeg, Nat.reduceBNe, Int.reduceBEq, Int.reduceBNe, Int.reduceGT, Int.reduceGE, Int.reduceTMod, Bool.false_eq_true, Bool.not_true, Bool.not_false, forall_const, eq_self, decide_true, decide_false, h, e1, tok_get ht, nn]
      refine ⟨_, .refl _, ?_⟩
      simpa [ppC, vi, txt] using hK
set_option maxHeartbeats 4000000 in
set_option maxRecDepth 100000 in
theorem pnum_c (b : Nat) (kt : Cap) (T : List Tk) (a : Nat) (hT : T.length < 1000000) (ha : a < 1000000) (σ : St) (h : σ.obj b = some (.cells (ppC kt T a))) (K : Res → St → Prop)
    (hK : if tNum T[a]? = true then K (.ret (vi (tnum T[a]?))) (σ.set b (.cells (ppC kt T (a + 1)))) else K (.panic (stopV T a 1)) σ) : PCalls Tryd.prog 102 [vp b 0] σ K := by
  refine PCalls.of_body (tOk Tryd.prog) (by kernel_rfl) Tryd.func102 rfl (by kernel_rfl) [] [(4, 30, [(0, []), (4, []), (1, []), (5, []), (2, []), (6, []), (3, []), (7, []), (8, []), (9, []), (10, []), (11, []), (12, [])])] (by kernel_rfl) (n := 31) (by kernel_rfl) (by kernel_rfl) (rs := [.tmp 2]) (by kernel_rfl) ?_
  simp (config := { maxSteps := 4000000 }) (disch := omega) only [pvK, pvB, sPp2D_102, reduceIte, Nat.reduceEqDiff, Nat.reduceAdd, Nat.reduceSub, Nat.reduceMul, Nat.reduceLT, Nat.reduceLeDiff, Nat.reduceBEq, reduceCtorEq, Int.reduceAdd, Int.reduceSub, Int.reduceMul, Int.reduceLT, Int.reduceLE, Int.reduceEq, Int.reduceToNat, Int.reduceNeg, Nat.reduceBNe, Int.reduceBEq, Int.reduceBNe, Int.reduceGT, Int.reduceGE, Int.reduceTMod, Bool.false_eq_true, Bool.not_true, Bool.not_false, forall_const, eq_self, decide_true, decide_false]
  refine pnumbered_c b kt T a σ h _ ?_
  have h0 := h
  unfold ppC at h
  simp only [vi] at h
  cases hb : tNum T[a]?
  · rw [hb, if_neg (by simp)] at hK
    simp (config := { maxSteps := 4000000 }) (disch := omega) only [pvK, pvB, sPp2D_102, reduceIte, Nat.reduceEqDiff, Nat.reduceAdd, Nat.reduceSub, Nat.reduceMul, Nat.reduceLT, Nat.reduceLeDiff, Nat.reduceBEq, reduceCtorEq, Int.reduceAdd, Int.reduceSub, Int.reduceMul, Int.reduceLT, Int.reduceLE, Int.reduceEq, Int.reduceToNat, Int.reduceNeg, Nat.reduceBNe, Int.reduceBEq, Int.reduceBNe, Int.reduceGT, Int.reduceGE, Int.reduceTMod, Bool.false_eq_true, Bool.not_true, Bool.not_false, forall_const, eq_self, decide_true, decide_false, h]
    refine pfail_c b kt T a a a (.inl rfl) hT (by omega) 1 σ h0 _ ?_
    simp (config := { maxSteps := 4000000 }) (disch := omega) only [pvK, pvB, sPp2D_102, reduceIte, Nat.reduceEqDiff, Nat.reduceAdd, Nat.reduceSub, Nat.reduceMul, Nat.reduceLT, Nat.reduceLeDiff, Nat.reduceBEq, reduceCtorEq, Int.reduceAdd, Int.reduceSub, Int.reduceMul, Int.reduceLT, Int.reduceLE, Int.reduceEq, Int.reduceToNat, Int.reduceNeg, Nat.reduceBNe, Int.reduceBEq, Int.reduceBNe, Int.reduceGT, Int.reduceGE, Int.reduceTMod, Bool.false_eq_true, Bool.not_true, Bool.not_false, forall_const, eq_self, decide_true, decide_false]
    exact ⟨_, .refl _, hK⟩
  · rw [hb, if_pos rfl] at hK
    cases ht : T[a]? with
    | none => rw [ht] at hb; cases hb
    | some t =>
      rw [ht] at hK
      have e1 : ((a : Int) + 1 - 1) = a := by omega
      simp (config := { maxSteps := 4000000 }) (disch := omega) only [pvK, pvB, sPp2D_102, reduceIte, Nat.reduceEqDiff, Nat.reduceAdd, Nat.reduceSub, Nat.reduceMul, Nat.reduceLT, Nat.reduceLeDiff, Nat.reduceBEq, reduceCtorEq, Int.reduceAdd, Int.reduceSub, Int.reduceMul, Int.reduceLT, Int.reduceLE, Int.reduceEq, Int.reduceToNat, Int.reduceNeg, Nat.reduceBNe, Int.reduceBEq, Int.reduceBNe, Int.reduceGT, Int.reduceGE, Int.reduceTMod, Bool.false_eq_true, Bool.not_true, Bool.not_false, forall_const, eq_self, decide_true, decide_false, h, e1, tok_get ht, nn]
      refine ⟨_, .refl _, ?_⟩
      simpa [ppC, vi, tnum] using hK
set_option maxRecDepth 100000 in
theorem pone_c (b : Nat) (kl : Cap) (l : List (ByteArray × Int)) (σ : St) (K : Res → St → Prop)
    (hK : ∀ b1 b2, σ.obj b1 = none → b1 ≠ b2 → σ.obj b2 = none → K (.ret (.val (.func (.func 106) #[] #[.pointer (some ⟨b2, 0, none⟩), .pointer (some ⟨b1, 0, none⟩)]))) ((σ.set b1 (.cells [vp b 0])).set b2 (.cells [.list kl 1 (l.map fun p => vs p.1)]))) : PCalls Tryd.prog 69 [vp b 0, .list kl 1 (l.map fun p => vs p.1)] σ K := by
  refine PCalls.of_body (tOk Tryd.prog) (by kernel_rfl) Tryd.func69 rfl (by kernel_rfl) [2, 3] [] (by kernel_rfl) (n := 6) (by kernel_rfl) (by kernel_rfl) (rs := [.tmp 4]) (by kernel_rfl) ?_
  simp (config := { maxSteps := 4000000 }) (disch := omega) only [pvK, pvB, sPp2D_69, reduceIte, Nat.reduceEqDiff, Nat.reduceAdd, Nat.reduceSub, Nat.reduceMul, Nat.reduceLT, Nat.reduceLeDiff, Nat.reduceBEq, reduceCtorEq, Int.reduceAdd, Int.reduceSub, Int.reduceMul, Int.reduceLT, Int.reduceLE, Int.reduceEq, Int.reduceToNat, Int.reduceNeg, Nat.reduceBNe, Int.reduceBEq, Int.reduceBNe, Int.reduceGT, Int.reduceGE, Int.reduceTMod, Bool.false_eq_true, Bool.not_true, Bool.not_false, forall_const, eq_self, decide_true, decide_false]
  intro b1 h1 _ b2 h2 _
  have hne : b2 ≠ b1 := by rintro rfl; simp at h2
  rw [if_neg hne] at h2
  exact ⟨_, .refl _, hK b1 b2 h1 (Ne.symm hne) h2⟩
theorem ops_len2 (k : Nat) : (opsOf k).length ≤ 6 := by
  match k with
  | 0 => decide
  | 1 => decide
  | 2 => decide
  | _ + 3 => exact Nat.zero_le _
theorem opL_drop {l : List (ByteArray × Int)} {i : Nat} (h : i < l.length) (t : Tk) (hk : (t.kind == 3) = true) : opL (l.drop i) (some t) = if eqB t.text l[i].1 then l[i].2 else opL (l.drop (i + 1)) (some t) := by
  rw [List.drop_eq_getElem_cons h]
  simp only [opL, hk, if_true, opIn, eqB_comm t.text]
set_option maxHeartbeats 8000000 in
set_option maxRecDepth 100000 in
theorem pone1_c (b b1 b2 : Nat) (kt kl : Cap) (T : List Tk) (a k : Nat) (ha : a < 1000000) (σ : St) (hg : GlOK σ) (h : σ.obj b = some (.cells (ppC kt T a))) (h1 : σ.obj b1 = some (.cells [vp b 0])) (h2 : σ.obj b2 = some (.cells [.list kl 1 ((opsOf k).map fun p => vs p.1)])) (K : Res → St → Prop)
    (hK : K (.ret (vi (opAt k T[a]?))) (if opAt k T[a]? = 0 then σ else σ.set b (.cells (ppC kt T (a + 1))))) : PCalls Tryd.prog 106 [.val (.pointer (some ⟨b2, 0, none⟩)), .val (.pointer (some ⟨b1, 0, none⟩))] σ K := by
  unfold ppC at h
  simp only [vi] at h
  simp only [vp] at h1
  have hl := ops_len2 k
  rw [← opL_at] at hK
  have hop : ∀ p ∈ opsOf k, findI p.1 sgns 0 + 1 = p.2 ∧ p.2 ≠ 0 := fun p hp => ops_op hp
  generalize opsOf k = l at *
  refine PCalls.of_body (tOk Tryd.prog) (by kernel_rfl) Tryd.func106 rfl (by kernel_rfl) [] [(4, 49, [(0, []), (4, []), (1, []), (5, []), (2, []), (6, []), (3, []), (7, []), (8, []), (9, []), (10, []), (11, []), (15, []), (12, []), (16, []), (13, []), (17, []), (14, []), (18, []), (19, []), (20, []), (21, []), (22, []), (23, []), (24, []), (25, []), (29, []), (36, []), (26, []), (30, []), (27, []), (31, []), (28, []), (32, []), (33, []), (34, []), (35, []), (37, []), (38, [])])] (by kernel_rfl) (n := 60) (by kernel_rfl) (by kernel_rfl) (rs := [.tmp 2]) (by kernel_rfl) ?_
  simp (config := { maxSteps := 4000000 }) (disch := omega) only [pvK, pvB, sPp2D_106, reduceIte, Nat.reduceEqDiff, Nat.reduceAdd, Nat.reduceSub, Nat.reduceMul, Nat.reduceLT, Nat.reduceLeDiff, Nat.reduceBEq, reduceCtorEq, Int.reduceAdd, Int.reduceSub, Int.reduceMul, Int.reduceLT, Int.reduceLE, Int.reduceEq, Int.reduceToNat, Int.reduceNeg, Nat.reduceBNe, Int.reduceBEq, Int.reduceBNe, Int.reduceGT, Int.reduceGE, Int.reduceTMod, Bool.false_eq_true, Bool.not_true, Bool.not_false, forall_const, eq_self, decide_true, decide_false, h2]
  refine loop_rule (fun s => ∃ i : Nat, i ≤ l.length ∧ opL l T[a]? = opL (l.drop i) T[a]? ∧ s = ⟨60, [(0, .val (.pointer (some ⟨b2, 0, none⟩))), (1, .val (.pointer (some ⟨b1, 0, none⟩))), (5, .list kl 1 (l.map fun p => vs p.1)), (6, vi l.length), (7, vi i)], [], σ⟩) (fun s => (l.length - ival (get s.env 7)).toNat) ?_ ?_
  · exact ⟨_, less_env rfl (less_env rfl (less_env rfl (less_env rfl (less_env rfl (less_nil (.refl _)))))), 0, Nat.zero_le _, rfl, rfl⟩
  · rintro s ⟨i, hi, hf, rfl⟩ R hR
    by_cases hlt : i < l.length
    · have g1 : (l.map fun p => vs p.1)[i]? = some (vs l[i].1) := by simp [hlt]
      simp only [vs] at g1
      have hm : ((l.length : Int) - ((i + 1 : Nat) : Int)).toNat < ((l.length : Int) - (i : Int)).toNat := by omega
      cases ht : T[a]? with
      | none =>
        simp (config := { maxSteps := 4000000 }) (disch := omega) only [pvK, pvB, sPp2D_106, reduceIte, Nat.reduceEqDiff, Nat.reduceAdd, Nat.reduceSub, Nat.reduceMul, Nat.reduceLT, Nat.reduceLeDiff, Nat.reduceBEq, reduceCtorEq, Int.reduceAdd, Int.reduceSub, Int.reduceMul, Int.reduceLT, Int.reduceLE, Int.reduceEq, Int.reduceToNat, Int.reduceNeg, Nat.reduceBNe, Int.reduceBEq, Int.reduceBNe, Int.reduceGT, Int.reduceGE, Int.reduceTMod, Bool.false_eq_true, Bool.not_true, Bool.not_false, forall_const, eq_self, decide_true, decide_false, h, h1, lt_true hlt, g1, nn, pelt_some, lt_false (tok_none ht)]
        exact hR _ _ (less_env rfl (less_env rfl (less_env rfl (less_env rfl (less_env rfl (less_nil (.refl _))))))) ⟨i + 1, by omega, by rw [ht]; rfl, rfl⟩ hm
      | some t =>
        cases hk : t.kind == 3
        · simp (config := { maxSteps := 4000000 }) (disch := omega) only [pvK, pvB, sPp2D_106, reduceIte, Nat.reduceEqDiff, Nat.reduceAdd, Nat.reduceSub, Nat.reduceMul, Nat.reduceLT, Nat.reduceLeDiff, Nat.reduceBEq, reduceCtorEq, Int.reduceAdd, Int.reduceSub, Int.reduceMul, Int.reduceLT, Int.reduceLE, Int.reduceEq, Int.reduceToNat, Int.reduceNeg, Nat.reduceBNe, Int.reduceBEq, Int.reduceBNe, Int.reduceGT, Int.reduceGE, Int.reduceTMod, Bool.false_eq_true, Bool.not_true, Bool.not_false, forall_const, eq_self, decide_true, decide_false, h, h1, lt_true hlt, g1, nn, pelt_some, lt_true (tok_some ht), tok_get ht, hk]
          exact hR _ _ (less_env rfl (less_env rfl (less_env rfl (less_env rfl (less_env rfl (less_nil (.refl _))))))) ⟨i + 1, by omega, by rw [ht]; simp [opL, hk], rfl⟩ hm
        · rw [ht, opL_drop hlt t hk] at hf
          unfold eqB at hf
          cases hb : t.text.toList == l[i].1.toList
          · simp (config := { maxSteps := 4000000 }) (disch := omega) only [pvK, pvB, sPp2D_106, reduceIte, Nat.reduceEqDiff, Nat.reduceAdd, Nat.reduceSub, Nat.reduceMul, Nat.reduceLT, Nat.reduceLeDiff, Nat.reduceBEq, reduceCtorEq, Int.reduceAdd, Int.reduceSub, Int.reduceMul, Int.reduceLT, Int.reduceLE, Int.reduceEq, Int.reduceToNat, Int.reduceNeg, Nat.reduceBNe, Int.reduceBEq, Int.reduceBNe, Int.reduceGT, Int.reduceGE, Int.reduceTMod, Bool.false_eq_true, Bool.not_true, Bool.not_false, forall_const, eq_self, decide_true, decide_false, h, h1, lt_true hlt, g1, nn, pelt_some, lt_true (tok_some ht), tok_get ht, hk, hb]
            rw [hb] at hf
            exact hR _ _ (less_env rfl (less_env rfl (less_env rfl (less_env rfl (less_env rfl (less_nil (.refl _))))))) ⟨i + 1, by omega, by rw [ht, hf]; rfl, rfl⟩ hm
          · simp (config := { maxSteps := 4000000 }) (disch := omega) only [pvK, pvB, sPp2D_106, reduceIte, Nat.reduceEqDiff, Nat.reduceAdd, Nat.reduceSub, Nat.reduceMul, Nat.reduceLT, Nat.reduceLeDiff, Nat.reduceBEq, reduceCtorEq, Int.reduceAdd, Int.reduceSub, Int.reduceMul, Int.reduceLT, Int.reduceLE, Int.reduceEq, Int.reduceToNat, Int.reduceNeg, Nat.reduceBNe, Int.reduceBEq, Int.reduceBNe, Int.reduceGT, Int.reduceGE, Int.reduceTMod, Bool.false_eq_true, Bool.not_true, Bool.not_false, forall_const, eq_self, decide_true, decide_false, h, h1, lt_true hlt, g1, nn, pelt_some, lt_true (tok_some ht), tok_get ht, hk, hb]
            obtain ⟨q1, q2⟩ := hop l[i] (List.getElem_mem hlt)
            refine operator_c l[i].1 _ (hg.set _ _) _ ?_
            rw [q1]
            rw [hb] at hf
            rw [ht, hf, if_pos rfl, if_neg q2] at hK
            unfold ppC at hK
            simp only [vi] at hK
            simp (config := { maxSteps := 4000000 }) (disch := omega) only [pvK, pvB, sPp2D_106, reduceIte, Nat.reduceEqDiff, Nat.reduceAdd, Nat.reduceSub, Nat.reduceMul, Nat.reduceLT, Nat.reduceLeDiff, Nat.reduceBEq, reduceCtorEq, Int.reduceAdd, Int.reduceSub, Int.reduceMul, Int.reduceLT, Int.reduceLE, Int.reduceEq, Int.reduceToNat, Int.reduceNeg, Nat.reduceBNe, Int.reduceBEq, Int.reduceBNe, Int.reduceGT, Int.reduceGE, Int.reduceTMod, Bool.false_eq_true, Bool.not_true, Bool.not_false, forall_const, eq_self, decide_true, decide_false]
            exact ⟨_, .refl _, hK⟩
    · simp (config := { maxSteps := 4000000 }) (disch := omega) only [pvK, pvB, sPp2D_106, reduceIte, Nat.reduceEqDiff, Nat.reduceAdd, Nat.reduceSub, Nat.reduceMul, Nat.reduceLT, Nat.reduceLeDiff, Nat.reduceBEq, reduceCtorEq, Int.reduceAdd, Int.reduceSub, Int.reduceMul, Int.reduceLT, Int.reduceLE, Int.reduceEq, Int.reduceToNat, Int.reduceNeg, Nat.reduceBNe, Int.reduceBEq, Int.reduceBNe, Int.reduceGT, Int.reduceGE, Int.reduceTMod, Bool.false_eq_true, Bool.not_true, Bool.not_false, forall_const, eq_self, decide_true, decide_false, lt_false (Nat.le_of_not_lt hlt)]
      refine ⟨σ, .refl _, ?_⟩
      have e0 : opL (l.drop i) T[a]? = 0 := by
        rw [List.drop_eq_nil_of_le (by omega)]
        cases T[a]? with
        | none => rfl
        | some t => simp [opL, opIn]
      rw [hf, e0, if_pos rfl] at hK
      exact hK
end Go.Pv.D
-- Px3
namespace Go.Pv
open Go Go.RowKit
theorem mDeep_pos1 {free : Bool} {x e : AE} {q p : Nat} (h : mDeep free x q = .ok (e, p)) : e = x ∧ p = q := by
  unfold mDeep at h
  split at h <;> cases h
  exact ⟨rfl, rfl⟩
theorem dE_pos2 (e : AE) : 1 ≤ dE e := by cases e; simp only [dE]; omega
/-- An expression is no deeper than it has tokens. -/
theorem m_deep1 (g : Nat → Option Tk) (fr : Bool) : ∀ f,
    (∀ k a e p, mL g fr f k a = .ok (e, p) → a + dE e ≤ p) ∧
    (∀ k x a e p, mR g fr f k x a = .ok (e, p) → ∀ a0, a0 + dE x ≤ a → a0 + dE e ≤ p) ∧
    (∀ a e p, mF g fr f a = .ok (e, p) → a + dE e ≤ p) := by
  intro f
  induction f with
  | zero => refine ⟨?_, ?_, ?_⟩ <;> intros <;> simp_all [mL, mR, mF]
  | succ f ih =>
    obtain ⟨i1, i2, i3⟩ := ih
    refine ⟨?_, ?_, ?_⟩
    · intro k a e p h
      rw [mL_s] at h
      split at h
      · exact i3 _ _ _ h
      · split at h
        · cases h
        · rename_i x q hq
          exact i2 _ _ _ _ _ h a (i1 _ _ _ _ hq)
    · intro k x a e p h a0 h0
      rw [mR_s] at h
      split at h
      · cases h; exact h0
      · split at h
        · cases h
        · rename_i y q hq
          have hy := i1 _ _ _ _ hq
          have := dE_pos2 y
          split at h
          · cases h
          · rename_i z q' hz
            obtain ⟨rfl, rfl⟩ := mDeep_pos1 hz
            have hz : a0 + dE (binE (opAt k (g a)) x y) ≤ q' := by simp only [binE, dE, dEs]; omega
            split at h
            · cases h; exact hz
            · exact i2 _ _ _ _ _ h a0 hz
    · intro a e p h
      rw [mF] at h
      split at h
      · cases h; simp [numE, dE, dEs]
      · split at h
        · split at h
          · cases h; simp only [numE, dE, dEs]; omega
          · split at h
            · cases h
            · rename_i x q hx
              obtain ⟨rfl, rfl⟩ := mDeep_pos1 h
              have := i3 _ _ _ hx
              have := dE_pos2 x
              simp only [binE, numE, dE, dEs]; omega
        · split at h
          · split at h
            · split at h
              · cases h
              · rename_i x q hx
                split at h
                · obtain ⟨rfl, rfl⟩ := mDeep_pos1 h
                  have := i1 _ _ _ _ hx
                  simp only [indexE, dE, dEs]; omega
                · cases h
            · cases h; simp [nameE, dE, dEs]
          · split at h
            · split at h
              · cases h
              · rename_i x q hx
                split at h
                · cases h
                  have := i1 _ _ _ _ hx
                  omega
                · cases h
            · cases h
end Go.Pv
-- Pp3D
namespace Go.Pv.D
open Go Go.RowKit Go.Proofs Go.Pv
def sPp3D_132 := (And.intro (And.intro (And.intro (And.intro @q_fld_80_2 (And.intro @q_fld_83_1 @q_fld_80_1)) (And.intro (And.intro @q_fld_80_0 @q_slz_0) (And.intro @q_tsz_3 @q_slz_3))) (And.intro (And.intro (And.intro @q_ifc_3 @q_tsz_4) (And.intro @q_slz_4 @q_ifc_4)) (And.intro (And.intro @q_isb_4 @q_tsz_9) (And.intro @q_slz_9 @q_str_9)))) (And.intro (And.intro (And.intro (And.intro @q_arz_9 @q_ifc_9) (And.intro @q_tsz_27 @q_slz_27)) (And.intro (And.intro @q_ifc_27 @q_tsz_80) (And.intro @q_slz_80 @q_ifc_80))) (And.intro (And.intro (And.intro @q_tsz_81 @q_slz_81) (And.intro @q_ifc_81 @q_tsz_83)) (And.intro (And.intro @q_slz_83 @q_ifc_83) (And.intro @q_zcs_80 @q_bld_80)))))
theorem sub_mono {τ σ : St} (h : τ.sub σ) (b : Nat) (o : Ob) : (τ.set b o).sub (σ.set b o) := by
  refine ⟨fun x o' e => ?_, h.own, h.gl⟩
  simp only [St.set] at e ⊢
  split at e
  · rename_i q; rw [if_pos q]; exact e
  · rename_i q; rw [if_neg q]; exact h.obj x o' e
theorem sub_new {τ σ : St} (h : τ.sub σ) (b : Nat) (o : Ob) (hb : τ.obj b = none) : τ.sub (σ.set b o) := by
  refine ⟨fun x o' e => ?_, h.own, h.gl⟩
  simp only [St.set]
  rw [if_neg]
  · exact h.obj x o' e
  · rintro rfl; rw [hb] at e; cases e
theorem obj_other {σ : St} {b b' : Nat} {o : Ob} (h : b' ≠ b) : (σ.set b o).obj b' = σ.obj b' := by simp [St.set, h]
theorem pick_c (b b1 b2 : Nat) (kt kl : Cap) (T : List Tk) (a k : Nat) (ha : a < 1000000) (σ : St) (hg : GlOK σ) (h : σ.obj b = some (.cells (ppC kt T a))) (q1 : σ.obj b1 = none) (q2 : b1 ≠ b2) (q3 : σ.obj b2 = none) (K : Res → St → Prop)
    (hK : K (.ret (vi (opAt k T[a]?))) (if opAt k T[a]? = 0 then σ else σ.set b (.cells (ppC kt T (a + 1))))) : PCalls Tryd.prog 106 [.val (.pointer (some ⟨b2, 0, none⟩)), .val (.pointer (some ⟨b1, 0, none⟩))] ((σ.set b1 (.cells [vp b 0])).set b2 (.cells [.list kl 1 ((opsOf k).map fun p => vs p.1)])) K := by
  have n1 : b ≠ b1 := by rintro rfl; rw [q1] at h; cases h
  have n2 : b ≠ b2 := by rintro rfl; rw [q3] at h; cases h
  have s1 : σ.sub ((σ.set b1 (.cells [vp b 0])).set b2 (.cells [.list kl 1 ((opsOf k).map fun p => vs p.1)])) := sub_new (sub_new (.refl _) _ _ q1) _ _ q3
  refine PCalls.sub ?_
  refine pone1_c b b1 b2 kt kl T a k ha _ ((hg.set _ _).set _ _) ?_ ?_ (obj_set _ _ _) _ ?_
  · rw [obj_other n2, obj_other n1]; exact h
  · rw [obj_other q2]; exact obj_set _ _ _
  · by_cases z : opAt k T[a]? = 0
    · rw [if_pos z] at hK ⊢
      exact ⟨σ, s1, hK⟩
    · rw [if_neg z] at hK ⊢
      exact ⟨_, sub_mono s1 _ _, hK⟩
/-- A beginning that is an expression, if there is one. -/
def pvPre : Option (AE × Nat) → PV
  | none => .agg [vi 0, vi 0, vs ⟨#[]⟩, vi 0, .list .any 5 [], vi 0, vb' false]
  | some (.mk k m s o l, n) => .agg [vi k, vi m, vs s, vi o, .list .any 5 (pvEs l), vi n, vb' true]
theorem forget_pre (x : Option (AE × Nat)) : forget (pvPre x) = pvPre x := by
  match x with
  | none => rfl
  | some (.mk k m s o l, n) => simp only [pvPre, forget, forgets, forgets_Es]
def LgC (kt : Cap) (T : List Tk) (b f : Nat) : Prop := ∀ (a a0 : Nat) (σ : St) (K : Res → St → Prop), GlOK σ → a ≤ T.length → 5 * (T.length - a) + 5 ≤ f → a0 ≤ T.length → σ.obj b = some (.cells (ppC kt T a0)) → (∀ a', a' ≤ T.length → K (.ret (pvPre (sL (fun i => T[i]?) f 0 a))) (σ.set b (.cells (ppC kt T a')))) → PCalls Tryd.prog 43 [vp b 0, vi a] σ K
def LnC (kt : Cap) (T : List Tk) (b f : Nat) : Prop := ∀ (k a a0 : Nat) (σ : St) (K : Res → St → Prop), k < 3 → GlOK σ → a ≤ T.length → 5 * (T.length - a) + (2 - k) + 2 ≤ f → a0 ≤ T.length → σ.obj b = some (.cells (ppC kt T a0)) → (∀ a', a' ≤ T.length → K (.ret (pvPre (sL (fun i => T[i]?) f (k + 1) a))) (σ.set b (.cells (ppC kt T a')))) → PCalls Tryd.prog 68 [vp b 0, vi a, vi k] σ K
def ShC (kt : Cap) (T : List Tk) (b f : Nat) : Prop := ∀ (a a0 : Nat) (σ : St) (K : Res → St → Prop), GlOK σ → a ≤ T.length → 5 * (T.length - a) + 1 ≤ f → σ.obj b = some (.cells (ppC kt T a0)) → (∀ a', a' ≤ T.length → K (.ret (pvPre (sF (fun i => T[i]?) f a))) (σ.set b (.cells (ppC kt T a')))) → PCalls Tryd.prog 105 [vp b 0, vi a] σ K
/-- In brackets. -/
def innM (g : Nat → Option Tk) (f a : Nat) (w : ByteArray) : Option (AE × Nat) := match sL g f 0 a with
  | none => none
  | some (x, p) => if tW (g p) w = true then some (x, p + 1) else none
theorem s_le {T : List Tk} {f k a m : Nat} {e : AE} (h : sL (fun i => T[i]?) f k a = some (e, m)) : a < m ∧ m ≤ T.length ∧ a + dE e ≤ m := by
  have h1 := (s_sound _ f).1 _ _ _ _ h
  have h2 := (m_go _ _ f).1 _ _ _ _ h1
  refine ⟨h2.1, ?_, (m_deep1 _ _ f).1 _ _ _ _ h1⟩
  have := h2.2 (m - 1) (by omega) (by omega)
  rw [lim_lt (by omega)] at this
  rcases Nat.lt_or_ge (m - 1) T.length with q | q
  · omega
  · exact absurd (List.getElem?_eq_none q) this
set_option maxHeartbeats 8000000 in
set_option maxRecDepth 100000 in
theorem inner_c (kt : Cap) (T : List Tk) (b f : Nat) (hT : T.length < 1000000) (ih : LgC kt T b f) (a a0 : Nat) (w : ByteArray) (σ : St) (hg : GlOK σ) (ha : a ≤ T.length) (hf : 5 * (T.length - a) + 5 ≤ f) (ha0 : a0 ≤ T.length) (h : σ.obj b = some (.cells (ppC kt T a0))) (K : Res → St → Prop)
    (hK : ∀ a', a' ≤ T.length → K (.ret (pvPre (innM (fun i => T[i]?) f a w))) (σ.set b (.cells (ppC kt T a')))) : PCalls Tryd.prog 132 [vp b 0, vi a, vs w] σ K := by
  refine PCalls.forgetR ?_
  refine PCalls.of_body (tOk Tryd.prog) (by kernel_rfl) Tryd.func132 rfl (by kernel_rfl) [] [(5, 32, [(0, []), (2, []), (1, []), (3, []), (4, []), (5, []), (6, []), (7, [])])] (by kernel_rfl) (n := 33) (by kernel_rfl) (by kernel_rfl) (rs := [.cell 6 80]) (by kernel_rfl) ?_
  simp (config := { maxSteps := 4000000 }) (disch := omega) only [pvK, pvB, sPp3D_132, reduceIte, Nat.reduceEqDiff, Nat.reduceAdd, Nat.reduceSub, Nat.reduceMul, Nat.reduceLT, Nat.reduceLeDiff, Nat.reduceBEq, reduceCtorEq, Int.reduceAdd, Int.reduceSub, Int.reduceMul, Int.reduceLT, Int.reduceLE, Int.reduceEq, Int.reduceToNat, Int.reduceNeg, Nat.reduceBNe, Int.reduceBEq, Int.reduceBNe, Int.reduceGT, Int.reduceGE, Int.reduceTMod, Bool.false_eq_true, Bool.not_true, Bool.not_false, forall_const, eq_self, decide_true, decide_false, ppC]
  refine ih a a0 σ _ hg ha hf ha0 h fun a1 ha1 => ?_
  unfold innM at hK
  cases hm : sL (fun i => T[i]?) f 0 a with
  | none =>
    rw [hm] at hK
    simp (config := { maxSteps := 4000000 }) (disch := omega) only [pvK, pvB, sPp3D_132, reduceIte, Nat.reduceEqDiff, Nat.reduceAdd, Nat.reduceSub, Nat.reduceMul, Nat.reduceLT, Nat.reduceLeDiff, Nat.reduceBEq, reduceCtorEq, Int.reduceAdd, Int.reduceSub, Int.reduceMul, Int.reduceLT, Int.reduceLE, Int.reduceEq, Int.reduceToNat, Int.reduceNeg, Nat.reduceBNe, Int.reduceBEq, Int.reduceBNe, Int.reduceGT, Int.reduceGE, Int.reduceTMod, Bool.false_eq_true, Bool.not_true, Bool.not_false, forall_const, eq_self, decide_true, decide_false, ppC, pvPre]
    refine ⟨_, .refl _, ?_⟩
    have hh := hK 0 (Nat.zero_le _)
    simp only [Res.forget, forget, forgets, pvPre, ppC, vi, vs, vb', cast_0] at hh ⊢
    exact hh
  | some xp =>
    obtain ⟨x, p⟩ := xp
    have hp := s_le hm
    rw [hm] at hK
    simp only at hK
    obtain ⟨x1, x2, x3, x4, x5⟩ := x
    simp (config := { maxSteps := 4000000 }) (disch := omega) only [pvK, pvB, sPp3D_132, reduceIte, Nat.reduceEqDiff, Nat.reduceAdd, Nat.reduceSub, Nat.reduceMul, Nat.reduceLT, Nat.reduceLeDiff, Nat.reduceBEq, reduceCtorEq, Int.reduceAdd, Int.reduceSub, Int.reduceMul, Int.reduceLT, Int.reduceLE, Int.reduceEq, Int.reduceToNat, Int.reduceNeg, Nat.reduceBNe, Int.reduceBEq, Int.reduceBNe, Int.reduceGT, Int.reduceGE, Int.reduceTMod, Bool.false_eq_true, Bool.not_true, Bool.not_false, forall_const, eq_self, decide_true, decide_false, ppC, pvPre]
    refine phas_c b kt T p w (by omega) _ (obj_set _ _ _) _ ?_
    cases hw : tW T[p]? w
    · rw [hw] at hK
      simp (config := { maxSteps := 4000000 }) (disch := omega) only [pvK, pvB, sPp3D_132, reduceIte, Nat.reduceEqDiff, Nat.reduceAdd, Nat.reduceSub, Nat.reduceMul, Nat.reduceLT, Nat.reduceLeDiff, Nat.reduceBEq, reduceCtorEq, Int.reduceAdd, Int.reduceSub, Int.reduceMul, Int.reduceLT, Int.reduceLE, Int.reduceEq, Int.reduceToNat, Int.reduceNeg, Nat.reduceBNe, Int.reduceBEq, Int.reduceBNe, Int.reduceGT, Int.reduceGE, Int.reduceTMod, Bool.false_eq_true, Bool.not_true, Bool.not_false, forall_const, eq_self, decide_true, decide_false, ppC]
      refine ⟨_, .refl _, ?_⟩
      have hh := hK p hp.2.1
      simp only [if_false, Bool.false_eq_true, Res.forget, forget, forgets, pvPre, ppC, vi, vs, vb'] at hh ⊢
      exact hh
    · have hpl : p < T.length := by
        cases q : T[p]? with
        | none => rw [q] at hw; cases hw
        | some u => exact tok_some q
      rw [hw] at hK
      simp (config := { maxSteps := 4000000 }) (disch := omega) only [pvK, pvB, sPp3D_132, reduceIte, Nat.reduceEqDiff, Nat.reduceAdd, Nat.reduceSub, Nat.reduceMul, Nat.reduceLT, Nat.reduceLeDiff, Nat.reduceBEq, reduceCtorEq, Int.reduceAdd, Int.reduceSub, Int.reduceMul, Int.reduceLT, Int.reduceLE, Int.reduceEq, Int.reduceToNat, Int.reduceNeg, Nat.reduceBNe, Int.reduceBEq, Int.reduceBNe, Int.reduceGT, Int.reduceGE, Int.reduceTMod, Bool.false_eq_true, Bool.not_true, Bool.not_false, forall_const, eq_self, decide_true, decide_false, ppC]
      refine ⟨_, .refl _, ?_⟩
      have hh := hK (p + 1) hpl
      simp only [if_true, Res.forget, forget, forgets, pvPre, ppC, vi, vs, vb', forgets_Es] at hh ⊢
      exact hh
end Go.Pv.D
-- Pp4D
namespace Go.Pv.D
open Go Go.RowKit Go.Proofs Go.Pv
def sPp4D_68 := (And.intro (And.intro (And.intro (And.intro (And.intro @q_fld_80_1 @q_fld_83_1) (And.intro @q_fld_80_2 @q_fld_80_0)) (And.intro (And.intro @q_slz_0 @q_tsz_3) (And.intro @q_slz_3 (And.intro @q_ifc_3 @q_tsz_4)))) (And.intro (And.intro (And.intro @q_slz_4 @q_ifc_4) (And.intro @q_isb_4 (And.intro @q_tsz_27 @q_slz_27))) (And.intro (And.intro @q_ifc_27 @q_tsz_36) (And.intro @q_slz_36 (And.intro @q_str_36 @q_arz_36))))) (And.intro (And.intro (And.intro (And.intro @q_ifc_36 @q_tsz_80) (And.intro @q_slz_80 (And.intro @q_ifc_80 @q_tsz_81))) (And.intro (And.intro @q_slz_81 @q_ifc_81) (And.intro @q_tsz_83 (And.intro @q_slz_83 @q_ifc_83)))) (And.intro (And.intro (And.intro @q_tsz_113 @q_slz_113) (And.intro @q_ifc_113 (And.intro @q_tsz_142 @q_slz_142))) (And.intro (And.intro @q_str_142 @q_arz_142) (And.intro @q_ifc_142 (And.intro @q_zcs_80 @q_bld_80))))))
theorem nz_o {o : Int} (h : o ≠ 0) : (o != 0) = true := by simp [h]
theorem z_o {o : Int} (h : o ≠ 0) : (o == 0) = false := by simp [h]
set_option maxHeartbeats 16000000 in
set_option maxRecDepth 100000 in
theorem longer_of (kt : Cap) (T : List Tk) (b f : Nat) (hT : T.length < 1000000) (hf0 : f < 10000000) (ihN : ∀ f', f' ≤ f → LnC kt T b f') (ihS : ShC kt T b f) : LnC kt T b (f + 1) := by
  intro k a a0 σ K hk hg ha hf ha0 h hK
  have h00 := h
  unfold ppC at h
  simp only [vi] at h
  rw [sL_s] at hK
  refine PCalls.forgetR ?_
  refine PCalls.of_body (tOk Tryd.prog) (by kernel_rfl) Tryd.func68 rfl (by kernel_rfl) [] [(10, 54, [(0, []), (1, []), (3, []), (6, []), (2, []), (4, []), (7, []), (5, [7]), (8, []), (9, [])])] (by kernel_rfl) (n := 56) (by kernel_rfl) (by kernel_rfl) (rs := [.cell 6 80]) (by kernel_rfl) ?_
  by_cases hk2 : k = 2
  · subst hk2
    rw [if_pos (by omega)] at hK
    simp (config := { maxSteps := 4000000 }) (disch := omega) only [pvK, pvB, sPp4D_68, reduceIte, Nat.reduceEqDiff, Nat.reduceAdd, Nat.reduceSub, Nat.reduceMul, Nat.reduceLT, Nat.reduceLeDiff, Nat.reduceBEq, reduceCtorEq, Int.reduceAdd, Int.reduceSub, Int.reduceMul, Int.reduceLT, Int.reduceLE, Int.reduceEq, Int.reduceToNat, Int.reduceNeg, Nat.reduceBNe, Int.reduceBEq, Int.reduceBNe, Int.reduceGT, Int.reduceGE, Int.reduceTMod, Bool.false_eq_true, Bool.not_true, Bool.not_false, forall_const, eq_self, decide_true, decide_false, ppC, cast_2]
    refine ihS a a0 σ _ hg ha (by omega) h00 fun a1 ha1 => ?_
    have hh := hK a1 ha1
    have fp := forget_pre (sF (fun i => T[i]?) f a)
    cases hm : sF (fun i => T[i]?) f a with
    | none =>
      rw [hm] at hh
      simp (config := { maxSteps := 4000000 }) (disch := omega) only [pvK, pvB, sPp4D_68, reduceIte, Nat.reduceEqDiff, Nat.reduceAdd, Nat.reduceSub, Nat.reduceMul, Nat.reduceLT, Nat.reduceLeDiff, Nat.reduceBEq, reduceCtorEq, Int.reduceAdd, Int.reduceSub, Int.reduceMul, Int.reduceLT, Int.reduceLE, Int.reduceEq, Int.reduceToNat, Int.reduceNeg, Nat.reduceBNe, Int.reduceBEq, Int.reduceBNe, Int.reduceGT, Int.reduceGE, Int.reduceTMod, Bool.false_eq_true, Bool.not_true, Bool.not_false, forall_const, eq_self, decide_true, decide_false, ppC, pvPre]
      refine ⟨_, .refl _, ?_⟩
      skip
      simp only [Res.forget, forget, forgets, pvPre, ppC, pvE, pvEs, binE, numE, nameE, indexE, vi, vs, vb', forgets_Es] at hh ⊢
      exact hh
    | some xp =>
      obtain ⟨⟨x1, x2, x3, x4, x5⟩, p⟩ := xp
      rw [hm] at hh
      simp (config := { maxSteps := 4000000 }) (disch := omega) only [pvK, pvB, sPp4D_68, reduceIte, Nat.reduceEqDiff, Nat.reduceAdd, Nat.reduceSub, Nat.reduceMul, Nat.reduceLT, Nat.reduceLeDiff, Nat.reduceBEq, reduceCtorEq, Int.reduceAdd, Int.reduceSub, Int.reduceMul, Int.reduceLT, Int.reduceLE, Int.reduceEq, Int.reduceToNat, Int.reduceNeg, Nat.reduceBNe, Int.reduceBEq, Int.reduceBNe, Int.reduceGT, Int.reduceGE, Int.reduceTMod, Bool.false_eq_true, Bool.not_true, Bool.not_false, forall_const, eq_self, decide_true, decide_false, ppC, pvPre]
      refine ⟨_, .refl _, ?_⟩
      skip
      simp only [Res.forget, forget, forgets, pvPre, ppC, pvE, pvEs, binE, numE, nameE, indexE, vi, vs, vb', forgets_Es] at hh ⊢
      exact hh
  · rw [if_neg (by omega)] at hK
    have hkc : ((k : Int) == 2) = false := by simp; omega
    have e1 : ((k : Int) + 1) = ((k + 1 : Nat) : Int) := by omega
    simp (config := { maxSteps := 4000000 }) (disch := omega) only [pvK, pvB, sPp4D_68, reduceIte, Nat.reduceEqDiff, Nat.reduceAdd, Nat.reduceSub, Nat.reduceMul, Nat.reduceLT, Nat.reduceLeDiff, Nat.reduceBEq, reduceCtorEq, Int.reduceAdd, Int.reduceSub, Int.reduceMul, Int.reduceLT, Int.reduceLE, Int.reduceEq, Int.reduceToNat, Int.reduceNeg, Nat.reduceBNe, Int.reduceBEq, Int.reduceBNe, Int.reduceGT, Int.reduceGE, Int.reduceTMod, Bool.false_eq_true, Bool.not_true, Bool.not_false, forall_const, eq_self, decide_true, decide_false, ppC, hkc, e1]
    refine ihN f (Nat.le_refl _) (k + 1) a a0 σ _ (by omega) hg ha (by omega) ha0 h00 fun a1 ha1 => ?_
    cases hm : sL (fun i => T[i]?) f (k + 1 + 1) a with
    | none =>
      rw [hm] at hK
      simp (config := { maxSteps := 4000000 }) (disch := omega) only [pvK, pvB, sPp4D_68, reduceIte, Nat.reduceEqDiff, Nat.reduceAdd, Nat.reduceSub, Nat.reduceMul, Nat.reduceLT, Nat.reduceLeDiff, Nat.reduceBEq, reduceCtorEq, Int.reduceAdd, Int.reduceSub, Int.reduceMul, Int.reduceLT, Int.reduceLE, Int.reduceEq, Int.reduceToNat, Int.reduceNeg, Nat.reduceBNe, Int.reduceBEq, Int.reduceBNe, Int.reduceGT, Int.reduceGE, Int.reduceTMod, Bool.false_eq_true, Bool.not_true, Bool.not_false, forall_const, eq_self, decide_true, decide_false, ppC, pvPre]
      refine loop_rule (fun s => s = ⟨56, [(0, vp b 0), (2, vi k), (6, .lptr 6 0), (7, .lptr 7 0)], [(6, [vi 0, vi 0, vs ⟨#[]⟩, vi 0, .list .full 5 [], vi 0, vb' false]), (7, [vi 0, vi 0, vs ⟨#[]⟩, vi 0, .list .any 5 [], vi 0, vb' false])], σ.set b (.cells (ppC kt T a1))⟩) (fun _ => 0) ?_ ?_
      · exact ⟨_, less_env rfl (less_env rfl (less_env rfl (less_env rfl (less_loc rfl (less_loc rfl (less_nil (.refl _))))))), rfl⟩
      · rintro s rfl R hR
        simp (config := { maxSteps := 4000000 }) (disch := omega) only [pvK, pvB, sPp4D_68, reduceIte, Nat.reduceEqDiff, Nat.reduceAdd, Nat.reduceSub, Nat.reduceMul, Nat.reduceLT, Nat.reduceLeDiff, Nat.reduceBEq, reduceCtorEq, Int.reduceAdd, Int.reduceSub, Int.reduceMul, Int.reduceLT, Int.reduceLE, Int.reduceEq, Int.reduceToNat, Int.reduceNeg, Nat.reduceBNe, Int.reduceBEq, Int.reduceBNe, Int.reduceGT, Int.reduceGE, Int.reduceTMod, Bool.false_eq_true, Bool.not_true, Bool.not_false, forall_const, eq_self, decide_true, decide_false, ppC]
        refine ⟨_, .refl _, ?_⟩
        have hh := hK a1 ha1
        simp only [Res.forget, forget, forgets, pvPre, ppC, pvE, pvEs, binE, numE, nameE, indexE, vi, vs, vb', forgets_Es] at hh ⊢
        exact hh
    | some xp =>
      obtain ⟨x, p⟩ := xp
      have hp := s_le hm
      rw [hm] at hK
      simp only at hK
      obtain ⟨x1, x2, x3, x4, x5⟩ := x
      simp (config := { maxSteps := 4000000 }) (disch := omega) only [pvK, pvB, sPp4D_68, reduceIte, Nat.reduceEqDiff, Nat.reduceAdd, Nat.reduceSub, Nat.reduceMul, Nat.reduceLT, Nat.reduceLeDiff, Nat.reduceBEq, reduceCtorEq, Int.reduceAdd, Int.reduceSub, Int.reduceMul, Int.reduceLT, Int.reduceLE, Int.reduceEq, Int.reduceToNat, Int.reduceNeg, Nat.reduceBNe, Int.reduceBEq, Int.reduceBNe, Int.reduceGT, Int.reduceGE, Int.reduceTMod, Bool.false_eq_true, Bool.not_true, Bool.not_false, forall_const, eq_self, decide_true, decide_false, ppC, pvPre]
      refine loop_rule (fun s => ∃ (cx : Cap) (x1 x2 : Int) (x3 : ByteArray) (x4 : Int) (x5 : List AE) (p a1 f' : Nat), p ≤ T.length ∧ a1 ≤ T.length ∧ f' ≤ f ∧ 5 * (T.length - p) + (2 - k) + 2 ≤ f' ∧ (∀ a', a' ≤ T.length → K (.ret (pvPre (some (sR (fun i => T[i]?) f' (k + 1) (.mk x1 x2 x3 x4 x5) p)))) (σ.set b (.cells (ppC kt T a')))) ∧
        s = ⟨56, [(0, vp b 0), (2, vi k), (6, .lptr 6 0), (7, .lptr 7 0)], [(6, [vi 0, vi 0, vs ⟨#[]⟩, vi 0, .list .full 5 [], vi 0, vb' false]), (7, [vi x1, vi x2, vs x3, vi x4, .list cx 5 (pvEs x5), vi p, vb' true])], σ.set b (.cells (ppC kt T a1))⟩) (fun s => match getL s.loc 7 with | some [_, _, _, _, _, .val (.int _ i), _] => T.length + 1 - i.toNat | _ => 0) ?_ ?_
      · exact ⟨_, less_env rfl (less_env rfl (less_env rfl (less_env rfl (less_loc rfl (less_loc rfl (less_nil (.refl _))))))), .any, x1, x2, x3, x4, x5, p, a1, f, hp.2.1, ha1, Nat.le_refl _, by omega, hK, rfl⟩
      · clear hp hm hK
        rintro s ⟨cx, x1, x2, x3, x4, x5, p, a1, f', hp, ha1, hff, hme, hK, rfl⟩ R hR
        obtain ⟨f'', rfl⟩ : ∃ f'', f' = f'' + 1 := ⟨f' - 1, by omega⟩
        rw [sR_s] at hK
        have gl := hg.lines
        have hk0 : ((k : Int) < 2) = True := eq_true (by omega)
        have hdr : ([PV.list .any 1 ((opsOf 1).map fun p => vs p.1), .list .any 1 ((opsOf 2).map fun p => vs p.1)].drop (k * 1))[0]? = some (.list .any 1 ((opsOf (k + 1)).map fun p => vs p.1)) := by
          have : k = 0 ∨ k = 1 := by omega
          rcases this with rfl | rfl <;> rfl
        simp only [vs] at hdr gl
        simp (config := { maxSteps := 4000000 }) (disch := omega) only [pvK, pvB, sPp4D_68, reduceIte, Nat.reduceEqDiff, Nat.reduceAdd, Nat.reduceSub, Nat.reduceMul, Nat.reduceLT, Nat.reduceLeDiff, Nat.reduceBEq, reduceCtorEq, Int.reduceAdd, Int.reduceSub, Int.reduceMul, Int.reduceLT, Int.reduceLE, Int.reduceEq, Int.reduceToNat, Int.reduceNeg, Nat.reduceBNe, Int.reduceBEq, Int.reduceBNe, Int.reduceGT, Int.reduceGE, Int.reduceTMod, Bool.false_eq_true, Bool.not_true, Bool.not_false, forall_const, eq_self, decide_true, decide_false, ppC, gl, hk0, nn, hdr, σset_gl, cast_2]
        refine pone_c b .any (opsOf (k + 1)) _ _ fun b1 b2 q1 q2 q3 => ?_
        simp (config := { maxSteps := 4000000 }) (disch := omega) only [pvK, pvB, sPp4D_68, reduceIte, Nat.reduceEqDiff, Nat.reduceAdd, Nat.reduceSub, Nat.reduceMul, Nat.reduceLT, Nat.reduceLeDiff, Nat.reduceBEq, reduceCtorEq, Int.reduceAdd, Int.reduceSub, Int.reduceMul, Int.reduceLT, Int.reduceLE, Int.reduceEq, Int.reduceToNat, Int.reduceNeg, Nat.reduceBNe, Int.reduceBEq, Int.reduceBNe, Int.reduceGT, Int.reduceGE, Int.reduceTMod, Bool.false_eq_true, Bool.not_true, Bool.not_false, forall_const, eq_self, decide_true, decide_false, ppC]
        refine pick_c b b1 b2 kt .any T p (k + 1) (by omega) _ (hg.set _ _) (obj_set _ _ _) q1 q2 q3 _ ?_
        by_cases ho : opAt (k + 1) T[p]? = 0
        · rw [if_pos ho]
          rw [if_pos ho] at hK
          simp (config := { maxSteps := 4000000 }) (disch := omega) only [pvK, pvB, sPp4D_68, reduceIte, Nat.reduceEqDiff, Nat.reduceAdd, Nat.reduceSub, Nat.reduceMul, Nat.reduceLT, Nat.reduceLeDiff, Nat.reduceBEq, reduceCtorEq, Int.reduceAdd, Int.reduceSub, Int.reduceMul, Int.reduceLT, Int.reduceLE, Int.reduceEq, Int.reduceToNat, Int.reduceNeg, Nat.reduceBNe, Int.reduceBEq, Int.reduceBNe, Int.reduceGT, Int.reduceGE, Int.reduceTMod, Bool.false_eq_true, Bool.not_true, Bool.not_false, forall_const, eq_self, decide_true, decide_false, ppC, ho]
          refine ⟨_, .refl _, ?_⟩
          have hh := hK p hp
          simp only [Res.forget, forget, forgets, pvPre, ppC, pvE, pvEs, binE, numE, nameE, indexE, vi, vs, vb', forgets_Es] at hh ⊢
          exact hh
        · rw [if_neg ho]
          rw [if_neg ho] at hK
          have hpl : p < T.length := by
            cases q : T[p]? with
            | none => rw [q] at ho; exact absurd rfl ho
            | some u => exact tok_some q
          simp (config := { maxSteps := 4000000 }) (disch := omega) only [pvK, pvB, sPp4D_68, reduceIte, Nat.reduceEqDiff, Nat.reduceAdd, Nat.reduceSub, Nat.reduceMul, Nat.reduceLT, Nat.reduceLeDiff, Nat.reduceBEq, reduceCtorEq, Int.reduceAdd, Int.reduceSub, Int.reduceMul, Int.reduceLT, Int.reduceLE, Int.reduceEq, Int.reduceToNat, Int.reduceNeg, Nat.reduceBNe, Int.reduceBEq, Int.reduceBNe, Int.reduceGT, Int.reduceGE, Int.reduceTMod, Bool.false_eq_true, Bool.not_true, Bool.not_false, forall_const, eq_self, decide_true, decide_false, ppC, z_o ho, e1]
          refine ihN f'' (by omega) (k + 1) (p + 1) (p + 1) _ _ (by omega) (hg.set _ _) (by omega) (by omega) (by omega) (obj_set _ _ _) fun a2 ha2 => ?_
          cases hy : sL (fun i => T[i]?) f'' (k + 1 + 1) (p + 1) with
          | none =>
            rw [hy] at hK
            simp (config := { maxSteps := 4000000 }) (disch := omega) only [pvK, pvB, sPp4D_68, reduceIte, Nat.reduceEqDiff, Nat.reduceAdd, Nat.reduceSub, Nat.reduceMul, Nat.reduceLT, Nat.reduceLeDiff, Nat.reduceBEq, reduceCtorEq, Int.reduceAdd, Int.reduceSub, Int.reduceMul, Int.reduceLT, Int.reduceLE, Int.reduceEq, Int.reduceToNat, Int.reduceNeg, Nat.reduceBNe, Int.reduceBEq, Int.reduceBNe, Int.reduceGT, Int.reduceGE, Int.reduceTMod, Bool.false_eq_true, Bool.not_true, Bool.not_false, forall_const, eq_self, decide_true, decide_false, ppC, pvPre]
            refine ⟨_, .refl _, ?_⟩
            have hh := hK a2 ha2
            simp only [Res.forget, forget, forgets, pvPre, ppC, pvE, pvEs, binE, numE, nameE, indexE, vi, vs, vb', forgets_Es] at hh ⊢
            exact hh
          | some yq =>
            obtain ⟨y, q⟩ := yq
            have hq := s_le hy
            rw [hy] at hK
            simp only [if_neg (show ¬ k + 1 = 0 by omega)] at hK
            obtain ⟨y1, y2, y3, y4, y5⟩ := y
            simp (config := { maxSteps := 4000000 }) (disch := omega) only [pvK, pvB, sPp4D_68, reduceIte, Nat.reduceEqDiff, Nat.reduceAdd, Nat.reduceSub, Nat.reduceMul, Nat.reduceLT, Nat.reduceLeDiff, Nat.reduceBEq, reduceCtorEq, Int.reduceAdd, Int.reduceSub, Int.reduceMul, Int.reduceLT, Int.reduceLE, Int.reduceEq, Int.reduceToNat, Int.reduceNeg, Nat.reduceBNe, Int.reduceBEq, Int.reduceBNe, Int.reduceGT, Int.reduceGE, Int.reduceTMod, Bool.false_eq_true, Bool.not_true, Bool.not_false, forall_const, eq_self, decide_true, decide_false, ppC, pvPre]
            refine PCalls.forget ?_
            simp only [forgets, forget, forgets_Es]
            refine binary_c (opAt (k + 1) T[p]?) (.mk x1 x2 x3 x4 x5) (.mk y1 y2 y3 y4 y5) _ _ ?_
            unfold binE
            simp (config := { maxSteps := 4000000 }) (disch := omega) only [pvK, pvB, sPp4D_68, reduceIte, Nat.reduceEqDiff, Nat.reduceAdd, Nat.reduceSub, Nat.reduceMul, Nat.reduceLT, Nat.reduceLeDiff, Nat.reduceBEq, reduceCtorEq, Int.reduceAdd, Int.reduceSub, Int.reduceMul, Int.reduceLT, Int.reduceLE, Int.reduceEq, Int.reduceToNat, Int.reduceNeg, Nat.reduceBNe, Int.reduceBEq, Int.reduceBNe, Int.reduceGT, Int.reduceGE, Int.reduceTMod, Bool.false_eq_true, Bool.not_true, Bool.not_false, forall_const, eq_self, decide_true, decide_false, ppC, pvEs]
            refine hR _ _ ?_ ⟨.any, 4, 0, ⟨#[]⟩, opAt (k + 1) T[p]?, [.mk x1 x2 x3 x4 x5, .mk y1 y2 y3 y4 y5], q, a2, f'', hq.2.1, ha2, by omega, by omega, hK, rfl⟩ ?_
            · exact less_env rfl (less_env rfl (less_env rfl (less_env rfl (less_loc rfl (less_loc (by show some _ = some _; simp only [pvEs, pvE, vi, vs]) (less_nil (.refl _)))))))
            · show T.length + 1 - ((q : Nat) : Int).toNat < T.length + 1 - ((p : Nat) : Int).toNat
              omega
end Go.Pv.D
-- Pp5D
namespace Go.Pv.D
open Go Go.RowKit Go.Proofs Go.Pv
def sPp5D_43 := (And.intro (And.intro (And.intro (And.intro (And.intro @q_fld_80_0 @q_fld_83_1) (And.intro @q_fld_80_1 @q_fld_80_2)) (And.intro (And.intro @q_slz_0 @q_tsz_3) (And.intro @q_slz_3 @q_ifc_3))) (And.intro (And.intro (And.intro @q_tsz_4 @q_slz_4) (And.intro @q_ifc_4 @q_isb_4)) (And.intro (And.intro @q_tsz_27 @q_slz_27) (And.intro @q_ifc_27 (And.intro @q_tsz_36 @q_slz_36))))) (And.intro (And.intro (And.intro (And.intro @q_str_36 @q_arz_36) (And.intro @q_ifc_36 @q_tsz_80)) (And.intro (And.intro @q_slz_80 @q_ifc_80) (And.intro @q_tsz_81 @q_slz_81))) (And.intro (And.intro (And.intro @q_ifc_81 @q_tsz_83) (And.intro @q_slz_83 @q_ifc_83)) (And.intro (And.intro @q_tsz_113 @q_slz_113) (And.intro @q_ifc_113 (And.intro @q_zcs_80 @q_bld_80))))))
def sPp5D_105 := (And.intro (And.intro (And.intro (And.intro (And.intro @q_fld_80_0 @q_fld_80_1) (And.intro @q_fld_83_1 (And.intro @q_fld_80_2 @q_slz_0))) (And.intro (And.intro @q_tsz_1 (And.intro @q_slz_1 @q_ifc_1)) (And.intro @q_tsz_2 (And.intro @q_slz_2 @q_ifc_2)))) (And.intro (And.intro (And.intro @q_tsz_3 @q_slz_3) (And.intro @q_ifc_3 (And.intro @q_tsz_4 @q_slz_4))) (And.intro (And.intro @q_ifc_4 (And.intro @q_isb_4 @q_tsz_9)) (And.intro @q_slz_9 (And.intro @q_str_9 @q_arz_9))))) (And.intro (And.intro (And.intro (And.intro @q_ifc_9 @q_tsz_25) (And.intro @q_slz_25 (And.intro @q_str_25 @q_arz_25))) (And.intro (And.intro @q_ifc_25 (And.intro @q_tsz_27 @q_slz_27)) (And.intro @q_ifc_27 (And.intro @q_tsz_80 @q_slz_80)))) (And.intro (And.intro (And.intro @q_ifc_80 @q_tsz_81) (And.intro @q_slz_81 (And.intro @q_ifc_81 @q_tsz_83))) (And.intro (And.intro @q_slz_83 (And.intro @q_ifc_83 @q_zcs_80)) (And.intro @q_bsl_25 (And.intro @q_bld_80 @q_bld_27))))))
theorem sF_s (g : Nat → Option Tk) (f at_ : Nat) : sF g (f + 1) at_ = (
    if tNum (g at_) = true then some (numE (tnum (g at_)), at_ + 1)
    else if tW (g at_) sMinus = true then
      if tNum (g (at_ + 1)) = true then some (numE (neg64 (tnum (g (at_ + 1)))), at_ + 2)
      else match sF g f (at_ + 1) with
        | none => none
        | some (x, p) => some (binE 2 (numE 0) x, p)
    else if tNm (g at_) = true then
      if tW (g (at_ + 1)) sLeft = true then match sL g f 0 (at_ + 2) with
        | none => some (nameE (txt (g at_)), at_ + 1)
        | some (x, p) => if tW (g p) sRight = true then some (indexE (txt (g at_)) x, p + 1) else some (nameE (txt (g at_)), at_ + 1)
      else some (nameE (txt (g at_)), at_ + 1)
    else if tW (g at_) sOpen = true then match sL g f 0 (at_ + 1) with
      | none => none
      | some (x, p) => if tW (g p) sClose = true then some (x, p + 1) else none
    else none) := by rw [sF]; rfl
set_option maxHeartbeats 16000000 in
set_option maxRecDepth 100000 in
theorem longest_of (kt : Cap) (T : List Tk) (b f : Nat) (hT : T.length < 1000000) (hf0 : f < 10000000) (ihN : ∀ f', f' ≤ f → LnC kt T b f') : LgC kt T b (f + 1) := by
  intro a a0 σ K hg ha hf ha0 h hK
  have h00 := h
  rw [sL_s, if_neg (by omega)] at hK
  refine PCalls.forgetR ?_
  refine PCalls.of_body (tOk Tryd.prog) (by kernel_rfl) Tryd.func43 rfl (by kernel_rfl) [] [(9, 42, [(0, []), (1, []), (3, []), (6, []), (2, []), (4, []), (7, []), (5, [7]), (8, []), (9, [])])] (by kernel_rfl) (n := 44) (by kernel_rfl) (by kernel_rfl) (rs := [.cell 4 80]) (by kernel_rfl) ?_
  simp (config := { maxSteps := 4000000 }) (disch := omega) only [pvK, pvB, sPp5D_43, reduceIte, Nat.reduceEqDiff, Nat.reduceAdd, Nat.reduceSub, Nat.reduceMul, Nat.reduceLT, Nat.reduceLeDiff, Nat.reduceBEq, reduceCtorEq, Int.reduceAdd, Int.reduceSub, Int.reduceMul, Int.reduceLT, Int.reduceLE, Int.reduceEq, Int.reduceToNat, Int.reduceNeg, Nat.reduceBNe, Int.reduceBEq, Int.reduceBNe, Int.reduceGT, Int.reduceGE, Int.reduceTMod, Bool.false_eq_true, Bool.not_true, Bool.not_false, forall_const, eq_self, decide_true, decide_false, ppC]
  refine ihN f (Nat.le_refl _) 0 a a0 σ _ (by omega) hg ha (by omega) ha0 h00 fun a1 ha1 => ?_
  cases hm : sL (fun i => T[i]?) f (0 + 1) a with
  | none =>
    rw [hm] at hK
    simp (config := { maxSteps := 4000000 }) (disch := omega) only [pvK, pvB, sPp5D_43, reduceIte, Nat.reduceEqDiff, Nat.reduceAdd, Nat.reduceSub, Nat.reduceMul, Nat.reduceLT, Nat.reduceLeDiff, Nat.reduceBEq, reduceCtorEq, Int.reduceAdd, Int.reduceSub, Int.reduceMul, Int.reduceLT, Int.reduceLE, Int.reduceEq, Int.reduceToNat, Int.reduceNeg, Nat.reduceBNe, Int.reduceBEq, Int.reduceBNe, Int.reduceGT, Int.reduceGE, Int.reduceTMod, Bool.false_eq_true, Bool.not_true, Bool.not_false, forall_const, eq_self, decide_true, decide_false, ppC, pvPre]
    refine ⟨_, .refl _, ?_⟩
    have hh := hK a1 ha1
    simp only [Res.forget, forget, forgets, pvPre, ppC, pvE, pvEs, binE, numE, nameE, indexE, vi, vs, vb', forgets_Es] at hh ⊢
    exact hh
  | some xp =>
    obtain ⟨x, p⟩ := xp
    have hp := s_le hm
    rw [hm] at hK
    simp only at hK
    obtain ⟨f', rfl⟩ : ∃ f', f = f' + 1 := ⟨f - 1, by omega⟩
    rw [sR_s] at hK
    obtain ⟨x1, x2, x3, x4, x5⟩ := x
    have gl := hg.cmps
    simp (config := { maxSteps := 4000000 }) (disch := omega) only [pvK, pvB, sPp5D_43, reduceIte, Nat.reduceEqDiff, Nat.reduceAdd, Nat.reduceSub, Nat.reduceMul, Nat.reduceLT, Nat.reduceLeDiff, Nat.reduceBEq, reduceCtorEq, Int.reduceAdd, Int.reduceSub, Int.reduceMul, Int.reduceLT, Int.reduceLE, Int.reduceEq, Int.reduceToNat, Int.reduceNeg, Nat.reduceBNe, Int.reduceBEq, Int.reduceBNe, Int.reduceGT, Int.reduceGE, Int.reduceTMod, Bool.false_eq_true, Bool.not_true, Bool.not_false, forall_const, eq_self, decide_true, decide_false, ppC, pvPre, gl, σset_gl]
    refine pone_c b .any (opsOf 0) _ _ fun b1 b2 q1 q2 q3 => ?_
    simp (config := { maxSteps := 4000000 }) (disch := omega) only [pvK, pvB, sPp5D_43, reduceIte, Nat.reduceEqDiff, Nat.reduceAdd, Nat.reduceSub, Nat.reduceMul, Nat.reduceLT, Nat.reduceLeDiff, Nat.reduceBEq, reduceCtorEq, Int.reduceAdd, Int.reduceSub, Int.reduceMul, Int.reduceLT, Int.reduceLE, Int.reduceEq, Int.reduceToNat, Int.reduceNeg, Nat.reduceBNe, Int.reduceBEq, Int.reduceBNe, Int.reduceGT, Int.reduceGE, Int.reduceTMod, Bool.false_eq_true, Bool.not_true, Bool.not_false, forall_const, eq_self, decide_true, decide_false, ppC]
    refine pick_c b b1 b2 kt .any T p 0 (by omega) _ (hg.set _ _) (obj_set _ _ _) q1 q2 q3 _ ?_
    by_cases ho : opAt 0 T[p]? = 0
    · rw [if_pos ho]
      rw [if_pos ho] at hK
      simp (config := { maxSteps := 4000000 }) (disch := omega) only [pvK, pvB, sPp5D_43, reduceIte, Nat.reduceEqDiff, Nat.reduceAdd, Nat.reduceSub, Nat.reduceMul, Nat.reduceLT, Nat.reduceLeDiff, Nat.reduceBEq, reduceCtorEq, Int.reduceAdd, Int.reduceSub, Int.reduceMul, Int.reduceLT, Int.reduceLE, Int.reduceEq, Int.reduceToNat, Int.reduceNeg, Nat.reduceBNe, Int.reduceBEq, Int.reduceBNe, Int.reduceGT, Int.reduceGE, Int.reduceTMod, Bool.false_eq_true, Bool.not_true, Bool.not_false, forall_const, eq_self, decide_true, decide_false, ppC, ho]
      refine ⟨_, .refl _, ?_⟩
      have hh := hK p hp.2.1
      simp only [Res.forget, forget, forgets, pvPre, ppC, pvE, pvEs, binE, numE, nameE, indexE, vi, vs, vb', forgets_Es] at hh ⊢
      exact hh
    · rw [if_neg ho]
      rw [if_neg ho] at hK
      have hpl : p < T.length := by
        cases q : T[p]? with
        | none => rw [q] at ho; exact absurd rfl ho
        | some u => exact tok_some q
      simp (config := { maxSteps := 4000000 }) (disch := omega) only [pvK, pvB, sPp5D_43, reduceIte, Nat.reduceEqDiff, Nat.reduceAdd, Nat.reduceSub, Nat.reduceMul, Nat.reduceLT, Nat.reduceLeDiff, Nat.reduceBEq, reduceCtorEq, Int.reduceAdd, Int.reduceSub, Int.reduceMul, Int.reduceLT, Int.reduceLE, Int.reduceEq, Int.reduceToNat, Int.reduceNeg, Nat.reduceBNe, Int.reduceBEq, Int.reduceBNe, Int.reduceGT, Int.reduceGE, Int.reduceTMod, Bool.false_eq_true, Bool.not_true, Bool.not_false, forall_const, eq_self, decide_true, decide_false, ppC, nz_o ho]
      refine ihN f' (by omega) 0 (p + 1) (p + 1) _ _ (by omega) (hg.set _ _) (by omega) (by omega) (by omega) (obj_set _ _ _) fun a2 ha2 => ?_
      cases hy : sL (fun i => T[i]?) f' (0 + 1) (p + 1) with
      | none =>
        rw [hy] at hK
        simp (config := { maxSteps := 4000000 }) (disch := omega) only [pvK, pvB, sPp5D_43, reduceIte, Nat.reduceEqDiff, Nat.reduceAdd, Nat.reduceSub, Nat.reduceMul, Nat.reduceLT, Nat.reduceLeDiff, Nat.reduceBEq, reduceCtorEq, Int.reduceAdd, Int.reduceSub, Int.reduceMul, Int.reduceLT, Int.reduceLE, Int.reduceEq, Int.reduceToNat, Int.reduceNeg, Nat.reduceBNe, Int.reduceBEq, Int.reduceBNe, Int.reduceGT, Int.reduceGE, Int.reduceTMod, Bool.false_eq_true, Bool.not_true, Bool.not_false, forall_const, eq_self, decide_true, decide_false, ppC, pvPre]
        refine ⟨_, .refl _, ?_⟩
        have hh := hK a2 ha2
        simp only [Res.forget, forget, forgets, pvPre, ppC, pvE, pvEs, binE, numE, nameE, indexE, vi, vs, vb', forgets_Es] at hh ⊢
        exact hh
      | some yq =>
        obtain ⟨y, q⟩ := yq
        have hq := s_le hy
        rw [hy] at hK
        simp only [if_true] at hK
        obtain ⟨y1, y2, y3, y4, y5⟩ := y
        simp (config := { maxSteps := 4000000 }) (disch := omega) only [pvK, pvB, sPp5D_43, reduceIte, Nat.reduceEqDiff, Nat.reduceAdd, Nat.reduceSub, Nat.reduceMul, Nat.reduceLT, Nat.reduceLeDiff, Nat.reduceBEq, reduceCtorEq, Int.reduceAdd, Int.reduceSub, Int.reduceMul, Int.reduceLT, Int.reduceLE, Int.reduceEq, Int.reduceToNat, Int.reduceNeg, Nat.reduceBNe, Int.reduceBEq, Int.reduceBNe, Int.reduceGT, Int.reduceGE, Int.reduceTMod, Bool.false_eq_true, Bool.not_true, Bool.not_false, forall_const, eq_self, decide_true, decide_false, ppC, pvPre]
        refine PCalls.forget ?_
        simp only [forgets, forget, forgets_Es]
        refine binary_c (opAt 0 T[p]?) (.mk x1 x2 x3 x4 x5) (.mk y1 y2 y3 y4 y5) _ _ ?_
        unfold binE
        simp (config := { maxSteps := 4000000 }) (disch := omega) only [pvK, pvB, sPp5D_43, reduceIte, Nat.reduceEqDiff, Nat.reduceAdd, Nat.reduceSub, Nat.reduceMul, Nat.reduceLT, Nat.reduceLeDiff, Nat.reduceBEq, reduceCtorEq, Int.reduceAdd, Int.reduceSub, Int.reduceMul, Int.reduceLT, Int.reduceLE, Int.reduceEq, Int.reduceToNat, Int.reduceNeg, Nat.reduceBNe, Int.reduceBEq, Int.reduceBNe, Int.reduceGT, Int.reduceGE, Int.reduceTMod, Bool.false_eq_true, Bool.not_true, Bool.not_false, forall_const, eq_self, decide_true, decide_false, ppC, pvEs]
        refine ⟨_, .refl _, ?_⟩
        have hh := hK a2 ha2
        simp only [Res.forget, forget, forgets, pvPre, ppC, pvE, pvEs, binE, numE, nameE, indexE, vi, vs, vb', forgets_Es] at hh ⊢
        exact hh
set_option maxHeartbeats 32000000 in
set_option maxRecDepth 100000 in
theorem shortest_of (kt : Cap) (T : List Tk) (b f : Nat) (hT : T.length < 1000000) (hf0 : f < 10000000) (ihG : LgC kt T b f) (ihS : ShC kt T b f) : ShC kt T b (f + 1) := by
  intro a a0 σ K hg ha hf h hK
  unfold ppC at h
  simp only [vi] at h
  rw [sF_s] at hK
  refine PCalls.forgetR ?_
  refine PCalls.of_body (tOk Tryd.prog) (by kernel_rfl) Tryd.func105 rfl (by kernel_rfl) [] [] (by kernel_rfl) (n := 80) (by kernel_rfl) (by kernel_rfl) (rs := [.cell 4 80]) (by kernel_rfl) ?_
  simp (config := { maxSteps := 4000000 }) (disch := omega) only [pvK, pvB, sPp5D_105, reduceIte, Nat.reduceEqDiff, Nat.reduceAdd, Nat.reduceSub, Nat.reduceMul, Nat.reduceLT, Nat.reduceLeDiff, Nat.reduceBEq, reduceCtorEq, Int.reduceAdd, Int.reduceSub, Int.reduceMul, Int.reduceLT, Int.reduceLE, Int.reduceEq, Int.reduceToNat, Int.reduceNeg, Nat.reduceBNe, Int.reduceBEq, Int.reduceBNe, Int.reduceGT, Int.reduceGE, Int.reduceTMod, Bool.false_eq_true, Bool.not_true, Bool.not_false, forall_const, eq_self, decide_true, decide_false, ppC, h]
  refine pnumbered_c b kt T a _ (obj_set _ _ _) _ ?_
  by_cases hn : tNum T[a]? = true
  · have hat : a < T.length := by
      cases q : T[a]? with
      | none => rw [q] at hn; cases hn
      | some u => exact tok_some q
    rw [if_pos hn] at hK
    simp (config := { maxSteps := 4000000 }) (disch := omega) only [pvK, pvB, sPp5D_105, reduceIte, Nat.reduceEqDiff, Nat.reduceAdd, Nat.reduceSub, Nat.reduceMul, Nat.reduceLT, Nat.reduceLeDiff, Nat.reduceBEq, reduceCtorEq, Int.reduceAdd, Int.reduceSub, Int.reduceMul, Int.reduceLT, Int.reduceLE, Int.reduceEq, Int.reduceToNat, Int.reduceNeg, Nat.reduceBNe, Int.reduceBEq, Int.reduceBNe, Int.reduceGT, Int.reduceGE, Int.reduceTMod, Bool.false_eq_true, Bool.not_true, Bool.not_false, forall_const, eq_self, decide_true, decide_false, ppC, hn]
    refine pnum_c b kt T a hT (by omega) _ (obj_set _ _ _) _ ?_
    rw [if_pos hn]
    simp (config := { maxSteps := 4000000 }) (disch := omega) only [pvK, pvB, sPp5D_105, reduceIte, Nat.reduceEqDiff, Nat.reduceAdd, Nat.reduceSub, Nat.reduceMul, Nat.reduceLT, Nat.reduceLeDiff, Nat.reduceBEq, reduceCtorEq, Int.reduceAdd, Int.reduceSub, Int.reduceMul, Int.reduceLT, Int.reduceLE, Int.reduceEq, Int.reduceToNat, Int.reduceNeg, Nat.reduceBNe, Int.reduceBEq, Int.reduceBNe, Int.reduceGT, Int.reduceGE, Int.reduceTMod, Bool.false_eq_true, Bool.not_true, Bool.not_false, forall_const, eq_self, decide_true, decide_false, ppC]
    refine ⟨_, .refl _, ?_⟩
    have hh := hK (a + 1) hat
    simp only [Res.forget, forget, forgets, pvPre, ppC, pvE, pvEs, binE, numE, nameE, indexE, vi, vs, vb', forgets_Es, Int.natCast_add, cast_1] at hh ⊢
    exact hh
  · rw [if_neg hn] at hK
    have hn : tNum T[a]? = false := by simpa using hn
    simp (config := { maxSteps := 4000000 }) (disch := omega) only [pvK, pvB, sPp5D_105, reduceIte, Nat.reduceEqDiff, Nat.reduceAdd, Nat.reduceSub, Nat.reduceMul, Nat.reduceLT, Nat.reduceLeDiff, Nat.reduceBEq, reduceCtorEq, Int.reduceAdd, Int.reduceSub, Int.reduceMul, Int.reduceLT, Int.reduceLE, Int.reduceEq, Int.reduceToNat, Int.reduceNeg, Nat.reduceBNe, Int.reduceBEq, Int.reduceBNe, Int.reduceGT, Int.reduceGE, Int.reduceTMod, Bool.false_eq_true, Bool.not_true, Bool.not_false, forall_const, eq_self, decide_true, decide_false, ppC, hn]
    refine phas_c b kt T a _ (by omega) _ (obj_set _ _ _) _ ?_
    by_cases f1 : tW T[a]? ⟨#[45]⟩ = true
    · have hat : a < T.length := by
        cases q : T[a]? with
        | none => rw [q] at f1; cases f1
        | some u => exact tok_some q
      rw [if_pos (show tW T[a]? sMinus = true from f1)] at hK
      simp (config := { maxSteps := 4000000 }) (disch := omega) only [pvK, pvB, sPp5D_105, reduceIte, Nat.reduceEqDiff, Nat.reduceAdd, Nat.reduceSub, Nat.reduceMul, Nat.reduceLT, Nat.reduceLeDiff, Nat.reduceBEq, reduceCtorEq, Int.reduceAdd, Int.reduceSub, Int.reduceMul, Int.reduceLT, Int.reduceLE, Int.reduceEq, Int.reduceToNat, Int.reduceNeg, Nat.reduceBNe, Int.reduceBEq, Int.reduceBNe, Int.reduceGT, Int.reduceGE, Int.reduceTMod, Bool.false_eq_true, Bool.not_true, Bool.not_false, forall_const, eq_self, decide_true, decide_false, ppC, f1]
      refine pnumbered_c b kt T (a + 1) _ (obj_set _ _ _) _ ?_
      by_cases hn2 : tNum T[a + 1]? = true
      · have hat2 : a + 1 < T.length := by
          cases q : T[a + 1]? with
          | none => rw [q] at hn2; cases hn2
          | some u => exact tok_some q
        rw [if_pos hn2] at hK
        simp (config := { maxSteps := 4000000 }) (disch := omega) only [pvK, pvB, sPp5D_105, reduceIte, Nat.reduceEqDiff, Nat.reduceAdd, Nat.reduceSub, Nat.reduceMul, Nat.reduceLT, Nat.reduceLeDiff, Nat.reduceBEq, reduceCtorEq, Int.reduceAdd, Int.reduceSub, Int.reduceMul, Int.reduceLT, Int.reduceLE, Int.reduceEq, Int.reduceToNat, Int.reduceNeg, Nat.reduceBNe, Int.reduceBEq, Int.reduceBNe, Int.reduceGT, Int.reduceGE, Int.reduceTMod, Bool.false_eq_true, Bool.not_true, Bool.not_false, forall_const, eq_self, decide_true, decide_false, ppC, hn2]
        refine pnum_c b kt T (a + 1) hT (by omega) _ (obj_set _ _ _) _ ?_
        rw [if_pos hn2]
        simp (config := { maxSteps := 4000000 }) (disch := omega) only [pvK, pvB, sPp5D_105, reduceIte, Nat.reduceEqDiff, Nat.reduceAdd, Nat.reduceSub, Nat.reduceMul, Nat.reduceLT, Nat.reduceLeDiff, Nat.reduceBEq, reduceCtorEq, Int.reduceAdd, Int.reduceSub, Int.reduceMul, Int.reduceLT, Int.reduceLE, Int.reduceEq, Int.reduceToNat, Int.reduceNeg, Nat.reduceBNe, Int.reduceBEq, Int.reduceBNe, Int.reduceGT, Int.reduceGE, Int.reduceTMod, Bool.false_eq_true, Bool.not_true, Bool.not_false, forall_const, eq_self, decide_true, decide_false, ppC]
        refine ⟨_, .refl _, ?_⟩
        have hh := hK (a + 1 + 1) hat2
        simp only [Res.forget, forget, forgets, pvPre, ppC, pvE, pvEs, binE, numE, nameE, indexE, vi, vs, vb', forgets_Es, Int.natCast_add, cast_1, cast_2, neg64] at hh ⊢
        exact hh
      · rw [if_neg hn2] at hK
        have hn2 : tNum T[a + 1]? = false := by simpa using hn2
        have e1 : ((a : Int) + 1) = ((a + 1 : Nat) : Int) := by omega
        simp (config := { maxSteps := 4000000 }) (disch := omega) only [pvK, pvB, sPp5D_105, reduceIte, Nat.reduceEqDiff, Nat.reduceAdd, Nat.reduceSub, Nat.reduceMul, Nat.reduceLT, Nat.reduceLeDiff, Nat.reduceBEq, reduceCtorEq, Int.reduceAdd, Int.reduceSub, Int.reduceMul, Int.reduceLT, Int.reduceLE, Int.reduceEq, Int.reduceToNat, Int.reduceNeg, Nat.reduceBNe, Int.reduceBEq, Int.reduceBNe, Int.reduceGT, Int.reduceGE, Int.reduceTMod, Bool.false_eq_true, Bool.not_true, Bool.not_false, forall_const, eq_self, decide_true, decide_false, ppC, hn2, e1]
        refine ihS (a + 1) (a + 1) _ _ (hg.set _ _) (by omega) (by omega) (obj_set _ _ _) fun a2 ha2 => ?_
        cases hm : sF (fun i => T[i]?) f (a + 1) with
        | none =>
          rw [hm] at hK
          simp (config := { maxSteps := 4000000 }) (disch := omega) only [pvK, pvB, sPp5D_105, reduceIte, Nat.reduceEqDiff, Nat.reduceAdd, Nat.reduceSub, Nat.reduceMul, Nat.reduceLT, Nat.reduceLeDiff, Nat.reduceBEq, reduceCtorEq, Int.reduceAdd, Int.reduceSub, Int.reduceMul, Int.reduceLT, Int.reduceLE, Int.reduceEq, Int.reduceToNat, Int.reduceNeg, Nat.reduceBNe, Int.reduceBEq, Int.reduceBNe, Int.reduceGT, Int.reduceGE, Int.reduceTMod, Bool.false_eq_true, Bool.not_true, Bool.not_false, forall_const, eq_self, decide_true, decide_false, ppC, pvPre]
          refine ⟨_, .refl _, ?_⟩
          have hh := hK a2 ha2
          simp only [Res.forget, forget, forgets, pvPre, ppC, pvE, pvEs, binE, numE, nameE, indexE, vi, vs, vb', forgets_Es] at hh ⊢
          exact hh
        | some xp =>
          obtain ⟨x, p⟩ := xp
          rw [hm] at hK
          simp only at hK
          obtain ⟨x1, x2, x3, x4, x5⟩ := x
          simp (config := { maxSteps := 4000000 }) (disch := omega) only [pvK, pvB, sPp5D_105, reduceIte, Nat.reduceEqDiff, Nat.reduceAdd, Nat.reduceSub, Nat.reduceMul, Nat.reduceLT, Nat.reduceLeDiff, Nat.reduceBEq, reduceCtorEq, Int.reduceAdd, Int.reduceSub, Int.reduceMul, Int.reduceLT, Int.reduceLE, Int.reduceEq, Int.reduceToNat, Int.reduceNeg, Nat.reduceBNe, Int.reduceBEq, Int.reduceBNe, Int.reduceGT, Int.reduceGE, Int.reduceTMod, Bool.false_eq_true, Bool.not_true, Bool.not_false, forall_const, eq_self, decide_true, decide_false, ppC, pvPre]
          refine PCalls.forget ?_
          simp only [forgets, forget, forgets_Es]
          refine binary_c 2 (numE 0) (.mk x1 x2 x3 x4 x5) _ _ ?_
          unfold binE numE
          simp (config := { maxSteps := 4000000 }) (disch := omega) only [pvK, pvB, sPp5D_105, reduceIte, Nat.reduceEqDiff, Nat.reduceAdd, Nat.reduceSub, Nat.reduceMul, Nat.reduceLT, Nat.reduceLeDiff, Nat.reduceBEq, reduceCtorEq, Int.reduceAdd, Int.reduceSub, Int.reduceMul, Int.reduceLT, Int.reduceLE, Int.reduceEq, Int.reduceToNat, Int.reduceNeg, Nat.reduceBNe, Int.reduceBEq, Int.reduceBNe, Int.reduceGT, Int.reduceGE, Int.reduceTMod, Bool.false_eq_true, Bool.not_true, Bool.not_false, forall_const, eq_self, decide_true, decide_false, ppC, pvEs]
          refine ⟨_, .refl _, ?_⟩
          have hh := hK a2 ha2
          simp only [Res.forget, forget, forgets, pvPre, ppC, pvE, pvEs, binE, numE, nameE, indexE, vi, vs, vb', forgets_Es] at hh ⊢
          exact hh
    · have f1 : tW T[a]? ⟨#[45]⟩ = false := by simpa using f1
      rw [if_neg (by show ¬ tW T[a]? ⟨#[45]⟩ = true; rw [f1]; simp)] at hK
      simp (config := { maxSteps := 4000000 }) (disch := omega) only [pvK, pvB, sPp5D_105, reduceIte, Nat.reduceEqDiff, Nat.reduceAdd, Nat.reduceSub, Nat.reduceMul, Nat.reduceLT, Nat.reduceLeDiff, Nat.reduceBEq, reduceCtorEq, Int.reduceAdd, Int.reduceSub, Int.reduceMul, Int.reduceLT, Int.reduceLE, Int.reduceEq, Int.reduceToNat, Int.reduceNeg, Nat.reduceBNe, Int.reduceBEq, Int.reduceBNe, Int.reduceGT, Int.reduceGE, Int.reduceTMod, Bool.false_eq_true, Bool.not_true, Bool.not_false, forall_const, eq_self, decide_true, decide_false, ppC, f1]
      refine pnamed_c b kt T a _ (hg.set _ _) (obj_set _ _ _) _ ?_
      by_cases f2 : tNm T[a]? = true
      · have hat : a < T.length := by
          cases q : T[a]? with
          | none => rw [q] at f2; cases f2
          | some u => exact tok_some q
        rw [if_pos f2] at hK
        simp (config := { maxSteps := 4000000 }) (disch := omega) only [pvK, pvB, sPp5D_105, reduceIte, Nat.reduceEqDiff, Nat.reduceAdd, Nat.reduceSub, Nat.reduceMul, Nat.reduceLT, Nat.reduceLeDiff, Nat.reduceBEq, reduceCtorEq, Int.reduceAdd, Int.reduceSub, Int.reduceMul, Int.reduceLT, Int.reduceLE, Int.reduceEq, Int.reduceToNat, Int.reduceNeg, Nat.reduceBNe, Int.reduceBEq, Int.reduceBNe, Int.reduceGT, Int.reduceGE, Int.reduceTMod, Bool.false_eq_true, Bool.not_true, Bool.not_false, forall_const, eq_self, decide_true, decide_false, ppC, f2]
        refine pname_c b kt T a hT (by omega) _ (hg.set _ _) (obj_set _ _ _) _ ?_
        rw [if_pos f2]
        simp (config := { maxSteps := 4000000 }) (disch := omega) only [pvK, pvB, sPp5D_105, reduceIte, Nat.reduceEqDiff, Nat.reduceAdd, Nat.reduceSub, Nat.reduceMul, Nat.reduceLT, Nat.reduceLeDiff, Nat.reduceBEq, reduceCtorEq, Int.reduceAdd, Int.reduceSub, Int.reduceMul, Int.reduceLT, Int.reduceLE, Int.reduceEq, Int.reduceToNat, Int.reduceNeg, Nat.reduceBNe, Int.reduceBEq, Int.reduceBNe, Int.reduceGT, Int.reduceGE, Int.reduceTMod, Bool.false_eq_true, Bool.not_true, Bool.not_false, forall_const, eq_self, decide_true, decide_false, ppC]
        refine phas_c b kt T (a + 1) _ (by omega) _ (obj_set _ _ _) _ ?_
        by_cases f3 : tW T[a + 1]? ⟨#[91]⟩ = true
        · have hat2 : a + 1 < T.length := by
            cases q : T[a + 1]? with
            | none => rw [q] at f3; cases f3
            | some u => exact tok_some q
          rw [if_pos (show tW T[a + 1]? sLeft = true from f3)] at hK
          have e2 : ((a : Int) + 2) = ((a + 2 : Nat) : Int) := by omega
          simp (config := { maxSteps := 4000000 }) (disch := omega) only [pvK, pvB, sPp5D_105, reduceIte, Nat.reduceEqDiff, Nat.reduceAdd, Nat.reduceSub, Nat.reduceMul, Nat.reduceLT, Nat.reduceLeDiff, Nat.reduceBEq, reduceCtorEq, Int.reduceAdd, Int.reduceSub, Int.reduceMul, Int.reduceLT, Int.reduceLE, Int.reduceEq, Int.reduceToNat, Int.reduceNeg, Nat.reduceBNe, Int.reduceBEq, Int.reduceBNe, Int.reduceGT, Int.reduceGE, Int.reduceTMod, Bool.false_eq_true, Bool.not_true, Bool.not_false, forall_const, eq_self, decide_true, decide_false, ppC, f3, e2]
          refine inner_c kt T b f hT ihG (a + 2) (a + 1 + 1) ⟨#[93]⟩ _ (hg.set _ _) (by omega) (by omega) (by omega) (obj_set _ _ _) _ fun a2 ha2 => ?_
          cases hm : sL (fun i => T[i]?) f 0 (a + 2) with
          | none =>
            have hi : innM (fun i => T[i]?) f (a + 2) ⟨#[93]⟩ = none := by simp only [innM, hm]
            rw [hm] at hK
            simp (config := { maxSteps := 4000000 }) (disch := omega) only [pvK, pvB, sPp5D_105, reduceIte, Nat.reduceEqDiff, Nat.reduceAdd, Nat.reduceSub, Nat.reduceMul, Nat.reduceLT, Nat.reduceLeDiff, Nat.reduceBEq, reduceCtorEq, Int.reduceAdd, Int.reduceSub, Int.reduceMul, Int.reduceLT, Int.reduceLE, Int.reduceEq, Int.reduceToNat, Int.reduceNeg, Nat.reduceBNe, Int.reduceBEq, Int.reduceBNe, Int.reduceGT, Int.reduceGE, Int.reduceTMod, Bool.false_eq_true, Bool.not_true, Bool.not_false, forall_const, eq_self, decide_true, decide_false, ppC, hi, pvPre]
            refine ⟨_, .refl _, ?_⟩
            have hh := hK a2 ha2
            simp only [Res.forget, forget, forgets, pvPre, ppC, pvE, pvEs, binE, numE, nameE, indexE, vi, vs, vb', forgets_Es, Int.natCast_add, cast_1] at hh ⊢
            exact hh
          | some xp =>
            obtain ⟨x, p⟩ := xp
            rw [hm] at hK
            simp only at hK
            by_cases f4 : tW T[p]? ⟨#[93]⟩ = true
            · have hi : innM (fun i => T[i]?) f (a + 2) ⟨#[93]⟩ = some (x, p + 1) := by simp only [innM, hm, f4, if_true]
              rw [if_pos (show tW T[p]? sRight = true from f4)] at hK
              obtain ⟨x1, x2, x3, x4, x5⟩ := x
              simp (config := { maxSteps := 4000000 }) (disch := omega) only [pvK, pvB, sPp5D_105, reduceIte, Nat.reduceEqDiff, Nat.reduceAdd, Nat.reduceSub, Nat.reduceMul, Nat.reduceLT, Nat.reduceLeDiff, Nat.reduceBEq, reduceCtorEq, Int.reduceAdd, Int.reduceSub, Int.reduceMul, Int.reduceLT, Int.reduceLE, Int.reduceEq, Int.reduceToNat, Int.reduceNeg, Nat.reduceBNe, Int.reduceBEq, Int.reduceBNe, Int.reduceGT, Int.reduceGE, Int.reduceTMod, Bool.false_eq_true, Bool.not_true, Bool.not_false, forall_const, eq_self, decide_true, decide_false, ppC, hi, pvPre]
              refine ⟨_, .refl _, ?_⟩
              have hh := hK a2 ha2
              simp only [Res.forget, forget, forgets, pvPre, ppC, pvE, pvEs, binE, numE, nameE, indexE, vi, vs, vb', forgets_Es] at hh ⊢
              exact hh
            · have hi : innM (fun i => T[i]?) f (a + 2) ⟨#[93]⟩ = none := by
                have f5 : tW T[p]? ⟨#[93]⟩ = false := by simpa using f4
                simp only [innM, hm, f5, if_false, Bool.false_eq_true]
              rw [if_neg (show ¬ tW T[p]? sRight = true from f4)] at hK
              simp (config := { maxSteps := 4000000 }) (disch := omega) only [pvK, pvB, sPp5D_105, reduceIte, Nat.reduceEqDiff, Nat.reduceAdd, Nat.reduceSub, Nat.reduceMul, Nat.reduceLT, Nat.reduceLeDiff, Nat.reduceBEq, reduceCtorEq, Int.reduceAdd, Int.reduceSub, Int.reduceMul, Int.reduceLT, Int.reduceLE, Int.reduceEq, Int.reduceToNat, Int.reduceNeg, Nat.reduceBNe, Int.reduceBEq, Int.reduceBNe, Int.reduceGT, Int.reduceGE, Int.reduceTMod, Bool.false_eq_true, Bool.not_true, Bool.not_false, forall_const, eq_self, decide_true, decide_false, ppC, hi, pvPre]
              refine ⟨_, .refl _, ?_⟩
              have hh := hK a2 ha2
              simp only [Res.forget, forget, forgets, pvPre, ppC, pvE, pvEs, binE, numE, nameE, indexE, vi, vs, vb', forgets_Es, Int.natCast_add, cast_1] at hh ⊢
              exact hh
        · have f3 : tW T[a + 1]? ⟨#[91]⟩ = false := by simpa using f3
          rw [if_neg (by show ¬ tW T[a + 1]? ⟨#[91]⟩ = true; rw [f3]; simp)] at hK
          simp (config := { maxSteps := 4000000 }) (disch := omega) only [pvK, pvB, sPp5D_105, reduceIte, Nat.reduceEqDiff, Nat.reduceAdd, Nat.reduceSub, Nat.reduceMul, Nat.reduceLT, Nat.reduceLeDiff, Nat.reduceBEq, reduceCtorEq, Int.reduceAdd, Int.reduceSub, Int.reduceMul, Int.reduceLT, Int.reduceLE, Int.reduceEq, Int.reduceToNat, Int.reduceNeg, Nat.reduceBNe, Int.reduceBEq, Int.reduceBNe, Int.reduceGT, Int.reduceGE, Int.reduceTMod, Bool.false_eq_true, Bool.not_true, Bool.not_false, forall_const, eq_self, decide_true, decide_false, ppC, f3]
          refine ⟨_, .refl _, ?_⟩
          have hh := hK (a + 1) hat
          simp only [Res.forget, forget, forgets, pvPre, ppC, pvE, pvEs, binE, numE, nameE, indexE, vi, vs, vb', forgets_Es, Int.natCast_add, cast_1] at hh ⊢
          exact hh
      · rw [if_neg f2] at hK
        have f2 : tNm T[a]? = false := by simpa using f2
        simp (config := { maxSteps := 4000000 }) (disch := omega) only [pvK, pvB, sPp5D_105, reduceIte, Nat.reduceEqDiff, Nat.reduceAdd, Nat.reduceSub, Nat.reduceMul, Nat.reduceLT, Nat.reduceLeDiff, Nat.reduceBEq, reduceCtorEq, Int.reduceAdd, Int.reduceSub, Int.reduceMul, Int.reduceLT, Int.reduceLE, Int.reduceEq, Int.reduceToNat, Int.reduceNeg, Nat.reduceBNe, Int.reduceBEq, Int.reduceBNe, Int.reduceGT, Int.reduceGE, Int.reduceTMod, Bool.false_eq_true, Bool.not_true, Bool.not_false, forall_const, eq_self, decide_true, decide_false, ppC, f2]
        refine phas_c b kt T a _ (by omega) _ (obj_set _ _ _) _ ?_
        by_cases f5 : tW T[a]? ⟨#[40]⟩ = true
        · have hat : a < T.length := by
            cases q : T[a]? with
            | none => rw [q] at f5; cases f5
            | some u => exact tok_some q
          rw [if_pos (show tW T[a]? sOpen = true from f5)] at hK
          have e1 : ((a : Int) + 1) = ((a + 1 : Nat) : Int) := by omega
          simp (config := { maxSteps := 4000000 }) (disch := omega) only [pvK, pvB, sPp5D_105, reduceIte, Nat.reduceEqDiff, Nat.reduceAdd, Nat.reduceSub, Nat.reduceMul, Nat.reduceLT, Nat.reduceLeDiff, Nat.reduceBEq, reduceCtorEq, Int.reduceAdd, Int.reduceSub, Int.reduceMul, Int.reduceLT, Int.reduceLE, Int.reduceEq, Int.reduceToNat, Int.reduceNeg, Nat.reduceBNe, Int.reduceBEq, Int.reduceBNe, Int.reduceGT, Int.reduceGE, Int.reduceTMod, Bool.false_eq_true, Bool.not_true, Bool.not_false, forall_const, eq_self, decide_true, decide_false, ppC, f5, e1]
          refine inner_c kt T b f hT ihG (a + 1) (a + 1) ⟨#[41]⟩ _ (hg.set _ _) (by omega) (by omega) (by omega) (obj_set _ _ _) _ fun a2 ha2 => ?_
          have hi : innM (fun i => T[i]?) f (a + 1) ⟨#[41]⟩ = (match sL (fun i => T[i]?) f 0 (a + 1) with
            | none => none
            | some (x, p) => if tW T[p]? sClose = true then some (x, p + 1) else none) := rfl
          rw [hi]
          generalize (match sL (fun i => T[i]?) f 0 (a + 1) with
            | none => none
            | some (x, p) => if tW T[p]? sClose = true then some (x, p + 1) else none) = r at hK ⊢
          cases r with
          | none =>
            simp (config := { maxSteps := 4000000 }) (disch := omega) only [pvK, pvB, sPp5D_105, reduceIte, Nat.reduceEqDiff, Nat.reduceAdd, Nat.reduceSub, Nat.reduceMul, Nat.reduceLT, Nat.reduceLeDiff, Nat.reduceBEq, reduceCtorEq, Int.reduceAdd, Int.reduceSub, Int.reduceMul, Int.reduceLT, Int.reduceLE, Int.reduceEq, Int.reduceToNat, Int.reduceNeg, Nat.reduceBNe, Int.reduceBEq, Int.reduceBNe, Int.reduceGT, Int.reduceGE, Int.reduceTMod, Bool.false_eq_true, Bool.not_true, Bool.not_false, forall_const, eq_self, decide_true, decide_false, ppC, pvPre]
            refine ⟨_, .refl _, ?_⟩
            have hh := hK a2 ha2
            simp only [Res.forget, forget, forgets, pvPre, ppC, pvE, pvEs, binE, numE, nameE, indexE, vi, vs, vb', forgets_Es] at hh ⊢
            exact hh
          | some xp =>
            obtain ⟨⟨x1, x2, x3, x4, x5⟩, p⟩ := xp
            simp (config := { maxSteps := 4000000 }) (disch := omega) only [pvK, pvB, sPp5D_105, reduceIte, Nat.reduceEqDiff, Nat.reduceAdd, Nat.reduceSub, Nat.reduceMul, Nat.reduceLT, Nat.reduceLeDiff, Nat.reduceBEq, reduceCtorEq, Int.reduceAdd, Int.reduceSub, Int.reduceMul, Int.reduceLT, Int.reduceLE, Int.reduceEq, Int.reduceToNat, Int.reduceNeg, Nat.reduceBNe, Int.reduceBEq, Int.reduceBNe, Int.reduceGT, Int.reduceGE, Int.reduceTMod, Bool.false_eq_true, Bool.not_true, Bool.not_false, forall_const, eq_self, decide_true, decide_false, ppC, pvPre]
            refine ⟨_, .refl _, ?_⟩
            have hh := hK a2 ha2
            simp only [Res.forget, forget, forgets, pvPre, ppC, pvE, pvEs, binE, numE, nameE, indexE, vi, vs, vb', forgets_Es] at hh ⊢
            exact hh
        · rw [if_neg (show ¬ tW T[a]? sOpen = true from f5)] at hK
          have f5 : tW T[a]? ⟨#[40]⟩ = false := by simpa using f5
          simp (config := { maxSteps := 4000000 }) (disch := omega) only [pvK, pvB, sPp5D_105, reduceIte, Nat.reduceEqDiff, Nat.reduceAdd, Nat.reduceSub, Nat.reduceMul, Nat.reduceLT, Nat.reduceLeDiff, Nat.reduceBEq, reduceCtorEq, Int.reduceAdd, Int.reduceSub, Int.reduceMul, Int.reduceLT, Int.reduceLE, Int.reduceEq, Int.reduceToNat, Int.reduceNeg, Nat.reduceBNe, Int.reduceBEq, Int.reduceBNe, Int.reduceGT, Int.reduceGE, Int.reduceTMod, Bool.false_eq_true, Bool.not_true, Bool.not_false, forall_const, eq_self, decide_true, decide_false, ppC, f5]
          refine ⟨_, .refl _, ?_⟩
          have hh := hK a ha
          simp only [Res.forget, forget, forgets, pvPre, ppC, pvE, pvEs, binE, numE, nameE, indexE, vi, vs, vb', forgets_Es] at hh ⊢
          exact hh
end Go.Pv.D
-- Rp4D
namespace Go.Pv.D
open Go Go.RowKit Go.Proofs Go.Pv
def sRp4D_71 := (And.intro (And.intro (And.intro (And.intro (And.intro (And.intro @q_fld_88_1 @q_slz_0) (And.intro @q_tsz_1 (And.intro @q_slz_1 @q_ifc_1))) (And.intro (And.intro @q_tsz_2 @q_slz_2) (And.intro @q_ifc_2 (And.intro @q_tsz_3 @q_slz_3)))) (And.intro (And.intro (And.intro @q_ifc_3 @q_tsz_4) (And.intro @q_slz_4 (And.intro @q_ifc_4 @q_isb_4))) (And.intro (And.intro @q_tsz_5 @q_slz_5) (And.intro @q_ifc_5 (And.intro @q_tsz_6 @q_slz_6))))) (And.intro (And.intro (And.intro (And.intro @q_ifc_6 @q_tsz_7) (And.intro @q_slz_7 (And.intro @q_ifc_7 @q_tsz_8))) (And.intro (And.intro @q_slz_8 @q_ifc_8) (And.intro @q_tsz_9 (And.intro @q_slz_9 @q_str_9)))) (And.intro (And.intro (And.intro @q_arz_9 @q_ifc_9) (And.intro @q_tsz_10 (And.intro @q_slz_10 @q_str_10))) (And.intro (And.intro @q_arz_10 @q_ifc_10) (And.intro @q_tsz_11 (And.intro @q_slz_11 @q_str_11)))))) (And.intro (And.intro (And.intro (And.intro (And.intro @q_arz_11 @q_ifc_11) (And.intro @q_tsz_12 (And.intro @q_slz_12 @q_ifc_12))) (And.intro (And.intro @q_tsz_13 @q_slz_13) (And.intro @q_ifc_13 (And.intro @q_tsz_14 @q_slz_14)))) (And.intro (And.intro (And.intro @q_ifc_14 @q_tsz_25) (And.intro @q_slz_25 (And.intro @q_str_25 @q_arz_25))) (And.intro (And.intro @q_ifc_25 @q_tsz_27) (And.intro @q_slz_27 (And.intro @q_ifc_27 @q_tsz_34))))) (And.intro (And.intro (And.intro (And.intro @q_slz_34 @q_str_34) (And.intro @q_arz_34 (And.intro @q_ifc_34 @q_tsz_36))) (And.intro (And.intro @q_slz_36 @q_str_36) (And.intro @q_arz_36 (And.intro @q_ifc_36 @q_tsz_86)))) (And.intro (And.intro (And.intro @q_slz_86 @q_ifc_86) (And.intro @q_tsz_88 (And.intro @q_slz_88 @q_ifc_88))) (And.intro (And.intro @q_slz_89 (And.intro @q_zcs_27 @q_bsl_25)) (And.intro @q_bsl_36 (And.intro @q_bsl_34 @q_bld_27)))))))
def sRp4D_108 := (And.intro (And.intro (And.intro (And.intro (And.intro @q_fld_88_1 (And.intro @q_fld_88_3 @q_fld_59_0)) (And.intro @q_fld_88_0 (And.intro @q_slz_0 @q_tsz_1))) (And.intro (And.intro @q_slz_1 (And.intro @q_ifc_1 @q_tsz_2)) (And.intro (And.intro @q_slz_2 @q_ifc_2) (And.intro @q_tsz_3 @q_slz_3)))) (And.intro (And.intro (And.intro @q_ifc_3 (And.intro @q_tsz_4 @q_slz_4)) (And.intro @q_ifc_4 (And.intro @q_isb_4 @q_tsz_9))) (And.intro (And.intro @q_slz_9 (And.intro @q_str_9 @q_arz_9)) (And.intro (And.intro @q_ifc_9 @q_tsz_23) (And.intro @q_slz_23 @q_str_23))))) (And.intro (And.intro (And.intro (And.intro @q_arz_23 (And.intro @q_ifc_23 @q_tsz_25)) (And.intro @q_slz_25 (And.intro @q_str_25 @q_arz_25))) (And.intro (And.intro @q_ifc_25 (And.intro @q_tsz_27 @q_slz_27)) (And.intro (And.intro @q_ifc_27 @q_tsz_28) (And.intro @q_slz_28 @q_ifc_28)))) (And.intro (And.intro (And.intro @q_tsz_59 (And.intro @q_slz_59 @q_ifc_59)) (And.intro @q_tsz_86 (And.intro @q_slz_86 @q_ifc_86))) (And.intro (And.intro @q_tsz_88 (And.intro @q_slz_88 @q_ifc_88)) (And.intro (And.intro @q_slz_89 @q_zcs_27) (And.intro @q_bsl_25 @q_bld_27))))))
def zeroE : AE := .mk 0 0 ⟨#[]⟩ 0 []
/-- What a reading of an expression comes to. -/
def RE (K : Res → St → Prop) (σ : St) (b : Nat) (kt : Cap) (T : List Tk) (free : Bool) (B : Nat) : Except PErr (AE × Nat) → Prop
  | .ok (x, p) => K (.ret (.tuple [pvE x, vi (dE x)])) (σ.set b (.cells (rpC kt T p 0 0 free)))
  | .error (i, c) => ∀ (x : AE) (d a' : Nat), d ≤ B → a' ≤ T.length → K (.ret (.tuple [pvE x, vi d])) (σ.set b (.cells (rpC kt T a' (lineAt T i) c free)))
theorem mDeep_code {free : Bool} {x : AE} {p i : Nat} {c : Int} (h : mDeep free x p = .error (i, c)) : c ≠ 0 := by
  unfold mDeep at h
  split at h
  · cases h; decide
  · cases h
theorem m_code (g : Nat → Option Tk) (fr : Bool) : ∀ f,
    (∀ k a i c, mL g fr f k a = .error (i, c) → c ≠ 0) ∧ (∀ k x a i c, mR g fr f k x a = .error (i, c) → c ≠ 0) ∧ (∀ a i c, mF g fr f a = .error (i, c) → c ≠ 0) := by
  intro f
  induction f with
  | zero => refine ⟨?_, ?_, ?_⟩ <;> intros <;> simp_all [mL, mR, mF] <;> omega
  | succ f ih =>
    obtain ⟨i1, i2, i3⟩ := ih
    refine ⟨?_, ?_, ?_⟩
    · intro k a i c h
      rw [mL_s] at h
      split at h
      · exact i3 _ _ _ h
      · split at h
        · rename_i e he; cases h; exact i1 _ _ _ _ he
        · exact i2 _ _ _ _ _ h
    · intro k x a i c h
      rw [mR_s] at h
      split at h
      · cases h
      · split at h
        · rename_i e he; cases h; exact i1 _ _ _ _ he
        · split at h
          · rename_i e he; cases h; exact mDeep_code he
          · split at h
            · cases h
            · exact i2 _ _ _ _ _ h
    · intro a i c h
      rw [mF] at h
      split at h
      · cases h
      · split at h
        · split at h
          · cases h
          · split at h
            · rename_i e he; cases h; exact i3 _ _ _ he
            · exact mDeep_code h
        · split at h
          · split at h
            · split at h
              · rename_i e he; cases h; exact i1 _ _ _ _ he
              · split at h
                · exact mDeep_code h
                · cases h; decide
            · cases h
          · split at h
            · split at h
              · rename_i e he; cases h; exact i1 _ _ _ _ he
              · split at h
                · cases h
                · cases h; decide
            · cases h; decide
theorem mDeep_pos {free : Bool} {x e : AE} {q p : Nat} (h : mDeep free x q = .ok (e, p)) : e = x ∧ p = q := by
  unfold mDeep at h
  split at h <;> cases h
  exact ⟨rfl, rfl⟩
theorem dE_pos (e : AE) : 1 ≤ dE e := by cases e; simp only [dE]; omega
/-- An expression is no deeper than it has tokens. -/
theorem m_deep (g : Nat → Option Tk) (fr : Bool) : ∀ f,
    (∀ k a e p, mL g fr f k a = .ok (e, p) → a + dE e ≤ p) ∧
    (∀ k x a e p, mR g fr f k x a = .ok (e, p) → ∀ a0, a0 + dE x ≤ a → a0 + dE e ≤ p) ∧
    (∀ a e p, mF g fr f a = .ok (e, p) → a + dE e ≤ p) := by
  intro f
  induction f with
  | zero => refine ⟨?_, ?_, ?_⟩ <;> intros <;> simp_all [mL, mR, mF]
  | succ f ih =>
    obtain ⟨i1, i2, i3⟩ := ih
    refine ⟨?_, ?_, ?_⟩
    · intro k a e p h
      rw [mL_s] at h
      split at h
      · exact i3 _ _ _ h
      · split at h
        · cases h
        · rename_i x q hq
          exact i2 _ _ _ _ _ h a (i1 _ _ _ _ hq)
    · intro k x a e p h a0 h0
      rw [mR_s] at h
      split at h
      · cases h; exact h0
      · split at h
        · cases h
        · rename_i y q hq
          have hy := i1 _ _ _ _ hq
          have := dE_pos y
          split at h
          · cases h
          · rename_i z q' hz
            obtain ⟨rfl, rfl⟩ := mDeep_pos hz
            have hz : a0 + dE (binE (opAt k (g a)) x y) ≤ q' := by simp only [binE, dE, dEs]; omega
            split at h
            · cases h; exact hz
            · exact i2 _ _ _ _ _ h a0 hz
    · intro a e p h
      rw [mF] at h
      split at h
      · cases h; simp [numE, dE, dEs]
      · split at h
        · split at h
          · cases h; simp only [numE, dE, dEs]; omega
          · split at h
            · cases h
            · rename_i x q hx
              obtain ⟨rfl, rfl⟩ := mDeep_pos h
              have := i3 _ _ _ hx
              have := dE_pos x
              simp only [binE, numE, dE, dEs]; omega
        · split at h
          · split at h
            · split at h
              · cases h
              · rename_i x q hx
                split at h
                · obtain ⟨rfl, rfl⟩ := mDeep_pos h
                  have := i1 _ _ _ _ hx
                  simp only [indexE, dE, dEs]; omega
                · cases h
            · cases h; simp [nameE, dE, dEs]
          · split at h
            · split at h
              · cases h
              · rename_i x q hx
                split at h
                · cases h
                  have := i1 _ _ _ _ hx
                  omega
                · cases h
            · cases h
/-- Tokens that are read are there. -/
theorem m_le {T : List Tk} {fr : Bool} {f a p : Nat} {e : AE} (h : a < p ∧ ∀ i, a ≤ i → i < p → T[i]? ≠ none) : p ≤ T.length := by
  have := h.2 (p - 1) (by omega) (by omega)
  rcases Nat.lt_or_ge (p - 1) T.length with q | q
  · omega
  · exact absurd (List.getElem?_eq_none q) this
theorem ops_len (k : Nat) : (opsOf k).length ≤ 6 := by
  match k with
  | 0 => decide
  | 1 => decide
  | 2 => decide
  | _ + 3 => exact Nat.zero_le _
def LevelC (kt : Cap) (T : List Tk) (free : Bool) (b : Nat) (f : Nat) : Prop := ∀ (k a : Nat) (σ : St) (K : Res → St → Prop), k ≤ 3 → a ≤ T.length → 5 * (T.length - a) + (3 - k) + 2 ≤ f → σ.obj b = some (.cells (rpC kt T a 0 0 free)) → RE K σ b kt T free (T.length + f) (mL (fun i => T[i]?) free f k a) → PCalls Tryd.prog 71 [vp b 0, vi k] σ K
def FactorC (kt : Cap) (T : List Tk) (free : Bool) (b : Nat) (f : Nat) : Prop := ∀ (a : Nat) (σ : St) (K : Res → St → Prop), a ≤ T.length → 5 * (T.length - a) + 1 ≤ f → σ.obj b = some (.cells (rpC kt T a 0 0 free)) → RE K σ b kt T free (T.length + f) (mF (fun i => T[i]?) free f a) → PCalls Tryd.prog 108 [vp b 0] σ K
set_option maxHeartbeats 4000000 in
set_option maxRecDepth 100000 in
theorem factor_err (b : Nat) (kt : Cap) (T : List Tk) (a : Nat) (line e : Int) (free : Bool) (he : e ≠ 0) (σ : St) (h : σ.obj b = some (.cells (rpC kt T a line e free))) (K : Res → St → Prop) (hK : K (.ret (.tuple [pvE zeroE, vi 0])) σ) : PCalls Tryd.prog 108 [vp b 0] σ K := by
  refine PCalls.forgetR ?_
  refine PCalls.of_body (tOk Tryd.prog) (by kernel_rfl) Tryd.func108 rfl (by kernel_rfl) [] [(3, 42, [(0, []), (4, []), (1, []), (5, []), (2, []), (6, []), (3, []), (7, []), (8, []), (9, []), (10, []), (11, []), (15, []), (12, []), (16, []), (13, []), (17, []), (14, []), (18, []), (19, []), (20, []), (21, []), (22, []), (23, []), (24, [])]), (6, 72, [(0, []), (4, []), (1, []), (5, []), (2, []), (6, []), (3, []), (7, []), (8, []), (9, []), (10, []), (11, []), (15, []), (12, []), (16, []), (13, []), (17, []), (14, []), (18, []), (19, []), (20, []), (21, []), (22, []), (23, [])])] (by kernel_rfl) (n := 130) (by kernel_rfl) (by kernel_rfl) (rs := [.cell 2 27, .tmp 3]) (by kernel_rfl) ?_
  unfold rpC at h
  simp only [vi, vb'] at h
  simp (config := { maxSteps := 4000000 }) (disch := omega) only [pvK, pvB, sRp4D_108, reduceIte, Nat.reduceEqDiff, Nat.reduceAdd, Nat.reduceSub, Nat.reduceMul, Nat.reduceLT, Nat.reduceLeDiff, Nat.reduceBEq, reduceCtorEq, Int.reduceAdd, Int.reduceSub, Int.reduceMul, Int.reduceLT, Int.reduceLE, Int.reduceEq, Int.reduceToNat, Int.reduceNeg, Nat.reduceBNe, Int.reduceBEq, Int.reduceBNe, Int.reduceGT, Int.reduceGE, Int.reduceTMod, Bool.false_eq_true, Bool.not_true, Bool.not_false, forall_const, eq_self, decide_true, decide_false, h, ne_true he]
  exact ⟨_, .refl _, hK⟩
set_option maxHeartbeats 8000000 in
set_option maxRecDepth 100000 in
theorem level_err (b : Nat) (kt : Cap) (T : List Tk) (a : Nat) (line e : Int) (free : Bool) (he : e ≠ 0) (σ : St) (h : σ.obj b = some (.cells (rpC kt T a line e free))) : ∀ (n k : Nat), k + n = 3 → ∀ (K : Res → St → Prop), K (.ret (.tuple [pvE zeroE, vi 0])) σ → PCalls Tryd.prog 71 [vp b 0, vi k] σ K := by
  intro n
  induction n with
  | zero =>
    intro k hk K hK
    obtain rfl : k = 3 := by omega
    have c3 : ((3 : Nat) : Int) = 3 := rfl
    refine PCalls.of_body (tOk Tryd.prog) (by kernel_rfl) Tryd.func71 rfl (by kernel_rfl) [] [] (by kernel_rfl) (n := 85) (by kernel_rfl) (by kernel_rfl) (rs := [.cell 4 27, .tmp 5]) (by kernel_rfl) ?_
    simp (config := { maxSteps := 4000000 }) (disch := omega) only [pvK, pvB, sRp4D_71, reduceIte, Nat.reduceEqDiff, Nat.reduceAdd, Nat.reduceSub, Nat.reduceMul, Nat.reduceLT, Nat.reduceLeDiff, Nat.reduceBEq, reduceCtorEq, Int.reduceAdd, Int.reduceSub, Int.reduceMul, Int.reduceLT, Int.reduceLE, Int.reduceEq, Int.reduceToNat, Int.reduceNeg, Nat.reduceBNe, Int.reduceBEq, Int.reduceBNe, Int.reduceGT, Int.reduceGE, Int.reduceTMod, Bool.false_eq_true, Bool.not_true, Bool.not_false, forall_const, eq_self, decide_true, decide_false, c3]
    refine factor_err b kt T a line e free he σ h _ ?_
    unfold zeroE at hK ⊢
    simp only [pvE_q, pvEs] at hK
    simp (config := { maxSteps := 4000000 }) (disch := omega) only [pvK, pvB, sRp4D_71, reduceIte, Nat.reduceEqDiff, Nat.reduceAdd, Nat.reduceSub, Nat.reduceMul, Nat.reduceLT, Nat.reduceLeDiff, Nat.reduceBEq, reduceCtorEq, Int.reduceAdd, Int.reduceSub, Int.reduceMul, Int.reduceLT, Int.reduceLE, Int.reduceEq, Int.reduceToNat, Int.reduceNeg, Nat.reduceBNe, Int.reduceBEq, Int.reduceBNe, Int.reduceGT, Int.reduceGE, Int.reduceTMod, Bool.false_eq_true, Bool.not_true, Bool.not_false, forall_const, eq_self, decide_true, decide_false, pvEs]
    exact ⟨_, .refl _, hK⟩
  | succ n ih =>
    intro k hk K hK
    refine PCalls.of_pieces (tOk Tryd.prog) Tryd.func71 rfl (by kernel_rfl) (n := 85) (by kernel_rfl) (by kernel_rfl) (rs := [.cell 4 27, .tmp 5]) (by kernel_rfl) ?_
    refine swp_cut (tOk Tryd.prog) (by kernel_rfl) [] [] 3 (fun s => s = ⟨85, [(0, vp b 0), (1, vi k), (4, .lptr 4 0), (6, .list .full 1 ((opsOf k).map fun p => vs p.1)), (7, .list .full 1 ((opsOf k).map fun p => vi p.2))], [(4, [vi 0, vi 0, vs ⟨#[]⟩, vi 0, .list .full 5 []])], σ⟩) (by kernel_rfl) ?_ ?_
    · dsimp only [cutL]
      have hk3 : k = 0 ∨ k = 1 ∨ k = 2 := by omega
      rcases hk3 with rfl | rfl | rfl
      · simp (config := { maxSteps := 4000000 }) (disch := omega) only [pvK, pvB, sRp4D_71, reduceIte, Nat.reduceEqDiff, Nat.reduceAdd, Nat.reduceSub, Nat.reduceMul, Nat.reduceLT, Nat.reduceLeDiff, Nat.reduceBEq, reduceCtorEq, Int.reduceAdd, Int.reduceSub, Int.reduceMul, Int.reduceLT, Int.reduceLE, Int.reduceEq, Int.reduceToNat, Int.reduceNeg, Nat.reduceBNe, Int.reduceBEq, Int.reduceBNe, Int.reduceGT, Int.reduceGE, Int.reduceTMod, Bool.false_eq_true, Bool.not_true, Bool.not_false, forall_const, eq_self, decide_true, decide_false, kjoin_norm, kjoin_exit, kjoin_ret, kjoin_panic, cast_1, cast_2]
        exact ⟨_, less_env rfl (less_env rfl (less_env rfl (less_env rfl (less_env rfl (less_loc rfl (less_nil (.refl _))))))), rfl⟩
      · simp (config := { maxSteps := 4000000 }) (disch := omega) only [pvK, pvB, sRp4D_71, reduceIte, Nat.reduceEqDiff, Nat.reduceAdd, Nat.reduceSub, Nat.reduceMul, Nat.reduceLT, Nat.reduceLeDiff, Nat.reduceBEq, reduceCtorEq, Int.reduceAdd, Int.reduceSub, Int.reduceMul, Int.reduceLT, Int.reduceLE, Int.reduceEq, Int.reduceToNat, Int.reduceNeg, Nat.reduceBNe, Int.reduceBEq, Int.reduceBNe, Int.reduceGT, Int.reduceGE, Int.reduceTMod, Bool.false_eq_true, Bool.not_true, Bool.not_false, forall_const, eq_self, decide_true, decide_false, kjoin_norm, kjoin_exit, kjoin_ret, kjoin_panic, cast_1, cast_2]
        exact ⟨_, less_env rfl (less_env rfl (less_env rfl (less_env rfl (less_env rfl (less_loc rfl (less_nil (.refl _))))))), rfl⟩
      · simp (config := { maxSteps := 4000000 }) (disch := omega) only [pvK, pvB, sRp4D_71, reduceIte, Nat.reduceEqDiff, Nat.reduceAdd, Nat.reduceSub, Nat.reduceMul, Nat.reduceLT, Nat.reduceLeDiff, Nat.reduceBEq, reduceCtorEq, Int.reduceAdd, Int.reduceSub, Int.reduceMul, Int.reduceLT, Int.reduceLE, Int.reduceEq, Int.reduceToNat, Int.reduceNeg, Nat.reduceBNe, Int.reduceBEq, Int.reduceBNe, Int.reduceGT, Int.reduceGE, Int.reduceTMod, Bool.false_eq_true, Bool.not_true, Bool.not_false, forall_const, eq_self, decide_true, decide_false, kjoin_norm, kjoin_exit, kjoin_ret, kjoin_panic, cast_1, cast_2]
        exact ⟨_, less_env rfl (less_env rfl (less_env rfl (less_env rfl (less_env rfl (less_loc rfl (less_nil (.refl _))))))), rfl⟩
    · rintro s rfl
      dsimp only [cutR]
      refine swp_of (tOk Tryd.prog) (by kernel_rfl) [] [] (by kernel_rfl) ?_
      have e1 : ((k : Int) + 1) = ((k + 1 : Nat) : Int) := by omega
      simp (config := { maxSteps := 4000000 }) (disch := omega) only [pvK, pvB, sRp4D_71, reduceIte, Nat.reduceEqDiff, Nat.reduceAdd, Nat.reduceSub, Nat.reduceMul, Nat.reduceLT, Nat.reduceLeDiff, Nat.reduceBEq, reduceCtorEq, Int.reduceAdd, Int.reduceSub, Int.reduceMul, Int.reduceLT, Int.reduceLE, Int.reduceEq, Int.reduceToNat, Int.reduceNeg, Nat.reduceBNe, Int.reduceBEq, Int.reduceBNe, Int.reduceGT, Int.reduceGE, Int.reduceTMod, Bool.false_eq_true, Bool.not_true, Bool.not_false, forall_const, eq_self, decide_true, decide_false, e1]
      refine ih (k + 1) (by omega) _ ?_
      unfold zeroE at hK ⊢
      simp only [pvE_q, pvEs] at hK
      simp (config := { maxSteps := 4000000 }) (disch := omega) only [pvK, pvB, sRp4D_71, reduceIte, Nat.reduceEqDiff, Nat.reduceAdd, Nat.reduceSub, Nat.reduceMul, Nat.reduceLT, Nat.reduceLeDiff, Nat.reduceBEq, reduceCtorEq, Int.reduceAdd, Int.reduceSub, Int.reduceMul, Int.reduceLT, Int.reduceLE, Int.reduceEq, Int.reduceToNat, Int.reduceNeg, Nat.reduceBNe, Int.reduceBEq, Int.reduceBNe, Int.reduceGT, Int.reduceGE, Int.reduceTMod, Bool.false_eq_true, Bool.not_true, Bool.not_false, forall_const, eq_self, decide_true, decide_false, pvEs]
      refine loop_rule (fun s => s = ⟨85, [(0, vp b 0), (1, vi k), (4, .lptr 4 0), (6, .list .full 1 ((opsOf k).map fun p => vs p.1)), (7, .list .full 1 ((opsOf k).map fun p => vi p.2)), (8, .lptr 8 0), (9, vi 0), (10, vi 0)], [(4, [vi 0, vi 0, vs ⟨#[]⟩, vi 0, .list .full 5 []]), (8, [vi 0, vi 0, vs ⟨#[]⟩, vi 0, .list .any 5 []])], σ⟩) (fun _ => 0) ?_ ?_
      · exact ⟨_, less_env rfl (less_env rfl (less_env rfl (less_env rfl (less_env rfl (less_env rfl (less_env rfl (less_env rfl (less_loc rfl (less_loc rfl (less_nil (.refl _))))))))))), rfl⟩
      · rintro s rfl R hR
        simp (config := { maxSteps := 4000000 }) (disch := omega) only [pvK, pvB, sRp4D_71, reduceIte, Nat.reduceEqDiff, Nat.reduceAdd, Nat.reduceSub, Nat.reduceMul, Nat.reduceLT, Nat.reduceLeDiff, Nat.reduceBEq, reduceCtorEq, Int.reduceAdd, Int.reduceSub, Int.reduceMul, Int.reduceLT, Int.reduceLE, Int.reduceEq, Int.reduceToNat, Int.reduceNeg, Nat.reduceBNe, Int.reduceBEq, Int.reduceBNe, Int.reduceGT, Int.reduceGE, Int.reduceTMod, Bool.false_eq_true, Bool.not_true, Bool.not_false, forall_const, eq_self, decide_true, decide_false]
        refine rnext_c b kt T a line e free (opsOf k) (by have := ops_len k; omega) .full .full σ h _ ?_
        rw [if_neg he]
        simp (config := { maxSteps := 4000000 }) (disch := omega) only [pvK, pvB, sRp4D_71, reduceIte, Nat.reduceEqDiff, Nat.reduceAdd, Nat.reduceSub, Nat.reduceMul, Nat.reduceLT, Nat.reduceLeDiff, Nat.reduceBEq, reduceCtorEq, Int.reduceAdd, Int.reduceSub, Int.reduceMul, Int.reduceLT, Int.reduceLE, Int.reduceEq, Int.reduceToNat, Int.reduceNeg, Nat.reduceBNe, Int.reduceBEq, Int.reduceBNe, Int.reduceGT, Int.reduceGE, Int.reduceTMod, Bool.false_eq_true, Bool.not_true, Bool.not_false, forall_const, eq_self, decide_true, decide_false]
        exact ⟨_, .refl _, hK⟩
end Go.Pv.D
-- Rp5D
namespace Go.Pv.D
open Go Go.RowKit Go.Proofs Go.Pv
def sRp5D_45 := (And.intro (And.intro (And.intro @q_slz_0 (And.intro @q_tsz_3 @q_slz_3)) (And.intro @q_ifc_3 (And.intro @q_tsz_27 @q_slz_27))) (And.intro (And.intro @q_ifc_27 (And.intro @q_tsz_86 @q_slz_86)) (And.intro @q_ifc_86 (And.intro @q_slz_89 @q_zcs_27))))
def sRp5D_108 := (And.intro (And.intro (And.intro (And.intro (And.intro @q_fld_88_1 (And.intro @q_fld_88_3 @q_fld_88_0)) (And.intro @q_fld_59_0 (And.intro @q_slz_0 @q_tsz_1))) (And.intro (And.intro @q_slz_1 (And.intro @q_ifc_1 @q_tsz_2)) (And.intro (And.intro @q_slz_2 @q_ifc_2) (And.intro @q_tsz_3 @q_slz_3)))) (And.intro (And.intro (And.intro @q_ifc_3 (And.intro @q_tsz_4 @q_slz_4)) (And.intro @q_ifc_4 (And.intro @q_isb_4 @q_tsz_9))) (And.intro (And.intro @q_slz_9 (And.intro @q_str_9 @q_arz_9)) (And.intro (And.intro @q_ifc_9 @q_tsz_23) (And.intro @q_slz_23 @q_str_23))))) (And.intro (And.intro (And.intro (And.intro @q_arz_23 (And.intro @q_ifc_23 @q_tsz_25)) (And.intro @q_slz_25 (And.intro @q_str_25 @q_arz_25))) (And.intro (And.intro @q_ifc_25 (And.intro @q_tsz_27 @q_slz_27)) (And.intro (And.intro @q_ifc_27 @q_tsz_28) (And.intro @q_slz_28 @q_ifc_28)))) (And.intro (And.intro (And.intro @q_tsz_59 (And.intro @q_slz_59 @q_ifc_59)) (And.intro @q_tsz_86 (And.intro @q_slz_86 @q_ifc_86))) (And.intro (And.intro @q_tsz_88 (And.intro @q_slz_88 @q_ifc_88)) (And.intro (And.intro @q_slz_89 @q_zcs_27) (And.intro @q_bsl_25 @q_bld_27))))))
theorem mF_s (g : Nat → Option Tk) (free : Bool) (f at_ : Nat) : mF g free (f + 1) at_ = (
    if tNum (g at_) = true then .ok (numE (tnum (g at_)), at_ + 1)
    else if tW (g at_) sMinus = true then
      if tNum (g (at_ + 1)) = true then .ok (numE (neg64 (tnum (g (at_ + 1)))), at_ + 2)
      else match mF g free f (at_ + 1) with
        | .error e => .error e
        | .ok (x, p) => mDeep free (binE 2 (numE 0) x) p
    else if tNm (g at_) = true then
      if tW (g (at_ + 1)) sLeft = true then match mL g free f 0 (at_ + 2) with
        | .error e => .error e
        | .ok (x, p) => if tW (g p) sRight = true then mDeep free (indexE (txt (g at_)) x) (p + 1) else .error (p, 1)
      else .ok (nameE (txt (g at_)), at_ + 1)
    else if tW (g at_) sOpen = true then match mL g free f 0 (at_ + 1) with
      | .error e => .error e
      | .ok (x, p) => if tW (g p) sClose = true then .ok (x, p + 1) else .error (p, 1)
    else .error (at_, 1)) := by rw [mF]; rfl
theorem one_ne : ((1 : Int) = 0) = False := by simp
theorem e0f : ((0 : Int) != 0) = false := rfl
theorem expr_c (kt : Cap) (T : List Tk) (free : Bool) (b f : Nat) (ih : LevelC kt T free b f) (a : Nat) (σ : St) (K : Res → St → Prop) (ha : a ≤ T.length) (hf : 5 * (T.length - a) + 5 ≤ f) (h : σ.obj b = some (.cells (rpC kt T a 0 0 free))) (hK : RE K σ b kt T free (T.length + f) (mL (fun i => T[i]?) free f 0 a)) : PCalls Tryd.prog 45 [vp b 0] σ K := by
  refine PCalls.forgetR ?_
  refine PCalls.of_body (tOk Tryd.prog) (by kernel_rfl) Tryd.func45 rfl (by kernel_rfl) [] [] (by kernel_rfl) (n := 8) (by kernel_rfl) (by kernel_rfl) (rs := [.cell 2 27, .tmp 3]) (by kernel_rfl) ?_
  simp (config := { maxSteps := 4000000 }) (disch := omega) only [pvK, pvB, sRp5D_45, reduceIte, Nat.reduceEqDiff, Nat.reduceAdd, Nat.reduceSub, Nat.reduceMul, Nat.reduceLT, Nat.reduceLeDiff, Nat.reduceBEq, reduceCtorEq, Int.reduceAdd, Int.reduceSub, Int.reduceMul, Int.reduceLT, Int.reduceLE, Int.reduceEq, Int.reduceToNat, Int.reduceNeg, Nat.reduceBNe, Int.reduceBEq, Int.reduceBNe, Int.reduceGT, Int.reduceGE, Int.reduceTMod, Bool.false_eq_true, Bool.not_true, Bool.not_false, forall_const, eq_self, decide_true, decide_false]
  refine ih 0 a σ _ (by omega) ha (by omega) h ?_
  cases hm : mL (fun i => T[i]?) free f 0 a with
  | error ec =>
    obtain ⟨i, c⟩ := ec
    rw [hm] at hK
    intro x d a' h1 h2
    have := hK x d a' h1 h2
    have fx := forget_E x
    obtain ⟨x1, x2, x3, x4, x5⟩ := x
    simp only [pvE_q] at this fx ⊢
    simp (config := { maxSteps := 4000000 }) (disch := omega) only [pvK, pvB, sRp5D_45, reduceIte, Nat.reduceEqDiff, Nat.reduceAdd, Nat.reduceSub, Nat.reduceMul, Nat.reduceLT, Nat.reduceLeDiff, Nat.reduceBEq, reduceCtorEq, Int.reduceAdd, Int.reduceSub, Int.reduceMul, Int.reduceLT, Int.reduceLE, Int.reduceEq, Int.reduceToNat, Int.reduceNeg, Nat.reduceBNe, Int.reduceBEq, Int.reduceBNe, Int.reduceGT, Int.reduceGE, Int.reduceTMod, Bool.false_eq_true, Bool.not_true, Bool.not_false, forall_const, eq_self, decide_true, decide_false]
    refine ⟨_, .refl _, ?_⟩
    simp only [Res.forget, forget, forgets, vi] at fx this ⊢
    simpa [fx] using this
  | ok xp =>
    obtain ⟨x, p⟩ := xp
    rw [hm] at hK
    simp only [RE] at hK ⊢
    have fx := forget_E x
    obtain ⟨x1, x2, x3, x4, x5⟩ := x
    simp only [pvE_q] at hK fx ⊢
    simp (config := { maxSteps := 4000000 }) (disch := omega) only [pvK, pvB, sRp5D_45, reduceIte, Nat.reduceEqDiff, Nat.reduceAdd, Nat.reduceSub, Nat.reduceMul, Nat.reduceLT, Nat.reduceLeDiff, Nat.reduceBEq, reduceCtorEq, Int.reduceAdd, Int.reduceSub, Int.reduceMul, Int.reduceLT, Int.reduceLE, Int.reduceEq, Int.reduceToNat, Int.reduceNeg, Nat.reduceBNe, Int.reduceBEq, Int.reduceBNe, Int.reduceGT, Int.reduceGE, Int.reduceTMod, Bool.false_eq_true, Bool.not_true, Bool.not_false, forall_const, eq_self, decide_true, decide_false]
    refine ⟨_, .refl _, ?_⟩
    simp only [Res.forget, forget, forgets, vi] at fx hK ⊢
    simpa [fx] using hK
theorem expr_err (b : Nat) (kt : Cap) (T : List Tk) (a : Nat) (line e : Int) (free : Bool) (he : e ≠ 0) (σ : St) (h : σ.obj b = some (.cells (rpC kt T a line e free))) (K : Res → St → Prop) (hK : K (.ret (.tuple [pvE zeroE, vi 0])) σ) : PCalls Tryd.prog 45 [vp b 0] σ K := by
  refine PCalls.of_body (tOk Tryd.prog) (by kernel_rfl) Tryd.func45 rfl (by kernel_rfl) [] [] (by kernel_rfl) (n := 8) (by kernel_rfl) (by kernel_rfl) (rs := [.cell 2 27, .tmp 3]) (by kernel_rfl) ?_
  simp (config := { maxSteps := 4000000 }) (disch := omega) only [pvK, pvB, sRp5D_45, reduceIte, Nat.reduceEqDiff, Nat.reduceAdd, Nat.reduceSub, Nat.reduceMul, Nat.reduceLT, Nat.reduceLeDiff, Nat.reduceBEq, reduceCtorEq, Int.reduceAdd, Int.reduceSub, Int.reduceMul, Int.reduceLT, Int.reduceLE, Int.reduceEq, Int.reduceToNat, Int.reduceNeg, Nat.reduceBNe, Int.reduceBEq, Int.reduceBNe, Int.reduceGT, Int.reduceGE, Int.reduceTMod, Bool.false_eq_true, Bool.not_true, Bool.not_false, forall_const, eq_self, decide_true, decide_false]
  refine level_err b kt T a line e free he σ h 3 0 rfl _ ?_
  unfold zeroE at hK ⊢
  simp only [pvE_q, pvEs] at hK
  simp (config := { maxSteps := 4000000 }) (disch := omega) only [pvK, pvB, sRp5D_45, reduceIte, Nat.reduceEqDiff, Nat.reduceAdd, Nat.reduceSub, Nat.reduceMul, Nat.reduceLT, Nat.reduceLeDiff, Nat.reduceBEq, reduceCtorEq, Int.reduceAdd, Int.reduceSub, Int.reduceMul, Int.reduceLT, Int.reduceLE, Int.reduceEq, Int.reduceToNat, Int.reduceNeg, Nat.reduceBNe, Int.reduceBEq, Int.reduceBNe, Int.reduceGT, Int.reduceGE, Int.reduceTMod, Bool.false_eq_true, Bool.not_true, Bool.not_false, forall_const, eq_self, decide_true, decide_false, pvEs]
  exact ⟨_, .refl _, hK⟩
set_option maxHeartbeats 32000000 in
set_option maxRecDepth 100000 in
theorem factor_of (kt : Cap) (T : List Tk) (free : Bool) (b f : Nat) (hT : T.length < 1000000) (hff : f < 10000000) (ihL : LevelC kt T free b f) (ihF : FactorC kt T free b f) : FactorC kt T free b (f + 1) := by
  intro a σ K ha hf h hK
  have h0 := h
  unfold rpC at h
  simp only [vi, vb'] at h
  rw [mF_s] at hK
  refine PCalls.forgetR ?_
  refine PCalls.of_body (tOk Tryd.prog) (by kernel_rfl) Tryd.func108 rfl (by kernel_rfl) [] [(3, 42, [(0, []), (4, []), (1, []), (5, []), (2, []), (6, []), (3, []), (7, []), (8, []), (9, []), (10, []), (11, []), (15, []), (12, []), (16, []), (13, []), (17, []), (14, []), (18, []), (19, []), (20, []), (21, []), (22, []), (23, []), (24, [])]), (6, 72, [(0, []), (4, []), (1, []), (5, []), (2, []), (6, []), (3, []), (7, []), (8, []), (9, []), (10, []), (11, []), (15, []), (12, []), (16, []), (13, []), (17, []), (14, []), (18, []), (19, []), (20, []), (21, []), (22, []), (23, [])])] (by kernel_rfl) (n := 130) (by kernel_rfl) (by kernel_rfl) (rs := [.cell 2 27, .tmp 3]) (by kernel_rfl) ?_
  by_cases hn : tNum T[a]? = true
  · rw [if_pos hn] at hK
    obtain ⟨t, ht, hk⟩ : ∃ t, T[a]? = some t ∧ (t.kind == 2) = true := by
      cases q : T[a]? with
      | none => rw [q] at hn; cases hn
      | some t => rw [q] at hn; exact ⟨t, rfl, hn⟩
    simp (config := { maxSteps := 4000000 }) (disch := omega) only [pvK, pvB, sRp5D_108, reduceIte, Nat.reduceEqDiff, Nat.reduceAdd, Nat.reduceSub, Nat.reduceMul, Nat.reduceLT, Nat.reduceLeDiff, Nat.reduceBEq, reduceCtorEq, Int.reduceAdd, Int.reduceSub, Int.reduceMul, Int.reduceLT, Int.reduceLE, Int.reduceEq, Int.reduceToNat, Int.reduceNeg, Nat.reduceBNe, Int.reduceBEq, Int.reduceBNe, Int.reduceGT, Int.reduceGE, Int.reduceTMod, Bool.false_eq_true, Bool.not_true, Bool.not_false, forall_const, eq_self, decide_true, decide_false, rpC, h, e0f, lt_true (tok_some ht), tok_get ht, nn, hk]
    refine rnum_c b kt T a 0 0 free hT (by omega) σ h0 _ ?_
    rw [if_pos rfl, if_pos hn]
    simp only [RE] at hK
    simp (config := { maxSteps := 4000000 }) (disch := omega) only [pvK, pvB, sRp5D_108, reduceIte, Nat.reduceEqDiff, Nat.reduceAdd, Nat.reduceSub, Nat.reduceMul, Nat.reduceLT, Nat.reduceLeDiff, Nat.reduceBEq, reduceCtorEq, Int.reduceAdd, Int.reduceSub, Int.reduceMul, Int.reduceLT, Int.reduceLE, Int.reduceEq, Int.reduceToNat, Int.reduceNeg, Nat.reduceBNe, Int.reduceBEq, Int.reduceBNe, Int.reduceGT, Int.reduceGE, Int.reduceTMod, Bool.false_eq_true, Bool.not_true, Bool.not_false, forall_const, eq_self, decide_true, decide_false, rpC]
    refine ⟨_, .refl _, ?_⟩
    have hh := hK
    simp only [Res.forget, forget, forgets, pvE, pvEs, binE, numE, nameE, indexE, zeroE, vi, vs, vb', rpC, forgets_Es, forget_E, dE, dEs, Nat.add_zero, cast_1] at hh ⊢
    exact hh
  rw [if_neg hn] at hK
  have hn2 : ∀ t, T[a]? = some t → (t.kind == 2) = false := by
    intro t q
    rw [q] at hn
    simpa [tNum] using hn
  cases ht : T[a]? with
  | none =>
    have f1 : tW T[a]? ⟨#[45]⟩ = false := by rw [ht]; rfl
    have f2 : tNm T[a]? = false := by rw [ht]; rfl
    have f3 : tW T[a]? ⟨#[40]⟩ = false := by rw [ht]; rfl
    rw [if_neg (by show ¬ tW T[a]? ⟨#[45]⟩ = true; rw [f1]; simp), if_neg (by rw [f2]; simp), if_neg (by show ¬ tW T[a]? ⟨#[40]⟩ = true; rw [f3]; simp)] at hK
    simp (config := { maxSteps := 4000000 }) (disch := omega) only [pvK, pvB, sRp5D_108, reduceIte, Nat.reduceEqDiff, Nat.reduceAdd, Nat.reduceSub, Nat.reduceMul, Nat.reduceLT, Nat.reduceLeDiff, Nat.reduceBEq, reduceCtorEq, Int.reduceAdd, Int.reduceSub, Int.reduceMul, Int.reduceLT, Int.reduceLE, Int.reduceEq, Int.reduceToNat, Int.reduceNeg, Nat.reduceBNe, Int.reduceBEq, Int.reduceBNe, Int.reduceGT, Int.reduceGE, Int.reduceTMod, Bool.false_eq_true, Bool.not_true, Bool.not_false, forall_const, eq_self, decide_true, decide_false, rpC, h, e0f, lt_false (tok_none ht)]
    refine skip_c b kt T a 0 0 free _ (by omega) σ h0 _ ?_
    simp (config := { maxSteps := 4000000 }) (disch := omega) only [pvK, pvB, sRp5D_108, reduceIte, Nat.reduceEqDiff, Nat.reduceAdd, Nat.reduceSub, Nat.reduceMul, Nat.reduceLT, Nat.reduceLeDiff, Nat.reduceBEq, reduceCtorEq, Int.reduceAdd, Int.reduceSub, Int.reduceMul, Int.reduceLT, Int.reduceLE, Int.reduceEq, Int.reduceToNat, Int.reduceNeg, Nat.reduceBNe, Int.reduceBEq, Int.reduceBNe, Int.reduceGT, Int.reduceGE, Int.reduceTMod, Bool.false_eq_true, Bool.not_true, Bool.not_false, forall_const, eq_self, decide_true, decide_false, rpC, f1, h]
    refine isName_c b kt T a 0 0 free σ h0 _ ?_
    simp (config := { maxSteps := 4000000 }) (disch := omega) only [pvK, pvB, sRp5D_108, reduceIte, Nat.reduceEqDiff, Nat.reduceAdd, Nat.reduceSub, Nat.reduceMul, Nat.reduceLT, Nat.reduceLeDiff, Nat.reduceBEq, reduceCtorEq, Int.reduceAdd, Int.reduceSub, Int.reduceMul, Int.reduceLT, Int.reduceLE, Int.reduceEq, Int.reduceToNat, Int.reduceNeg, Nat.reduceBNe, Int.reduceBEq, Int.reduceBNe, Int.reduceGT, Int.reduceGE, Int.reduceTMod, Bool.false_eq_true, Bool.not_true, Bool.not_false, forall_const, eq_self, decide_true, decide_false, rpC, f2, h]
    refine need_c b kt T a 0 0 free _ hT (by omega) σ h0 _ ?_
    simp (config := { maxSteps := 4000000 }) (disch := omega) only [pvK, pvB, sRp5D_108, reduceIte, Nat.reduceEqDiff, Nat.reduceAdd, Nat.reduceSub, Nat.reduceMul, Nat.reduceLT, Nat.reduceLeDiff, Nat.reduceBEq, reduceCtorEq, Int.reduceAdd, Int.reduceSub, Int.reduceMul, Int.reduceLT, Int.reduceLE, Int.reduceEq, Int.reduceToNat, Int.reduceNeg, Nat.reduceBNe, Int.reduceBEq, Int.reduceBNe, Int.reduceGT, Int.reduceGE, Int.reduceTMod, Bool.false_eq_true, Bool.not_true, Bool.not_false, forall_const, eq_self, decide_true, decide_false, rpC, f3]
    refine expr_err b kt T a (lineAt T a) 1 free (by decide) _ (obj_set _ _ _) _ ?_
    unfold zeroE
    simp (config := { maxSteps := 4000000 }) (disch := omega) only [pvK, pvB, sRp5D_108, reduceIte, Nat.reduceEqDiff, Nat.reduceAdd, Nat.reduceSub, Nat.reduceMul, Nat.reduceLT, Nat.reduceLeDiff, Nat.reduceBEq, reduceCtorEq, Int.reduceAdd, Int.reduceSub, Int.reduceMul, Int.reduceLT, Int.reduceLE, Int.reduceEq, Int.reduceToNat, Int.reduceNeg, Nat.reduceBNe, Int.reduceBEq, Int.reduceBNe, Int.reduceGT, Int.reduceGE, Int.reduceTMod, Bool.false_eq_true, Bool.not_true, Bool.not_false, forall_const, eq_self, decide_true, decide_false, rpC, pvEs]
    refine need_c b kt T a (lineAt T a) 1 free _ hT (by omega) _ (obj_set _ _ _) _ ?_
    simp (config := { maxSteps := 4000000 }) (disch := omega) only [pvK, pvB, sRp5D_108, reduceIte, Nat.reduceEqDiff, Nat.reduceAdd, Nat.reduceSub, Nat.reduceMul, Nat.reduceLT, Nat.reduceLeDiff, Nat.reduceBEq, reduceCtorEq, Int.reduceAdd, Int.reduceSub, Int.reduceMul, Int.reduceLT, Int.reduceLE, Int.reduceEq, Int.reduceToNat, Int.reduceNeg, Nat.reduceBNe, Int.reduceBEq, Int.reduceBNe, Int.reduceGT, Int.reduceGE, Int.reduceTMod, Bool.false_eq_true, Bool.not_true, Bool.not_false, forall_const, eq_self, decide_true, decide_false, rpC, one_ne]
    refine ⟨_, .refl _, ?_⟩
    have hh := hK zeroE 0 a (Nat.zero_le _) ha
    simp only [Res.forget, forget, forgets, pvE, pvEs, binE, numE, nameE, indexE, zeroE, vi, vs, vb', rpC, forgets_Es, forget_E, cast_0] at hh ⊢
    exact hh
  | some t =>
    have hk := hn2 t ht
    have hat := tok_some ht
    by_cases f1 : tW T[a]? ⟨#[45]⟩ = true
    · rw [if_pos (show tW T[a]? sMinus = true from f1)] at hK
      simp (config := { maxSteps := 4000000 }) (disch := omega) only [pvK, pvB, sRp5D_108, reduceIte, Nat.reduceEqDiff, Nat.reduceAdd, Nat.reduceSub, Nat.reduceMul, Nat.reduceLT, Nat.reduceLeDiff, Nat.reduceBEq, reduceCtorEq, Int.reduceAdd, Int.reduceSub, Int.reduceMul, Int.reduceLT, Int.reduceLE, Int.reduceEq, Int.reduceToNat, Int.reduceNeg, Nat.reduceBNe, Int.reduceBEq, Int.reduceBNe, Int.reduceGT, Int.reduceGE, Int.reduceTMod, Bool.false_eq_true, Bool.not_true, Bool.not_false, forall_const, eq_self, decide_true, decide_false, rpC, h, e0f, lt_true hat, tok_get ht, nn, hk]
      refine skip_c b kt T a 0 0 free _ (by omega) σ h0 _ ?_
      simp (config := { maxSteps := 4000000 }) (disch := omega) only [pvK, pvB, sRp5D_108, reduceIte, Nat.reduceEqDiff, Nat.reduceAdd, Nat.reduceSub, Nat.reduceMul, Nat.reduceLT, Nat.reduceLeDiff, Nat.reduceBEq, reduceCtorEq, Int.reduceAdd, Int.reduceSub, Int.reduceMul, Int.reduceLT, Int.reduceLE, Int.reduceEq, Int.reduceToNat, Int.reduceNeg, Nat.reduceBNe, Int.reduceBEq, Int.reduceBNe, Int.reduceGT, Int.reduceGE, Int.reduceTMod, Bool.false_eq_true, Bool.not_true, Bool.not_false, forall_const, eq_self, decide_true, decide_false, rpC, f1, h]
      cases hu : T[a + 1]? with
      | none =>
        rw [if_neg (by rw [hu]; simp [tNum])] at hK
        simp (config := { maxSteps := 4000000 }) (disch := omega) only [pvK, pvB, sRp5D_108, reduceIte, Nat.reduceEqDiff, Nat.reduceAdd, Nat.reduceSub, Nat.reduceMul, Nat.reduceLT, Nat.reduceLeDiff, Nat.reduceBEq, reduceCtorEq, Int.reduceAdd, Int.reduceSub, Int.reduceMul, Int.reduceLT, Int.reduceLE, Int.reduceEq, Int.reduceToNat, Int.reduceNeg, Nat.reduceBNe, Int.reduceBEq, Int.reduceBNe, Int.reduceGT, Int.reduceGE, Int.reduceTMod, Bool.false_eq_true, Bool.not_true, Bool.not_false, forall_const, eq_self, decide_true, decide_false, rpC, h, lt_false (tok_none hu)]
        refine ihF (a + 1) _ _ (by omega) (by omega) (obj_set _ _ _) ?_
        cases hm : mF (fun i => T[i]?) free f (a + 1) with
        | error ec =>
          obtain ⟨i, c⟩ := ec
          rw [hm] at hK
          have hc := (m_code _ _ f).2.2 _ _ _ hm
          intro x d a' h1 h2
          have fx := forget_E x
          obtain ⟨x1, x2, x3, x4, x5⟩ := x
          have ed : ((d + 1 : Nat) : Int) = (d : Int) + 1 := by omega
          simp (config := { maxSteps := 4000000 }) (disch := omega) only [pvK, pvB, sRp5D_108, reduceIte, Nat.reduceEqDiff, Nat.reduceAdd, Nat.reduceSub, Nat.reduceMul, Nat.reduceLT, Nat.reduceLeDiff, Nat.reduceBEq, reduceCtorEq, Int.reduceAdd, Int.reduceSub, Int.reduceMul, Int.reduceLT, Int.reduceLE, Int.reduceEq, Int.reduceToNat, Int.reduceNeg, Nat.reduceBNe, Int.reduceBEq, Int.reduceBNe, Int.reduceGT, Int.reduceGE, Int.reduceTMod, Bool.false_eq_true, Bool.not_true, Bool.not_false, forall_const, eq_self, decide_true, decide_false, rpC, fx]
          refine deep_c b kt T a' (lineAt T i) c free _ hT (by omega) _ (obj_set _ _ _) _ ?_
          rw [if_neg (fun q => hc q.2.2)]
          simp (config := { maxSteps := 4000000 }) (disch := omega) only [pvK, pvB, sRp5D_108, reduceIte, Nat.reduceEqDiff, Nat.reduceAdd, Nat.reduceSub, Nat.reduceMul, Nat.reduceLT, Nat.reduceLeDiff, Nat.reduceBEq, reduceCtorEq, Int.reduceAdd, Int.reduceSub, Int.reduceMul, Int.reduceLT, Int.reduceLE, Int.reduceEq, Int.reduceToNat, Int.reduceNeg, Nat.reduceBNe, Int.reduceBEq, Int.reduceBNe, Int.reduceGT, Int.reduceGE, Int.reduceTMod, Bool.false_eq_true, Bool.not_true, Bool.not_false, forall_const, eq_self, decide_true, decide_false, rpC]
          refine ⟨_, .refl _, ?_⟩
          have hh := hK (binE 2 (numE 0) (.mk x1 x2 x3 x4 x5)) (d + 1) a' (by omega) h2
          simp only [Res.forget, forget, forgets, pvE, pvEs, binE, numE, nameE, indexE, zeroE, vi, vs, vb', rpC, forgets_Es, forget_E, ed] at hh ⊢
          exact hh
        | ok xp =>
          obtain ⟨x, p⟩ := xp
          rw [hm] at hK
          have hp := m_le (T := T) (fr := free) (f := f) (e := x) ((m_go _ _ f).2.2 _ _ _ hm)
          have hdx := (m_deep _ _ f).2.2 _ _ _ hm
          have hd1 := dE_pos x
          have ed : dE (binE 2 (numE 0) x) = dE x + 1 := by simp only [binE, numE, dE, dEs]; omega
          have ed2 : ((dE x + 1 : Nat) : Int) = (dE x : Int) + 1 := by omega
          simp only [RE, mDeep, ed] at hK ⊢
          have fx := forget_E x
          generalize dE x = dx at *
          obtain ⟨x1, x2, x3, x4, x5⟩ := x
          simp (config := { maxSteps := 4000000 }) (disch := omega) only [pvK, pvB, sRp5D_108, reduceIte, Nat.reduceEqDiff, Nat.reduceAdd, Nat.reduceSub, Nat.reduceMul, Nat.reduceLT, Nat.reduceLeDiff, Nat.reduceBEq, reduceCtorEq, Int.reduceAdd, Int.reduceSub, Int.reduceMul, Int.reduceLT, Int.reduceLE, Int.reduceEq, Int.reduceToNat, Int.reduceNeg, Nat.reduceBNe, Int.reduceBEq, Int.reduceBNe, Int.reduceGT, Int.reduceGE, Int.reduceTMod, Bool.false_eq_true, Bool.not_true, Bool.not_false, forall_const, eq_self, decide_true, decide_false, rpC, fx]
          refine deep_c b kt T p 0 0 free _ hT (by omega) _ (obj_set _ _ _) _ ?_
          by_cases hd : free = false ∧ 8 < dx + 1
          · rw [if_pos ⟨hd.1, by omega, rfl⟩]
            rw [if_pos hd] at hK
            simp (config := { maxSteps := 4000000 }) (disch := omega) only [pvK, pvB, sRp5D_108, reduceIte, Nat.reduceEqDiff, Nat.reduceAdd, Nat.reduceSub, Nat.reduceMul, Nat.reduceLT, Nat.reduceLeDiff, Nat.reduceBEq, reduceCtorEq, Int.reduceAdd, Int.reduceSub, Int.reduceMul, Int.reduceLT, Int.reduceLE, Int.reduceEq, Int.reduceToNat, Int.reduceNeg, Nat.reduceBNe, Int.reduceBEq, Int.reduceBNe, Int.reduceGT, Int.reduceGE, Int.reduceTMod, Bool.false_eq_true, Bool.not_true, Bool.not_false, forall_const, eq_self, decide_true, decide_false, rpC]
            refine ⟨_, .refl _, ?_⟩
            have hh := hK (binE 2 (numE 0) (.mk x1 x2 x3 x4 x5)) (dx + 1) p (by omega) hp
            simp only [Res.forget, forget, forgets, pvE, pvEs, binE, numE, nameE, indexE, zeroE, vi, vs, vb', rpC, forgets_Es, forget_E, ed2] at hh ⊢
            exact hh
          · rw [if_neg (fun q => hd ⟨q.1, by omega⟩)]
            rw [if_neg hd] at hK
            simp only [RE, ed] at hK
            simp (config := { maxSteps := 4000000 }) (disch := omega) only [pvK, pvB, sRp5D_108, reduceIte, Nat.reduceEqDiff, Nat.reduceAdd, Nat.reduceSub, Nat.reduceMul, Nat.reduceLT, Nat.reduceLeDiff, Nat.reduceBEq, reduceCtorEq, Int.reduceAdd, Int.reduceSub, Int.reduceMul, Int.reduceLT, Int.reduceLE, Int.reduceEq, Int.reduceToNat, Int.reduceNeg, Nat.reduceBNe, Int.reduceBEq, Int.reduceBNe, Int.reduceGT, Int.reduceGE, Int.reduceTMod, Bool.false_eq_true, Bool.not_true, Bool.not_false, forall_const, eq_self, decide_true, decide_false, rpC]
            refine ⟨_, .refl _, ?_⟩
            have hh := hK
            simp only [Res.forget, forget, forgets, pvE, pvEs, binE, numE, nameE, indexE, zeroE, vi, vs, vb', rpC, forgets_Es, forget_E, ed2] at hh ⊢
            exact hh
      | some u =>
        have hau := tok_some hu
        cases hk2 : u.kind == 2
        · rw [if_neg (by rw [hu]; simp [tNum, hk2])] at hK
          simp (config := { maxSteps := 4000000 }) (disch := omega) only [pvK, pvB, sRp5D_108, reduceIte, Nat.reduceEqDiff, Nat.reduceAdd, Nat.reduceSub, Nat.reduceMul, Nat.reduceLT, Nat.reduceLeDiff, Nat.reduceBEq, reduceCtorEq, Int.reduceAdd, Int.reduceSub, Int.reduceMul, Int.reduceLT, Int.reduceLE, Int.reduceEq, Int.reduceToNat, Int.reduceNeg, Nat.reduceBNe, Int.reduceBEq, Int.reduceBNe, Int.reduceGT, Int.reduceGE, Int.reduceTMod, Bool.false_eq_true, Bool.not_true, Bool.not_false, forall_const, eq_self, decide_true, decide_false, rpC, h, lt_true hau, tok_get hu, nn, hk2]
          refine ihF (a + 1) _ _ (by omega) (by omega) (obj_set _ _ _) ?_
          cases hm : mF (fun i => T[i]?) free f (a + 1) with
          | error ec =>
            obtain ⟨i, c⟩ := ec
            rw [hm] at hK
            have hc := (m_code _ _ f).2.2 _ _ _ hm
            intro x d a' h1 h2
            have fx := forget_E x
            obtain ⟨x1, x2, x3, x4, x5⟩ := x
            have ed : ((d + 1 : Nat) : Int) = (d : Int) + 1 := by omega
            simp (config := { maxSteps := 4000000 }) (disch := omega) only [pvK, pvB, sRp5D_108, reduceIte, Nat.reduceEqDiff, Nat.reduceAdd, Nat.reduceSub, Nat.reduceMul, Nat.reduceLT, Nat.reduceLeDiff, Nat.reduceBEq, reduceCtorEq, Int.reduceAdd, Int.reduceSub, Int.reduceMul, Int.reduceLT, Int.reduceLE, Int.reduceEq, Int.reduceToNat, Int.reduceNeg, Nat.reduceBNe, Int.reduceBEq, Int.reduceBNe, Int.reduceGT, Int.reduceGE, Int.reduceTMod, Bool.false_eq_true, Bool.not_true, Bool.not_false, forall_const, eq_self, decide_true, decide_false, rpC, fx]
            refine deep_c b kt T a' (lineAt T i) c free _ hT (by omega) _ (obj_set _ _ _) _ ?_
            rw [if_neg (fun q => hc q.2.2)]
            simp (config := { maxSteps := 4000000 }) (disch := omega) only [pvK, pvB, sRp5D_108, reduceIte, Nat.reduceEqDiff, Nat.reduceAdd, Nat.reduceSub, Nat.reduceMul, Nat.reduceLT, Nat.reduceLeDiff, Nat.reduceBEq, reduceCtorEq, Int.reduceAdd, Int.reduceSub, Int.reduceMul, Int.reduceLT, Int.reduceLE, Int.reduceEq, Int.reduceToNat, Int.reduceNeg, Nat.reduceBNe, Int.reduceBEq, Int.reduceBNe, Int.reduceGT, Int.reduceGE, Int.reduceTMod, Bool.false_eq_true, Bool.not_true, Bool.not_false, forall_const, eq_self, decide_true, decide_false, rpC]
            refine ⟨_, .refl _, ?_⟩
            have hh := hK (binE 2 (numE 0) (.mk x1 x2 x3 x4 x5)) (d + 1) a' (by omega) h2
            simp only [Res.forget, forget, forgets, pvE, pvEs, binE, numE, nameE, indexE, zeroE, vi, vs, vb', rpC, forgets_Es, forget_E, ed] at hh ⊢
            exact hh
          | ok xp =>
            obtain ⟨x, p⟩ := xp
            rw [hm] at hK
            have hp := m_le (T := T) (fr := free) (f := f) (e := x) ((m_go _ _ f).2.2 _ _ _ hm)
            have hdx := (m_deep _ _ f).2.2 _ _ _ hm
            have hd1 := dE_pos x
            have ed : dE (binE 2 (numE 0) x) = dE x + 1 := by simp only [binE, numE, dE, dEs]; omega
            have ed2 : ((dE x + 1 : Nat) : Int) = (dE x : Int) + 1 := by omega
            simp only [RE, mDeep, ed] at hK ⊢
            have fx := forget_E x
            generalize dE x = dx at *
            obtain ⟨x1, x2, x3, x4, x5⟩ := x
            simp (config := { maxSteps := 4000000 }) (disch := omega) only [pvK, pvB, sRp5D_108, reduceIte, Nat.reduceEqDiff, Nat.reduceAdd, Nat.reduceSub, Nat.reduceMul, Nat.reduceLT, Nat.reduceLeDiff, Nat.reduceBEq, reduceCtorEq, Int.reduceAdd, Int.reduceSub, Int.reduceMul, Int.reduceLT, Int.reduceLE, Int.reduceEq, Int.reduceToNat, Int.reduceNeg, Nat.reduceBNe, Int.reduceBEq, Int.reduceBNe, Int.reduceGT, Int.reduceGE, Int.reduceTMod, Bool.false_eq_true, Bool.not_true, Bool.not_false, forall_const, eq_self, decide_true, decide_false, rpC, fx]
            refine deep_c b kt T p 0 0 free _ hT (by omega) _ (obj_set _ _ _) _ ?_
            by_cases hd : free = false ∧ 8 < dx + 1
            · rw [if_pos ⟨hd.1, by omega, rfl⟩]
              rw [if_pos hd] at hK
              simp (config := { maxSteps := 4000000 }) (disch := omega) only [pvK, pvB, sRp5D_108, reduceIte, Nat.reduceEqDiff, Nat.reduceAdd, Nat.reduceSub, Nat.reduceMul, Nat.reduceLT, Nat.reduceLeDiff, Nat.reduceBEq, reduceCtorEq, Int.reduceAdd, Int.reduceSub, Int.reduceMul, Int.reduceLT, Int.reduceLE, Int.reduceEq, Int.reduceToNat, Int.reduceNeg, Nat.reduceBNe, Int.reduceBEq, Int.reduceBNe, Int.reduceGT, Int.reduceGE, Int.reduceTMod, Bool.false_eq_true, Bool.not_true, Bool.not_false, forall_const, eq_self, decide_true, decide_false, rpC]
              refine ⟨_, .refl _, ?_⟩
              have hh := hK (binE 2 (numE 0) (.mk x1 x2 x3 x4 x5)) (dx + 1) p (by omega) hp
              simp only [Res.forget, forget, forgets, pvE, pvEs, binE, numE, nameE, indexE, zeroE, vi, vs, vb', rpC, forgets_Es, forget_E, ed2] at hh ⊢
              exact hh
            · rw [if_neg (fun q => hd ⟨q.1, by omega⟩)]
              rw [if_neg hd] at hK
              simp only [RE, ed] at hK
              simp (config := { maxSteps := 4000000 }) (disch := omega) only [pvK, pvB, sRp5D_108, reduceIte, Nat.reduceEqDiff, Nat.reduceAdd, Nat.reduceSub, Nat.reduceMul, Nat.reduceLT, Nat.reduceLeDiff, Nat.reduceBEq, reduceCtorEq, Int.reduceAdd, Int.reduceSub, Int.reduceMul, Int.reduceLT, Int.reduceLE, Int.reduceEq, Int.reduceToNat, Int.reduceNeg, Nat.reduceBNe, Int.reduceBEq, Int.reduceBNe, Int.reduceGT, Int.reduceGE, Int.reduceTMod, Bool.false_eq_true, Bool.not_true, Bool.not_false, forall_const, eq_self, decide_true, decide_false, rpC]
              refine ⟨_, .refl _, ?_⟩
              have hh := hK
              simp only [Res.forget, forget, forgets, pvE, pvEs, binE, numE, nameE, indexE, zeroE, vi, vs, vb', rpC, forgets_Es, forget_E, ed2] at hh ⊢
              exact hh
        · rw [if_pos (by rw [hu]; simp [tNum, hk2])] at hK
          simp (config := { maxSteps := 4000000 }) (disch := omega) only [pvK, pvB, sRp5D_108, reduceIte, Nat.reduceEqDiff, Nat.reduceAdd, Nat.reduceSub, Nat.reduceMul, Nat.reduceLT, Nat.reduceLeDiff, Nat.reduceBEq, reduceCtorEq, Int.reduceAdd, Int.reduceSub, Int.reduceMul, Int.reduceLT, Int.reduceLE, Int.reduceEq, Int.reduceToNat, Int.reduceNeg, Nat.reduceBNe, Int.reduceBEq, Int.reduceBNe, Int.reduceGT, Int.reduceGE, Int.reduceTMod, Bool.false_eq_true, Bool.not_true, Bool.not_false, forall_const, eq_self, decide_true, decide_false, rpC, h, lt_true hau, tok_get hu, nn, hk2]
          refine rnum_c b kt T (a + 1) 0 0 free hT (by omega) _ (obj_set _ _ _) _ ?_
          rw [if_pos rfl, if_pos (by rw [hu]; simp [tNum, hk2])]
          simp only [RE] at hK
          simp (config := { maxSteps := 4000000 }) (disch := omega) only [pvK, pvB, sRp5D_108, reduceIte, Nat.reduceEqDiff, Nat.reduceAdd, Nat.reduceSub, Nat.reduceMul, Nat.reduceLT, Nat.reduceLeDiff, Nat.reduceBEq, reduceCtorEq, Int.reduceAdd, Int.reduceSub, Int.reduceMul, Int.reduceLT, Int.reduceLE, Int.reduceEq, Int.reduceToNat, Int.reduceNeg, Nat.reduceBNe, Int.reduceBEq, Int.reduceBNe, Int.reduceGT, Int.reduceGE, Int.reduceTMod, Bool.false_eq_true, Bool.not_true, Bool.not_false, forall_const, eq_self, decide_true, decide_false, rpC]
          refine ⟨_, .refl _, ?_⟩
          have hh := hK
          simp only [Res.forget, forget, forgets, pvE, pvEs, binE, numE, nameE, indexE, zeroE, vi, vs, vb', rpC, forgets_Es, forget_E, dE, dEs, Nat.add_zero, cast_1, neg64] at hh ⊢
          exact hh
    · have f1 : tW T[a]? ⟨#[45]⟩ = false := by simpa using f1
      rw [if_neg (by show ¬ tW T[a]? ⟨#[45]⟩ = true; rw [f1]; simp)] at hK
      simp (config := { maxSteps := 4000000 }) (disch := omega) only [pvK, pvB, sRp5D_108, reduceIte, Nat.reduceEqDiff, Nat.reduceAdd, Nat.reduceSub, Nat.reduceMul, Nat.reduceLT, Nat.reduceLeDiff, Nat.reduceBEq, reduceCtorEq, Int.reduceAdd, Int.reduceSub, Int.reduceMul, Int.reduceLT, Int.reduceLE, Int.reduceEq, Int.reduceToNat, Int.reduceNeg, Nat.reduceBNe, Int.reduceBEq, Int.reduceBNe, Int.reduceGT, Int.reduceGE, Int.reduceTMod, Bool.false_eq_true, Bool.not_true, Bool.not_false, forall_const, eq_self, decide_true, decide_false, rpC, h, e0f, lt_true hat, tok_get ht, nn, hk]
      refine skip_c b kt T a 0 0 free _ (by omega) σ h0 _ ?_
      simp (config := { maxSteps := 4000000 }) (disch := omega) only [pvK, pvB, sRp5D_108, reduceIte, Nat.reduceEqDiff, Nat.reduceAdd, Nat.reduceSub, Nat.reduceMul, Nat.reduceLT, Nat.reduceLeDiff, Nat.reduceBEq, reduceCtorEq, Int.reduceAdd, Int.reduceSub, Int.reduceMul, Int.reduceLT, Int.reduceLE, Int.reduceEq, Int.reduceToNat, Int.reduceNeg, Nat.reduceBNe, Int.reduceBEq, Int.reduceBNe, Int.reduceGT, Int.reduceGE, Int.reduceTMod, Bool.false_eq_true, Bool.not_true, Bool.not_false, forall_const, eq_self, decide_true, decide_false, rpC, f1, h]
      refine isName_c b kt T a 0 0 free σ h0 _ ?_
      by_cases f2 : tNm T[a]? = true
      · rw [if_pos f2] at hK
        simp (config := { maxSteps := 4000000 }) (disch := omega) only [pvK, pvB, sRp5D_108, reduceIte, Nat.reduceEqDiff, Nat.reduceAdd, Nat.reduceSub, Nat.reduceMul, Nat.reduceLT, Nat.reduceLeDiff, Nat.reduceBEq, reduceCtorEq, Int.reduceAdd, Int.reduceSub, Int.reduceMul, Int.reduceLT, Int.reduceLE, Int.reduceEq, Int.reduceToNat, Int.reduceNeg, Nat.reduceBNe, Int.reduceBEq, Int.reduceBNe, Int.reduceGT, Int.reduceGE, Int.reduceTMod, Bool.false_eq_true, Bool.not_true, Bool.not_false, forall_const, eq_self, decide_true, decide_false, rpC, f2, h]
        refine rname_c b kt T a 0 0 free hT (by omega) σ h0 _ ?_
        rw [if_pos rfl, if_pos f2]
        simp (config := { maxSteps := 4000000 }) (disch := omega) only [pvK, pvB, sRp5D_108, reduceIte, Nat.reduceEqDiff, Nat.reduceAdd, Nat.reduceSub, Nat.reduceMul, Nat.reduceLT, Nat.reduceLeDiff, Nat.reduceBEq, reduceCtorEq, Int.reduceAdd, Int.reduceSub, Int.reduceMul, Int.reduceLT, Int.reduceLE, Int.reduceEq, Int.reduceToNat, Int.reduceNeg, Nat.reduceBNe, Int.reduceBEq, Int.reduceBNe, Int.reduceGT, Int.reduceGE, Int.reduceTMod, Bool.false_eq_true, Bool.not_true, Bool.not_false, forall_const, eq_self, decide_true, decide_false, rpC]
        refine skip_c b kt T (a + 1) 0 0 free _ (by omega) _ (obj_set _ _ _) _ ?_
        by_cases f3 : tW T[a + 1]? ⟨#[91]⟩ = true
        · rw [if_pos (show tW T[a + 1]? sLeft = true from f3)] at hK
          have hau : a + 1 < T.length := by
            cases q : T[a + 1]? with
            | none => rw [q] at f3; cases f3
            | some u => exact tok_some q
          simp (config := { maxSteps := 4000000 }) (disch := omega) only [pvK, pvB, sRp5D_108, reduceIte, Nat.reduceEqDiff, Nat.reduceAdd, Nat.reduceSub, Nat.reduceMul, Nat.reduceLT, Nat.reduceLeDiff, Nat.reduceBEq, reduceCtorEq, Int.reduceAdd, Int.reduceSub, Int.reduceMul, Int.reduceLT, Int.reduceLE, Int.reduceEq, Int.reduceToNat, Int.reduceNeg, Nat.reduceBNe, Int.reduceBEq, Int.reduceBNe, Int.reduceGT, Int.reduceGE, Int.reduceTMod, Bool.false_eq_true, Bool.not_true, Bool.not_false, forall_const, eq_self, decide_true, decide_false, rpC, f3]
          refine expr_c kt T free b f ihL (a + 1 + 1) _ _ (by omega) (by omega) (obj_set _ _ _) ?_
          cases hm : mL (fun i => T[i]?) free f 0 (a + 1 + 1) with
          | error ec =>
            obtain ⟨i, c⟩ := ec
            rw [hm] at hK
            have hc := (m_code _ _ f).1 _ _ _ _ hm
            intro x d a' h1 h2
            have fx := forget_E x
            obtain ⟨x1, x2, x3, x4, x5⟩ := x
            have ed : ((d + 1 : Nat) : Int) = (d : Int) + 1 := by omega
            simp (config := { maxSteps := 4000000 }) (disch := omega) only [pvK, pvB, sRp5D_108, reduceIte, Nat.reduceEqDiff, Nat.reduceAdd, Nat.reduceSub, Nat.reduceMul, Nat.reduceLT, Nat.reduceLeDiff, Nat.reduceBEq, reduceCtorEq, Int.reduceAdd, Int.reduceSub, Int.reduceMul, Int.reduceLT, Int.reduceLE, Int.reduceEq, Int.reduceToNat, Int.reduceNeg, Nat.reduceBNe, Int.reduceBEq, Int.reduceBNe, Int.reduceGT, Int.reduceGE, Int.reduceTMod, Bool.false_eq_true, Bool.not_true, Bool.not_false, forall_const, eq_self, decide_true, decide_false, rpC, fx]
            refine need_c b kt T a' (lineAt T i) c free _ hT (by omega) _ (obj_set _ _ _) _ ?_
            rw [if_neg hc]
            simp (config := { maxSteps := 4000000 }) (disch := omega) only [pvK, pvB, sRp5D_108, reduceIte, Nat.reduceEqDiff, Nat.reduceAdd, Nat.reduceSub, Nat.reduceMul, Nat.reduceLT, Nat.reduceLeDiff, Nat.reduceBEq, reduceCtorEq, Int.reduceAdd, Int.reduceSub, Int.reduceMul, Int.reduceLT, Int.reduceLE, Int.reduceEq, Int.reduceToNat, Int.reduceNeg, Nat.reduceBNe, Int.reduceBEq, Int.reduceBNe, Int.reduceGT, Int.reduceGE, Int.reduceTMod, Bool.false_eq_true, Bool.not_true, Bool.not_false, forall_const, eq_self, decide_true, decide_false, rpC]
            refine deep_c b kt T a' (lineAt T i) c free _ hT (by omega) _ (obj_set _ _ _) _ ?_
            rw [if_neg (fun q => hc q.2.2)]
            simp (config := { maxSteps := 4000000 }) (disch := omega) only [pvK, pvB, sRp5D_108, reduceIte, Nat.reduceEqDiff, Nat.reduceAdd, Nat.reduceSub, Nat.reduceMul, Nat.reduceLT, Nat.reduceLeDiff, Nat.reduceBEq, reduceCtorEq, Int.reduceAdd, Int.reduceSub, Int.reduceMul, Int.reduceLT, Int.reduceLE, Int.reduceEq, Int.reduceToNat, Int.reduceNeg, Nat.reduceBNe, Int.reduceBEq, Int.reduceBNe, Int.reduceGT, Int.reduceGE, Int.reduceTMod, Bool.false_eq_true, Bool.not_true, Bool.not_false, forall_const, eq_self, decide_true, decide_false, rpC]
            refine ⟨_, .refl _, ?_⟩
            have hh := hK (indexE (txt T[a]?) (.mk x1 x2 x3 x4 x5)) (d + 1) a' (by omega) h2
            simp only [Res.forget, forget, forgets, pvE, pvEs, binE, numE, nameE, indexE, zeroE, vi, vs, vb', rpC, forgets_Es, forget_E, ed] at hh ⊢
            exact hh
          | ok xp =>
            obtain ⟨x, p⟩ := xp
            rw [hm] at hK
            have hp := m_le (T := T) (fr := free) (f := f) (e := x) ((m_go _ _ f).1 _ _ _ _ hm)
            have hdx := (m_deep _ _ f).1 _ _ _ _ hm
            have ed : dE (indexE (txt T[a]?) x) = dE x + 1 := by simp only [indexE, dE, dEs]; omega
            have ed2 : ((dE x + 1 : Nat) : Int) = (dE x : Int) + 1 := by omega
            simp only [RE, mDeep, ed] at hK ⊢
            have fx := forget_E x
            generalize dE x = dx at *
            obtain ⟨x1, x2, x3, x4, x5⟩ := x
            simp (config := { maxSteps := 4000000 }) (disch := omega) only [pvK, pvB, sRp5D_108, reduceIte, Nat.reduceEqDiff, Nat.reduceAdd, Nat.reduceSub, Nat.reduceMul, Nat.reduceLT, Nat.reduceLeDiff, Nat.reduceBEq, reduceCtorEq, Int.reduceAdd, Int.reduceSub, Int.reduceMul, Int.reduceLT, Int.reduceLE, Int.reduceEq, Int.reduceToNat, Int.reduceNeg, Nat.reduceBNe, Int.reduceBEq, Int.reduceBNe, Int.reduceGT, Int.reduceGE, Int.reduceTMod, Bool.false_eq_true, Bool.not_true, Bool.not_false, forall_const, eq_self, decide_true, decide_false, rpC, fx]
            refine need_c b kt T p 0 0 free _ hT (by omega) _ (obj_set _ _ _) _ ?_
            rw [if_pos rfl]
            by_cases f4 : tW T[p]? ⟨#[93]⟩ = true
            · have hpl : p < T.length := by
                cases q : T[p]? with
                | none => rw [q] at f4; cases f4
                | some u => exact tok_some q
              rw [if_pos f4]
              rw [if_pos (show tW T[p]? sRight = true from f4)] at hK
              simp (config := { maxSteps := 4000000 }) (disch := omega) only [pvK, pvB, sRp5D_108, reduceIte, Nat.reduceEqDiff, Nat.reduceAdd, Nat.reduceSub, Nat.reduceMul, Nat.reduceLT, Nat.reduceLeDiff, Nat.reduceBEq, reduceCtorEq, Int.reduceAdd, Int.reduceSub, Int.reduceMul, Int.reduceLT, Int.reduceLE, Int.reduceEq, Int.reduceToNat, Int.reduceNeg, Nat.reduceBNe, Int.reduceBEq, Int.reduceBNe, Int.reduceGT, Int.reduceGE, Int.reduceTMod, Bool.false_eq_true, Bool.not_true, Bool.not_false, forall_const, eq_self, decide_true, decide_false, rpC]
              refine deep_c b kt T (p + 1) 0 0 free _ hT (by omega) _ (obj_set _ _ _) _ ?_
              by_cases hd : free = false ∧ 8 < dx + 1
              · rw [if_pos ⟨hd.1, by omega, rfl⟩]
                rw [if_pos hd] at hK
                simp (config := { maxSteps := 4000000 }) (disch := omega) only [pvK, pvB, sRp5D_108, reduceIte, Nat.reduceEqDiff, Nat.reduceAdd, Nat.reduceSub, Nat.reduceMul, Nat.reduceLT, Nat.reduceLeDiff, Nat.reduceBEq, reduceCtorEq, Int.reduceAdd, Int.reduceSub, Int.reduceMul, Int.reduceLT, Int.reduceLE, Int.reduceEq, Int.reduceToNat, Int.reduceNeg, Nat.reduceBNe, Int.reduceBEq, Int.reduceBNe, Int.reduceGT, Int.reduceGE, Int.reduceTMod, Bool.false_eq_true, Bool.not_true, Bool.not_false, forall_const, eq_self, decide_true, decide_false, rpC]
                refine ⟨_, .refl _, ?_⟩
                have hh := hK (indexE (txt T[a]?) (.mk x1 x2 x3 x4 x5)) (dx + 1) (p + 1) (by omega) hpl
                simp only [Res.forget, forget, forgets, pvE, pvEs, binE, numE, nameE, indexE, zeroE, vi, vs, vb', rpC, forgets_Es, forget_E, ed2] at hh ⊢
                exact hh
              · rw [if_neg (fun q => hd ⟨q.1, by omega⟩)]
                rw [if_neg hd] at hK
                simp only [RE, ed] at hK
                simp (config := { maxSteps := 4000000 }) (disch := omega) only [pvK, pvB, sRp5D_108, reduceIte, Nat.reduceEqDiff, Nat.reduceAdd, Nat.reduceSub, Nat.reduceMul, Nat.reduceLT, Nat.reduceLeDiff, Nat.reduceBEq, reduceCtorEq, Int.reduceAdd, Int.reduceSub, Int.reduceMul, Int.reduceLT, Int.reduceLE, Int.reduceEq, Int.reduceToNat, Int.reduceNeg, Nat.reduceBNe, Int.reduceBEq, Int.reduceBNe, Int.reduceGT, Int.reduceGE, Int.reduceTMod, Bool.false_eq_true, Bool.not_true, Bool.not_false, forall_const, eq_self, decide_true, decide_false, rpC]
                refine ⟨_, .refl _, ?_⟩
                have hh := hK
                simp only [Res.forget, forget, forgets, pvE, pvEs, binE, numE, nameE, indexE, zeroE, vi, vs, vb', rpC, forgets_Es, forget_E, ed2] at hh ⊢
                exact hh
            · rw [if_neg f4]
              rw [if_neg (show ¬ tW T[p]? sRight = true from f4)] at hK
              simp (config := { maxSteps := 4000000 }) (disch := omega) only [pvK, pvB, sRp5D_108, reduceIte, Nat.reduceEqDiff, Nat.reduceAdd, Nat.reduceSub, Nat.reduceMul, Nat.reduceLT, Nat.reduceLeDiff, Nat.reduceBEq, reduceCtorEq, Int.reduceAdd, Int.reduceSub, Int.reduceMul, Int.reduceLT, Int.reduceLE, Int.reduceEq, Int.reduceToNat, Int.reduceNeg, Nat.reduceBNe, Int.reduceBEq, Int.reduceBNe, Int.reduceGT, Int.reduceGE, Int.reduceTMod, Bool.false_eq_true, Bool.not_true, Bool.not_false, forall_const, eq_self, decide_true, decide_false, rpC]
              refine deep_c b kt T p (lineAt T p) 1 free _ hT (by omega) _ (obj_set _ _ _) _ ?_
              rw [if_neg (fun q => absurd q.2.2 (by decide))]
              simp (config := { maxSteps := 4000000 }) (disch := omega) only [pvK, pvB, sRp5D_108, reduceIte, Nat.reduceEqDiff, Nat.reduceAdd, Nat.reduceSub, Nat.reduceMul, Nat.reduceLT, Nat.reduceLeDiff, Nat.reduceBEq, reduceCtorEq, Int.reduceAdd, Int.reduceSub, Int.reduceMul, Int.reduceLT, Int.reduceLE, Int.reduceEq, Int.reduceToNat, Int.reduceNeg, Nat.reduceBNe, Int.reduceBEq, Int.reduceBNe, Int.reduceGT, Int.reduceGE, Int.reduceTMod, Bool.false_eq_true, Bool.not_true, Bool.not_false, forall_const, eq_self, decide_true, decide_false, rpC]
              refine ⟨_, .refl _, ?_⟩
              have hh := hK (indexE (txt T[a]?) (.mk x1 x2 x3 x4 x5)) (dx + 1) p (by omega) hp
              simp only [Res.forget, forget, forgets, pvE, pvEs, binE, numE, nameE, indexE, zeroE, vi, vs, vb', rpC, forgets_Es, forget_E, ed2] at hh ⊢
              exact hh
        · have f3 : tW T[a + 1]? ⟨#[91]⟩ = false := by simpa using f3
          rw [if_neg (by show ¬ tW T[a + 1]? ⟨#[91]⟩ = true; rw [f3]; simp)] at hK
          simp only [RE] at hK
          simp (config := { maxSteps := 4000000 }) (disch := omega) only [pvK, pvB, sRp5D_108, reduceIte, Nat.reduceEqDiff, Nat.reduceAdd, Nat.reduceSub, Nat.reduceMul, Nat.reduceLT, Nat.reduceLeDiff, Nat.reduceBEq, reduceCtorEq, Int.reduceAdd, Int.reduceSub, Int.reduceMul, Int.reduceLT, Int.reduceLE, Int.reduceEq, Int.reduceToNat, Int.reduceNeg, Nat.reduceBNe, Int.reduceBEq, Int.reduceBNe, Int.reduceGT, Int.reduceGE, Int.reduceTMod, Bool.false_eq_true, Bool.not_true, Bool.not_false, forall_const, eq_self, decide_true, decide_false, rpC, f3]
          refine ⟨_, .refl _, ?_⟩
          have hh := hK
          simp only [Res.forget, forget, forgets, pvE, pvEs, binE, numE, nameE, indexE, zeroE, vi, vs, vb', rpC, forgets_Es, forget_E, dE, dEs, Nat.add_zero, cast_1] at hh ⊢
          exact hh
      · have f2 : tNm T[a]? = false := by simpa using f2
        rw [if_neg (by rw [f2]; simp)] at hK
        simp (config := { maxSteps := 4000000 }) (disch := omega) only [pvK, pvB, sRp5D_108, reduceIte, Nat.reduceEqDiff, Nat.reduceAdd, Nat.reduceSub, Nat.reduceMul, Nat.reduceLT, Nat.reduceLeDiff, Nat.reduceBEq, reduceCtorEq, Int.reduceAdd, Int.reduceSub, Int.reduceMul, Int.reduceLT, Int.reduceLE, Int.reduceEq, Int.reduceToNat, Int.reduceNeg, Nat.reduceBNe, Int.reduceBEq, Int.reduceBNe, Int.reduceGT, Int.reduceGE, Int.reduceTMod, Bool.false_eq_true, Bool.not_true, Bool.not_false, forall_const, eq_self, decide_true, decide_false, rpC, f2, h]
        refine need_c b kt T a 0 0 free _ hT (by omega) σ h0 _ ?_
        rw [if_pos rfl]
        by_cases f5 : tW T[a]? ⟨#[40]⟩ = true
        · rw [if_pos f5]
          rw [if_pos (show tW T[a]? sOpen = true from f5)] at hK
          simp (config := { maxSteps := 4000000 }) (disch := omega) only [pvK, pvB, sRp5D_108, reduceIte, Nat.reduceEqDiff, Nat.reduceAdd, Nat.reduceSub, Nat.reduceMul, Nat.reduceLT, Nat.reduceLeDiff, Nat.reduceBEq, reduceCtorEq, Int.reduceAdd, Int.reduceSub, Int.reduceMul, Int.reduceLT, Int.reduceLE, Int.reduceEq, Int.reduceToNat, Int.reduceNeg, Nat.reduceBNe, Int.reduceBEq, Int.reduceBNe, Int.reduceGT, Int.reduceGE, Int.reduceTMod, Bool.false_eq_true, Bool.not_true, Bool.not_false, forall_const, eq_self, decide_true, decide_false, rpC]
          refine expr_c kt T free b f ihL (a + 1) _ _ (by omega) (by omega) (obj_set _ _ _) ?_
          cases hm : mL (fun i => T[i]?) free f 0 (a + 1) with
          | error ec =>
            obtain ⟨i, c⟩ := ec
            rw [hm] at hK
            have hc := (m_code _ _ f).1 _ _ _ _ hm
            intro x d a' h1 h2
            have fx := forget_E x
            obtain ⟨x1, x2, x3, x4, x5⟩ := x
            simp (config := { maxSteps := 4000000 }) (disch := omega) only [pvK, pvB, sRp5D_108, reduceIte, Nat.reduceEqDiff, Nat.reduceAdd, Nat.reduceSub, Nat.reduceMul, Nat.reduceLT, Nat.reduceLeDiff, Nat.reduceBEq, reduceCtorEq, Int.reduceAdd, Int.reduceSub, Int.reduceMul, Int.reduceLT, Int.reduceLE, Int.reduceEq, Int.reduceToNat, Int.reduceNeg, Nat.reduceBNe, Int.reduceBEq, Int.reduceBNe, Int.reduceGT, Int.reduceGE, Int.reduceTMod, Bool.false_eq_true, Bool.not_true, Bool.not_false, forall_const, eq_self, decide_true, decide_false, rpC, fx]
            refine need_c b kt T a' (lineAt T i) c free _ hT (by omega) _ (obj_set _ _ _) _ ?_
            rw [if_neg hc]
            simp (config := { maxSteps := 4000000 }) (disch := omega) only [pvK, pvB, sRp5D_108, reduceIte, Nat.reduceEqDiff, Nat.reduceAdd, Nat.reduceSub, Nat.reduceMul, Nat.reduceLT, Nat.reduceLeDiff, Nat.reduceBEq, reduceCtorEq, Int.reduceAdd, Int.reduceSub, Int.reduceMul, Int.reduceLT, Int.reduceLE, Int.reduceEq, Int.reduceToNat, Int.reduceNeg, Nat.reduceBNe, Int.reduceBEq, Int.reduceBNe, Int.reduceGT, Int.reduceGE, Int.reduceTMod, Bool.false_eq_true, Bool.not_true, Bool.not_false, forall_const, eq_self, decide_true, decide_false, rpC]
            refine ⟨_, .refl _, ?_⟩
            have hh := hK (.mk x1 x2 x3 x4 x5) d a' (by omega) h2
            simp only [Res.forget, forget, forgets, pvE, pvEs, binE, numE, nameE, indexE, zeroE, vi, vs, vb', rpC, forgets_Es, forget_E] at hh ⊢
            exact hh
          | ok xp =>
            obtain ⟨x, p⟩ := xp
            rw [hm] at hK
            have hp := m_le (T := T) (fr := free) (f := f) (e := x) ((m_go _ _ f).1 _ _ _ _ hm)
            have hdx := (m_deep _ _ f).1 _ _ _ _ hm
            simp only at hK
            simp only [RE]
            have fx := forget_E x
            obtain ⟨x1, x2, x3, x4, x5⟩ := x
            simp (config := { maxSteps := 4000000 }) (disch := omega) only [pvK, pvB, sRp5D_108, reduceIte, Nat.reduceEqDiff, Nat.reduceAdd, Nat.reduceSub, Nat.reduceMul, Nat.reduceLT, Nat.reduceLeDiff, Nat.reduceBEq, reduceCtorEq, Int.reduceAdd, Int.reduceSub, Int.reduceMul, Int.reduceLT, Int.reduceLE, Int.reduceEq, Int.reduceToNat, Int.reduceNeg, Nat.reduceBNe, Int.reduceBEq, Int.reduceBNe, Int.reduceGT, Int.reduceGE, Int.reduceTMod, Bool.false_eq_true, Bool.not_true, Bool.not_false, forall_const, eq_self, decide_true, decide_false, rpC, fx]
            refine need_c b kt T p 0 0 free _ hT (by omega) _ (obj_set _ _ _) _ ?_
            rw [if_pos rfl]
            by_cases f4 : tW T[p]? ⟨#[41]⟩ = true
            · rw [if_pos f4]
              rw [if_pos (show tW T[p]? sClose = true from f4)] at hK
              simp only [RE] at hK
              simp (config := { maxSteps := 4000000 }) (disch := omega) only [pvK, pvB, sRp5D_108, reduceIte, Nat.reduceEqDiff, Nat.reduceAdd, Nat.reduceSub, Nat.reduceMul, Nat.reduceLT, Nat.reduceLeDiff, Nat.reduceBEq, reduceCtorEq, Int.reduceAdd, Int.reduceSub, Int.reduceMul, Int.reduceLT, Int.reduceLE, Int.reduceEq, Int.reduceToNat, Int.reduceNeg, Nat.reduceBNe, Int.reduceBEq, Int.reduceBNe, Int.reduceGT, Int.reduceGE, Int.reduceTMod, Bool.false_eq_true, Bool.not_true, Bool.not_false, forall_const, eq_self, decide_true, decide_false, rpC]
              refine ⟨_, .refl _, ?_⟩
              have hh := hK
              simp only [Res.forget, forget, forgets, pvE, pvEs, binE, numE, nameE, indexE, zeroE, vi, vs, vb', rpC, forgets_Es, forget_E] at hh ⊢
              exact hh
            · rw [if_neg f4]
              rw [if_neg (show ¬ tW T[p]? sClose = true from f4)] at hK
              simp (config := { maxSteps := 4000000 }) (disch := omega) only [pvK, pvB, sRp5D_108, reduceIte, Nat.reduceEqDiff, Nat.reduceAdd, Nat.reduceSub, Nat.reduceMul, Nat.reduceLT, Nat.reduceLeDiff, Nat.reduceBEq, reduceCtorEq, Int.reduceAdd, Int.reduceSub, Int.reduceMul, Int.reduceLT, Int.reduceLE, Int.reduceEq, Int.reduceToNat, Int.reduceNeg, Nat.reduceBNe, Int.reduceBEq, Int.reduceBNe, Int.reduceGT, Int.reduceGE, Int.reduceTMod, Bool.false_eq_true, Bool.not_true, Bool.not_false, forall_const, eq_self, decide_true, decide_false, rpC]
              refine ⟨_, .refl _, ?_⟩
              have hh := hK (.mk x1 x2 x3 x4 x5) (dE (.mk x1 x2 x3 x4 x5)) p (by omega) hp
              simp only [Res.forget, forget, forgets, pvE, pvEs, binE, numE, nameE, indexE, zeroE, vi, vs, vb', rpC, forgets_Es, forget_E] at hh ⊢
              exact hh
        · rw [if_neg f5]
          rw [if_neg (show ¬ tW T[a]? sOpen = true from f5)] at hK
          simp (config := { maxSteps := 4000000 }) (disch := omega) only [pvK, pvB, sRp5D_108, reduceIte, Nat.reduceEqDiff, Nat.reduceAdd, Nat.reduceSub, Nat.reduceMul, Nat.reduceLT, Nat.reduceLeDiff, Nat.reduceBEq, reduceCtorEq, Int.reduceAdd, Int.reduceSub, Int.reduceMul, Int.reduceLT, Int.reduceLE, Int.reduceEq, Int.reduceToNat, Int.reduceNeg, Nat.reduceBNe, Int.reduceBEq, Int.reduceBNe, Int.reduceGT, Int.reduceGE, Int.reduceTMod, Bool.false_eq_true, Bool.not_true, Bool.not_false, forall_const, eq_self, decide_true, decide_false, rpC]
          refine expr_err b kt T a (lineAt T a) 1 free (by decide) _ (obj_set _ _ _) _ ?_
          unfold zeroE
          simp (config := { maxSteps := 4000000 }) (disch := omega) only [pvK, pvB, sRp5D_108, reduceIte, Nat.reduceEqDiff, Nat.reduceAdd, Nat.reduceSub, Nat.reduceMul, Nat.reduceLT, Nat.reduceLeDiff, Nat.reduceBEq, reduceCtorEq, Int.reduceAdd, Int.reduceSub, Int.reduceMul, Int.reduceLT, Int.reduceLE, Int.reduceEq, Int.reduceToNat, Int.reduceNeg, Nat.reduceBNe, Int.reduceBEq, Int.reduceBNe, Int.reduceGT, Int.reduceGE, Int.reduceTMod, Bool.false_eq_true, Bool.not_true, Bool.not_false, forall_const, eq_self, decide_true, decide_false, rpC, pvEs]
          refine need_c b kt T a (lineAt T a) 1 free _ hT (by omega) _ (obj_set _ _ _) _ ?_
          simp (config := { maxSteps := 4000000 }) (disch := omega) only [pvK, pvB, sRp5D_108, reduceIte, Nat.reduceEqDiff, Nat.reduceAdd, Nat.reduceSub, Nat.reduceMul, Nat.reduceLT, Nat.reduceLeDiff, Nat.reduceBEq, reduceCtorEq, Int.reduceAdd, Int.reduceSub, Int.reduceMul, Int.reduceLT, Int.reduceLE, Int.reduceEq, Int.reduceToNat, Int.reduceNeg, Nat.reduceBNe, Int.reduceBEq, Int.reduceBNe, Int.reduceGT, Int.reduceGE, Int.reduceTMod, Bool.false_eq_true, Bool.not_true, Bool.not_false, forall_const, eq_self, decide_true, decide_false, rpC, one_ne]
          refine ⟨_, .refl _, ?_⟩
          have hh := hK zeroE 0 a (Nat.zero_le _) ha
          simp only [Res.forget, forget, forgets, pvE, pvEs, binE, numE, nameE, indexE, zeroE, vi, vs, vb', rpC, forgets_Es, forget_E, cast_0] at hh ⊢
          exact hh
end Go.Pv.D
