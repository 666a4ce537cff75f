/- Part 3 of the texts for: For every list of numbers and every Max, the weights of the made programs' statements add up, grow with Max and count each statement, so CheckWeights answers true. -/
import Derived.Orders
import Derived.Below
import Derived.Laws.Sem
import Derived.WalkKit
import Derived.Laws.CopyRow
import Derived.Laws.BytesString
import Derived.MapKept
import Derived.Laws.Append
import Derived.LoopN
import Derived.Test.YtcnmejahighkfaaProg
import Derived.KernelRfl
import Derived.IntWalk
import Derived.Test.YtcnmejahighkfaaPvCw2
set_option autoImplicit false
set_option linter.unusedVariables false
set_option linter.unusedSimpArgs false
set_option linter.defProp false
-- Ast2
namespace Go.Pv
open Go Go.RowKit
/-- A shared array. -/
structure Sh where
  name : ByteArray
  size : Int
  res : ByteArray
def pvSh (s : Sh) : PV := .agg [vs s.name, vi s.size, vs s.res]
/-- An input, an array, a mode, a claim, a task, a program. -/
structure AI where
  name : ByteArray
  lo : Int
  hi : Int
structure AA where
  name : ByteArray
  size : Int
structure AM where
  name : ByteArray
  input : ByteArray
  lo : Int
  hi : Int
structure AC where
  a : Int
  b : Int
structure AT where
  name : ByteArray
  period : Int
  deadline : Int
  priority : Int
  jitter : Int
  inputs : List AI
  vars : List ByteArray
  arrays : List AA
  modes : List AM
  claims : List AC
  body : List AS
structure AP where
  resources : List ByteArray
  shared : List Sh
  tasks : List AT
def pvI (x : AI) : PV := .agg [vs x.name, vi x.lo, vi x.hi]
def pvA (x : AA) : PV := .agg [vs x.name, vi x.size]
def pvM (x : AM) : PV := .agg [vs x.name, vs x.input, vi x.lo, vi x.hi]
def pvC (x : AC) : PV := .agg [vi x.a, vi x.b]
def pvT (t : AT) : PV := .agg [vs t.name, vi t.period, vi t.deadline, vi t.priority, vi t.jitter, .list .any 3 (t.inputs.map pvI), .list .any 1 (t.vars.map vs), .list .any 2 (t.arrays.map pvA), .list .any 4 (t.modes.map pvM), .list .any 2 (t.claims.map pvC), .list .any 8 (pvSs t.body)]
def pvP (p : AP) : PV := .agg [.list .any 1 (p.resources.map vs), .list .any 3 (p.shared.map pvSh), .list .any 11 (p.tasks.map pvT)]
theorem forgets_mapf {α : Type} {f : α → PV} (h : ∀ x, forget (f x) = f x) (l : List α) : forgets (l.map f) = l.map f := by
  induction l with
  | nil => rfl
  | cons x l ih => simp only [List.map_cons, forgets, ih, h]
theorem forget_Sh (x : Sh) : forget (pvSh x) = pvSh x := rfl
theorem forget_I (x : AI) : forget (pvI x) = pvI x := rfl
theorem forget_A (x : AA) : forget (pvA x) = pvA x := rfl
theorem forget_M (x : AM) : forget (pvM x) = pvM x := rfl
theorem forget_C (x : AC) : forget (pvC x) = pvC x := rfl
theorem forgets_Shs (l : List Sh) : forgets (l.map pvSh) = l.map pvSh := forgets_mapf forget_Sh l
theorem forgets_Is (l : List AI) : forgets (l.map pvI) = l.map pvI := forgets_mapf forget_I l
theorem forgets_As (l : List AA) : forgets (l.map pvA) = l.map pvA := forgets_mapf forget_A l
theorem forgets_Ms (l : List AM) : forgets (l.map pvM) = l.map pvM := forgets_mapf forget_M l
theorem forgets_Cs (l : List AC) : forgets (l.map pvC) = l.map pvC := forgets_mapf forget_C l
theorem forget_T (t : AT) : forget (pvT t) = pvT t := by
  simp only [pvT, forget, forgets, forgets_Is, forgets_As, forgets_Ms, forgets_Cs, forgets_Ss, forgets_vs, vi, vs]
theorem forgets_Ts (l : List AT) : forgets (l.map pvT) = l.map pvT := forgets_mapf forget_T l
theorem forget_P (p : AP) : forget (pvP p) = pvP p := by
  simp only [pvP, forget, forgets, forgets_Ts, forgets_Shs, forgets_vs]
end Go.Pv
-- PvK
namespace Go.Pv
open Go Go.RowKit
theorem vi_q (n : Int) : vi n = .val (.int .i64 n) := (rfl)
theorem vs_q (z : ByteArray) : vs z = .val (.string z) := (rfl)
theorem vb_q (b : Bool) : vb' b = .val (.bool b) := (rfl)
theorem vp_q (b o : Nat) : vp b o = .val (.pointer (some ⟨b, o, none⟩)) := (rfl)
theorem cast_1 : ((1 : Nat) : Int) = 1 := rfl
theorem cast_2 : ((2 : Nat) : Int) = 2 := rfl
theorem set_set (σ : St) (b : Nat) (o o' : Ob) : (σ.set b o).set b o' = σ.set b o' := by
  unfold St.set
  congr 1
  funext x
  dsimp only
  split <;> rfl
theorem obj_set (σ : St) (b : Nat) (o : Ob) : (σ.set b o).obj b = some o := by simp [St.set]
theorem kcond_e {P : Program} {tt : TT} {esc : List Nat} {ord : Ords} {x y : Code} {s : Cf} {K : Kt} {b : Bool} (h1 : b = true → pwp P tt esc ord x s K) (h2 : b = false → pwp P tt esc ord y s K) : kcond P tt esc ord x y s K b := ⟨h1, h2⟩
theorem kgd_i {want b : Bool} {run skip : Unit → Prop} (h1 : b = want → run ()) (h2 : b = !want → skip ()) : kgd want run skip (.val (.bool b)) := by
  cases b <;> cases want <;> simp_all [kgd]
/-- What contracts rewrite by, too. -/
def pvK := And.intro (And.intro (And.intro (And.intro @pvE_q @pvS_q) (And.intro @vi_q @vs_q)) (And.intro (And.intro @vb_q @vp_q) (And.intro @wrap_ok @cast_0))) (And.intro (And.intro (And.intro @notL_E @notL_S) (And.intro @pvSs_length @pvEs_length)) (And.intro (And.intro @w_loop @Int.toNat_natCast) (And.intro @set_set @obj_set)))
end Go.Pv
-- PvJoin
namespace Go.Pv
open Go Go.RowKit
variable {P : Program} {tt : TT}
/-! ### a walk in pieces -/
/-- What code comes to: of a configuration, K holds behind. -/
def swp (P : Program) (c : Code) (s : Cf) (K : Kt) : Prop :=
  ∀ (B : Nat) (G : Sett) (fl : Nat → Nat) (a : Act) (w : World) (Q : Exit → Act → World → Prop), Rep G fl B s a w → KtOk B G s w K Q → c.wp P Q a w
theorem swp_of (hT : TOk P tt) (hmix : P.follows .mixedOrders = true) (esc : List Nat) (ord : Ords) {c : Code} {s : Cf} {K : Kt} (hok : codeOk esc ord c = true) (h : pwp P tt esc ord c s K) : swp P c s K :=
  fun B G fl a w Q r hk => pwp_sound hT hmix c hok r h hk
/-- Behind a piece: what is known is I, or less. -/
def kjoin (I : Cf → Prop) (K : Kt) : Kt
  | .normal, s => ∃ s0 : Cf, s0.less s ∧ I s0
  | e, s => K e s
theorem kjoin_norm (I : Cf → Prop) (K : Kt) (s : Cf) : kjoin I K .normal s = ∃ s0 : Cf, s0.less s ∧ I s0 := (rfl)
theorem kjoin_exit (I : Cf → Prop) (K : Kt) (i : Nat) (s : Cf) : kjoin I K (.exit i) s = K (.exit i) s := (rfl)
theorem kjoin_ret (I : Cf → Prop) (K : Kt) (s : Cf) : kjoin I K .ret s = K .ret s := (rfl)
theorem kjoin_panic (I : Cf → Prop) (K : Kt) (v : PV) (s : Cf) : kjoin I K (.panic v) s = K (.panic v) s := (rfl)
theorem swp_less {c : Code} {s0 s : Cf} {K : Kt} (hl : s0.less s) (h : swp P c s0 K) : swp P c s K :=
  fun B G fl a w Q r hk => h B G fl a w Q (r.less hl) (hk.less hl)
theorem swp_seq {x y : Code} {s : Cf} {K : Kt} (I : Cf → Prop) (hx : swp P x s (kjoin I K)) (hy : ∀ s0, I s0 → swp P y s0 K) : swp P (.seq x y) s K := by
  intro B G fl a w Q r hk
  refine wp_seq (hx B G fl a w _ r ⟨?_, fun id => hk.exit id, hk.ret, hk.panic⟩)
  intro G' fl' s' a' w' hp hr hs hn
  obtain ⟨s0, hl, hI⟩ := hp
  exact hy s0 hI B G' fl' a' w' Q (hr.less hl) ((hk.step hs hn).less hl)
/-- The first pieces of a sequence, and those behind. -/
def cutL : Nat → Code → Code
  | n + 1, .seq x y => .seq x (cutL n y)
  | 0, _ => .skip
  | _ + 1, _ => .goto 0
def cutR : Nat → Code → Code
  | n + 1, .seq _ y => cutR n y
  | 0, c => c
  | _ + 1, _ => .skip
theorem cutL_s (n : Nat) (x y : Code) : cutL (n + 1) (.seq x y) = .seq x (cutL n y) := (rfl)
theorem cutL_0 (c : Code) : cutL 0 c = .skip := (rfl)
theorem cutR_s (n : Nat) (x y : Code) : cutR (n + 1) (.seq x y) = cutR n y := (rfl)
theorem cutR_0 (c : Code) : cutR 0 c = c := (rfl)
theorem swp_cut (hT : TOk P tt) (hmix : P.follows .mixedOrders = true) (esc : List Nat) (ord : Ords) : ∀ (n : Nat) {c : Code} {s : Cf} {K : Kt} (I : Cf → Prop), codeOk esc ord (cutL n c) = true → pwp P tt esc ord (cutL n c) s (kjoin I K) → (∀ s0, I s0 → swp P (cutR n c) s0 K) → swp P c s K
  | 0, c, s, K, I, _, h, hr => by
    obtain ⟨s0, hl, hI⟩ := h
    exact swp_less hl (hr s0 hI)
  | n + 1, .seq x y, s, K, I, hok, h, hr => by
    intro B G fl a w Q r hk
    simp only [cutL, codeOk, Bool.and_eq_true] at hok
    refine wp_seq (pwp_sound hT hmix x hok.1 (K := kthen (pwp P tt esc ord (cutL n y)) (kjoin I K)) r h ⟨?_, fun id => hk.exit id, hk.ret, hk.panic⟩)
    intro G' fl' s' a' w' hp hr' hs hn
    exact swp_cut hT hmix esc ord n I hok.2 hp hr B G' fl' a' w' Q hr' (hk.step hs hn)
  | _ + 1, .skip, _, _, _, _, h, _ => h.elim
  | _ + 1, .region _ _ _, _, _, _, _, h, _ => h.elim
  | _ + 1, .cond _ _ _, _, _, _, _, h, _ => h.elim
  | _ + 1, .block _ _, _, _, _, _, h, _ => h.elim
  | _ + 1, .loop _, _, _, _, _, h, _ => h.elim
  | _ + 1, .exit _, _, _, _, _, h, _ => h.elim
  | _ + 1, .ret, _, _, _, _, h, _ => h.elim
  | _ + 1, .rangeFunc _ _ _ _, _, _, _, _, h, _ => h.elim
  | _ + 1, .scope _, _, _, _, _, h, _ => h.elim
  | _ + 1, .label _, _, _, _, _, h, _ => h.elim
  | _ + 1, .goto _, _, _, _, _, h, _ => h.elim
  | _ + 1, .refuse _, _, _, _, _, h, _ => h.elim
/-- The rule of a body, in pieces. -/
theorem PCalls.of_pieces (hT : TOk P tt) {f : FuncId} {fn : Func} {c : Code} {args : List PV} {σ : St} {K : Res → St → Prop} (hf : P.funcs[f]? = some fn) (hb : fn.body = some c)
    (hname : (fn.name == "runtime.NumGoroutine") = false) {n : Nat} (hn : fn.ntmps = n) (hnt : Nat.ble args.length n = true) {rs : List ResultVar} (hrs : fn.results.toList = rs)
    (h : swp P c { n := n, env := penv 0 args, loc := [], σ := σ } (kbody tt rs K)) : PCalls P f args σ K := by
  subst hn hrs
  have hnt := Nat.le_of_ble_eq_true hnt
  refine ⟨⟨fn, hf, hname, by rw [hb]; rfl⟩, fun G w us hi hr => ?_⟩
  have hlen := RelL.length _ _ hr
  refine calls_of_wp hf hb ?_
  have hrep : Rep G (fun x => x) w.heap.size { n := fn.ntmps, env := penv 0 args, loc := [], σ := σ } { tmps := us.toArray ++ Array.replicate (fn.ntmps - us.toArray.size) Go.undef, defers := [] } w := by
    refine ⟨hi, ?_, fun t => ?_, ⟨fun d cs e => (by cases e), fun d d' e => absurd rfl e⟩, rfl, Nat.le_refl _⟩
    · simp; omega
    · have := get_penv G (fun x => x) args us 0 t hr
      simp only [Nat.not_lt_zero, if_false, Nat.sub_zero] at this
      have e : (us.toArray ++ Array.replicate (fn.ntmps - us.toArray.size) Go.undef).getD t Go.undef = us.getD t Go.undef := by
        rw [Array.getD_eq_getD_getElem?, Array.getElem?_append, List.getD_eq_getElem?_getD]
        split
        · simp
        · rename_i q
          simp at q
          rw [List.getElem?_eq_none q]
          by_cases z : t - us.toArray.size < fn.ntmps - us.toArray.size
          · rw [Array.getElem?_replicate, if_pos z]; rfl
          · rw [Array.getElem?_replicate, if_neg z]
      rw [e]
      exact this
  refine h _ _ _ _ _ _ hrep ⟨?_, fun id => ?_, ?_, ?_⟩
  · intro G' fl' s' a' w' hk hr' hs hn
    simp only [kbody] at hk
    split at hk
    · rename_i vs hvs
      obtain ⟨τ, ht, hk⟩ := hk
      obtain ⟨us', hus, hrel⟩ := presults_sound hT hr' _ _ hvs
      refine ⟨hr'.defers, _, ?_, _, τ, G', hk, ⟨_, rfl, pone_rel _ _ hrel⟩, hr'.inv.sub ht, hs.sub ht⟩
      simp only [results, Sem.run_bind]
      rw [Array.mapM_eq_mapM_toList]
      simp only [Sem.run_map, Sem.run_pure]
      erw [hus]
      rfl
    · cases hk
  · intro G' fl' s' a' w' hk
    exact hk.elim
  · intro G' fl' s' a' w' hk hr' hs hn
    simp only [kbody] at hk
    split at hk
    · rename_i vs hvs
      obtain ⟨τ, ht, hk⟩ := hk
      obtain ⟨us', hus, hrel⟩ := presults_sound hT hr' _ _ hvs
      refine ⟨hr'.defers, _, ?_, _, τ, G', hk, ⟨_, rfl, pone_rel _ _ hrel⟩, hr'.inv.sub ht, hs.sub ht⟩
      simp only [results, Sem.run_bind]
      rw [Array.mapM_eq_mapM_toList]
      simp only [Sem.run_map, Sem.run_pure]
      erw [hus]
      rfl
    · cases hk
  · intro G' s' a' w' v u hk hr' hi' hs hd
    obtain ⟨τ, ht, hk⟩ := hk
    exact ⟨hd, _, τ, G', hk, ⟨u, rfl, hr'⟩, hi'.sub ht, hs.sub ht⟩
end Go.Pv
-- Mk1W
namespace Go.Pv.W
open Go Go.RowKit Go.Proofs Go.Pv
def sMk1W_4 := (And.intro (And.intro (And.intro @q_tsz_3 (And.intro @q_slz_3 @q_ifc_3)) (And.intro @q_tsz_4 (And.intro @q_slz_4 @q_ifc_4))) (And.intro (And.intro @q_isb_4 (And.intro @q_tsz_22 @q_slz_22)) (And.intro @q_str_22 (And.intro @q_arz_22 @q_ifc_22))))
def sMk1W_6 := (And.intro (And.intro (And.intro @q_tsz_22 (And.intro @q_slz_22 @q_str_22)) (And.intro @q_arz_22 (And.intro @q_ifc_22 @q_tsz_25))) (And.intro (And.intro @q_slz_25 (And.intro @q_ifc_25 @q_tsz_53)) (And.intro (And.intro @q_slz_53 @q_ifc_53) (And.intro @q_zcs_53 @q_bld_53))))
def sMk1W_8 := (And.intro (And.intro (And.intro @q_slz_0 (And.intro @q_tsz_1 @q_slz_1)) (And.intro @q_ifc_1 (And.intro @q_tsz_3 @q_slz_3))) (And.intro (And.intro @q_ifc_3 (And.intro @q_tsz_42 @q_slz_42)) (And.intro @q_ifc_42 (And.intro @q_zcs_42 @q_bld_42))))
def sMk1W_11 := (And.intro (And.intro (And.intro @q_slz_0 (And.intro @q_tsz_2 @q_slz_2)) (And.intro (And.intro @q_ifc_2 @q_tsz_9) (And.intro @q_slz_9 @q_str_9))) (And.intro (And.intro @q_arz_9 (And.intro @q_ifc_9 @q_tsz_42)) (And.intro (And.intro @q_slz_42 @q_ifc_42) (And.intro @q_zcs_42 @q_bld_42))))
def sMk1W_12 := (And.intro (And.intro (And.intro (And.intro @q_slz_0 @q_tsz_3) (And.intro @q_slz_3 @q_ifc_3)) (And.intro (And.intro @q_tsz_4 @q_slz_4) (And.intro @q_ifc_4 (And.intro @q_isb_4 @q_tsz_40)))) (And.intro (And.intro (And.intro @q_slz_40 @q_str_40) (And.intro @q_arz_40 (And.intro @q_ifc_40 @q_tsz_42))) (And.intro (And.intro @q_slz_42 @q_ifc_42) (And.intro @q_zcs_42 (And.intro @q_bsl_40 @q_bld_42)))))
def sMk1W_18 := (And.intro (And.intro (And.intro (And.intro @q_fld_53_0 @q_fld_53_1) (And.intro @q_slz_0 (And.intro @q_tsz_3 @q_slz_3))) (And.intro (And.intro @q_ifc_3 @q_tsz_4) (And.intro @q_slz_4 (And.intro @q_ifc_4 @q_isb_4)))) (And.intro (And.intro (And.intro @q_tsz_22 @q_slz_22) (And.intro @q_str_22 (And.intro @q_arz_22 @q_ifc_22))) (And.intro (And.intro @q_tsz_25 (And.intro @q_slz_25 @q_ifc_25)) (And.intro @q_tsz_53 (And.intro @q_slz_53 @q_ifc_53)))))
def sMk1W_22 := (And.intro @q_tsz_3 (And.intro @q_slz_3 @q_ifc_3))
def sMk1W_38 := (And.intro (And.intro (And.intro @q_tsz_3 (And.intro @q_slz_3 @q_ifc_3)) (And.intro (And.intro @q_tsz_4 @q_slz_4) (And.intro @q_ifc_4 @q_isb_4))) (And.intro (And.intro @q_tsz_25 (And.intro @q_slz_25 @q_ifc_25)) (And.intro (And.intro @q_tsz_59 @q_slz_59) (And.intro @q_ifc_59 @q_cvi_3_59))))
def sMk1W_39 := (And.intro (And.intro @q_tsz_3 (And.intro @q_slz_3 @q_ifc_3)) (And.intro @q_tsz_25 (And.intro @q_slz_25 @q_ifc_25)))
set_option maxRecDepth 100000 in
theorem few_c (l : List Int) (σ : St) (K : Res → St → Prop) (hK : K (.ret (vb' (decide ((l.length : Int) ≤ 400)))) σ) : PCalls Try.prog 4 [.list .any 1 (l.map vi)] σ K := by
  refine PCalls.forgetR ?_
  refine PCalls.of_body (tOk Try.prog) (by kernel_rfl) Try.func4 rfl (by kernel_rfl) [] [] (by kernel_rfl) (n := 6) (by kernel_rfl) (by kernel_rfl) (rs := [.tmp 2]) (by kernel_rfl) ?_
  simp (config := { maxSteps := 2000000 }) (disch := omega) only [pvE_q, pvS_q, vi, vs, vb', vp, wrap_ok, pvB, sMk1W_4, reduceIte, Nat.reduceEqDiff, Nat.reduceAdd, Nat.reduceSub, Nat.reduceMul, Nat.reduceLT, Nat.reduceLeDiff, Nat.reduceBEq, reduceCtorEq, Int.reduceAdd, Int.reduceSub, Int.reduceMul, Int.reduceLT, Int.reduceLE, Int.reduceEq, Int.reduceToNat, Int.reduceNeg, Nat.reduceBNe, Int.reduceBEq, Int.reduceBNe, forall_const, eq_self, decide_true, decide_false, w_loop]
  refine ⟨σ, .refl _, ?_⟩
  exact hK
set_option maxRecDepth 100000 in
theorem num_c (n : Int) (σ : St) (K : Res → St → Prop) (hK : K (.ret (pvE (.mk 1 n ⟨#[]⟩ 0 []))) σ) : PCalls Try.prog 8 [vi n] σ K := by
  refine PCalls.forgetR ?_
  refine PCalls.of_body (tOk Try.prog) (by kernel_rfl) Try.func8 rfl (by kernel_rfl) [] [] (by kernel_rfl) (n := 5) (by kernel_rfl) (by kernel_rfl) (rs := [.cell 2 42]) (by kernel_rfl) ?_
  simp (config := { maxSteps := 2000000 }) (disch := omega) only [pvE_q, pvS_q, vi, vs, vb', vp, wrap_ok, pvB, sMk1W_8, reduceIte, Nat.reduceEqDiff, Nat.reduceAdd, Nat.reduceSub, Nat.reduceMul, Nat.reduceLT, Nat.reduceLeDiff, Nat.reduceBEq, reduceCtorEq, Int.reduceAdd, Int.reduceSub, Int.reduceMul, Int.reduceLT, Int.reduceLE, Int.reduceEq, Int.reduceToNat, Int.reduceNeg, Nat.reduceBNe, Int.reduceBEq, Int.reduceBNe, forall_const, eq_self, decide_true, decide_false, w_loop]
  refine ⟨σ, .refl _, ?_⟩
  simpa only [Res.forget, forget, forgets, pvE, pvEs, vi, vs] using hK
set_option maxRecDepth 100000 in
theorem nameE_c (n : ByteArray) (σ : St) (K : Res → St → Prop) (hK : K (.ret (pvE (.mk 2 0 n 0 []))) σ) : PCalls Try.prog 11 [vs n] σ K := by
  refine PCalls.forgetR ?_
  refine PCalls.of_body (tOk Try.prog) (by kernel_rfl) Try.func11 rfl (by kernel_rfl) [] [] (by kernel_rfl) (n := 5) (by kernel_rfl) (by kernel_rfl) (rs := [.cell 2 42]) (by kernel_rfl) ?_
  simp (config := { maxSteps := 2000000 }) (disch := omega) only [pvE_q, pvS_q, vi, vs, vb', vp, wrap_ok, pvB, sMk1W_11, reduceIte, Nat.reduceEqDiff, Nat.reduceAdd, Nat.reduceSub, Nat.reduceMul, Nat.reduceLT, Nat.reduceLeDiff, Nat.reduceBEq, reduceCtorEq, Int.reduceAdd, Int.reduceSub, Int.reduceMul, Int.reduceLT, Int.reduceLE, Int.reduceEq, Int.reduceToNat, Int.reduceNeg, Nat.reduceBNe, Int.reduceBEq, Int.reduceBNe, forall_const, eq_self, decide_true, decide_false, w_loop]
  refine ⟨σ, .refl _, ?_⟩
  simpa only [Res.forget, forget, forgets, pvE, pvEs, vi, vs] using hK
set_option maxRecDepth 100000 in
theorem bin_c (op : Int) (a b : AE) (σ : St) (K : Res → St → Prop) (hK : K (.ret (pvE (.mk 4 0 ⟨#[]⟩ op [a, b]))) σ) : PCalls Try.prog 12 [vi op, pvE a, pvE b] σ K := by
  refine PCalls.forgetR ?_
  refine PCalls.of_body (tOk Try.prog) (by kernel_rfl) Try.func12 rfl (by kernel_rfl) [] [] (by kernel_rfl) (n := 12) (by kernel_rfl) (by kernel_rfl) (rs := [.cell 6 42]) (by kernel_rfl) ?_
  have ha := forget_E a
  have hb := forget_E b
  obtain ⟨k1, n1, s1, o1, l1⟩ := a
  obtain ⟨k2, n2, s2, o2, l2⟩ := b
  simp only [pvE_q, vi, vs] at ha hb
  simp (config := { maxSteps := 2000000 }) (disch := omega) only [pvE_q, pvS_q, vi, vs, vb', vp, wrap_ok, pvB, sMk1W_12, reduceIte, Nat.reduceEqDiff, Nat.reduceAdd, Nat.reduceSub, Nat.reduceMul, Nat.reduceLT, Nat.reduceLeDiff, Nat.reduceBEq, reduceCtorEq, Int.reduceAdd, Int.reduceSub, Int.reduceMul, Int.reduceLT, Int.reduceLE, Int.reduceEq, Int.reduceToNat, Int.reduceNeg, Nat.reduceBNe, Int.reduceBEq, Int.reduceBNe, forall_const, eq_self, decide_true, decide_false, w_loop, ha, hb]
  refine ⟨σ, .refl _, ?_⟩
  simpa only [Res.forget, forget, forgets, pvE, pvEs, vi, vs, forgets_Es] using hK
/-- A deck of numbers. -/
def deck (L : List Int) (at_ : Int) : Ob := .cells [.list .any 1 (L.map vi), vi at_]
set_option maxRecDepth 100000 in
theorem new_c (L : List Int) (σ : St) (K : Res → St → Prop) (hK : ∀ b, σ.obj b = none → σ.own b = none → K (.ret (vp b 0)) (σ.set b (deck L 0))) : PCalls Try.prog 6 [.list .any 1 (L.map vi)] σ K := by
  refine PCalls.of_body (tOk Try.prog) (by kernel_rfl) Try.func6 rfl (by kernel_rfl) [5] [] (by kernel_rfl) (n := 6) (by kernel_rfl) (by kernel_rfl) (rs := [.tmp 2]) (by kernel_rfl) ?_
  simp (config := { maxSteps := 2000000 }) (disch := omega) only [pvE_q, pvS_q, vi, vs, vb', vp, wrap_ok, pvB, sMk1W_6, reduceIte, Nat.reduceEqDiff, Nat.reduceAdd, Nat.reduceSub, Nat.reduceMul, Nat.reduceLT, Nat.reduceLeDiff, Nat.reduceBEq, reduceCtorEq, Int.reduceAdd, Int.reduceSub, Int.reduceMul, Int.reduceLT, Int.reduceLE, Int.reduceEq, Int.reduceToNat, Int.reduceNeg, Nat.reduceBNe, Int.reduceBEq, Int.reduceBNe, forall_const, eq_self, decide_true, decide_false, w_loop]
  exact fun b h1 h2 => ⟨_, .refl _, hK b h1 h2⟩
set_option maxRecDepth 100000 in
theorem mod_c (n k : Int) (σ : St) (K : Res → St → Prop) (hk : 0 < k) (hk2 : k < 1000000000000) (hK : ∀ r, 0 ≤ r → r < k → K (.ret (vi r)) σ) : PCalls Try.prog 22 [vi n, vi k] σ K := by
  refine PCalls.of_body (tOk Try.prog) (by kernel_rfl) Try.func22 rfl (by kernel_rfl) [] [] (by kernel_rfl) (n := 12) (by kernel_rfl) (by kernel_rfl) (rs := [.tmp 4]) (by kernel_rfl) ?_
  have e1 : -k < n.tmod k := by have := Int.lt_tmod_of_pos n hk; omega
  have e2 : n.tmod k < k := Int.tmod_lt_of_pos n hk
  have e0 : k ≠ 0 := by omega
  simp (config := { maxSteps := 2000000 }) (disch := omega) only [pvE_q, pvS_q, vi, vs, vb', vp, wrap_ok, pvB, sMk1W_22, reduceIte, Nat.reduceEqDiff, Nat.reduceAdd, Nat.reduceSub, Nat.reduceMul, Nat.reduceLT, Nat.reduceLeDiff, Nat.reduceBEq, reduceCtorEq, Int.reduceAdd, Int.reduceSub, Int.reduceMul, Int.reduceLT, Int.reduceLE, Int.reduceEq, Int.reduceToNat, Int.reduceNeg, Nat.reduceBNe, Int.reduceBEq, Int.reduceBNe, forall_const, eq_self, decide_true, decide_false, w_loop, e0]
  refine ⟨σ, .refl _, hK _ ?_ ?_⟩
  · exact Int.tmod_nonneg _ (by omega)
  · exact Int.tmod_lt_of_pos _ hk
/-- What is known where a deck has been taken from. -/
structure Took (d : Nat) (L : List Int) (σ σ' : St) : Prop where
  frame : Frame (· = d) σ σ'
  deck : ∃ at', 0 ≤ at' ∧ σ'.obj d = some (deck L at')
theorem Took.trans {d : Nat} {L : List Int} {a b c : St} (h : Took d L a b) (k : Took d L b c) : Took d L a c := ⟨h.frame.trans k.frame, k.deck⟩
set_option maxRecDepth 100000 in
theorem next_c (d : Nat) (L : List Int) (n : Int) (σ : St) (h : ∃ at', 0 ≤ at' ∧ σ.obj d = some (deck L at')) (hl : L.length ≤ 400) (hn : n < 1000000000000) (K : Res → St → Prop)
    (hK : ∀ r σ', 0 ≤ r → (r < n ∨ r = 0) → Took d L σ σ' → K (.ret (vi r)) σ') : PCalls Try.prog 18 [vp d 0, vi n] σ K := by
  obtain ⟨at_, h0, h⟩ := h
  have hsame : Took d L σ σ := ⟨.refl _ _, at_, h0, h⟩
  unfold deck at h
  refine PCalls.of_body (tOk Try.prog) (by kernel_rfl) Try.func18 rfl (by kernel_rfl) [] [(1, 18, [(0, []), (4, []), (1, []), (5, []), (2, []), (6, []), (3, []), (7, []), (8, []), (9, []), (10, []), (11, []), (12, []), (13, [])]), (4, 38, [(0, []), (4, []), (11, []), (1, []), (5, []), (2, []), (6, []), (3, []), (7, []), (8, []), (9, []), (10, []), (12, []), (13, [])])] (by kernel_rfl) (n := 39) (by kernel_rfl) (by kernel_rfl) (rs := [.tmp 4]) (by kernel_rfl) ?_
  by_cases c1 : at_ ≥ L.length
  · simp (config := { maxSteps := 2000000 }) (disch := omega) only [pvE_q, pvS_q, vi, vs, vb', vp, wrap_ok, pvB, sMk1W_18, reduceIte, Nat.reduceEqDiff, Nat.reduceAdd, Nat.reduceSub, Nat.reduceMul, Nat.reduceLT, Nat.reduceLeDiff, Nat.reduceBEq, reduceCtorEq, Int.reduceAdd, Int.reduceSub, Int.reduceMul, Int.reduceLT, Int.reduceLE, Int.reduceEq, Int.reduceToNat, Int.reduceNeg, Nat.reduceBNe, Int.reduceBEq, Int.reduceBNe, forall_const, eq_self, decide_true, decide_false, w_loop, h, c1]
    exact ⟨_, .refl _, hK 0 σ (by omega) (.inr rfl) hsame⟩
  · by_cases c2 : n ≤ 1
    · simp (config := { maxSteps := 2000000 }) (disch := omega) only [pvE_q, pvS_q, vi, vs, vb', vp, wrap_ok, pvB, sMk1W_18, reduceIte, Nat.reduceEqDiff, Nat.reduceAdd, Nat.reduceSub, Nat.reduceMul, Nat.reduceLT, Nat.reduceLeDiff, Nat.reduceBEq, reduceCtorEq, Int.reduceAdd, Int.reduceSub, Int.reduceMul, Int.reduceLT, Int.reduceLE, Int.reduceEq, Int.reduceToNat, Int.reduceNeg, Nat.reduceBNe, Int.reduceBEq, Int.reduceBNe, forall_const, eq_self, decide_true, decide_false, w_loop, h, c1, c2]
      exact ⟨_, .refl _, hK 0 σ (by omega) (.inr rfl) hsame⟩
    · have e2 : at_ + 1 - 1 = at_ := by omega
      have e3 : (L.map vi)[at_.toNat]? = some (vi (L[at_.toNat]'(by omega))) := by rw [List.getElem?_map, List.getElem?_eq_getElem (by omega)]; rfl
      simp only [vi] at e3
      simp (config := { maxSteps := 2000000 }) (disch := omega) only [pvE_q, pvS_q, vi, vs, vb', vp, wrap_ok, pvB, sMk1W_18, reduceIte, Nat.reduceEqDiff, Nat.reduceAdd, Nat.reduceSub, Nat.reduceMul, Nat.reduceLT, Nat.reduceLeDiff, Nat.reduceBEq, reduceCtorEq, Int.reduceAdd, Int.reduceSub, Int.reduceMul, Int.reduceLT, Int.reduceLE, Int.reduceEq, Int.reduceToNat, Int.reduceNeg, Nat.reduceBNe, Int.reduceBEq, Int.reduceBNe, forall_const, eq_self, decide_true, decide_false, w_loop, h, h0, c1, c2, e2, e3]
      refine mod_c _ _ _ _ (by omega) (by omega) fun r h1 h2 => ?_
      simp (config := { maxSteps := 2000000 }) (disch := omega) only [pvE_q, pvS_q, vi, vs, vb', vp, wrap_ok, pvB, sMk1W_18, reduceIte, Nat.reduceEqDiff, Nat.reduceAdd, Nat.reduceSub, Nat.reduceMul, Nat.reduceLT, Nat.reduceLeDiff, Nat.reduceBEq, reduceCtorEq, Int.reduceAdd, Int.reduceSub, Int.reduceMul, Int.reduceLT, Int.reduceLE, Int.reduceEq, Int.reduceToNat, Int.reduceNeg, Nat.reduceBNe, Int.reduceBEq, Int.reduceBNe, forall_const, eq_self, decide_true, decide_false, w_loop]
      refine ⟨_, .refl _, hK r _ h1 (.inl h2) ⟨Frame.set _ _ rfl, at_ + 1, by omega, ?_⟩⟩
      simp only [St.set, if_true]
      rfl
set_option maxRecDepth 100000 in
theorem op_c (d : Nat) (L : List Int) (σ : St) (h : ∃ at', 0 ≤ at' ∧ σ.obj d = some (deck L at')) (hl : L.length ≤ 400) (K : Res → St → Prop)
    (hK : ∀ r σ', 1 ≤ r → r ≤ 14 → Took d L σ σ' → K (.ret (vi r)) σ') : PCalls Try.prog 39 [vp d 0] σ K := by
  refine PCalls.of_body (tOk Try.prog) (by kernel_rfl) Try.func39 rfl (by kernel_rfl) [] [] (by kernel_rfl) (n := 6) (by kernel_rfl) (by kernel_rfl) (rs := [.tmp 2]) (by kernel_rfl) ?_
  simp (config := { maxSteps := 2000000 }) (disch := omega) only [pvE_q, pvS_q, vi, vs, vb', vp, wrap_ok, pvB, sMk1W_39, reduceIte, Nat.reduceEqDiff, Nat.reduceAdd, Nat.reduceSub, Nat.reduceMul, Nat.reduceLT, Nat.reduceLeDiff, Nat.reduceBEq, reduceCtorEq, Int.reduceAdd, Int.reduceSub, Int.reduceMul, Int.reduceLT, Int.reduceLE, Int.reduceEq, Int.reduceToNat, Int.reduceNeg, Nat.reduceBNe, Int.reduceBEq, Int.reduceBNe, forall_const, eq_self, decide_true, decide_false, w_loop]
  refine next_c d L 14 σ h hl (by omega) _ fun r σ' h0 h1 ht => ?_
  simp (config := { maxSteps := 2000000 }) (disch := omega) only [pvE_q, pvS_q, vi, vs, vb', vp, wrap_ok, pvB, sMk1W_39, reduceIte, Nat.reduceEqDiff, Nat.reduceAdd, Nat.reduceSub, Nat.reduceMul, Nat.reduceLT, Nat.reduceLeDiff, Nat.reduceBEq, reduceCtorEq, Int.reduceAdd, Int.reduceSub, Int.reduceMul, Int.reduceLT, Int.reduceLE, Int.reduceEq, Int.reduceToNat, Int.reduceNeg, Nat.reduceBNe, Int.reduceBEq, Int.reduceBNe, forall_const, eq_self, decide_true, decide_false, w_loop]
  exact ⟨_, .refl _, hK _ _ (by omega) (by omega) ht⟩
set_option maxRecDepth 100000 in
theorem word_c (d : Nat) (L : List Int) (σ : St) (h : ∃ at', 0 ≤ at' ∧ σ.obj d = some (deck L at')) (hl : L.length ≤ 400) (K : Res → St → Prop)
    (hK : ∀ r σ', -2147483648 ≤ r → r ≤ 2147483647 → Took d L σ σ' → K (.ret (vi r)) σ') : PCalls Try.prog 38 [vp d 0] σ K := by
  refine PCalls.of_body (tOk Try.prog) (by kernel_rfl) Try.func38 rfl (by kernel_rfl) [] [] (by kernel_rfl) (n := 28) (by kernel_rfl) (by kernel_rfl) (rs := [.tmp 2]) (by kernel_rfl) ?_
  simp (config := { maxSteps := 2000000 }) (disch := omega) only [pvE_q, pvS_q, vi, vs, vb', vp, wrap_ok, pvB, sMk1W_38, reduceIte, Nat.reduceEqDiff, Nat.reduceAdd, Nat.reduceSub, Nat.reduceMul, Nat.reduceLT, Nat.reduceLeDiff, Nat.reduceBEq, reduceCtorEq, Int.reduceAdd, Int.reduceSub, Int.reduceMul, Int.reduceLT, Int.reduceLE, Int.reduceEq, Int.reduceToNat, Int.reduceNeg, Nat.reduceBNe, Int.reduceBEq, Int.reduceBNe, forall_const, eq_self, decide_true, decide_false, w_loop]
  refine next_c d L 8 σ h hl (by omega) _ fun r σ1 h0 h1 t1 => ?_
  by_cases g0 : r = 0
  · subst g0
    simp (config := { maxSteps := 2000000 }) (disch := omega) only [pvE_q, pvS_q, vi, vs, vb', vp, wrap_ok, pvB, sMk1W_38, reduceIte, Nat.reduceEqDiff, Nat.reduceAdd, Nat.reduceSub, Nat.reduceMul, Nat.reduceLT, Nat.reduceLeDiff, Nat.reduceBEq, reduceCtorEq, Int.reduceAdd, Int.reduceSub, Int.reduceMul, Int.reduceLT, Int.reduceLE, Int.reduceEq, Int.reduceToNat, Int.reduceNeg, Nat.reduceBNe, Int.reduceBEq, Int.reduceBNe, forall_const, eq_self, decide_true, decide_false, w_loop]
    refine next_c d L 20 σ1 t1.deck hl (by omega) _ fun r σ2 h2 h3 t2 => ?_
    simp (config := { maxSteps := 2000000 }) (disch := omega) only [pvE_q, pvS_q, vi, vs, vb', vp, wrap_ok, pvB, sMk1W_38, reduceIte, Nat.reduceEqDiff, Nat.reduceAdd, Nat.reduceSub, Nat.reduceMul, Nat.reduceLT, Nat.reduceLeDiff, Nat.reduceBEq, reduceCtorEq, Int.reduceAdd, Int.reduceSub, Int.reduceMul, Int.reduceLT, Int.reduceLE, Int.reduceEq, Int.reduceToNat, Int.reduceNeg, Nat.reduceBNe, Int.reduceBEq, Int.reduceBNe, forall_const, eq_self, decide_true, decide_false, w_loop]
    exact ⟨_, .refl _, hK _ _ (by omega) (by omega) (t1.trans t2)⟩
  by_cases g1 : r = 1
  · subst g1
    simp (config := { maxSteps := 2000000 }) (disch := omega) only [pvE_q, pvS_q, vi, vs, vb', vp, wrap_ok, pvB, sMk1W_38, reduceIte, Nat.reduceEqDiff, Nat.reduceAdd, Nat.reduceSub, Nat.reduceMul, Nat.reduceLT, Nat.reduceLeDiff, Nat.reduceBEq, reduceCtorEq, Int.reduceAdd, Int.reduceSub, Int.reduceMul, Int.reduceLT, Int.reduceLE, Int.reduceEq, Int.reduceToNat, Int.reduceNeg, Nat.reduceBNe, Int.reduceBEq, Int.reduceBNe, forall_const, eq_self, decide_true, decide_false, w_loop]
    refine next_c d L 5 σ1 t1.deck hl (by omega) _ fun r σ2 h2 h3 t2 => ?_
    simp (config := { maxSteps := 2000000 }) (disch := omega) only [pvE_q, pvS_q, vi, vs, vb', vp, wrap_ok, pvB, sMk1W_38, reduceIte, Nat.reduceEqDiff, Nat.reduceAdd, Nat.reduceSub, Nat.reduceMul, Nat.reduceLT, Nat.reduceLeDiff, Nat.reduceBEq, reduceCtorEq, Int.reduceAdd, Int.reduceSub, Int.reduceMul, Int.reduceLT, Int.reduceLE, Int.reduceEq, Int.reduceToNat, Int.reduceNeg, Nat.reduceBNe, Int.reduceBEq, Int.reduceBNe, forall_const, eq_self, decide_true, decide_false, w_loop]
    exact ⟨_, .refl _, hK _ _ (by omega) (by omega) (t1.trans t2)⟩
  by_cases g2 : r = 2
  · subst g2
    simp (config := { maxSteps := 2000000 }) (disch := omega) only [pvE_q, pvS_q, vi, vs, vb', vp, wrap_ok, pvB, sMk1W_38, reduceIte, Nat.reduceEqDiff, Nat.reduceAdd, Nat.reduceSub, Nat.reduceMul, Nat.reduceLT, Nat.reduceLeDiff, Nat.reduceBEq, reduceCtorEq, Int.reduceAdd, Int.reduceSub, Int.reduceMul, Int.reduceLT, Int.reduceLE, Int.reduceEq, Int.reduceToNat, Int.reduceNeg, Nat.reduceBNe, Int.reduceBEq, Int.reduceBNe, forall_const, eq_self, decide_true, decide_false, w_loop]
    refine next_c d L 5 σ1 t1.deck hl (by omega) _ fun r σ2 h2 h3 t2 => ?_
    simp (config := { maxSteps := 2000000 }) (disch := omega) only [pvE_q, pvS_q, vi, vs, vb', vp, wrap_ok, pvB, sMk1W_38, reduceIte, Nat.reduceEqDiff, Nat.reduceAdd, Nat.reduceSub, Nat.reduceMul, Nat.reduceLT, Nat.reduceLeDiff, Nat.reduceBEq, reduceCtorEq, Int.reduceAdd, Int.reduceSub, Int.reduceMul, Int.reduceLT, Int.reduceLE, Int.reduceEq, Int.reduceToNat, Int.reduceNeg, Nat.reduceBNe, Int.reduceBEq, Int.reduceBNe, forall_const, eq_self, decide_true, decide_false, w_loop]
    exact ⟨_, .refl _, hK _ _ (by omega) (by omega) (t1.trans t2)⟩
  by_cases g3 : r = 3
  · subst g3
    simp (config := { maxSteps := 2000000 }) (disch := omega) only [pvE_q, pvS_q, vi, vs, vb', vp, wrap_ok, pvB, sMk1W_38, reduceIte, Nat.reduceEqDiff, Nat.reduceAdd, Nat.reduceSub, Nat.reduceMul, Nat.reduceLT, Nat.reduceLeDiff, Nat.reduceBEq, reduceCtorEq, Int.reduceAdd, Int.reduceSub, Int.reduceMul, Int.reduceLT, Int.reduceLE, Int.reduceEq, Int.reduceToNat, Int.reduceNeg, Nat.reduceBNe, Int.reduceBEq, Int.reduceBNe, forall_const, eq_self, decide_true, decide_false, w_loop]
    refine next_c d L 31 σ1 t1.deck hl (by omega) _ fun r σ2 h2 h3 t2 => ?_
    have e0 : ¬ r < 0 := by omega
    have e1 : r.toNat ≤ 30 := by omega
    have e2 : min r.toNat IntKind.i64.bits = r.toNat := by simp only [IntKind.bits]; omega
    have e3 : 1 * (2 : Int) ^ r.toNat ≤ 1073741824 := by
      have : (2 : Int) ^ r.toNat ≤ 2 ^ 30 := by exact_mod_cast Nat.pow_le_pow_right (n := 2) (by omega) e1
      simpa using this
    have e4 : 0 ≤ 1 * (2 : Int) ^ r.toNat := by
      have : 0 ≤ (2 : Int) ^ r.toNat := Int.pow_nonneg (by omega)
      simpa using this
    simp (config := { maxSteps := 2000000 }) (disch := omega) only [pvE_q, pvS_q, vi, vs, vb', vp, wrap_ok, pvB, sMk1W_38, reduceIte, Nat.reduceEqDiff, Nat.reduceAdd, Nat.reduceSub, Nat.reduceMul, Nat.reduceLT, Nat.reduceLeDiff, Nat.reduceBEq, reduceCtorEq, Int.reduceAdd, Int.reduceSub, Int.reduceMul, Int.reduceLT, Int.reduceLE, Int.reduceEq, Int.reduceToNat, Int.reduceNeg, Nat.reduceBNe, Int.reduceBEq, Int.reduceBNe, forall_const, eq_self, decide_true, decide_false, w_loop, wrap_u, e0, e2]
    exact ⟨_, .refl _, hK _ _ (by omega) (by omega) (t1.trans t2)⟩
  have b0 : (r == 0) = false := by simpa using g0
  have b1 : (r == 1) = false := by simpa using g1
  have b2 : (r == 2) = false := by simpa using g2
  have b3 : (r == 3) = false := by simpa using g3
  simp (config := { maxSteps := 2000000 }) (disch := omega) only [pvE_q, pvS_q, vi, vs, vb', vp, wrap_ok, pvB, sMk1W_38, reduceIte, Nat.reduceEqDiff, Nat.reduceAdd, Nat.reduceSub, Nat.reduceMul, Nat.reduceLT, Nat.reduceLeDiff, Nat.reduceBEq, reduceCtorEq, Int.reduceAdd, Int.reduceSub, Int.reduceMul, Int.reduceLT, Int.reduceLE, Int.reduceEq, Int.reduceToNat, Int.reduceNeg, Nat.reduceBNe, Int.reduceBEq, Int.reduceBNe, forall_const, eq_self, decide_true, decide_false, w_loop, b0, b1, b2, b3]
  refine next_c d L 20 σ1 t1.deck hl (by omega) _ fun r σ2 h2 h3 t2 => ?_
  simp (config := { maxSteps := 2000000 }) (disch := omega) only [pvE_q, pvS_q, vi, vs, vb', vp, wrap_ok, pvB, sMk1W_38, reduceIte, Nat.reduceEqDiff, Nat.reduceAdd, Nat.reduceSub, Nat.reduceMul, Nat.reduceLT, Nat.reduceLeDiff, Nat.reduceBEq, reduceCtorEq, Int.reduceAdd, Int.reduceSub, Int.reduceMul, Int.reduceLT, Int.reduceLE, Int.reduceEq, Int.reduceToNat, Int.reduceNeg, Nat.reduceBNe, Int.reduceBEq, Int.reduceBNe, forall_const, eq_self, decide_true, decide_false, w_loop]
  exact ⟨_, .refl _, hK _ _ (by omega) (by omega) (t1.trans t2)⟩
end Go.Pv.W
-- Mk2W
namespace Go.Pv.W
open Go Go.RowKit Go.Proofs Go.Pv
def sMk2W_31 := (And.intro (And.intro (And.intro (And.intro (And.intro @q_fld_63_0 @q_fld_70_3) (And.intro @q_fld_61_0 (And.intro @q_fld_70_4 @q_fld_63_1))) (And.intro (And.intro @q_fld_70_5 @q_slz_0) (And.intro @q_tsz_3 (And.intro @q_slz_3 @q_ifc_3)))) (And.intro (And.intro (And.intro @q_tsz_4 @q_slz_4) (And.intro @q_ifc_4 (And.intro @q_isb_4 @q_tsz_9))) (And.intro (And.intro @q_slz_9 (And.intro @q_str_9 @q_arz_9)) (And.intro @q_ifc_9 (And.intro @q_tsz_28 @q_slz_28))))) (And.intro (And.intro (And.intro (And.intro @q_str_28 @q_arz_28) (And.intro @q_ifc_28 (And.intro @q_tsz_35 @q_slz_35))) (And.intro (And.intro @q_str_35 @q_arz_35) (And.intro @q_ifc_35 (And.intro @q_tsz_61 @q_slz_61)))) (And.intro (And.intro (And.intro @q_ifc_61 @q_tsz_63) (And.intro @q_slz_63 (And.intro @q_ifc_63 @q_tsz_68))) (And.intro (And.intro @q_slz_68 (And.intro @q_ifc_68 @q_tsz_70)) (And.intro @q_slz_70 (And.intro @q_ifc_70 @q_bsl_28))))))
def sMk2W_32 := (And.intro (And.intro (And.intro (And.intro @q_fld_70_0 (And.intro @q_slz_0 @q_tsz_3)) (And.intro @q_slz_3 (And.intro @q_ifc_3 @q_tsz_9))) (And.intro (And.intro @q_slz_9 (And.intro @q_str_9 @q_arz_9)) (And.intro @q_ifc_9 (And.intro @q_tsz_25 @q_slz_25)))) (And.intro (And.intro (And.intro @q_ifc_25 (And.intro @q_tsz_28 @q_slz_28)) (And.intro @q_str_28 (And.intro @q_arz_28 @q_ifc_28))) (And.intro (And.intro @q_tsz_68 (And.intro @q_slz_68 @q_ifc_68)) (And.intro @q_tsz_70 (And.intro @q_slz_70 @q_ifc_70)))))
/-- The list of the loops under way: of the state, or none yet. -/
def Loops (σ0 σ : St) (d m : Nat) (nl : Nat) (lp : PV) : Prop :=
  (nl = 0 ∧ lp = .list .full 1 []) ∨ ∃ b c ds, ∃ Lp : List ByteArray, lp = .val (.slice (some ⟨b, 0, none⟩) nl c) ∧ σ.obj b = some (.cells ds) ∧ ds.length = c ∧ Lp.length = nl ∧ ds.take nl = Lp.map vs ∧ nl ≤ c ∧ 0 < c ∧ b ≠ d ∧ b ≠ m ∧ σ0.obj b = none
def mkCells (d : Nat) (kv : Cap) (V : List ByteArray) (lp : PV) (ka : Cap) (A : List ByteArray) (ks : Cap) (Sx : List Sh) (held : ByteArray) (labels stmts il : Int) : List PV :=
  [vp d 0, .list kv 1 (V.map vs), lp, .list ka 1 (A.map vs), .list ks 3 (Sx.map pvSh), vs held, vi labels, vi stmts, vi il]
/-- The maker of a task, at work. σ0: the state ahead of it. -/
structure MkR (σ0 : St) (d m : Nat) (L : List Int) (V A : List ByteArray) (Sx : List Sh) (nl : Nat) (il : Int) (σ : St) : Prop where
  frame : Frame (· = d) σ0 σ
  m0 : σ0.obj m = none
  md : m ≠ d
  deck : ∃ at', 0 ≤ at' ∧ σ.obj d = some (deck L at')
  hL : L.length ≤ 400
  hV : 0 < V.length ∧ V.length ≤ 100
  hA : A.length ≤ 1
  hS : Sx.length ≤ 1
  hl : nl ≤ 100
  hi : 0 ≤ il ∧ il ≤ 100
  own : ∃ kv ka ks lp held labels stmts, σ.obj m = some (.cells (mkCells d kv V lp ka A ks Sx held labels stmts il)) ∧ Loops σ0 σ d m nl lp ∧ 0 ≤ labels ∧ labels ≤ 100 ∧ 0 ≤ stmts ∧ stmts ≤ 1000
/-- What a step of the maker's leaves as it is. -/
structure OwnLe (σ σ' : St) : Prop where
  own : ∀ b n, σ.own b = some n → σ'.own b = some n
theorem OwnLe.refl (σ : St) : OwnLe σ σ := ⟨fun _ _ h => h⟩
theorem OwnLe.trans {a b c : St} (h : OwnLe a b) (k : OwnLe b c) : OwnLe a c := ⟨fun x n e => k.own x n (h.own x n e)⟩
theorem Took.own {d : Nat} {L : List Int} {σ σ' : St} (h : Took d L σ σ') : OwnLe σ σ' := ⟨h.frame.own⟩
theorem Loops.frame {σ0 σ σ' : St} {d m nl : Nat} {lp : PV} (h : Loops σ0 σ d m nl lp) (hf : Frame (fun x => x = d ∨ x = m) σ σ') : Loops σ0 σ' d m nl lp := by
  rcases h with h | ⟨b, c, ds, Lp, h1, h2, h3, h4, h5, h6, h7, h8, h9, h10⟩
  · exact .inl h
  · exact .inr ⟨b, c, ds, Lp, h1, hf.obj b _ (by simp [h8, h9]) h2, h3, h4, h5, h6, h7, h8, h9, h10⟩
/-- A number was taken. -/
theorem MkR.took {σ0 σ σ' : St} {d m : Nat} {L : List Int} {V A : List ByteArray} {Sx : List Sh} {nl : Nat} {il : Int} (h : MkR σ0 d m L V A Sx nl il σ) (t : Took d L σ σ') : MkR σ0 d m L V A Sx nl il σ' := by
  obtain ⟨kv, ka, ks, lp, held, labels, stmts, h1, h2, h3⟩ := h.own
  exact ⟨h.frame.trans t.frame, h.m0, h.md, t.deck, h.hL, h.hV, h.hA, h.hS, h.hl, h.hi, kv, ka, ks, lp, held, labels, stmts, t.frame.obj m _ h.md h1, h2.frame (t.frame.mono fun x q => .inl q), h3⟩
theorem set_get (σ : St) (b : Nat) (o : Ob) : (σ.set b o).obj b = some o := by simp [St.set]
/-- The maker's own words are written. -/
theorem MkR.write {σ0 σ : St} {d m : Nat} {L : List Int} {V A : List ByteArray} {Sx : List Sh} {nl nl' : Nat} {il il' : Int} (h : MkR σ0 d m L V A Sx nl il σ) (hi : 0 ≤ il' ∧ il' ≤ 100) (hl : nl' ≤ 100) {kv ka ks : Cap} {lp : PV} {held : ByteArray} {labels stmts : Int}
    (hlp : Loops σ0 (σ.set m (.cells (mkCells d kv V lp ka A ks Sx held labels stmts il'))) d m nl' lp) (h1 : 0 ≤ labels ∧ labels ≤ 100) (h2 : 0 ≤ stmts ∧ stmts ≤ 1000) : MkR σ0 d m L V A Sx nl' il' (σ.set m (.cells (mkCells d kv V lp ka A ks Sx held labels stmts il'))) := by
  refine ⟨⟨fun b o n e => ?_, h.frame.own, h.frame.gl⟩, h.m0, h.md, ?_, h.hL, h.hV, h.hA, h.hS, hl, hi, kv, ka, ks, lp, held, labels, stmts, set_get _ _ _, hlp, h1.1, h1.2, h2.1, h2.2⟩
  · simp only [St.set]
    rw [if_neg]
    · exact h.frame.obj b o n e
    · intro q; rw [q, h.m0] at e; cases e
  · obtain ⟨at', q1, q2⟩ := h.deck
    refine ⟨at', q1, ?_⟩
    simp only [St.set]
    rw [if_neg (Ne.symm h.md)]
    exact q2
theorem own_set (σ : St) (b : Nat) (o : Ob) : OwnLe σ (σ.set b o) := ⟨fun _ _ e => e⟩
theorem Shs_get (l : List Sh) (i : Nat) : (l.map pvSh)[i]? = (l[i]?).map pvSh := by simp
set_option maxHeartbeats 4000000 in
set_option maxRecDepth 100000 in
theorem name_c {σ0 σ : St} {d m : Nat} {L : List Int} {V A : List ByteArray} {Sx : List Sh} {nl : Nat} {il : Int} (h : MkR σ0 d m L V A Sx nl il σ) (kk : Cap) (U : List ByteArray) (hu : 0 < U.length) (hu2 : U.length ≤ 200) (K : Res → St → Prop)
    (hK : ∀ (s : ByteArray) σ', s ∈ U → Took d L σ σ' → K (.ret (vs s)) σ') : PCalls Try.prog 32 [vp m 0, .list kk 1 (U.map vs)] σ K := by
  obtain ⟨kv, ka, ks, lp, held, labels, stmts, h1, h2, h3⟩ := h.own
  unfold mkCells at h1
  simp only [vi, vs, vp] at h1
  refine PCalls.of_body (tOk Try.prog) (by kernel_rfl) Try.func32 rfl (by kernel_rfl) [] [] (by kernel_rfl) (n := 15) (by kernel_rfl) (by kernel_rfl) (rs := [.tmp 4]) (by kernel_rfl) ?_
  simp (config := { maxSteps := 2000000 }) (disch := omega) only [pvE_q, pvS_q, vi, vs, vb', vp, wrap_ok, pvB, sMk2W_32, reduceIte, Nat.reduceEqDiff, Nat.reduceAdd, Nat.reduceSub, Nat.reduceMul, Nat.reduceLT, Nat.reduceLeDiff, Nat.reduceBEq, reduceCtorEq, Int.reduceAdd, Int.reduceSub, Int.reduceMul, Int.reduceLT, Int.reduceLE, Int.reduceEq, Int.reduceToNat, Int.reduceNeg, Nat.reduceBNe, Int.reduceBEq, Int.reduceBNe, forall_const, eq_self, decide_true, decide_false, w_loop, h1]
  refine next_c d L U.length σ h.deck h.hL (by omega) _ fun r σ' h0 h4 t => ?_
  have hr : r.toNat < U.length := by omega
  have e3 : (U.map vs)[r.toNat]? = some (vs (U[r.toNat]'hr)) := by rw [List.getElem?_map, List.getElem?_eq_getElem hr]; rfl
  simp only [vs] at e3
  simp (config := { maxSteps := 2000000 }) (disch := omega) only [pvE_q, pvS_q, vi, vs, vb', vp, wrap_ok, pvB, sMk2W_32, reduceIte, Nat.reduceEqDiff, Nat.reduceAdd, Nat.reduceSub, Nat.reduceMul, Nat.reduceLT, Nat.reduceLeDiff, Nat.reduceBEq, reduceCtorEq, Int.reduceAdd, Int.reduceSub, Int.reduceMul, Int.reduceLT, Int.reduceLE, Int.reduceEq, Int.reduceToNat, Int.reduceNeg, Nat.reduceBNe, Int.reduceBEq, Int.reduceBNe, forall_const, eq_self, decide_true, decide_false, w_loop, h0, e3]
  exact ⟨_, .refl _, hK _ _ (List.getElem_mem hr) t⟩
set_option maxHeartbeats 8000000 in
set_option maxRecDepth 100000 in
theorem usable_c {σ0 σ : St} {d m : Nat} {L : List Int} {V A : List ByteArray} {Sx : List Sh} {nl : Nat} {il : Int} (h : MkR σ0 d m L V A Sx nl il σ) (K : Res → St → Prop)
    (hK : ∀ (U : List ByteArray), U.length ≤ 2 → K (.ret (.list .any 1 (U.map vs))) σ) : PCalls Try.prog 31 [vp m 0] σ K := by
  obtain ⟨kv, ka, ks, lp, held, labels, stmts, h1, h2, h3⟩ := h.own
  have hA := h.hA
  have hS := h.hS
  unfold mkCells at h1
  simp only [vi, vs, vp] at h1
  refine PCalls.forgetR ?_
  refine PCalls.of_body (tOk Try.prog) (by kernel_rfl) Try.func31 rfl (by kernel_rfl) [] [(5, 32, [(0, []), (4, []), (8, []), (1, []), (9, []), (2, []), (10, []), (3, []), (11, []), (5, []), (6, []), (7, []), (12, [])])] (by kernel_rfl) (n := 46) (by kernel_rfl) (by kernel_rfl) (rs := [.tmp 2]) (by kernel_rfl) ?_
  simp (config := { maxSteps := 2000000 }) (disch := omega) only [pvE_q, pvS_q, vi, vs, vb', vp, wrap_ok, pvB, sMk2W_31, reduceIte, Nat.reduceEqDiff, Nat.reduceAdd, Nat.reduceSub, Nat.reduceMul, Nat.reduceLT, Nat.reduceLeDiff, Nat.reduceBEq, reduceCtorEq, Int.reduceAdd, Int.reduceSub, Int.reduceMul, Int.reduceLT, Int.reduceLE, Int.reduceEq, Int.reduceToNat, Int.reduceNeg, Nat.reduceBNe, Int.reduceBEq, Int.reduceBNe, forall_const, eq_self, decide_true, decide_false, w_loop, h1]
  refine ⟨by omega, by omega, trivial, fun k1 σ1 a1 => ?_⟩
  have m1 := (Mine.full σ 0 1).app a1
  refine loop_rule (fun s => ∃ (i : Nat) (k : Cap) (σ1 : St) (U : List ByteArray), i ≤ Sx.length ∧ U.length ≤ A.length + i ∧ Mine σ σ1 U.length 1 k ∧ s = ⟨46, [(0, vp m 0), (3, .list k 1 (U.map vs)), (4, vi i)], [], σ1⟩) (fun s => (Sx.length - ival (get s.env 4)).toNat) ?_ ?_
  · refine ⟨_, ?_, 0, k1, σ1, A, Nat.zero_le _, Nat.le_refl _, by simpa using m1, rfl⟩
    exact less_env rfl (less_env rfl (less_env rfl (less_nil (.refl _))))
  · rintro s ⟨i, k, σ2, Us, hi, hUs, hmine, rfl⟩ R hR
    have h1apo := hmine.sub.obj m _ h1
    by_cases hlt : (i : Int) < Sx.length
    · have hlt' : i < Sx.length := by omega
      have eg : (Sx.map pvSh)[i]? = some (pvSh Sx[i]) := by rw [Shs_get, List.getElem?_eq_getElem hlt']; rfl
      have hm : (Sx.length - ((i + 1 : Nat) : Int)).toNat < (Sx.length - (i : Int)).toNat := by omega
      generalize Sx[i] = x at *
      obtain ⟨sn, sz, sr⟩ := x
      simp only [pvSh, vi, vs] at eg
      have e0 : (0 : Int) ≤ i := by omega
      cases he : (sr.toList == held.toList)
      · simp (config := { maxSteps := 2000000 }) (disch := omega) only [pvE_q, pvS_q, vi, vs, vb', vp, wrap_ok, pvB, sMk2W_31, reduceIte, Nat.reduceEqDiff, Nat.reduceAdd, Nat.reduceSub, Nat.reduceMul, Nat.reduceLT, Nat.reduceLeDiff, Nat.reduceBEq, reduceCtorEq, Int.reduceAdd, Int.reduceSub, Int.reduceMul, Int.reduceLT, Int.reduceLE, Int.reduceEq, Int.reduceToNat, Int.reduceNeg, Nat.reduceBNe, Int.reduceBEq, Int.reduceBNe, forall_const, eq_self, decide_true, decide_false, w_loop, h1apo, hlt, eg, Int.toNat_natCast, e0, he]
        refine hR _ _ ?_ ⟨i + 1, k, σ2, Us, by omega, by omega, hmine, rfl⟩ hm
        exact less_env rfl (less_env rfl (less_env rfl (less_nil (.refl _))))
      · simp (config := { maxSteps := 2000000 }) (disch := omega) only [pvE_q, pvS_q, vi, vs, vb', vp, wrap_ok, pvB, sMk2W_31, reduceIte, Nat.reduceEqDiff, Nat.reduceAdd, Nat.reduceSub, Nat.reduceMul, Nat.reduceLT, Nat.reduceLeDiff, Nat.reduceBEq, reduceCtorEq, Int.reduceAdd, Int.reduceSub, Int.reduceMul, Int.reduceLT, Int.reduceLE, Int.reduceEq, Int.reduceToNat, Int.reduceNeg, Nat.reduceBNe, Int.reduceBEq, Int.reduceBNe, forall_const, eq_self, decide_true, decide_false, w_loop, h1apo, hlt, eg, Int.toNat_natCast, e0, he]
        refine ⟨by omega, by omega, hmine.owns, fun k3 σ3 a3 => ?_⟩
        have m3 := hmine.app a3
        refine hR _ _ ?_ ⟨i + 1, k3, σ3, Us ++ [sn], by omega, by simp; omega, by simpa using m3, rfl⟩ hm
        exact less_env rfl (less_env (by show PV.list _ _ _ = PV.list _ _ _; simp [vs]) (less_env rfl (less_nil (.refl _))))
    · simp (config := { maxSteps := 2000000 }) (disch := omega) only [pvE_q, pvS_q, vi, vs, vb', vp, wrap_ok, pvB, sMk2W_31, reduceIte, Nat.reduceEqDiff, Nat.reduceAdd, Nat.reduceSub, Nat.reduceMul, Nat.reduceLT, Nat.reduceLeDiff, Nat.reduceBEq, reduceCtorEq, Int.reduceAdd, Int.reduceSub, Int.reduceMul, Int.reduceLT, Int.reduceLE, Int.reduceEq, Int.reduceToNat, Int.reduceNeg, Nat.reduceBNe, Int.reduceBEq, Int.reduceBNe, forall_const, eq_self, decide_true, decide_false, w_loop, h1apo, hlt]
      refine ⟨σ, hmine.sub, ?_⟩
      simp only [Res.forget, forget, forgets_vs]
      exact hK Us (by omega)
end Go.Pv.W
-- Mk3W
namespace Go.Pv.W
open Go Go.RowKit Go.Proofs Go.Pv
def sMk3W_33 := (And.intro (And.intro (And.intro (And.intro (And.intro @q_fld_70_1 @q_fld_70_0) (And.intro @q_slz_0 (And.intro @q_tsz_3 @q_slz_3))) (And.intro (And.intro @q_ifc_3 @q_tsz_4) (And.intro @q_slz_4 (And.intro @q_ifc_4 @q_isb_4)))) (And.intro (And.intro (And.intro @q_tsz_9 @q_slz_9) (And.intro @q_str_9 (And.intro @q_arz_9 @q_ifc_9))) (And.intro (And.intro @q_tsz_25 @q_slz_25) (And.intro @q_ifc_25 (And.intro @q_tsz_28 @q_slz_28))))) (And.intro (And.intro (And.intro (And.intro @q_str_28 @q_arz_28) (And.intro @q_ifc_28 (And.intro @q_tsz_40 @q_slz_40))) (And.intro (And.intro @q_str_40 @q_arz_40) (And.intro @q_ifc_40 (And.intro @q_tsz_42 @q_slz_42)))) (And.intro (And.intro (And.intro @q_ifc_42 @q_tsz_68) (And.intro @q_slz_68 (And.intro @q_ifc_68 @q_tsz_70))) (And.intro (And.intro @q_slz_70 @q_ifc_70) (And.intro @q_zcs_42 (And.intro @q_bsl_40 @q_bld_42))))))
def WE : Nat → Int
  | 0 => 1
  | k + 1 => 1 + 2 * WE k
theorem WE_pos : ∀ k, 1 ≤ WE k
  | 0 => by simp [WE]
  | k + 1 => by have := WE_pos k; simp only [WE]; omega
/-- An expression that is made at a depth. -/
structure GE (k : Nat) (e : AE) : Prop where
  d : dE e ≤ k + 1
  w : wE e ≤ WE k
theorem GE.leaf (k : Nat) (a b : Int) (s : ByteArray) (c : Int) : GE k (.mk a b s c []) := ⟨by simp [dE, dEs], by have := WE_pos k; simp [wE, wEs]; omega⟩
theorem GE.one {k : Nat} {x : AE} (h : GE k x) (a b : Int) (s : ByteArray) (c : Int) : GE (k + 1) (.mk a b s c [x]) := ⟨by have := h.d; simp only [dE, dEs]; omega, by have := h.w; have := WE_pos k; simp only [wE, wEs, WE]; omega⟩
theorem GE.two {k : Nat} {x y : AE} (h : GE k x) (g : GE k y) (a b : Int) (s : ByteArray) (c : Int) : GE (k + 1) (.mk a b s c [x, y]) := ⟨by have := h.d; have := g.d; simp only [dE, dEs]; omega, by have := h.w; have := g.w; simp only [wE, wEs, WE]; omega⟩
def ExprC (σ0 : St) (d m : Nat) (L : List Int) (V A : List ByteArray) (Sx : List Sh) (nl : Nat) (il : Int) (k : Nat) : Prop :=
  ∀ (σ : St) (K : Res → St → Prop), MkR σ0 d m L V A Sx nl il σ → (∀ e σ', GE k e → Took d L σ σ' → K (.ret (pvE e)) σ') → PCalls Try.prog 33 [vp m 0, vi k] σ K
set_option maxHeartbeats 8000000 in
set_option maxRecDepth 100000 in
theorem expr_0 (σ0 : St) (d m : Nat) (L : List Int) (V A : List ByteArray) (Sx : List Sh) (nl : Nat) (il : Int) : ExprC σ0 d m L V A Sx nl il 0 := by
  intro σ K h hK
  obtain ⟨kv, ka, ks, lp, held, labels, stmts, c0, l0, b0⟩ := h.own
  unfold mkCells at c0
  simp only [vi, vs, vp] at c0
  have hV := h.hV
  refine PCalls.forgetR ?_
  refine PCalls.of_body (tOk Try.prog) (by kernel_rfl) Try.func33 rfl (by kernel_rfl) [] [] (by kernel_rfl) (n := 79) (by kernel_rfl) (by kernel_rfl) (rs := [.cell 4 42]) (by kernel_rfl) ?_
  simp (config := { maxSteps := 2000000 }) (disch := omega) only [pvE_q, pvS_q, vi, vs, vb', vp, wrap_ok, notL_E, notL_S, pvB, sMk3W_33, reduceIte, Nat.reduceEqDiff, Nat.reduceAdd, Nat.reduceSub, Nat.reduceMul, Nat.reduceLT, Nat.reduceLeDiff, Nat.reduceBEq, reduceCtorEq, Int.reduceAdd, Int.reduceSub, Int.reduceMul, Int.reduceLT, Int.reduceLE, Int.reduceEq, Int.reduceToNat, Int.reduceNeg, Nat.reduceBNe, Int.reduceBEq, Int.reduceBNe, forall_const, eq_self, decide_true, decide_false, w_loop, c0]
  refine next_c d L 6 σ h.deck h.hL (by omega) _ fun r σ1 r0 r1 t1 => ?_
  have h1 := h.took t1
  have c1 := t1.frame.obj m _ h.md c0
  have hz : ((0 : Nat) : Int) = 0 := rfl
  have q0 : 0 ≤ r.tmod 3 := Int.tmod_nonneg _ (by omega)
  have q1 : r.tmod 3 < 3 := Int.tmod_lt_of_pos _ (by omega)
  have q3 : (r.tmod 3 == 3) = false := by simp; omega
  have q4 : (r.tmod 3 == 4) = false := by simp; omega
  have q5 : (r.tmod 3 == 5) = false := by simp; omega
  have qz : (3 : Int) ≠ 0 := by omega
  cases z : (r.tmod 3 == 0)
  · simp (config := { maxSteps := 2000000 }) (disch := omega) only [pvE_q, pvS_q, vi, vs, vb', vp, wrap_ok, notL_E, notL_S, pvB, sMk3W_33, reduceIte, Nat.reduceEqDiff, Nat.reduceAdd, Nat.reduceSub, Nat.reduceMul, Nat.reduceLT, Nat.reduceLeDiff, Nat.reduceBEq, reduceCtorEq, Int.reduceAdd, Int.reduceSub, Int.reduceMul, Int.reduceLT, Int.reduceLE, Int.reduceEq, Int.reduceToNat, Int.reduceNeg, Nat.reduceBNe, Int.reduceBEq, Int.reduceBNe, forall_const, eq_self, decide_true, decide_false, w_loop, c1, q3, q4, q5, z, hz, qz]
    refine name_c h1 kv V h.hV.1 (by omega) _ fun nm σ2 _ t2 => ?_
    simp (config := { maxSteps := 2000000 }) (disch := omega) only [pvE_q, pvS_q, vi, vs, vb', vp, wrap_ok, notL_E, notL_S, pvB, sMk3W_33, reduceIte, Nat.reduceEqDiff, Nat.reduceAdd, Nat.reduceSub, Nat.reduceMul, Nat.reduceLT, Nat.reduceLeDiff, Nat.reduceBEq, reduceCtorEq, Int.reduceAdd, Int.reduceSub, Int.reduceMul, Int.reduceLT, Int.reduceLE, Int.reduceEq, Int.reduceToNat, Int.reduceNeg, Nat.reduceBNe, Int.reduceBEq, Int.reduceBNe, forall_const, eq_self, decide_true, decide_false, w_loop]
    refine nameE_c nm σ2 _ ?_
    simp (config := { maxSteps := 2000000 }) (disch := omega) only [pvE_q, pvS_q, vi, vs, vb', vp, wrap_ok, notL_E, notL_S, pvB, sMk3W_33, reduceIte, Nat.reduceEqDiff, Nat.reduceAdd, Nat.reduceSub, Nat.reduceMul, Nat.reduceLT, Nat.reduceLeDiff, Nat.reduceBEq, reduceCtorEq, Int.reduceAdd, Int.reduceSub, Int.reduceMul, Int.reduceLT, Int.reduceLE, Int.reduceEq, Int.reduceToNat, Int.reduceNeg, Nat.reduceBNe, Int.reduceBEq, Int.reduceBNe, forall_const, eq_self, decide_true, decide_false, w_loop]
    refine ⟨_, .refl _, ?_⟩
    have := hK _ σ2 (GE.leaf 0 2 0 nm 0) (t1.trans t2)
    simpa only [Res.forget, forget, forgets, pvE, pvEs, vi, vs] using this
  · simp (config := { maxSteps := 2000000 }) (disch := omega) only [pvE_q, pvS_q, vi, vs, vb', vp, wrap_ok, notL_E, notL_S, pvB, sMk3W_33, reduceIte, Nat.reduceEqDiff, Nat.reduceAdd, Nat.reduceSub, Nat.reduceMul, Nat.reduceLT, Nat.reduceLeDiff, Nat.reduceBEq, reduceCtorEq, Int.reduceAdd, Int.reduceSub, Int.reduceMul, Int.reduceLT, Int.reduceLE, Int.reduceEq, Int.reduceToNat, Int.reduceNeg, Nat.reduceBNe, Int.reduceBEq, Int.reduceBNe, forall_const, eq_self, decide_true, decide_false, w_loop, c1, z, hz, qz]
    refine next_c d L 12 σ1 h1.deck h.hL (by omega) _ fun n σ2 n0 n1 t2 => ?_
    have h2 := h1.took t2
    have c2 := t2.frame.obj m _ h.md c1
    simp (config := { maxSteps := 2000000 }) (disch := omega) only [pvE_q, pvS_q, vi, vs, vb', vp, wrap_ok, notL_E, notL_S, pvB, sMk3W_33, reduceIte, Nat.reduceEqDiff, Nat.reduceAdd, Nat.reduceSub, Nat.reduceMul, Nat.reduceLT, Nat.reduceLeDiff, Nat.reduceBEq, reduceCtorEq, Int.reduceAdd, Int.reduceSub, Int.reduceMul, Int.reduceLT, Int.reduceLE, Int.reduceEq, Int.reduceToNat, Int.reduceNeg, Nat.reduceBNe, Int.reduceBEq, Int.reduceBNe, forall_const, eq_self, decide_true, decide_false, w_loop, c2]
    refine next_c d L 8 σ2 h2.deck h.hL (by omega) _ fun g σ3 g0 g1 t3 => ?_
    have h3 := h2.took t3
    have c3 := t3.frame.obj m _ h.md c2
    cases g7 : (g == 7)
    · simp (config := { maxSteps := 2000000 }) (disch := omega) only [pvE_q, pvS_q, vi, vs, vb', vp, wrap_ok, notL_E, notL_S, pvB, sMk3W_33, reduceIte, Nat.reduceEqDiff, Nat.reduceAdd, Nat.reduceSub, Nat.reduceMul, Nat.reduceLT, Nat.reduceLeDiff, Nat.reduceBEq, reduceCtorEq, Int.reduceAdd, Int.reduceSub, Int.reduceMul, Int.reduceLT, Int.reduceLE, Int.reduceEq, Int.reduceToNat, Int.reduceNeg, Nat.reduceBNe, Int.reduceBEq, Int.reduceBNe, forall_const, eq_self, decide_true, decide_false, w_loop, c3, g7]
      refine num_c n σ3 _ ?_
      simp (config := { maxSteps := 2000000 }) (disch := omega) only [pvE_q, pvS_q, vi, vs, vb', vp, wrap_ok, notL_E, notL_S, pvB, sMk3W_33, reduceIte, Nat.reduceEqDiff, Nat.reduceAdd, Nat.reduceSub, Nat.reduceMul, Nat.reduceLT, Nat.reduceLeDiff, Nat.reduceBEq, reduceCtorEq, Int.reduceAdd, Int.reduceSub, Int.reduceMul, Int.reduceLT, Int.reduceLE, Int.reduceEq, Int.reduceToNat, Int.reduceNeg, Nat.reduceBNe, Int.reduceBEq, Int.reduceBNe, forall_const, eq_self, decide_true, decide_false, w_loop]
      refine ⟨_, .refl _, ?_⟩
      have := hK _ σ3 (GE.leaf 0 1 n ⟨#[]⟩ 0) (t1.trans (t2.trans t3))
      simpa only [Res.forget, forget, forgets, pvE, pvEs, vi, vs] using this
    · simp (config := { maxSteps := 2000000 }) (disch := omega) only [pvE_q, pvS_q, vi, vs, vb', vp, wrap_ok, notL_E, notL_S, pvB, sMk3W_33, reduceIte, Nat.reduceEqDiff, Nat.reduceAdd, Nat.reduceSub, Nat.reduceMul, Nat.reduceLT, Nat.reduceLeDiff, Nat.reduceBEq, reduceCtorEq, Int.reduceAdd, Int.reduceSub, Int.reduceMul, Int.reduceLT, Int.reduceLE, Int.reduceEq, Int.reduceToNat, Int.reduceNeg, Nat.reduceBNe, Int.reduceBEq, Int.reduceBNe, forall_const, eq_self, decide_true, decide_false, w_loop, c3, g7]
      refine word_c d L σ3 h3.deck h.hL _ fun wd σ4 w0 w1 t4 => ?_
      have h4 := h3.took t4
      simp (config := { maxSteps := 2000000 }) (disch := omega) only [pvE_q, pvS_q, vi, vs, vb', vp, wrap_ok, notL_E, notL_S, pvB, sMk3W_33, reduceIte, Nat.reduceEqDiff, Nat.reduceAdd, Nat.reduceSub, Nat.reduceMul, Nat.reduceLT, Nat.reduceLeDiff, Nat.reduceBEq, reduceCtorEq, Int.reduceAdd, Int.reduceSub, Int.reduceMul, Int.reduceLT, Int.reduceLE, Int.reduceEq, Int.reduceToNat, Int.reduceNeg, Nat.reduceBNe, Int.reduceBEq, Int.reduceBNe, forall_const, eq_self, decide_true, decide_false, w_loop]
      refine num_c _ σ4 _ ?_
      simp (config := { maxSteps := 2000000 }) (disch := omega) only [pvE_q, pvS_q, vi, vs, vb', vp, wrap_ok, notL_E, notL_S, pvB, sMk3W_33, reduceIte, Nat.reduceEqDiff, Nat.reduceAdd, Nat.reduceSub, Nat.reduceMul, Nat.reduceLT, Nat.reduceLeDiff, Nat.reduceBEq, reduceCtorEq, Int.reduceAdd, Int.reduceSub, Int.reduceMul, Int.reduceLT, Int.reduceLE, Int.reduceEq, Int.reduceToNat, Int.reduceNeg, Nat.reduceBNe, Int.reduceBEq, Int.reduceBNe, forall_const, eq_self, decide_true, decide_false, w_loop]
      refine ⟨_, .refl _, ?_⟩
      have := hK _ σ4 (GE.leaf 0 1 (if wd > -2147483647 then wd else -2147483647) ⟨#[]⟩ 0) (t1.trans (t2.trans (t3.trans t4)))
      simpa only [Res.forget, forget, forgets, pvE, pvEs, vi, vs] using this
set_option maxHeartbeats 16000000 in
set_option maxRecDepth 100000 in
theorem expr_s (σ0 : St) (d m : Nat) (L : List Int) (V A : List ByteArray) (Sx : List Sh) (nl : Nat) (il : Int) (k : Nat) (hk : k < 1000) (ih : ExprC σ0 d m L V A Sx nl il k) : ExprC σ0 d m L V A Sx nl il (k + 1) := by
  intro σ K h hK
  obtain ⟨kv, ka, ks, lp, held, labels, stmts, c0, l0, b0⟩ := h.own
  unfold mkCells at c0
  simp only [vi, vs, vp] at c0
  have hV := h.hV
  refine PCalls.forgetR ?_
  refine PCalls.of_body (tOk Try.prog) (by kernel_rfl) Try.func33 rfl (by kernel_rfl) [] [] (by kernel_rfl) (n := 79) (by kernel_rfl) (by kernel_rfl) (rs := [.cell 4 42]) (by kernel_rfl) ?_
  simp (config := { maxSteps := 2000000 }) (disch := omega) only [pvE_q, pvS_q, vi, vs, vb', vp, wrap_ok, notL_E, notL_S, pvB, sMk3W_33, reduceIte, Nat.reduceEqDiff, Nat.reduceAdd, Nat.reduceSub, Nat.reduceMul, Nat.reduceLT, Nat.reduceLeDiff, Nat.reduceBEq, reduceCtorEq, Int.reduceAdd, Int.reduceSub, Int.reduceMul, Int.reduceLT, Int.reduceLE, Int.reduceEq, Int.reduceToNat, Int.reduceNeg, Nat.reduceBNe, Int.reduceBEq, Int.reduceBNe, forall_const, eq_self, decide_true, decide_false, w_loop, c0]
  refine next_c d L 6 σ h.deck h.hL (by omega) _ fun r σ1 r0 r1 t1 => ?_
  have h1 := h.took t1
  have c1 := t1.frame.obj m _ h.md c0
  have hz : ¬ (((k + 1 : Nat) : Int) ≤ 0) := by omega
  have hp : ((k + 1 : Nat) : Int) - 1 = k := by omega
  cases z0 : (r == 0)
  · cases z3 : (r == 3)
    · cases z4 : (r == 4)
      · cases z5 : (r == 5)
        · simp (config := { maxSteps := 2000000 }) (disch := omega) only [pvE_q, pvS_q, vi, vs, vb', vp, wrap_ok, notL_E, notL_S, pvB, sMk3W_33, reduceIte, Nat.reduceEqDiff, Nat.reduceAdd, Nat.reduceSub, Nat.reduceMul, Nat.reduceLT, Nat.reduceLeDiff, Nat.reduceBEq, reduceCtorEq, Int.reduceAdd, Int.reduceSub, Int.reduceMul, Int.reduceLT, Int.reduceLE, Int.reduceEq, Int.reduceToNat, Int.reduceNeg, Nat.reduceBNe, Int.reduceBEq, Int.reduceBNe, forall_const, eq_self, decide_true, decide_false, w_loop, c1, z0, z3, z4, z5, hz]
          refine name_c h1 kv V h.hV.1 (by omega) _ fun nm σ2 _ t2 => ?_
          simp (config := { maxSteps := 2000000 }) (disch := omega) only [pvE_q, pvS_q, vi, vs, vb', vp, wrap_ok, notL_E, notL_S, pvB, sMk3W_33, reduceIte, Nat.reduceEqDiff, Nat.reduceAdd, Nat.reduceSub, Nat.reduceMul, Nat.reduceLT, Nat.reduceLeDiff, Nat.reduceBEq, reduceCtorEq, Int.reduceAdd, Int.reduceSub, Int.reduceMul, Int.reduceLT, Int.reduceLE, Int.reduceEq, Int.reduceToNat, Int.reduceNeg, Nat.reduceBNe, Int.reduceBEq, Int.reduceBNe, forall_const, eq_self, decide_true, decide_false, w_loop]
          refine nameE_c nm σ2 _ ?_
          simp (config := { maxSteps := 2000000 }) (disch := omega) only [pvE_q, pvS_q, vi, vs, vb', vp, wrap_ok, notL_E, notL_S, pvB, sMk3W_33, reduceIte, Nat.reduceEqDiff, Nat.reduceAdd, Nat.reduceSub, Nat.reduceMul, Nat.reduceLT, Nat.reduceLeDiff, Nat.reduceBEq, reduceCtorEq, Int.reduceAdd, Int.reduceSub, Int.reduceMul, Int.reduceLT, Int.reduceLE, Int.reduceEq, Int.reduceToNat, Int.reduceNeg, Nat.reduceBNe, Int.reduceBEq, Int.reduceBNe, forall_const, eq_self, decide_true, decide_false, w_loop]
          refine ⟨_, .refl _, ?_⟩
          have := hK _ σ2 (GE.leaf (k + 1) 2 0 nm 0) (t1.trans t2)
          simpa only [Res.forget, forget, forgets, pvE, pvEs, vi, vs] using this
        · have hh : r = 5 := by simpa using z5
          simp (config := { maxSteps := 2000000 }) (disch := omega) only [pvE_q, pvS_q, vi, vs, vb', vp, wrap_ok, notL_E, notL_S, pvB, sMk3W_33, reduceIte, Nat.reduceEqDiff, Nat.reduceAdd, Nat.reduceSub, Nat.reduceMul, Nat.reduceLT, Nat.reduceLeDiff, Nat.reduceBEq, reduceCtorEq, Int.reduceAdd, Int.reduceSub, Int.reduceMul, Int.reduceLT, Int.reduceLE, Int.reduceEq, Int.reduceToNat, Int.reduceNeg, Nat.reduceBNe, Int.reduceBEq, Int.reduceBNe, forall_const, eq_self, decide_true, decide_false, w_loop, c1, z0, z3, z4, z5, hz]
          refine op_c d L σ1 h1.deck h.hL _ fun op σ2 op0 op1 t2 => ?_
          have h2 := h1.took t2
          simp (config := { maxSteps := 2000000 }) (disch := omega) only [pvE_q, pvS_q, vi, vs, vb', vp, wrap_ok, notL_E, notL_S, pvB, sMk3W_33, reduceIte, Nat.reduceEqDiff, Nat.reduceAdd, Nat.reduceSub, Nat.reduceMul, Nat.reduceLT, Nat.reduceLeDiff, Nat.reduceBEq, reduceCtorEq, Int.reduceAdd, Int.reduceSub, Int.reduceMul, Int.reduceLT, Int.reduceLE, Int.reduceEq, Int.reduceToNat, Int.reduceNeg, Nat.reduceBNe, Int.reduceBEq, Int.reduceBNe, forall_const, eq_self, decide_true, decide_false, w_loop, hp]
          refine ih σ2 _ h2 fun e σ3 ge t3 => ?_
          have h3 := h2.took t3
          simp (config := { maxSteps := 2000000 }) (disch := omega) only [pvE_q, pvS_q, vi, vs, vb', vp, wrap_ok, notL_E, notL_S, pvB, sMk3W_33, reduceIte, Nat.reduceEqDiff, Nat.reduceAdd, Nat.reduceSub, Nat.reduceMul, Nat.reduceLT, Nat.reduceLeDiff, Nat.reduceBEq, reduceCtorEq, Int.reduceAdd, Int.reduceSub, Int.reduceMul, Int.reduceLT, Int.reduceLE, Int.reduceEq, Int.reduceToNat, Int.reduceNeg, Nat.reduceBNe, Int.reduceBEq, Int.reduceBNe, forall_const, eq_self, decide_true, decide_false, w_loop, hp]
          refine ih σ3 _ h3 fun e2 σ4 ge2 t4 => ?_
          simp (config := { maxSteps := 2000000 }) (disch := omega) only [pvE_q, pvS_q, vi, vs, vb', vp, wrap_ok, notL_E, notL_S, pvB, sMk3W_33, reduceIte, Nat.reduceEqDiff, Nat.reduceAdd, Nat.reduceSub, Nat.reduceMul, Nat.reduceLT, Nat.reduceLeDiff, Nat.reduceBEq, reduceCtorEq, Int.reduceAdd, Int.reduceSub, Int.reduceMul, Int.reduceLT, Int.reduceLE, Int.reduceEq, Int.reduceToNat, Int.reduceNeg, Nat.reduceBNe, Int.reduceBEq, Int.reduceBNe, forall_const, eq_self, decide_true, decide_false, w_loop]
          refine bin_c op e e2 σ4 _ ?_
          simp (config := { maxSteps := 2000000 }) (disch := omega) only [pvE_q, pvS_q, vi, vs, vb', vp, wrap_ok, notL_E, notL_S, pvB, sMk3W_33, reduceIte, Nat.reduceEqDiff, Nat.reduceAdd, Nat.reduceSub, Nat.reduceMul, Nat.reduceLT, Nat.reduceLeDiff, Nat.reduceBEq, reduceCtorEq, Int.reduceAdd, Int.reduceSub, Int.reduceMul, Int.reduceLT, Int.reduceLE, Int.reduceEq, Int.reduceToNat, Int.reduceNeg, Nat.reduceBNe, Int.reduceBEq, Int.reduceBNe, forall_const, eq_self, decide_true, decide_false, w_loop]
          refine ⟨_, .refl _, ?_⟩
          have := hK _ σ4 (ge.two ge2 4 0 ⟨#[]⟩ op) (t1.trans (t2.trans (t3.trans t4)))
          simpa only [Res.forget, forget, forgets, pvE, pvEs, vi, vs, forgets_Es, forget_E] using this
      · have hh : r = 4 := by simpa using z4
        simp (config := { maxSteps := 2000000 }) (disch := omega) only [pvE_q, pvS_q, vi, vs, vb', vp, wrap_ok, notL_E, notL_S, pvB, sMk3W_33, reduceIte, Nat.reduceEqDiff, Nat.reduceAdd, Nat.reduceSub, Nat.reduceMul, Nat.reduceLT, Nat.reduceLeDiff, Nat.reduceBEq, reduceCtorEq, Int.reduceAdd, Int.reduceSub, Int.reduceMul, Int.reduceLT, Int.reduceLE, Int.reduceEq, Int.reduceToNat, Int.reduceNeg, Nat.reduceBNe, Int.reduceBEq, Int.reduceBNe, forall_const, eq_self, decide_true, decide_false, w_loop, c1, z0, z3, z4, hz]
        refine op_c d L σ1 h1.deck h.hL _ fun op σ2 op0 op1 t2 => ?_
        have h2 := h1.took t2
        simp (config := { maxSteps := 2000000 }) (disch := omega) only [pvE_q, pvS_q, vi, vs, vb', vp, wrap_ok, notL_E, notL_S, pvB, sMk3W_33, reduceIte, Nat.reduceEqDiff, Nat.reduceAdd, Nat.reduceSub, Nat.reduceMul, Nat.reduceLT, Nat.reduceLeDiff, Nat.reduceBEq, reduceCtorEq, Int.reduceAdd, Int.reduceSub, Int.reduceMul, Int.reduceLT, Int.reduceLE, Int.reduceEq, Int.reduceToNat, Int.reduceNeg, Nat.reduceBNe, Int.reduceBEq, Int.reduceBNe, forall_const, eq_self, decide_true, decide_false, w_loop, hp]
        refine ih σ2 _ h2 fun e σ3 ge t3 => ?_
        have h3 := h2.took t3
        simp (config := { maxSteps := 2000000 }) (disch := omega) only [pvE_q, pvS_q, vi, vs, vb', vp, wrap_ok, notL_E, notL_S, pvB, sMk3W_33, reduceIte, Nat.reduceEqDiff, Nat.reduceAdd, Nat.reduceSub, Nat.reduceMul, Nat.reduceLT, Nat.reduceLeDiff, Nat.reduceBEq, reduceCtorEq, Int.reduceAdd, Int.reduceSub, Int.reduceMul, Int.reduceLT, Int.reduceLE, Int.reduceEq, Int.reduceToNat, Int.reduceNeg, Nat.reduceBNe, Int.reduceBEq, Int.reduceBNe, forall_const, eq_self, decide_true, decide_false, w_loop, hp]
        refine ih σ3 _ h3 fun e2 σ4 ge2 t4 => ?_
        simp (config := { maxSteps := 2000000 }) (disch := omega) only [pvE_q, pvS_q, vi, vs, vb', vp, wrap_ok, notL_E, notL_S, pvB, sMk3W_33, reduceIte, Nat.reduceEqDiff, Nat.reduceAdd, Nat.reduceSub, Nat.reduceMul, Nat.reduceLT, Nat.reduceLeDiff, Nat.reduceBEq, reduceCtorEq, Int.reduceAdd, Int.reduceSub, Int.reduceMul, Int.reduceLT, Int.reduceLE, Int.reduceEq, Int.reduceToNat, Int.reduceNeg, Nat.reduceBNe, Int.reduceBEq, Int.reduceBNe, forall_const, eq_self, decide_true, decide_false, w_loop]
        refine bin_c op e e2 σ4 _ ?_
        simp (config := { maxSteps := 2000000 }) (disch := omega) only [pvE_q, pvS_q, vi, vs, vb', vp, wrap_ok, notL_E, notL_S, pvB, sMk3W_33, reduceIte, Nat.reduceEqDiff, Nat.reduceAdd, Nat.reduceSub, Nat.reduceMul, Nat.reduceLT, Nat.reduceLeDiff, Nat.reduceBEq, reduceCtorEq, Int.reduceAdd, Int.reduceSub, Int.reduceMul, Int.reduceLT, Int.reduceLE, Int.reduceEq, Int.reduceToNat, Int.reduceNeg, Nat.reduceBNe, Int.reduceBEq, Int.reduceBNe, forall_const, eq_self, decide_true, decide_false, w_loop]
        refine ⟨_, .refl _, ?_⟩
        have := hK _ σ4 (ge.two ge2 4 0 ⟨#[]⟩ op) (t1.trans (t2.trans (t3.trans t4)))
        simpa only [Res.forget, forget, forgets, pvE, pvEs, vi, vs, forgets_Es, forget_E] using this
    · simp (config := { maxSteps := 2000000 }) (disch := omega) only [pvE_q, pvS_q, vi, vs, vb', vp, wrap_ok, notL_E, notL_S, pvB, sMk3W_33, reduceIte, Nat.reduceEqDiff, Nat.reduceAdd, Nat.reduceSub, Nat.reduceMul, Nat.reduceLT, Nat.reduceLeDiff, Nat.reduceBEq, reduceCtorEq, Int.reduceAdd, Int.reduceSub, Int.reduceMul, Int.reduceLT, Int.reduceLE, Int.reduceEq, Int.reduceToNat, Int.reduceNeg, Nat.reduceBNe, Int.reduceBEq, Int.reduceBNe, forall_const, eq_self, decide_true, decide_false, w_loop, c1, z0, z3, hz]
      refine usable_c h1 _ fun U hU => ?_
      by_cases hU0 : U.length > 0
      · have hU1 : (U.length : Int) > 0 := by omega
        simp (config := { maxSteps := 2000000 }) (disch := omega) only [pvE_q, pvS_q, vi, vs, vb', vp, wrap_ok, notL_E, notL_S, pvB, sMk3W_33, reduceIte, Nat.reduceEqDiff, Nat.reduceAdd, Nat.reduceSub, Nat.reduceMul, Nat.reduceLT, Nat.reduceLeDiff, Nat.reduceBEq, reduceCtorEq, Int.reduceAdd, Int.reduceSub, Int.reduceMul, Int.reduceLT, Int.reduceLE, Int.reduceEq, Int.reduceToNat, Int.reduceNeg, Nat.reduceBNe, Int.reduceBEq, Int.reduceBNe, forall_const, eq_self, decide_true, decide_false, w_loop, hU1]
        refine name_c h1 .any U hU0 (by omega) _ fun nm σ2 _ t2 => ?_
        have h2 := h1.took t2
        simp (config := { maxSteps := 2000000 }) (disch := omega) only [pvE_q, pvS_q, vi, vs, vb', vp, wrap_ok, notL_E, notL_S, pvB, sMk3W_33, reduceIte, Nat.reduceEqDiff, Nat.reduceAdd, Nat.reduceSub, Nat.reduceMul, Nat.reduceLT, Nat.reduceLeDiff, Nat.reduceBEq, reduceCtorEq, Int.reduceAdd, Int.reduceSub, Int.reduceMul, Int.reduceLT, Int.reduceLE, Int.reduceEq, Int.reduceToNat, Int.reduceNeg, Nat.reduceBNe, Int.reduceBEq, Int.reduceBNe, forall_const, eq_self, decide_true, decide_false, w_loop, hp]
        refine ih σ2 _ h2 fun e σ3 ge t3 => ?_
        have h3 := h2.took t3
        have fe := forget_E e
        obtain ⟨ek, en, es, eo, el⟩ := e
        simp only [pvE_q, vi, vs] at fe
        simp (config := { maxSteps := 2000000 }) (disch := omega) only [pvE_q, pvS_q, vi, vs, vb', vp, wrap_ok, notL_E, notL_S, pvB, sMk3W_33, reduceIte, Nat.reduceEqDiff, Nat.reduceAdd, Nat.reduceSub, Nat.reduceMul, Nat.reduceLT, Nat.reduceLeDiff, Nat.reduceBEq, reduceCtorEq, Int.reduceAdd, Int.reduceSub, Int.reduceMul, Int.reduceLT, Int.reduceLE, Int.reduceEq, Int.reduceToNat, Int.reduceNeg, Nat.reduceBNe, Int.reduceBEq, Int.reduceBNe, forall_const, eq_self, decide_true, decide_false, w_loop, fe]
        refine ⟨_, .refl _, ?_⟩
        have := hK _ σ3 (ge.one 3 0 nm 0) (t1.trans (t2.trans t3))
        simpa only [Res.forget, forget, forgets, pvE, pvEs, vi, vs, forgets_Es] using this
      · have hU1 : ¬ ((U.length : Int) > 0) := by omega
        simp (config := { maxSteps := 2000000 }) (disch := omega) only [pvE_q, pvS_q, vi, vs, vb', vp, wrap_ok, notL_E, notL_S, pvB, sMk3W_33, reduceIte, Nat.reduceEqDiff, Nat.reduceAdd, Nat.reduceSub, Nat.reduceMul, Nat.reduceLT, Nat.reduceLeDiff, Nat.reduceBEq, reduceCtorEq, Int.reduceAdd, Int.reduceSub, Int.reduceMul, Int.reduceLT, Int.reduceLE, Int.reduceEq, Int.reduceToNat, Int.reduceNeg, Nat.reduceBNe, Int.reduceBEq, Int.reduceBNe, forall_const, eq_self, decide_true, decide_false, w_loop, hU1, c1]
        refine name_c h1 kv V h.hV.1 (by omega) _ fun nm σ2 _ t2 => ?_
        simp (config := { maxSteps := 2000000 }) (disch := omega) only [pvE_q, pvS_q, vi, vs, vb', vp, wrap_ok, notL_E, notL_S, pvB, sMk3W_33, reduceIte, Nat.reduceEqDiff, Nat.reduceAdd, Nat.reduceSub, Nat.reduceMul, Nat.reduceLT, Nat.reduceLeDiff, Nat.reduceBEq, reduceCtorEq, Int.reduceAdd, Int.reduceSub, Int.reduceMul, Int.reduceLT, Int.reduceLE, Int.reduceEq, Int.reduceToNat, Int.reduceNeg, Nat.reduceBNe, Int.reduceBEq, Int.reduceBNe, forall_const, eq_self, decide_true, decide_false, w_loop]
        refine nameE_c nm σ2 _ ?_
        simp (config := { maxSteps := 2000000 }) (disch := omega) only [pvE_q, pvS_q, vi, vs, vb', vp, wrap_ok, notL_E, notL_S, pvB, sMk3W_33, reduceIte, Nat.reduceEqDiff, Nat.reduceAdd, Nat.reduceSub, Nat.reduceMul, Nat.reduceLT, Nat.reduceLeDiff, Nat.reduceBEq, reduceCtorEq, Int.reduceAdd, Int.reduceSub, Int.reduceMul, Int.reduceLT, Int.reduceLE, Int.reduceEq, Int.reduceToNat, Int.reduceNeg, Nat.reduceBNe, Int.reduceBEq, Int.reduceBNe, forall_const, eq_self, decide_true, decide_false, w_loop]
        refine ⟨_, .refl _, ?_⟩
        have := hK _ σ2 (GE.leaf (k + 1) 2 0 nm 0) (t1.trans t2)
        simpa only [Res.forget, forget, forgets, pvE, pvEs, vi, vs] using this
  · simp (config := { maxSteps := 2000000 }) (disch := omega) only [pvE_q, pvS_q, vi, vs, vb', vp, wrap_ok, notL_E, notL_S, pvB, sMk3W_33, reduceIte, Nat.reduceEqDiff, Nat.reduceAdd, Nat.reduceSub, Nat.reduceMul, Nat.reduceLT, Nat.reduceLeDiff, Nat.reduceBEq, reduceCtorEq, Int.reduceAdd, Int.reduceSub, Int.reduceMul, Int.reduceLT, Int.reduceLE, Int.reduceEq, Int.reduceToNat, Int.reduceNeg, Nat.reduceBNe, Int.reduceBEq, Int.reduceBNe, forall_const, eq_self, decide_true, decide_false, w_loop, c1, z0, hz]
    refine next_c d L 12 σ1 h1.deck h.hL (by omega) _ fun n σ2 n0 n1 t2 => ?_
    have h2 := h1.took t2
    have c2 := t2.frame.obj m _ h.md c1
    simp (config := { maxSteps := 2000000 }) (disch := omega) only [pvE_q, pvS_q, vi, vs, vb', vp, wrap_ok, notL_E, notL_S, pvB, sMk3W_33, reduceIte, Nat.reduceEqDiff, Nat.reduceAdd, Nat.reduceSub, Nat.reduceMul, Nat.reduceLT, Nat.reduceLeDiff, Nat.reduceBEq, reduceCtorEq, Int.reduceAdd, Int.reduceSub, Int.reduceMul, Int.reduceLT, Int.reduceLE, Int.reduceEq, Int.reduceToNat, Int.reduceNeg, Nat.reduceBNe, Int.reduceBEq, Int.reduceBNe, forall_const, eq_self, decide_true, decide_false, w_loop, c2]
    refine next_c d L 8 σ2 h2.deck h.hL (by omega) _ fun g σ3 g0 g1 t3 => ?_
    have h3 := h2.took t3
    have c3 := t3.frame.obj m _ h.md c2
    cases g7 : (g == 7)
    · simp (config := { maxSteps := 2000000 }) (disch := omega) only [pvE_q, pvS_q, vi, vs, vb', vp, wrap_ok, notL_E, notL_S, pvB, sMk3W_33, reduceIte, Nat.reduceEqDiff, Nat.reduceAdd, Nat.reduceSub, Nat.reduceMul, Nat.reduceLT, Nat.reduceLeDiff, Nat.reduceBEq, reduceCtorEq, Int.reduceAdd, Int.reduceSub, Int.reduceMul, Int.reduceLT, Int.reduceLE, Int.reduceEq, Int.reduceToNat, Int.reduceNeg, Nat.reduceBNe, Int.reduceBEq, Int.reduceBNe, forall_const, eq_self, decide_true, decide_false, w_loop, c3, g7]
      refine num_c n σ3 _ ?_
      simp (config := { maxSteps := 2000000 }) (disch := omega) only [pvE_q, pvS_q, vi, vs, vb', vp, wrap_ok, notL_E, notL_S, pvB, sMk3W_33, reduceIte, Nat.reduceEqDiff, Nat.reduceAdd, Nat.reduceSub, Nat.reduceMul, Nat.reduceLT, Nat.reduceLeDiff, Nat.reduceBEq, reduceCtorEq, Int.reduceAdd, Int.reduceSub, Int.reduceMul, Int.reduceLT, Int.reduceLE, Int.reduceEq, Int.reduceToNat, Int.reduceNeg, Nat.reduceBNe, Int.reduceBEq, Int.reduceBNe, forall_const, eq_self, decide_true, decide_false, w_loop]
      refine ⟨_, .refl _, ?_⟩
      have := hK _ σ3 (GE.leaf (k + 1) 1 n ⟨#[]⟩ 0) (t1.trans (t2.trans t3))
      simpa only [Res.forget, forget, forgets, pvE, pvEs, vi, vs] using this
    · simp (config := { maxSteps := 2000000 }) (disch := omega) only [pvE_q, pvS_q, vi, vs, vb', vp, wrap_ok, notL_E, notL_S, pvB, sMk3W_33, reduceIte, Nat.reduceEqDiff, Nat.reduceAdd, Nat.reduceSub, Nat.reduceMul, Nat.reduceLT, Nat.reduceLeDiff, Nat.reduceBEq, reduceCtorEq, Int.reduceAdd, Int.reduceSub, Int.reduceMul, Int.reduceLT, Int.reduceLE, Int.reduceEq, Int.reduceToNat, Int.reduceNeg, Nat.reduceBNe, Int.reduceBEq, Int.reduceBNe, forall_const, eq_self, decide_true, decide_false, w_loop, c3, g7]
      refine word_c d L σ3 h3.deck h.hL _ fun wd σ4 w0 w1 t4 => ?_
      have h4 := h3.took t4
      simp (config := { maxSteps := 2000000 }) (disch := omega) only [pvE_q, pvS_q, vi, vs, vb', vp, wrap_ok, notL_E, notL_S, pvB, sMk3W_33, reduceIte, Nat.reduceEqDiff, Nat.reduceAdd, Nat.reduceSub, Nat.reduceMul, Nat.reduceLT, Nat.reduceLeDiff, Nat.reduceBEq, reduceCtorEq, Int.reduceAdd, Int.reduceSub, Int.reduceMul, Int.reduceLT, Int.reduceLE, Int.reduceEq, Int.reduceToNat, Int.reduceNeg, Nat.reduceBNe, Int.reduceBEq, Int.reduceBNe, forall_const, eq_self, decide_true, decide_false, w_loop]
      refine num_c _ σ4 _ ?_
      simp (config := { maxSteps := 2000000 }) (disch := omega) only [pvE_q, pvS_q, vi, vs, vb', vp, wrap_ok, notL_E, notL_S, pvB, sMk3W_33, reduceIte, Nat.reduceEqDiff, Nat.reduceAdd, Nat.reduceSub, Nat.reduceMul, Nat.reduceLT, Nat.reduceLeDiff, Nat.reduceBEq, reduceCtorEq, Int.reduceAdd, Int.reduceSub, Int.reduceMul, Int.reduceLT, Int.reduceLE, Int.reduceEq, Int.reduceToNat, Int.reduceNeg, Nat.reduceBNe, Int.reduceBEq, Int.reduceBNe, forall_const, eq_self, decide_true, decide_false, w_loop]
      refine ⟨_, .refl _, ?_⟩
      have := hK _ σ4 (GE.leaf (k + 1) 1 (if wd > -2147483647 then wd else -2147483647) ⟨#[]⟩ 0) (t1.trans (t2.trans (t3.trans t4)))
      simpa only [Res.forget, forget, forgets, pvE, pvEs, vi, vs] using this
end Go.Pv.W
-- Mk4W
namespace Go.Pv.W
open Go Go.RowKit Go.Proofs Go.Pv
def sMk4W_34 := (And.intro (And.intro (And.intro (And.intro (And.intro @q_fld_70_0 @q_fld_70_1) (And.intro @q_slz_0 @q_tsz_3)) (And.intro (And.intro @q_slz_3 @q_ifc_3) (And.intro @q_tsz_4 @q_slz_4))) (And.intro (And.intro (And.intro @q_ifc_4 @q_isb_4) (And.intro @q_tsz_9 @q_slz_9)) (And.intro (And.intro @q_str_9 @q_arz_9) (And.intro @q_ifc_9 @q_tsz_25)))) (And.intro (And.intro (And.intro (And.intro @q_slz_25 @q_ifc_25) (And.intro @q_tsz_28 @q_slz_28)) (And.intro (And.intro @q_str_28 @q_arz_28) (And.intro @q_ifc_28 @q_tsz_42))) (And.intro (And.intro (And.intro @q_slz_42 @q_ifc_42) (And.intro @q_tsz_68 @q_slz_68)) (And.intro (And.intro @q_ifc_68 @q_tsz_70) (And.intro @q_slz_70 (And.intro @q_ifc_70 @q_zcs_42))))))
def sMk4W_36 := (And.intro (And.intro (And.intro (And.intro @q_fld_70_2 (And.intro @q_fld_70_1 @q_slz_0)) (And.intro @q_tsz_3 (And.intro @q_slz_3 @q_ifc_3))) (And.intro (And.intro @q_tsz_4 (And.intro @q_slz_4 @q_ifc_4)) (And.intro (And.intro @q_isb_4 @q_tsz_9) (And.intro @q_slz_9 @q_str_9)))) (And.intro (And.intro (And.intro @q_arz_9 (And.intro @q_ifc_9 @q_tsz_28)) (And.intro @q_slz_28 (And.intro @q_str_28 @q_arz_28))) (And.intro (And.intro @q_ifc_28 (And.intro @q_tsz_68 @q_slz_68)) (And.intro (And.intro @q_ifc_68 @q_tsz_70) (And.intro @q_slz_70 @q_ifc_70)))))
theorem expr_c (σ0 : St) (d m : Nat) (L : List Int) (V A : List ByteArray) (Sx : List Sh) (nl : Nat) (il : Int) : ∀ k, k < 1000 → ExprC σ0 d m L V A Sx nl il k
  | 0, _ => expr_0 σ0 d m L V A Sx nl il
  | k + 1, h => expr_s σ0 d m L V A Sx nl il k (by omega) (expr_c σ0 d m L V A Sx nl il k (by omega))
set_option maxHeartbeats 8000000 in
set_option maxRecDepth 100000 in
theorem condition_c {σ0 σ : St} {d m : Nat} {L : List Int} {V A : List ByteArray} {Sx : List Sh} {nl : Nat} {il : Int} (h : MkR σ0 d m L V A Sx nl il σ) (K : Res → St → Prop)
    (hK : ∀ e σ', GE 2 e → Took d L σ σ' → K (.ret (pvE e)) σ') : PCalls Try.prog 34 [vp m 0] σ K := by
  obtain ⟨kv, ka, ks, lp, held, labels, stmts, c0, l0, b0⟩ := h.own
  unfold mkCells at c0
  simp only [vi, vs, vp] at c0
  have hV := h.hV
  refine PCalls.forgetR ?_
  refine PCalls.of_body (tOk Try.prog) (by kernel_rfl) Try.func34 rfl (by kernel_rfl) [] [(3, 30, [(0, []), (6, []), (7, []), (13, []), (1, []), (8, []), (14, []), (2, []), (9, []), (15, []), (3, []), (10, []), (16, []), (4, [10, 16]), (5, []), (11, [16]), (12, [16]), (17, []), (18, []), (19, []), (20, [])])] (by kernel_rfl) (n := 31) (by kernel_rfl) (by kernel_rfl) (rs := [.cell 2 42]) (by kernel_rfl) ?_
  simp (config := { maxSteps := 2000000 }) (disch := omega) only [pvE_q, pvS_q, vi, vs, vb', vp, wrap_ok, cast_0, notL_E, notL_S, pvB, sMk4W_34, reduceIte, Nat.reduceEqDiff, Nat.reduceAdd, Nat.reduceSub, Nat.reduceMul, Nat.reduceLT, Nat.reduceLeDiff, Nat.reduceBEq, reduceCtorEq, Int.reduceAdd, Int.reduceSub, Int.reduceMul, Int.reduceLT, Int.reduceLE, Int.reduceEq, Int.reduceToNat, Int.reduceNeg, Nat.reduceBNe, Int.reduceBEq, Int.reduceBNe, forall_const, eq_self, decide_true, decide_false, w_loop, c0]
  refine next_c d L 4 σ h.deck h.hL (by omega) _ fun r σ1 r0 r1 t1 => ?_
  have h1 := h.took t1
  have c1 := t1.frame.obj m _ h.md c0
  cases r3 : (r == 3)
  · simp (config := { maxSteps := 2000000 }) (disch := omega) only [pvE_q, pvS_q, vi, vs, vb', vp, wrap_ok, cast_0, notL_E, notL_S, pvB, sMk4W_34, reduceIte, Nat.reduceEqDiff, Nat.reduceAdd, Nat.reduceSub, Nat.reduceMul, Nat.reduceLT, Nat.reduceLeDiff, Nat.reduceBEq, reduceCtorEq, Int.reduceAdd, Int.reduceSub, Int.reduceMul, Int.reduceLT, Int.reduceLE, Int.reduceEq, Int.reduceToNat, Int.reduceNeg, Nat.reduceBNe, Int.reduceBEq, Int.reduceBNe, forall_const, eq_self, decide_true, decide_false, w_loop, r3, c1]
    refine next_c d L 4 σ1 h1.deck h.hL (by omega) _ fun op σ2 op0 op1 t2 => ?_
    have h2 := h1.took t2
    have c2 := t2.frame.obj m _ h.md c1
    simp (config := { maxSteps := 2000000 }) (disch := omega) only [pvE_q, pvS_q, vi, vs, vb', vp, wrap_ok, cast_0, notL_E, notL_S, pvB, sMk4W_34, reduceIte, Nat.reduceEqDiff, Nat.reduceAdd, Nat.reduceSub, Nat.reduceMul, Nat.reduceLT, Nat.reduceLeDiff, Nat.reduceBEq, reduceCtorEq, Int.reduceAdd, Int.reduceSub, Int.reduceMul, Int.reduceLT, Int.reduceLE, Int.reduceEq, Int.reduceToNat, Int.reduceNeg, Nat.reduceBNe, Int.reduceBEq, Int.reduceBNe, forall_const, eq_self, decide_true, decide_false, w_loop, c2]
    refine name_c h2 kv V h.hV.1 (by omega) _ fun nm σ3 _ t3 => ?_
    have h3 := h2.took t3
    have c3 := t3.frame.obj m _ h.md c2
    simp (config := { maxSteps := 2000000 }) (disch := omega) only [pvE_q, pvS_q, vi, vs, vb', vp, wrap_ok, cast_0, notL_E, notL_S, pvB, sMk4W_34, reduceIte, Nat.reduceEqDiff, Nat.reduceAdd, Nat.reduceSub, Nat.reduceMul, Nat.reduceLT, Nat.reduceLeDiff, Nat.reduceBEq, reduceCtorEq, Int.reduceAdd, Int.reduceSub, Int.reduceMul, Int.reduceLT, Int.reduceLE, Int.reduceEq, Int.reduceToNat, Int.reduceNeg, Nat.reduceBNe, Int.reduceBEq, Int.reduceBNe, forall_const, eq_self, decide_true, decide_false, w_loop, c3]
    refine nameE_c nm σ3 _ ?_
    simp (config := { maxSteps := 2000000 }) (disch := omega) only [pvE_q, pvS_q, vi, vs, vb', vp, wrap_ok, cast_0, notL_E, notL_S, pvB, sMk4W_34, reduceIte, Nat.reduceEqDiff, Nat.reduceAdd, Nat.reduceSub, Nat.reduceMul, Nat.reduceLT, Nat.reduceLeDiff, Nat.reduceBEq, reduceCtorEq, Int.reduceAdd, Int.reduceSub, Int.reduceMul, Int.reduceLT, Int.reduceLE, Int.reduceEq, Int.reduceToNat, Int.reduceNeg, Nat.reduceBNe, Int.reduceBEq, Int.reduceBNe, forall_const, eq_self, decide_true, decide_false, w_loop, c3]
    refine next_c d L 8 σ3 h3.deck h.hL (by omega) _ fun nn σ4 nn0 nn1 t4 => ?_
    have h4 := h3.took t4
    simp (config := { maxSteps := 2000000 }) (disch := omega) only [pvE_q, pvS_q, vi, vs, vb', vp, wrap_ok, cast_0, notL_E, notL_S, pvB, sMk4W_34, reduceIte, Nat.reduceEqDiff, Nat.reduceAdd, Nat.reduceSub, Nat.reduceMul, Nat.reduceLT, Nat.reduceLeDiff, Nat.reduceBEq, reduceCtorEq, Int.reduceAdd, Int.reduceSub, Int.reduceMul, Int.reduceLT, Int.reduceLE, Int.reduceEq, Int.reduceToNat, Int.reduceNeg, Nat.reduceBNe, Int.reduceBEq, Int.reduceBNe, forall_const, eq_self, decide_true, decide_false, w_loop]
    refine num_c nn σ4 _ ?_
    simp (config := { maxSteps := 2000000 }) (disch := omega) only [pvE_q, pvS_q, vi, vs, vb', vp, wrap_ok, cast_0, notL_E, notL_S, pvB, sMk4W_34, reduceIte, Nat.reduceEqDiff, Nat.reduceAdd, Nat.reduceSub, Nat.reduceMul, Nat.reduceLT, Nat.reduceLeDiff, Nat.reduceBEq, reduceCtorEq, Int.reduceAdd, Int.reduceSub, Int.reduceMul, Int.reduceLT, Int.reduceLE, Int.reduceEq, Int.reduceToNat, Int.reduceNeg, Nat.reduceBNe, Int.reduceBEq, Int.reduceBNe, forall_const, eq_self, decide_true, decide_false, w_loop]
    have bb := fun K hK => bin_c (11 + op) (.mk 2 0 nm 0 []) (.mk 1 nn ⟨#[]⟩ 0 []) σ4 K hK
    simp only [pvE_q, vi, vs] at bb
    refine bb _ ?_
    simp (config := { maxSteps := 2000000 }) (disch := omega) only [pvE_q, pvS_q, vi, vs, vb', vp, wrap_ok, cast_0, notL_E, notL_S, pvB, sMk4W_34, reduceIte, Nat.reduceEqDiff, Nat.reduceAdd, Nat.reduceSub, Nat.reduceMul, Nat.reduceLT, Nat.reduceLeDiff, Nat.reduceBEq, reduceCtorEq, Int.reduceAdd, Int.reduceSub, Int.reduceMul, Int.reduceLT, Int.reduceLE, Int.reduceEq, Int.reduceToNat, Int.reduceNeg, Nat.reduceBNe, Int.reduceBEq, Int.reduceBNe, forall_const, eq_self, decide_true, decide_false, w_loop]
    refine ⟨_, .refl _, ?_⟩
    have := hK _ σ4 ((GE.leaf 1 2 0 nm 0).two (GE.leaf 1 1 nn ⟨#[]⟩ 0) 4 0 ⟨#[]⟩ (11 + op)) (t1.trans (t2.trans (t3.trans t4)))
    simpa only [Res.forget, forget, forgets, pvE, pvEs, vi, vs, forgets_Es, forget_E] using this
  · simp (config := { maxSteps := 2000000 }) (disch := omega) only [pvE_q, pvS_q, vi, vs, vb', vp, wrap_ok, cast_0, notL_E, notL_S, pvB, sMk4W_34, reduceIte, Nat.reduceEqDiff, Nat.reduceAdd, Nat.reduceSub, Nat.reduceMul, Nat.reduceLT, Nat.reduceLeDiff, Nat.reduceBEq, reduceCtorEq, Int.reduceAdd, Int.reduceSub, Int.reduceMul, Int.reduceLT, Int.reduceLE, Int.reduceEq, Int.reduceToNat, Int.reduceNeg, Nat.reduceBNe, Int.reduceBEq, Int.reduceBNe, forall_const, eq_self, decide_true, decide_false, w_loop, r3, c1]
    refine expr_c σ0 d m L V A Sx nl il 2 (by omega) σ1 _ h1 fun e σ2 ge t2 => ?_
    obtain ⟨ek, en, es, eo, el⟩ := e
    simp (config := { maxSteps := 2000000 }) (disch := omega) only [pvE_q, pvS_q, vi, vs, vb', vp, wrap_ok, cast_0, notL_E, notL_S, pvB, sMk4W_34, reduceIte, Nat.reduceEqDiff, Nat.reduceAdd, Nat.reduceSub, Nat.reduceMul, Nat.reduceLT, Nat.reduceLeDiff, Nat.reduceBEq, reduceCtorEq, Int.reduceAdd, Int.reduceSub, Int.reduceMul, Int.reduceLT, Int.reduceLE, Int.reduceEq, Int.reduceToNat, Int.reduceNeg, Nat.reduceBNe, Int.reduceBEq, Int.reduceBNe, forall_const, eq_self, decide_true, decide_false, w_loop]
    refine ⟨_, .refl _, ?_⟩
    have := hK _ σ2 ge (t1.trans t2)
    simpa only [Res.forget, forget, forgets, pvE, pvEs, vi, vs, forgets_Es, forget_E] using this
set_option maxHeartbeats 8000000 in
set_option maxRecDepth 100000 in
theorem target_c {σ0 σ : St} {d m : Nat} {L : List Int} {V A : List ByteArray} {Sx : List Sh} {nl : Nat} {il : Int} (h : MkR σ0 d m L V A Sx nl il σ) (K : Res → St → Prop)
    (hK : ∀ (s : ByteArray) σ', Took d L σ σ' → K (.ret (vs s)) σ') : PCalls Try.prog 36 [vp m 0] σ K := by
  obtain ⟨kv, ka, ks, lp, held, labels, stmts, c0, l0, b0⟩ := h.own
  unfold mkCells at c0
  simp only [vi, vs, vp] at c0
  have hV := h.hV
  refine PCalls.forgetR ?_
  refine PCalls.of_body (tOk Try.prog) (by kernel_rfl) Try.func36 rfl (by kernel_rfl) [] [(6, 40, [(0, []), (4, []), (1, []), (5, []), (2, []), (6, []), (3, []), (7, []), (8, []), (9, []), (10, []), (11, []), (12, [])])] (by kernel_rfl) (n := 42) (by kernel_rfl) (by kernel_rfl) (rs := [.tmp 2]) (by kernel_rfl) ?_
  simp (config := { maxSteps := 2000000 }) (disch := omega) only [pvE_q, pvS_q, vi, vs, vb', vp, wrap_ok, cast_0, notL_E, notL_S, pvB, sMk4W_36, reduceIte, Nat.reduceEqDiff, Nat.reduceAdd, Nat.reduceSub, Nat.reduceMul, Nat.reduceLT, Nat.reduceLeDiff, Nat.reduceBEq, reduceCtorEq, Int.reduceAdd, Int.reduceSub, Int.reduceMul, Int.reduceLT, Int.reduceLE, Int.reduceEq, Int.reduceToNat, Int.reduceNeg, Nat.reduceBNe, Int.reduceBEq, Int.reduceBNe, forall_const, eq_self, decide_true, decide_false, w_loop, c0]
  refine name_c h kv V h.hV.1 (by omega) _ fun nm σ1 _ t1 => ?_
  have h1 := h.took t1
  have c1 := t1.frame.obj m _ h.md c0
  have l1 := l0.frame (t1.frame.mono fun x q => .inl q)
  rcases l1 with ⟨rfl, rfl⟩ | ⟨b, c, ds, Lp, rfl, x1, x2, x3, x4, x5, x6, x7, x8, x9⟩
  · simp (config := { maxSteps := 2000000 }) (disch := omega) only [pvE_q, pvS_q, vi, vs, vb', vp, wrap_ok, cast_0, notL_E, notL_S, pvB, sMk4W_36, reduceIte, Nat.reduceEqDiff, Nat.reduceAdd, Nat.reduceSub, Nat.reduceMul, Nat.reduceLT, Nat.reduceLeDiff, Nat.reduceBEq, reduceCtorEq, Int.reduceAdd, Int.reduceSub, Int.reduceMul, Int.reduceLT, Int.reduceLE, Int.reduceEq, Int.reduceToNat, Int.reduceNeg, Nat.reduceBNe, Int.reduceBEq, Int.reduceBNe, forall_const, eq_self, decide_true, decide_false, w_loop, c1]
    refine loop_rule (fun s => s = ⟨42, [(0, vp m 0), (3, vs nm), (4, vi 0)], [], σ1⟩) (fun s => 0) ?_ ?_
    · refine ⟨_, ?_, rfl⟩
      exact less_env rfl (less_env rfl (less_env rfl (less_nil (.refl _))))
    · rintro s rfl R hR
      simp (config := { maxSteps := 2000000 }) (disch := omega) only [pvE_q, pvS_q, vi, vs, vb', vp, wrap_ok, cast_0, notL_E, notL_S, pvB, sMk4W_36, reduceIte, Nat.reduceEqDiff, Nat.reduceAdd, Nat.reduceSub, Nat.reduceMul, Nat.reduceLT, Nat.reduceLeDiff, Nat.reduceBEq, reduceCtorEq, Int.reduceAdd, Int.reduceSub, Int.reduceMul, Int.reduceLT, Int.reduceLE, Int.reduceEq, Int.reduceToNat, Int.reduceNeg, Nat.reduceBNe, Int.reduceBEq, Int.reduceBNe, forall_const, eq_self, decide_true, decide_false, w_loop, c1]
      refine ⟨σ1, .refl _, ?_⟩
      have := hK nm σ1 t1
      simpa only [Res.forget, forget, forgets, pvE, pvEs, vi, vs, forgets_Es, forget_E] using this
  · simp (config := { maxSteps := 2000000 }) (disch := omega) only [pvE_q, pvS_q, vi, vs, vb', vp, wrap_ok, cast_0, notL_E, notL_S, pvB, sMk4W_36, reduceIte, Nat.reduceEqDiff, Nat.reduceAdd, Nat.reduceSub, Nat.reduceMul, Nat.reduceLT, Nat.reduceLeDiff, Nat.reduceBEq, reduceCtorEq, Int.reduceAdd, Int.reduceSub, Int.reduceMul, Int.reduceLT, Int.reduceLE, Int.reduceEq, Int.reduceToNat, Int.reduceNeg, Nat.reduceBNe, Int.reduceBEq, Int.reduceBNe, forall_const, eq_self, decide_true, decide_false, w_loop, c1]
    refine loop_rule (fun s => ∃ i : Nat, i ≤ nl ∧ s = ⟨42, [(0, vp m 0), (3, vs nm), (4, vi i)], [], σ1⟩) (fun s => (nl - ival (get s.env 4)).toNat) ?_ ?_
    · refine ⟨_, ?_, 0, Nat.zero_le _, rfl⟩
      exact less_env rfl (less_env rfl (less_env rfl (less_nil (.refl _))))
    · rintro s ⟨i, hi, rfl⟩ R hR
      have hl := h.hl
      by_cases hlt : (i : Int) < nl
      · have hlt' : i < nl := by omega
        have e0 : (0 : Int) ≤ i := by omega
        have eg : ds[i]? = some (vs (Lp[i]'(by omega))) := by
          have : (ds.take nl)[i]? = (Lp.map vs)[i]? := by rw [x4]
          rw [List.getElem?_take, if_pos hlt', List.getElem?_map, List.getElem?_eq_getElem (l := Lp) (by omega)] at this
          exact this
        obtain ⟨y, eg⟩ : ∃ y, ds[i]? = some (vs y) := ⟨_, eg⟩
        simp only [vs] at eg
        have hm : (nl - ((i + 1 : Nat) : Int)).toNat < (nl - (i : Int)).toNat := by omega
        have ev : (V.map vs)[V.length - 1]? = some (vs (V[V.length - 1]'(by omega))) := by rw [List.getElem?_map, List.getElem?_eq_getElem (by omega)]; rfl
        simp only [vs] at ev
        have ev0 : (0 : Int) ≤ V.length - 1 := by omega
        have ev1 : ((V.length : Int) - 1).toNat = V.length - 1 := by omega
        cases hy : (y.toList == nm.toList)
        · simp (config := { maxSteps := 2000000 }) (disch := omega) only [pvE_q, pvS_q, vi, vs, vb', vp, wrap_ok, cast_0, notL_E, notL_S, pvB, sMk4W_36, reduceIte, Nat.reduceEqDiff, Nat.reduceAdd, Nat.reduceSub, Nat.reduceMul, Nat.reduceLT, Nat.reduceLeDiff, Nat.reduceBEq, reduceCtorEq, Int.reduceAdd, Int.reduceSub, Int.reduceMul, Int.reduceLT, Int.reduceLE, Int.reduceEq, Int.reduceToNat, Int.reduceNeg, Nat.reduceBNe, Int.reduceBEq, Int.reduceBNe, forall_const, eq_self, decide_true, decide_false, w_loop, c1, x1, hlt, e0, eg, Int.toNat_natCast, Nat.mul_one, Nat.zero_add, hy]
          refine hR _ _ ?_ ⟨i + 1, by omega, rfl⟩ hm
          exact less_env rfl (less_env rfl (less_env rfl (less_nil (.refl _))))
        · simp (config := { maxSteps := 2000000 }) (disch := omega) only [pvE_q, pvS_q, vi, vs, vb', vp, wrap_ok, cast_0, notL_E, notL_S, pvB, sMk4W_36, reduceIte, Nat.reduceEqDiff, Nat.reduceAdd, Nat.reduceSub, Nat.reduceMul, Nat.reduceLT, Nat.reduceLeDiff, Nat.reduceBEq, reduceCtorEq, Int.reduceAdd, Int.reduceSub, Int.reduceMul, Int.reduceLT, Int.reduceLE, Int.reduceEq, Int.reduceToNat, Int.reduceNeg, Nat.reduceBNe, Int.reduceBEq, Int.reduceBNe, forall_const, eq_self, decide_true, decide_false, w_loop, c1, x1, hlt, e0, eg, Int.toNat_natCast, Nat.mul_one, Nat.zero_add, hy, ev, ev0, ev1]
          refine ⟨σ1, .refl _, ?_⟩
          have := hK (V[V.length - 1]'(by omega)) σ1 t1
          simpa only [Res.forget, forget, forgets, pvE, pvEs, vi, vs, forgets_Es, forget_E] using this
      · simp (config := { maxSteps := 2000000 }) (disch := omega) only [pvE_q, pvS_q, vi, vs, vb', vp, wrap_ok, cast_0, notL_E, notL_S, pvB, sMk4W_36, reduceIte, Nat.reduceEqDiff, Nat.reduceAdd, Nat.reduceSub, Nat.reduceMul, Nat.reduceLT, Nat.reduceLeDiff, Nat.reduceBEq, reduceCtorEq, Int.reduceAdd, Int.reduceSub, Int.reduceMul, Int.reduceLT, Int.reduceLE, Int.reduceEq, Int.reduceToNat, Int.reduceNeg, Nat.reduceBNe, Int.reduceBEq, Int.reduceBNe, forall_const, eq_self, decide_true, decide_false, w_loop, c1, x1, hlt]
        refine ⟨σ1, .refl _, ?_⟩
        have := hK nm σ1 t1
        simpa only [Res.forget, forget, forgets, pvE, pvEs, vi, vs, forgets_Es, forget_E] using this
end Go.Pv.W
-- Mk5W
namespace Go.Pv.W
open Go Go.RowKit Go.Proofs Go.Pv
def sMk5W_23 := (And.intro (And.intro (And.intro (And.intro @q_fld_70_7 (And.intro @q_fld_70_0 @q_slz_0)) (And.intro @q_tsz_3 (And.intro @q_slz_3 @q_ifc_3))) (And.intro (And.intro @q_tsz_4 (And.intro @q_slz_4 @q_ifc_4)) (And.intro @q_isb_4 (And.intro @q_tsz_25 @q_slz_25)))) (And.intro (And.intro (And.intro @q_ifc_25 (And.intro @q_tsz_32 @q_slz_32)) (And.intro @q_str_32 (And.intro @q_arz_32 @q_ifc_32))) (And.intro (And.intro @q_tsz_68 (And.intro @q_slz_68 @q_ifc_68)) (And.intro @q_tsz_70 (And.intro @q_slz_70 @q_ifc_70)))))
/-- A list that was made behind a state, while other things went on. -/
structure MineO (σ σ1 : St) (n sz : Nat) (k : Cap) : Prop where
  le : OwnLe σ σ1
  owns : Owns σ1 n sz k
  blk : ∀ b, capBlk k = some b → σ.own b = none
theorem Owns.le {σ σ' : St} {n sz : Nat} {k : Cap} (h : Owns σ n sz k) (l : OwnLe σ σ') : Owns σ' n sz k := by
  cases k with
  | any => exact h
  | full => trivial
  | known a c =>
    cases a with
    | none => trivial
    | some ad => exact l.own _ _ h
theorem MineO.go {σ σ1 σ2 : St} {n sz : Nat} {k : Cap} (h : MineO σ σ1 n sz k) (l : OwnLe σ1 σ2) : MineO σ σ2 n sz k := ⟨h.le.trans l, Owns.le h.owns l, h.blk⟩
theorem MineO.app {σ σ1 σ2 : St} {n m sz : Nat} {k k' : Cap} (h : MineO σ σ1 n sz k) (a : Appended σ1 k m sz k' σ2) : MineO σ σ2 m sz k' := by
  have hb : ∀ b, capBlk k' = some b → σ.own b = none := by
    intro b hb
    rcases a.fresh with q | ⟨b', q, q1, q2⟩
    · exact h.blk b (q ▸ hb)
    · have e0 : b' = b := by rw [q] at hb; injection hb
      subst e0
      cases e : σ.own b' with
      | none => rfl
      | some x => rw [h.le.own b' x e] at q1; cases q1
  refine ⟨⟨fun b x e => ?_⟩, a.owns, hb⟩
  rw [a.frame b fun q => by rw [hb b q] at e; cases e]
  exact h.le.own b x e
theorem MkR.app {σ0 σ σ1 σ2 : St} {d m : Nat} {L : List Int} {V A : List ByteArray} {Sx : List Sh} {nl : Nat} {il : Int} (h : MkR σ0 d m L V A Sx nl il σ1) (h0 : ∀ b n, σ0.own b = some n → σ.own b = some n) {n mm sz : Nat} {k k' : Cap} (hm : MineO σ σ1 n sz k) (a : Appended σ1 k mm sz k' σ2) : MkR σ0 d m L V A Sx nl il σ2 := by
  have hm2 := hm.app a
  obtain ⟨kv, ka, ks, lp, held, labels, stmts, h1, h2, h3⟩ := h.own
  refine ⟨⟨fun b o q e => by rw [a.obj]; exact h.frame.obj b o q e, fun b x e => hm2.le.own b x (h0 b x e), by rw [a.gl]; exact h.frame.gl⟩, h.m0, h.md, by rw [a.obj]; exact h.deck, h.hL, h.hV, h.hA, h.hS, h.hl, h.hi, kv, ka, ks, lp, held, labels, stmts, by rw [a.obj]; exact h1, ?_, h3⟩
  unfold Loops at h2 ⊢
  rw [a.obj]
  exact h2
def Zb : Nat → Int
  | 0 => 20
  | k + 1 => 20 + 4 * Zb k
theorem Zb_pos : ∀ k, 20 ≤ Zb k
  | 0 => by simp [Zb]
  | k + 1 => by have := Zb_pos k; simp only [Zb]; omega
/-- Statements that are made at a depth. -/
structure GS (D : Nat) (n : Nat) (z : Int) (l : List AS) : Prop where
  len : l.length ≤ n
  d : dSs l ≤ D + 1
  x : xSs l ≤ 4
  z : zSs l ≤ z
theorem dSs_append (a b : List AS) : dSs (a ++ b) = max (dSs a) (dSs b) := by
  induction a with
  | nil => simp [dSs]
  | cons x a ih => simp only [List.cons_append, dSs, ih]; omega
theorem xSs_append (a b : List AS) : xSs (a ++ b) = max (xSs a) (xSs b) := by
  induction a with
  | nil => simp [xSs]
  | cons x a ih => simp only [List.cons_append, xSs, ih]; omega
theorem pvSs_append (a b : List AS) : pvSs (a ++ b) = pvSs a ++ pvSs b := by simp [pvSs_map]
theorem GS.append {D n1 n2 : Nat} {z1 z2 : Int} {a b : List AS} (h : GS D n1 z1 a) (g : GS D n2 z2 b) : GS D (n1 + n2) (z1 + z2) (a ++ b) := by
  refine ⟨?_, ?_, ?_, ?_⟩
  · have := h.len; have := g.len; simp; omega
  · have := h.d; have := g.d; rw [dSs_append]; omega
  · have := h.x; have := g.x; rw [xSs_append]; omega
  · have := h.z; have := g.z; rw [zSs_append]; omega
def StmtC (σ0 : St) (d m : Nat) (L : List Int) (V A : List ByteArray) (Sx : List Sh) (D : Nat) : Prop :=
  ∀ (nl : Nat) (il : Int) (σ : St) (K : Res → St → Prop), MkR σ0 d m L V A Sx nl il σ → nl + D ≤ 40 → (∀ l σ', GS D 2 (Zb D) l → MkR σ0 d m L V A Sx nl il σ' → OwnLe σ σ' → K (.ret (.list .any 8 (pvSs l))) σ') → PCalls Try.prog 27 [vp m 0, vi D] σ K
def BlockC (σ0 : St) (d m : Nat) (L : List Int) (V A : List ByteArray) (Sx : List Sh) (D : Nat) : Prop :=
  ∀ (nl : Nat) (il : Int) (most : Nat) (σ : St) (K : Res → St → Prop), MkR σ0 d m L V A Sx nl il σ → nl + D ≤ 40 → 1 ≤ most → most ≤ 5 → (∀ l k σ', GS D (2 * most) (most * Zb D) l → MkR σ0 d m L V A Sx nl il σ' → MineO σ σ' l.length 8 k → K (.ret (.list k 8 (pvSs l))) σ') → PCalls Try.prog 23 [vp m 0, vi D, vi most] σ K
set_option maxHeartbeats 8000000 in
set_option maxRecDepth 100000 in
theorem block_of_stmt (σ0 : St) (d m : Nat) (L : List Int) (V A : List ByteArray) (Sx : List Sh) (D : Nat) (hD : D ≤ 10) (ih : StmtC σ0 d m L V A Sx D) : BlockC σ0 d m L V A Sx D := by
  intro nl il most σ K h hnl hm1 hm2 hK
  obtain ⟨kv, ka, ks, lp, held, labels, stmts, c0, l0, b0⟩ := h.own
  unfold mkCells at c0
  simp only [vi, vs, vp] at c0
  have hz := Zb_pos D
  refine PCalls.of_body (tOk Try.prog) (by kernel_rfl) Try.func23 rfl (by kernel_rfl) [] [] (by kernel_rfl) (n := 40) (by kernel_rfl) (by kernel_rfl) (rs := [.tmp 6]) (by kernel_rfl) ?_
  simp (config := { maxSteps := 2000000 }) (disch := omega) only [pvE_q, pvS_q, vi, vs, vb', vp, wrap_ok, cast_0, notL_E, notL_S, pvSs_length, List.length_map, pvB, sMk5W_23, reduceIte, Nat.reduceEqDiff, Nat.reduceAdd, Nat.reduceSub, Nat.reduceMul, Nat.reduceLT, Nat.reduceLeDiff, Nat.reduceBEq, reduceCtorEq, Int.reduceAdd, Int.reduceSub, Int.reduceMul, Int.reduceLT, Int.reduceLE, Int.reduceEq, Int.reduceToNat, Int.reduceNeg, Nat.reduceBNe, Int.reduceBEq, Int.reduceBNe, forall_const, eq_self, decide_true, decide_false, w_loop, c0]
  refine next_c d L most σ h.deck h.hL (by omega) _ fun r σ1 r0 r1 t1 => ?_
  have h1 := h.took t1
  simp (config := { maxSteps := 2000000 }) (disch := omega) only [pvE_q, pvS_q, vi, vs, vb', vp, wrap_ok, cast_0, notL_E, notL_S, pvSs_length, List.length_map, pvB, sMk5W_23, reduceIte, Nat.reduceEqDiff, Nat.reduceAdd, Nat.reduceSub, Nat.reduceMul, Nat.reduceLT, Nat.reduceLeDiff, Nat.reduceBEq, reduceCtorEq, Int.reduceAdd, Int.reduceSub, Int.reduceMul, Int.reduceLT, Int.reduceLE, Int.reduceEq, Int.reduceToNat, Int.reduceNeg, Nat.reduceBNe, Int.reduceBEq, Int.reduceBNe, forall_const, eq_self, decide_true, decide_false, w_loop]
  refine loop_rule (fun s => ∃ (n : Nat) (l : List AS) (k : Cap) (σ2 : St), n ≤ most ∧ GS D (2 * (most - n)) (((most - n : Nat) : Int) * Zb D) l ∧ MkR σ0 d m L V A Sx nl il σ2 ∧ MineO σ σ2 l.length 8 k ∧ s = ⟨40, [(0, vp m 0), (1, vi D), (7, .list k 8 (pvSs l)), (8, vi n)], [], σ2⟩) (fun s => (ival (get s.env 8)).toNat) ?_ ?_
  · refine ⟨_, ?_, (1 + r).toNat, [], .full, σ1, by omega, ⟨Nat.zero_le _, Nat.zero_le _, Nat.zero_le _, ?_⟩, h1, ⟨t1.own, trivial, fun b q => by cases q⟩, rfl⟩
    · exact less_env rfl (less_env rfl (less_env rfl (less_env (by show vi _ = vi _; rw [Int.toNat_of_nonneg (by omega)]) (less_nil (.refl _)))))
    · exact Int.mul_nonneg (by omega) (by omega)
  · rintro s ⟨n, l, k, σ2, hn, hg, h2, hmi, rfl⟩ R hR
    obtain ⟨kv, ka, ks, lp, held, labels, stmts, c2, l2, b2⟩ := h2.own
    have c2p := c2
    unfold mkCells at c2p
    simp only [vi, vs, vp] at c2p
    have done : ∀ P : Prop, (K (.ret (.list k 8 (pvSs l))) σ2 → P) → P := fun P hP => hP (hK l k σ2 ⟨by have := hg.len; omega, hg.d, hg.x, Int.le_trans hg.z (Int.mul_le_mul_of_nonneg_right (by omega) (by omega))⟩ h2 hmi)
    by_cases hn0 : (n : Int) > 0
    · by_cases hs0 : stmts > 0
      · have hsub : σ2.set m (.cells (mkCells d kv V lp ka A ks Sx held labels (stmts - 1) il)) = σ2.set m (.cells (mkCells d kv V lp ka A ks Sx held labels (stmts - 1) il)) := rfl
        have lp' : Loops σ0 (σ2.set m (.cells (mkCells d kv V lp ka A ks Sx held labels (stmts - 1) il))) d m nl lp := l2.frame (Frame.set _ _ (.inr rfl))
        have h3 := h2.write h2.hi h2.hl lp' ⟨b2.1, b2.2.1⟩ (by omega : 0 ≤ stmts - 1 ∧ stmts - 1 ≤ 1000)
        have o3 : OwnLe σ2 (σ2.set m (.cells (mkCells d kv V lp ka A ks Sx held labels (stmts - 1) il))) := own_set _ _ _
        simp (config := { maxSteps := 2000000 }) (disch := omega) only [pvE_q, pvS_q, vi, vs, vb', vp, wrap_ok, cast_0, notL_E, notL_S, pvSs_length, List.length_map, pvB, sMk5W_23, reduceIte, Nat.reduceEqDiff, Nat.reduceAdd, Nat.reduceSub, Nat.reduceMul, Nat.reduceLT, Nat.reduceLeDiff, Nat.reduceBEq, reduceCtorEq, Int.reduceAdd, Int.reduceSub, Int.reduceMul, Int.reduceLT, Int.reduceLE, Int.reduceEq, Int.reduceToNat, Int.reduceNeg, Nat.reduceBNe, Int.reduceBEq, Int.reduceBNe, forall_const, eq_self, decide_true, decide_false, w_loop, hn0, hs0, c2p]
        unfold mkCells at h3 o3
        simp only [vi, vs, vp] at h3 o3
        refine ih nl il _ _ h3 hnl fun l2 σ3 g2 h4 o4 => ?_
        have m4 := hmi.go (o3.trans o4)
        have q1 := hg.len
        have q2 := g2.len
        simp (config := { maxSteps := 2000000 }) (disch := omega) only [pvE_q, pvS_q, vi, vs, vb', vp, wrap_ok, cast_0, notL_E, notL_S, pvSs_length, List.length_map, pvB, sMk5W_23, reduceIte, Nat.reduceEqDiff, Nat.reduceAdd, Nat.reduceSub, Nat.reduceMul, Nat.reduceLT, Nat.reduceLeDiff, Nat.reduceBEq, reduceCtorEq, Int.reduceAdd, Int.reduceSub, Int.reduceMul, Int.reduceLT, Int.reduceLE, Int.reduceEq, Int.reduceToNat, Int.reduceNeg, Nat.reduceBNe, Int.reduceBEq, Int.reduceBNe, forall_const, eq_self, decide_true, decide_false, w_loop]
        refine ⟨by omega, by omega, m4.owns, fun k5 σ5 a5 => ?_⟩
        have m5 := m4.app a5
        have h5 := h4.app h.frame.own m4 a5
        refine hR _ _ ?_ ⟨n - 1, l ++ l2, k5, σ5, by omega, ?_, h5, by simpa using m5, rfl⟩ ?_
        · exact less_env rfl (less_env rfl (less_env (by show PV.list _ _ _ = PV.list _ _ _; rw [pvSs_append]) (less_env (by show vi _ = vi _; congr 1; omega) (less_nil (.refl _)))))
        · have := hg.append g2
          refine ⟨by have := this.len; omega, this.d, this.x, Int.le_trans this.z ?_⟩
          have e : ((most - (n - 1) : Nat) : Int) = ((most - n : Nat) : Int) + 1 := by omega
          rw [e, Int.add_mul]
          omega
        · show (((n - 1 : Nat) : Int)).toNat < ((n : Int)).toNat
          omega
      · simp (config := { maxSteps := 2000000 }) (disch := omega) only [pvE_q, pvS_q, vi, vs, vb', vp, wrap_ok, cast_0, notL_E, notL_S, pvSs_length, List.length_map, pvB, sMk5W_23, reduceIte, Nat.reduceEqDiff, Nat.reduceAdd, Nat.reduceSub, Nat.reduceMul, Nat.reduceLT, Nat.reduceLeDiff, Nat.reduceBEq, reduceCtorEq, Int.reduceAdd, Int.reduceSub, Int.reduceMul, Int.reduceLT, Int.reduceLE, Int.reduceEq, Int.reduceToNat, Int.reduceNeg, Nat.reduceBNe, Int.reduceBEq, Int.reduceBNe, forall_const, eq_self, decide_true, decide_false, w_loop, hn0, hs0, c2p]
        exact done _ fun q => ⟨σ2, .refl _, q⟩
    · simp (config := { maxSteps := 2000000 }) (disch := omega) only [pvE_q, pvS_q, vi, vs, vb', vp, wrap_ok, cast_0, notL_E, notL_S, pvSs_length, List.length_map, pvB, sMk5W_23, reduceIte, Nat.reduceEqDiff, Nat.reduceAdd, Nat.reduceSub, Nat.reduceMul, Nat.reduceLT, Nat.reduceLeDiff, Nat.reduceBEq, reduceCtorEq, Int.reduceAdd, Int.reduceSub, Int.reduceMul, Int.reduceLT, Int.reduceLE, Int.reduceEq, Int.reduceToNat, Int.reduceNeg, Nat.reduceBNe, Int.reduceBEq, Int.reduceBNe, forall_const, eq_self, decide_true, decide_false, w_loop, hn0]
      exact done _ fun q => ⟨σ2, .refl _, q⟩
end Go.Pv.W
-- Mk6W
namespace Go.Pv.W
open Go Go.RowKit Go.Proofs Go.Pv
def sMk6W_35 := (And.intro (And.intro (And.intro (And.intro (And.intro @q_fld_70_2 (And.intro @q_fld_45_3 @q_fld_70_6)) (And.intro (And.intro @q_fld_70_8 @q_fld_70_0) (And.intro @q_fld_70_1 @q_fld_45_6))) (And.intro (And.intro @q_slz_0 (And.intro @q_tsz_1 @q_slz_1)) (And.intro (And.intro @q_ifc_1 @q_tsz_3) (And.intro @q_slz_3 @q_ifc_3)))) (And.intro (And.intro (And.intro @q_tsz_4 (And.intro @q_slz_4 @q_ifc_4)) (And.intro (And.intro @q_isb_4 @q_tsz_9) (And.intro @q_slz_9 @q_str_9))) (And.intro (And.intro (And.intro @q_arz_9 @q_ifc_9) (And.intro @q_tsz_25 @q_slz_25)) (And.intro (And.intro @q_ifc_25 @q_tsz_28) (And.intro @q_slz_28 @q_str_28))))) (And.intro (And.intro (And.intro (And.intro @q_arz_28 (And.intro @q_ifc_28 @q_tsz_32)) (And.intro (And.intro @q_slz_32 @q_str_32) (And.intro @q_arz_32 @q_ifc_32))) (And.intro (And.intro (And.intro @q_tsz_40 @q_slz_40) (And.intro @q_str_40 @q_arz_40)) (And.intro (And.intro @q_ifc_40 @q_tsz_42) (And.intro @q_slz_42 @q_ifc_42)))) (And.intro (And.intro (And.intro @q_tsz_45 (And.intro @q_slz_45 @q_ifc_45)) (And.intro (And.intro @q_tsz_68 @q_slz_68) (And.intro @q_ifc_68 @q_tsz_70))) (And.intro (And.intro (And.intro @q_slz_70 @q_ifc_70) (And.intro @q_zcs_42 @q_zcs_45)) (And.intro (And.intro @q_bsl_40 @q_bsl_28) (And.intro @q_bsl_32 @q_bld_45))))))
/-- The list of the loops under way has one more. -/
theorem MkR.push {σ0 σ : St} {d m : Nat} {L : List Int} {V A : List ByteArray} {Sx : List Sh} {nl nl' : Nat} {il : Int} (h : MkR σ0 d m L V A Sx nl il σ) {kv ka ks : Cap} {held : ByteArray} {labels stmts : Int}
    (h1 : 0 ≤ labels ∧ labels ≤ 100) (h2 : 0 ≤ stmts ∧ stmts ≤ 1000) (hn : nl' ≤ 100) {b c : Nat} {ds : List PV} (Lp : List ByteArray) (hd : b ≠ d) (hm : b ≠ m) (h0 : σ0.obj b = none) (x2 : ds.length = c) (x3 : Lp.length = nl') (x4 : ds.take nl' = Lp.map vs) (x5 : nl' ≤ c) (x6 : 0 < c) :
    MkR σ0 d m L V A Sx nl' il ((σ.set b (.cells ds)).set m (.cells (mkCells d kv V (.val (.slice (some ⟨b, 0, none⟩) nl' c)) ka A ks Sx held labels stmts il))) := by
  refine ⟨⟨fun x o n e => ?_, h.frame.own, h.frame.gl⟩, h.m0, h.md, ?_, h.hL, h.hV, h.hA, h.hS, hn, h.hi, kv, ka, ks, _, held, labels, stmts, set_get _ _ _, .inr ⟨b, c, ds, Lp, rfl, ?_, x2, x3, x4, x5, x6, hd, hm, h0⟩, h1.1, h1.2, h2.1, h2.2⟩
  · simp only [St.set]
    rw [if_neg (fun q => by rw [q, h.m0] at e; cases e), if_neg (fun q => by rw [q, h0] at e; cases e)]
    exact h.frame.obj x o n e
  · obtain ⟨at', q1, q2⟩ := h.deck
    refine ⟨at', q1, ?_⟩
    simp only [St.set]
    rw [if_neg (Ne.symm h.md), if_neg (Ne.symm hd)]
    exact q2
  · simp only [St.set]
    rw [if_neg hm]; simp
theorem push_take {ds : List PV} {n : Nat} {L : List ByteArray} (h : ds.take n = L.map vs) (hn : n ≤ ds.length) (v : ByteArray) (X : List PV) : (ds.take (n * 1) ++ vs v :: X).take (n + 1) = (L ++ [v]).map vs := by
  have hl : (ds.take n).length = n := by simp; omega
  rw [Nat.mul_one, List.take_append, hl, List.take_of_length_le (by omega), h, show n + 1 - n = 1 by omega]
  simp
theorem pop_take {ds : List PV} {n : Nat} {L : List ByteArray} (h : ds.take (n + 1) = L.map vs) : ds.take n = (L.take n).map vs := by
  rw [List.map_take, ← h, List.take_take]
  congr 1
  omega
theorem Loops.pop {σ0 σ : St} {d m n b c : Nat} {ds : List PV} {L : List ByteArray} (o : Ob) (y1 : σ.obj b = some (.cells ds)) (y2 : ds.length = c) (y3 : L.length = n + 1) (y4 : ds.take (n + 1) = L.map vs) (y5 : n + 1 ≤ c) (y6 : 0 < c) (y7 : b ≠ d) (y8 : b ≠ m) (y9 : σ0.obj b = none) : Loops σ0 (σ.set m o) d m n (.val (.slice (some ⟨b, 0, none⟩) n c)) := by
  refine .inr ⟨b, c, ds, L.take n, rfl, ?_, y2, by simp; omega, pop_take y4, by omega, y6, y7, y8, y9⟩
  simp only [St.set]
  rw [if_neg y8]
  exact y1
theorem forgets_append (a b : List PV) : forgets (a ++ b) = forgets a ++ forgets b := by simp [forgets_map]
theorem MkR.fresh {σ0 σ : St} {d m : Nat} {L : List Int} {V A : List ByteArray} {Sx : List Sh} {nl : Nat} {il : Int} (h : MkR σ0 d m L V A Sx nl il σ) {b : Nat} (hb : σ.obj b = none) : b ≠ d ∧ b ≠ m ∧ σ0.obj b = none := by
  refine ⟨fun q => ?_, fun q => ?_, ?_⟩
  · obtain ⟨at', _, q2⟩ := h.deck
    rw [q] at hb; rw [hb] at q2; cases q2
  · obtain ⟨kv, ka, ks, lp, held, labels, stmts, h1, _⟩ := h.own
    rw [q] at hb; rw [hb] at h1; cases h1
  · have hbd : b ≠ d := fun q => by
      obtain ⟨at', _, q2⟩ := h.deck
      rw [q] at hb; rw [hb] at q2; cases q2
    cases e : σ0.obj b with
    | none => rfl
    | some o => rw [h.frame.obj b o hbd e] at hb; cases hb
def LoopC (σ0 : St) (d m : Nat) (L : List Int) (V A : List ByteArray) (Sx : List Sh) (D : Nat) : Prop :=
  ∀ (nl : Nat) (il : Int) (σ : St) (K : Res → St → Prop), MkR σ0 d m L V A Sx nl il σ → nl + D + 1 ≤ 40 → il ≤ 50 → (∃ kv ka ks lp held labels stmts, σ.obj m = some (.cells (mkCells d kv V lp ka A ks Sx held labels stmts il)) ∧ Loops σ0 σ d m nl lp ∧ 0 ≤ labels ∧ labels < 100 ∧ 0 ≤ stmts ∧ stmts ≤ 1000) →
    (∀ l σ', GS (D + 1) 2 (Zb (D + 1)) l → MkR σ0 d m L V A Sx nl il σ' → OwnLe σ σ' → K (.ret (.list .any 8 (pvSs l))) σ') → PCalls Try.prog 35 [vp m 0, vi (D + 1)] σ K
set_option maxHeartbeats 16000000 in
set_option maxRecDepth 100000 in
theorem loop_of_block (σ0 : St) (d m : Nat) (L : List Int) (V A : List ByteArray) (Sx : List Sh) (D : Nat) (hD : D ≤ 10) (ih : BlockC σ0 d m L V A Sx D) : LoopC σ0 d m L V A Sx D := by
  intro nl il σ K h hnl hil ⟨kv, ka, ks, lp, held, labels, stmts, c0, l0, b0⟩ hK
  have hi := h.hi
  have hl := h.hl
  have hmd := h.md
  have hV := h.hV
  -- one label more, one loop more
  have w1 := h.write (kv := kv) (ka := ka) (ks := ks) (lp := lp) (held := held) (labels := labels + 1) (stmts := stmts) h.hi h.hl (l0.frame (Frame.set _ _ (.inr rfl))) (by omega) (by omega)
  have w2 := w1.write (kv := kv) (ka := ka) (ks := ks) (lp := lp) (held := held) (labels := labels + 1) (stmts := stmts) (il' := il + 1) (by omega) h.hl ((l0.frame (Frame.set _ _ (.inr rfl))).frame (Frame.set _ _ (.inr rfl))) (by omega) (by omega)
  have o2 : OwnLe σ _ := (own_set σ m (.cells (mkCells d kv V lp ka A ks Sx held (labels + 1) stmts il))).trans (own_set _ m (.cells (mkCells d kv V lp ka A ks Sx held (labels + 1) stmts (il + 1))))
  have lp2 : Loops σ0 _ d m nl lp := (l0.frame (Frame.set σ (.cells (mkCells d kv V lp ka A ks Sx held (labels + 1) stmts il)) (.inr rfl))).frame (Frame.set _ (.cells (mkCells d kv V lp ka A ks Sx held (labels + 1) stmts (il + 1))) (.inr rfl))
  have c2 := set_get (σ.set m (.cells (mkCells d kv V lp ka A ks Sx held (labels + 1) stmts il))) m (.cells (mkCells d kv V lp ka A ks Sx held (labels + 1) stmts (il + 1)))
  unfold mkCells at c0 w1 w2 o2 c2 lp2
  simp only [vi, vs, vp] at c0 w1 w2 o2 c2 lp2
  refine PCalls.forgetR ?_
  refine PCalls.of_body (tOk Try.prog) (by kernel_rfl) Try.func35 rfl (by kernel_rfl) [91] [(3, 32, [(0, []), (4, []), (10, []), (1, []), (5, []), (2, []), (6, []), (3, []), (7, []), (8, [3]), (9, []), (11, [])]), (15, 105, [(0, []), (6, []), (8, []), (1, []), (2, []), (3, []), (4, [8]), (5, []), (7, [8]), (9, []), (10, []), (11, []), (12, [])]), (17, 134, [(0, []), (1, []), (5, []), (2, []), (6, []), (3, []), (7, []), (4, []), (8, []), (9, []), (10, []), (11, []), (12, []), (13, []), (14, [])]), (19, 152, [(0, []), (1, []), (9, []), (2, []), (3, []), (4, []), (5, [9]), (6, [9]), (7, []), (8, []), (10, []), (11, [])])] (by kernel_rfl) (n := 153) (by kernel_rfl) (by kernel_rfl) (rs := [.tmp 4]) (by kernel_rfl) ?_
  simp (config := { maxSteps := 4000000 }) (disch := omega) only [pvE_q, pvS_q, vi, vs, vb', vp, wrap_ok, cast_0, notL_E, notL_S, pvSs_length, List.length_map, psl_v, pslV_q, pslV2_q, cellsAll, pavQ_q, pavC_f, pavC_v, pavO_q, σset_obj, pvB, sMk6W_35, reduceIte, Nat.reduceEqDiff, Nat.reduceAdd, Nat.reduceSub, Nat.reduceMul, Nat.reduceLT, Nat.reduceLeDiff, Nat.reduceBEq, reduceCtorEq, Int.reduceAdd, Int.reduceSub, Int.reduceMul, Int.reduceLT, Int.reduceLE, Int.reduceEq, Int.reduceToNat, Int.reduceNeg, Nat.reduceBNe, Int.reduceBEq, Int.reduceBNe, forall_const, eq_self, decide_true, decide_false, w_loop, c0]
  generalize (σ.set m _).set m _ = σ2 at *
  refine next_c d L 6 σ2 w2.deck h.hL (by omega) _ fun mx σ3 m0 m1 t3 => ?_
  have h3 := w2.took t3
  have c3 := t3.frame.obj m _ hmd c2
  have l3 := lp2.frame (t3.frame.mono fun x q => .inl q)
  simp (config := { maxSteps := 4000000 }) (disch := omega) only [pvE_q, pvS_q, vi, vs, vb', vp, wrap_ok, cast_0, notL_E, notL_S, pvSs_length, List.length_map, psl_v, pslV_q, pslV2_q, cellsAll, pavQ_q, pavC_f, pavC_v, pavO_q, σset_obj, pvB, sMk6W_35, reduceIte, Nat.reduceEqDiff, Nat.reduceAdd, Nat.reduceSub, Nat.reduceMul, Nat.reduceLT, Nat.reduceLeDiff, Nat.reduceBEq, reduceCtorEq, Int.reduceAdd, Int.reduceSub, Int.reduceMul, Int.reduceLT, Int.reduceLE, Int.reduceEq, Int.reduceToNat, Int.reduceNeg, Nat.reduceBNe, Int.reduceBEq, Int.reduceBNe, forall_const, eq_self, decide_true, decide_false, w_loop, c3]
  refine next_c d L 4 σ3 h3.deck h.hL (by omega) _ fun g σ4 g0 g1 t4 => ?_
  have h4 := h3.took t4
  have c4 := t4.frame.obj m _ hmd c3
  have l4 := l3.frame (t4.frame.mono fun x q => .inl q)
  cases g3 : (g == 3)
  · simp (config := { maxSteps := 4000000 }) (disch := omega) only [pvE_q, pvS_q, vi, vs, vb', vp, wrap_ok, cast_0, notL_E, notL_S, pvSs_length, List.length_map, psl_v, pslV_q, pslV2_q, cellsAll, pavQ_q, pavC_f, pavC_v, pavO_q, σset_obj, pvB, sMk6W_35, reduceIte, Nat.reduceEqDiff, Nat.reduceAdd, Nat.reduceSub, Nat.reduceMul, Nat.reduceLT, Nat.reduceLeDiff, Nat.reduceBEq, reduceCtorEq, Int.reduceAdd, Int.reduceSub, Int.reduceMul, Int.reduceLT, Int.reduceLE, Int.reduceEq, Int.reduceToNat, Int.reduceNeg, Nat.reduceBNe, Int.reduceBEq, Int.reduceBNe, forall_const, eq_self, decide_true, decide_false, w_loop, g3, c4]
    refine target_c h4 _ fun v σ5 t5 => ?_
    have h5 := h4.took t5
    have c5 := t5.frame.obj m _ hmd c4
    have l5 := l4.frame (t5.frame.mono fun x q => .inl q)
    simp (config := { maxSteps := 4000000 }) (disch := omega) only [pvE_q, pvS_q, vi, vs, vb', vp, wrap_ok, cast_0, notL_E, notL_S, pvSs_length, List.length_map, psl_v, pslV_q, pslV2_q, cellsAll, pavQ_q, pavC_f, pavC_v, pavO_q, σset_obj, pvB, sMk6W_35, reduceIte, Nat.reduceEqDiff, Nat.reduceAdd, Nat.reduceSub, Nat.reduceMul, Nat.reduceLT, Nat.reduceLeDiff, Nat.reduceBEq, reduceCtorEq, Int.reduceAdd, Int.reduceSub, Int.reduceMul, Int.reduceLT, Int.reduceLE, Int.reduceEq, Int.reduceToNat, Int.reduceNeg, Nat.reduceBNe, Int.reduceBEq, Int.reduceBNe, forall_const, eq_self, decide_true, decide_false, w_loop, c5]
    refine next_c d L 3 σ5 h5.deck h.hL (by omega) _ fun st σ6 st0 st1 t6 => ?_
    have h6 := h5.took t6
    have c6 := t6.frame.obj m _ hmd c5
    have l6 := l5.frame (t6.frame.mono fun x q => .inl q)
    simp (config := { maxSteps := 4000000 }) (disch := omega) only [pvE_q, pvS_q, vi, vs, vb', vp, wrap_ok, cast_0, notL_E, notL_S, pvSs_length, List.length_map, psl_v, pslV_q, pslV2_q, cellsAll, pavQ_q, pavC_f, pavC_v, pavO_q, σset_obj, pvB, sMk6W_35, reduceIte, Nat.reduceEqDiff, Nat.reduceAdd, Nat.reduceSub, Nat.reduceMul, Nat.reduceLT, Nat.reduceLeDiff, Nat.reduceBEq, reduceCtorEq, Int.reduceAdd, Int.reduceSub, Int.reduceMul, Int.reduceLT, Int.reduceLE, Int.reduceEq, Int.reduceToNat, Int.reduceNeg, Nat.reduceBNe, Int.reduceBEq, Int.reduceBNe, forall_const, eq_self, decide_true, decide_false, w_loop, c6]
    refine next_c d L 6 σ6 h6.deck h.hL (by omega) _ fun tp σ7 tp0 tp1 t7 => ?_
    have h7 := h6.took t7
    have c7 := t7.frame.obj m _ hmd c6
    have l7 := l6.frame (t7.frame.mono fun x q => .inl q)
    simp (config := { maxSteps := 4000000 }) (disch := omega) only [pvE_q, pvS_q, vi, vs, vb', vp, wrap_ok, cast_0, notL_E, notL_S, pvSs_length, List.length_map, psl_v, pslV_q, pslV2_q, cellsAll, pavQ_q, pavC_f, pavC_v, pavO_q, σset_obj, pvB, sMk6W_35, reduceIte, Nat.reduceEqDiff, Nat.reduceAdd, Nat.reduceSub, Nat.reduceMul, Nat.reduceLT, Nat.reduceLeDiff, Nat.reduceBEq, reduceCtorEq, Int.reduceAdd, Int.reduceSub, Int.reduceMul, Int.reduceLT, Int.reduceLE, Int.reduceEq, Int.reduceToNat, Int.reduceNeg, Nat.reduceBNe, Int.reduceBEq, Int.reduceBNe, forall_const, eq_self, decide_true, decide_false, w_loop, c7]
    refine num_c tp σ7 _ ?_
    simp (config := { maxSteps := 4000000 }) (disch := omega) only [pvE_q, pvS_q, vi, vs, vb', vp, wrap_ok, cast_0, notL_E, notL_S, pvSs_length, List.length_map, psl_v, pslV_q, pslV2_q, cellsAll, pavQ_q, pavC_f, pavC_v, pavO_q, σset_obj, pvB, sMk6W_35, reduceIte, Nat.reduceEqDiff, Nat.reduceAdd, Nat.reduceSub, Nat.reduceMul, Nat.reduceLT, Nat.reduceLeDiff, Nat.reduceBEq, reduceCtorEq, Int.reduceAdd, Int.reduceSub, Int.reduceMul, Int.reduceLT, Int.reduceLE, Int.reduceEq, Int.reduceToNat, Int.reduceNeg, Nat.reduceBNe, Int.reduceBEq, Int.reduceBNe, forall_const, eq_self, decide_true, decide_false, w_loop, c7, pvEs]
    refine next_c d L 3 σ7 h7.deck h.hL (by omega) _ fun u σ8 u0 u1 t8 => ?_
    have h8 := h7.took t8
    have c8 := t8.frame.obj m _ hmd c7
    have l8 := l7.frame (t8.frame.mono fun x q => .inl q)
    have o8 := o2.trans (t3.own.trans (t4.own.trans (t5.own.trans (t6.own.trans (t7.own.trans t8.own)))))
    cases u2 : (u == 2)
    · rcases l8 with ⟨rfl, rfl⟩ | ⟨b, c, ds, Lp, rfl, x1, x2, x3, x4, x5, x6, x7, x8, x9⟩
      · simp (config := { maxSteps := 4000000 }) (disch := omega) only [pvE_q, pvS_q, vi, vs, vb', vp, wrap_ok, cast_0, notL_E, notL_S, pvSs_length, List.length_map, psl_v, pslV_q, pslV2_q, cellsAll, pavQ_q, pavC_f, pavC_v, pavO_q, σset_obj, pvB, sMk6W_35, reduceIte, Nat.reduceEqDiff, Nat.reduceAdd, Nat.reduceSub, Nat.reduceMul, Nat.reduceLT, Nat.reduceLeDiff, Nat.reduceBEq, reduceCtorEq, Int.reduceAdd, Int.reduceSub, Int.reduceMul, Int.reduceLT, Int.reduceLE, Int.reduceEq, Int.reduceToNat, Int.reduceNeg, Nat.reduceBNe, Int.reduceBEq, Int.reduceBNe, forall_const, eq_self, decide_true, decide_false, w_loop, u2, c8, hmd]
        intro b c q1 q2 q3
        obtain ⟨f1, f2, f3⟩ := h8.fresh q1
        have f4 : ¬ m = b := fun z => f2 z.symm
        simp (config := { maxSteps := 4000000 }) (disch := omega) only [pvE_q, pvS_q, vi, vs, vb', vp, wrap_ok, cast_0, notL_E, notL_S, pvSs_length, List.length_map, psl_v, pslV_q, pslV2_q, cellsAll, pavQ_q, pavC_f, pavC_v, pavO_q, σset_obj, pvB, sMk6W_35, reduceIte, Nat.reduceEqDiff, Nat.reduceAdd, Nat.reduceSub, Nat.reduceMul, Nat.reduceLT, Nat.reduceLeDiff, Nat.reduceBEq, reduceCtorEq, Int.reduceAdd, Int.reduceSub, Int.reduceMul, Int.reduceLT, Int.reduceLE, Int.reduceEq, Int.reduceToNat, Int.reduceNeg, Nat.reduceBNe, Int.reduceBEq, Int.reduceBNe, forall_const, eq_self, decide_true, decide_false, w_loop, c8, f4]
        have hA := h8.push (kv := kv) (ka := ka) (ks := ks) (held := held) (labels := labels + 1) (stmts := stmts) (nl' := 1) (by omega) (by omega) (by omega) (b := b) (c := c) (ds := vs v :: List.replicate ((c - 1) * 1) .undef) [v] f1 f2 f3 (by simp; omega) rfl (by simp) q3 (by omega)
        have cA := set_get (σ8.set b (.cells (vs v :: List.replicate ((c - 1) * 1) .undef))) m (.cells (mkCells d kv V (.val (.slice (some ⟨b, 0, none⟩) 1 c)) ka A ks Sx held (labels + 1) stmts (il + 1)))
        have oA : OwnLe σ _ := o8.trans ((own_set σ8 b (.cells (vs v :: List.replicate ((c - 1) * 1) .undef))).trans (own_set _ m (.cells (mkCells d kv V (.val (.slice (some ⟨b, 0, none⟩) 1 c)) ka A ks Sx held (labels + 1) stmts (il + 1)))))
        unfold mkCells at hA cA oA
        simp only [vi, vs, vp] at hA cA oA
        generalize (σ8.set b _).set m _ = σA at hA cA oA ⊢
        refine next_c d L 2 σA hA.deck h.hL (by omega) _ fun op σB op0 op1 tB => ?_
        have hB := hA.took tB
        simp (config := { maxSteps := 4000000 }) (disch := omega) only [pvE_q, pvS_q, vi, vs, vb', vp, wrap_ok, cast_0, notL_E, notL_S, pvSs_length, List.length_map, psl_v, pslV_q, pslV2_q, cellsAll, pavQ_q, pavC_f, pavC_v, pavO_q, σset_obj, pvB, sMk6W_35, reduceIte, Nat.reduceEqDiff, Nat.reduceAdd, Nat.reduceSub, Nat.reduceMul, Nat.reduceLT, Nat.reduceLeDiff, Nat.reduceBEq, reduceCtorEq, Int.reduceAdd, Int.reduceSub, Int.reduceMul, Int.reduceLT, Int.reduceLE, Int.reduceEq, Int.reduceToNat, Int.reduceNeg, Nat.reduceBNe, Int.reduceBEq, Int.reduceBNe, forall_const, eq_self, decide_true, decide_false, w_loop]
        refine nameE_c v σB _ ?_
        simp (config := { maxSteps := 4000000 }) (disch := omega) only [pvE_q, pvS_q, vi, vs, vb', vp, wrap_ok, cast_0, notL_E, notL_S, pvSs_length, List.length_map, psl_v, pslV_q, pslV2_q, cellsAll, pavQ_q, pavC_f, pavC_v, pavO_q, σset_obj, pvB, sMk6W_35, reduceIte, Nat.reduceEqDiff, Nat.reduceAdd, Nat.reduceSub, Nat.reduceMul, Nat.reduceLT, Nat.reduceLeDiff, Nat.reduceBEq, reduceCtorEq, Int.reduceAdd, Int.reduceSub, Int.reduceMul, Int.reduceLT, Int.reduceLE, Int.reduceEq, Int.reduceToNat, Int.reduceNeg, Nat.reduceBNe, Int.reduceBEq, Int.reduceBNe, forall_const, eq_self, decide_true, decide_false, w_loop]
        have bb := fun K hK => bin_c (11 + op) (.mk 2 0 v 0 []) (.mk 1 tp ⟨#[]⟩ 0 []) σB K hK
        simp only [pvE_q, pvEs, vi, vs] at bb
        refine bb _ ?_
        have e1 : (D : Int) + 1 - 1 = D := by omega
        simp (config := { maxSteps := 4000000 }) (disch := omega) only [pvE_q, pvS_q, vi, vs, vb', vp, wrap_ok, cast_0, notL_E, notL_S, pvSs_length, List.length_map, psl_v, pslV_q, pslV2_q, cellsAll, pavQ_q, pavC_f, pavC_v, pavO_q, σset_obj, pvB, sMk6W_35, reduceIte, Nat.reduceEqDiff, Nat.reduceAdd, Nat.reduceSub, Nat.reduceMul, Nat.reduceLT, Nat.reduceLeDiff, Nat.reduceBEq, reduceCtorEq, Int.reduceAdd, Int.reduceSub, Int.reduceMul, Int.reduceLT, Int.reduceLE, Int.reduceEq, Int.reduceToNat, Int.reduceNeg, Nat.reduceBNe, Int.reduceBEq, Int.reduceBNe, forall_const, eq_self, decide_true, decide_false, w_loop, pvEs, e1]
        refine ih 1 (il + 1) 2 σB _ hB (by omega) (by omega) (by omega) fun l kk σC gl hC mC => ?_
        have gl1 := gl.len
        simp (config := { maxSteps := 4000000 }) (disch := omega) only [pvE_q, pvS_q, vi, vs, vb', vp, wrap_ok, cast_0, notL_E, notL_S, pvSs_length, List.length_map, psl_v, pslV_q, pslV2_q, cellsAll, pavQ_q, pavC_f, pavC_v, pavO_q, σset_obj, pvB, sMk6W_35, reduceIte, Nat.reduceEqDiff, Nat.reduceAdd, Nat.reduceSub, Nat.reduceMul, Nat.reduceLT, Nat.reduceLeDiff, Nat.reduceBEq, reduceCtorEq, Int.reduceAdd, Int.reduceSub, Int.reduceMul, Int.reduceLT, Int.reduceLE, Int.reduceEq, Int.reduceToNat, Int.reduceNeg, Nat.reduceBNe, Int.reduceBEq, Int.reduceBNe, forall_const, eq_self, decide_true, decide_false, w_loop]
        refine nameE_c v σC _ ?_
        simp (config := { maxSteps := 4000000 }) (disch := omega) only [pvE_q, pvS_q, vi, vs, vb', vp, wrap_ok, cast_0, notL_E, notL_S, pvSs_length, List.length_map, psl_v, pslV_q, pslV2_q, cellsAll, pavQ_q, pavC_f, pavC_v, pavO_q, σset_obj, pvB, sMk6W_35, reduceIte, Nat.reduceEqDiff, Nat.reduceAdd, Nat.reduceSub, Nat.reduceMul, Nat.reduceLT, Nat.reduceLeDiff, Nat.reduceBEq, reduceCtorEq, Int.reduceAdd, Int.reduceSub, Int.reduceMul, Int.reduceLT, Int.reduceLE, Int.reduceEq, Int.reduceToNat, Int.reduceNeg, Nat.reduceBNe, Int.reduceBEq, Int.reduceBNe, forall_const, eq_self, decide_true, decide_false, w_loop]
        refine num_c (1 + st) σC _ ?_
        simp (config := { maxSteps := 4000000 }) (disch := omega) only [pvE_q, pvS_q, vi, vs, vb', vp, wrap_ok, cast_0, notL_E, notL_S, pvSs_length, List.length_map, psl_v, pslV_q, pslV2_q, cellsAll, pavQ_q, pavC_f, pavC_v, pavO_q, σset_obj, pvB, sMk6W_35, reduceIte, Nat.reduceEqDiff, Nat.reduceAdd, Nat.reduceSub, Nat.reduceMul, Nat.reduceLT, Nat.reduceLeDiff, Nat.reduceBEq, reduceCtorEq, Int.reduceAdd, Int.reduceSub, Int.reduceMul, Int.reduceLT, Int.reduceLE, Int.reduceEq, Int.reduceToNat, Int.reduceNeg, Nat.reduceBNe, Int.reduceBEq, Int.reduceBNe, forall_const, eq_self, decide_true, decide_false, w_loop]
        have bc := fun K hK => bin_c 1 (.mk 2 0 v 0 []) (.mk 1 (1 + st) ⟨#[]⟩ 0 []) σC K hK
        simp only [pvE_q, pvEs, vi, vs] at bc
        refine bc _ ?_
        simp (config := { maxSteps := 4000000 }) (disch := omega) only [pvE_q, pvS_q, vi, vs, vb', vp, wrap_ok, cast_0, notL_E, notL_S, pvSs_length, List.length_map, psl_v, pslV_q, pslV2_q, cellsAll, pavQ_q, pavC_f, pavC_v, pavO_q, σset_obj, pvB, sMk6W_35, reduceIte, Nat.reduceEqDiff, Nat.reduceAdd, Nat.reduceSub, Nat.reduceMul, Nat.reduceLT, Nat.reduceLeDiff, Nat.reduceBEq, reduceCtorEq, Int.reduceAdd, Int.reduceSub, Int.reduceMul, Int.reduceLT, Int.reduceLE, Int.reduceEq, Int.reduceToNat, Int.reduceNeg, Nat.reduceBNe, Int.reduceBEq, Int.reduceBNe, forall_const, eq_self, decide_true, decide_false, w_loop, pvEs]
        refine ⟨by omega, by omega, mC.owns, fun k5 σE a5 => ?_⟩
        have hE := hC.app hB.frame.own mC a5
        have mE := mC.app a5
        obtain ⟨kv2, ka2, ks2, lp2', held2, labels2, stmts2, c9, l9, b9⟩ := hE.own
        unfold mkCells at c9
        simp only [vi, vs, vp] at c9
        rcases l9 with ⟨q, _⟩ | ⟨b2, c2', ds2, Lp2, rfl, y1, y2, y3, y4, y5, y6, y7, y8, y9⟩
        · omega
        have e5 : (((1 : Nat) : Int) - 1) = 0 := by omega
        have e6 : (0 : Int) ≤ 0 := by omega
        have e7 : (0 : Int) ≤ ((1 : Nat) : Int) := by omega
        have e2 : il + 1 - 1 = il := by omega
        simp (config := { maxSteps := 4000000 }) (disch := omega) only [pvE_q, pvS_q, vi, vs, vb', vp, wrap_ok, cast_0, notL_E, notL_S, pvSs_length, List.length_map, psl_v, pslV_q, pslV2_q, cellsAll, pavQ_q, pavC_f, pavC_v, pavO_q, σset_obj, pvB, sMk6W_35, reduceIte, Nat.reduceEqDiff, Nat.reduceAdd, Nat.reduceSub, Nat.reduceMul, Nat.reduceLT, Nat.reduceLeDiff, Nat.reduceBEq, reduceCtorEq, Int.reduceAdd, Int.reduceSub, Int.reduceMul, Int.reduceLT, Int.reduceLE, Int.reduceEq, Int.reduceToNat, Int.reduceNeg, Nat.reduceBNe, Int.reduceBEq, Int.reduceBNe, forall_const, eq_self, decide_true, decide_false, w_loop, c9, e5, e6, e7, e2, y5, Int.toNat_natCast]
        have w5 := hE.write (nl' := 0) (il' := il + 1) (kv := kv2) (ka := ka2) (ks := ks2) (lp := .val (.slice (some ⟨b2, 0, none⟩) 0 c2')) (held := held2) (labels := labels2) (stmts := stmts2) (by omega) (by omega) (Loops.pop _ y1 y2 y3 y4 y5 y6 y7 y8 y9) ⟨b9.1, b9.2.1⟩ b9.2.2
        have w6 := w5.write (nl' := 0) (il' := il) (kv := kv2) (ka := ka2) (ks := ks2) (lp := .val (.slice (some ⟨b2, 0, none⟩) 0 c2')) (held := held2) (labels := labels2) (stmts := stmts2) hi (by omega) ((Loops.pop _ y1 y2 y3 y4 y5 y6 y7 y8 y9).frame (Frame.set _ _ (.inr rfl))) ⟨b9.1, b9.2.1⟩ b9.2.2
        clear w5
        unfold mkCells at w6
        simp only [vi, vs, vp] at w6
        refine next_c d L 3 _ w6.deck h.hL (by omega) _ fun z σF z0 z1 tF => ?_
        have hF := w6.took tF
        simp (config := { maxSteps := 4000000 }) (disch := omega) only [pvE_q, pvS_q, vi, vs, vb', vp, wrap_ok, cast_0, notL_E, notL_S, pvSs_length, List.length_map, psl_v, pslV_q, pslV2_q, cellsAll, pavQ_q, pavC_f, pavC_v, pavO_q, σset_obj, pvB, sMk6W_35, reduceIte, Nat.reduceEqDiff, Nat.reduceAdd, Nat.reduceSub, Nat.reduceMul, Nat.reduceLT, Nat.reduceLeDiff, Nat.reduceBEq, reduceCtorEq, Int.reduceAdd, Int.reduceSub, Int.reduceMul, Int.reduceLT, Int.reduceLE, Int.reduceEq, Int.reduceToNat, Int.reduceNeg, Nat.reduceBNe, Int.reduceBEq, Int.reduceBNe, forall_const, eq_self, decide_true, decide_false, w_loop]
        refine num_c z σF _ ?_
        simp (config := { maxSteps := 4000000 }) (disch := omega) only [pvE_q, pvS_q, vi, vs, vb', vp, wrap_ok, cast_0, notL_E, notL_S, pvSs_length, List.length_map, psl_v, pslV_q, pslV2_q, cellsAll, pavQ_q, pavC_f, pavC_v, pavO_q, σset_obj, pvB, sMk6W_35, reduceIte, Nat.reduceEqDiff, Nat.reduceAdd, Nat.reduceSub, Nat.reduceMul, Nat.reduceLT, Nat.reduceLeDiff, Nat.reduceBEq, reduceCtorEq, Int.reduceAdd, Int.reduceSub, Int.reduceMul, Int.reduceLT, Int.reduceLE, Int.reduceEq, Int.reduceToNat, Int.reduceNeg, Nat.reduceBNe, Int.reduceBEq, Int.reduceBNe, forall_const, eq_self, decide_true, decide_false, w_loop, pvEs]
        refine ⟨_, .refl _, ?_⟩
        have := hK [.mk 1 v [] [.mk 1 z ⟨#[]⟩ 0 []] 0 0 [] [], .mk 4 ⟨#[]⟩ [] [.mk 4 0 ⟨#[]⟩ (11 + op) [.mk 2 0 v 0 [], .mk 1 tp ⟨#[]⟩ 0 []]] mx (labels + 1) (l ++ [.mk 1 v [] [.mk 4 0 ⟨#[]⟩ 1 [.mk 2 0 v 0 [], .mk 1 (1 + st) ⟨#[]⟩ 0 []]] 0 0 [] []]) []] σF (by
          have q1 := gl.d
          have q2 := gl.x
          have q3 := gl.z
          have q6 := Zb_pos D
          refine ⟨by simp, ?_, ?_, ?_⟩
          · simp only [dSs, dS, dSs_append]; omega
          · simp only [xSs, xS, dEs, dE, xSs_append]; omega
          · simp only [zSs, zS, wEs, wE, zSs_append, Zb]; omega) hF (oA.trans (tB.own.trans (mE.le.trans ((own_set σE m _).trans ((own_set _ m _).trans tF.own)))))
        simp only [Res.forget, forget, forgets, pvE, pvEs, pvS, pvSs, vi, vs, forgets_Es, forgets_Ss, forget_E, forgets_append, pvSs_append] at this ⊢
        exact this
      · have f4 : ¬ m = b := fun z => x8 z.symm
        simp (config := { maxSteps := 4000000 }) (disch := omega) only [pvE_q, pvS_q, vi, vs, vb', vp, wrap_ok, cast_0, notL_E, notL_S, pvSs_length, List.length_map, psl_v, pslV_q, pslV2_q, cellsAll, pavQ_q, pavC_f, pavC_v, pavO_q, σset_obj, pvB, sMk6W_35, reduceIte, Nat.reduceEqDiff, Nat.reduceAdd, Nat.reduceSub, Nat.reduceMul, Nat.reduceLT, Nat.reduceLeDiff, Nat.reduceBEq, reduceCtorEq, Int.reduceAdd, Int.reduceSub, Int.reduceMul, Int.reduceLT, Int.reduceLE, Int.reduceEq, Int.reduceToNat, Int.reduceNeg, Nat.reduceBNe, Int.reduceBEq, Int.reduceBNe, forall_const, eq_self, decide_true, decide_false, w_loop, u2, c8, hmd, x1, f4]
        refine ⟨by omega, by omega, x5, by simpa using x2, fun hin => ?_, fun hout b' c' q1 q2 q3 => ?_⟩
        · have hA := h8.push (kv := kv) (ka := ka) (ks := ks) (held := held) (labels := labels + 1) (stmts := stmts) (nl' := nl + 1) (by omega) (by omega) (by omega) (b := b) (c := c) (ds := List.take (nl * 1) ds ++ vs v :: List.drop (nl * 1 + 1) ds) (Lp ++ [v]) x7 x8 x9 (by simp; omega) (by simp; omega) (push_take x4 (by omega) v _) hin x6
          have cA := set_get (σ8.set b (.cells (List.take (nl * 1) ds ++ vs v :: List.drop (nl * 1 + 1) ds))) m (.cells (mkCells d kv V (.val (.slice (some ⟨b, 0, none⟩) (nl + 1) c)) ka A ks Sx held (labels + 1) stmts (il + 1)))
          have oA : OwnLe σ _ := o8.trans ((own_set σ8 b (.cells (List.take (nl * 1) ds ++ vs v :: List.drop (nl * 1 + 1) ds))).trans (own_set _ m (.cells (mkCells d kv V (.val (.slice (some ⟨b, 0, none⟩) (nl + 1) c)) ka A ks Sx held (labels + 1) stmts (il + 1)))))
          unfold mkCells at hA cA oA
          simp only [vi, vs, vp] at hA cA oA
          generalize (σ8.set b _).set m _ = σA at hA cA oA ⊢
          refine next_c d L 2 σA hA.deck h.hL (by omega) _ fun op σB op0 op1 tB => ?_
          have hB := hA.took tB
          simp (config := { maxSteps := 4000000 }) (disch := omega) only [pvE_q, pvS_q, vi, vs, vb', vp, wrap_ok, cast_0, notL_E, notL_S, pvSs_length, List.length_map, psl_v, pslV_q, pslV2_q, cellsAll, pavQ_q, pavC_f, pavC_v, pavO_q, σset_obj, pvB, sMk6W_35, reduceIte, Nat.reduceEqDiff, Nat.reduceAdd, Nat.reduceSub, Nat.reduceMul, Nat.reduceLT, Nat.reduceLeDiff, Nat.reduceBEq, reduceCtorEq, Int.reduceAdd, Int.reduceSub, Int.reduceMul, Int.reduceLT, Int.reduceLE, Int.reduceEq, Int.reduceToNat, Int.reduceNeg, Nat.reduceBNe, Int.reduceBEq, Int.reduceBNe, forall_const, eq_self, decide_true, decide_false, w_loop]
          refine nameE_c v σB _ ?_
          simp (config := { maxSteps := 4000000 }) (disch := omega) only [pvE_q, pvS_q, vi, vs, vb', vp, wrap_ok, cast_0, notL_E, notL_S, pvSs_length, List.length_map, psl_v, pslV_q, pslV2_q, cellsAll, pavQ_q, pavC_f, pavC_v, pavO_q, σset_obj, pvB, sMk6W_35, reduceIte, Nat.reduceEqDiff, Nat.reduceAdd, Nat.reduceSub, Nat.reduceMul, Nat.reduceLT, Nat.reduceLeDiff, Nat.reduceBEq, reduceCtorEq, Int.reduceAdd, Int.reduceSub, Int.reduceMul, Int.reduceLT, Int.reduceLE, Int.reduceEq, Int.reduceToNat, Int.reduceNeg, Nat.reduceBNe, Int.reduceBEq, Int.reduceBNe, forall_const, eq_self, decide_true, decide_false, w_loop]
          have bb := fun K hK => bin_c (11 + op) (.mk 2 0 v 0 []) (.mk 1 tp ⟨#[]⟩ 0 []) σB K hK
          simp only [pvE_q, pvEs, vi, vs] at bb
          refine bb _ ?_
          have e1 : (D : Int) + 1 - 1 = D := by omega
          simp (config := { maxSteps := 4000000 }) (disch := omega) only [pvE_q, pvS_q, vi, vs, vb', vp, wrap_ok, cast_0, notL_E, notL_S, pvSs_length, List.length_map, psl_v, pslV_q, pslV2_q, cellsAll, pavQ_q, pavC_f, pavC_v, pavO_q, σset_obj, pvB, sMk6W_35, reduceIte, Nat.reduceEqDiff, Nat.reduceAdd, Nat.reduceSub, Nat.reduceMul, Nat.reduceLT, Nat.reduceLeDiff, Nat.reduceBEq, reduceCtorEq, Int.reduceAdd, Int.reduceSub, Int.reduceMul, Int.reduceLT, Int.reduceLE, Int.reduceEq, Int.reduceToNat, Int.reduceNeg, Nat.reduceBNe, Int.reduceBEq, Int.reduceBNe, forall_const, eq_self, decide_true, decide_false, w_loop, pvEs, e1]
          refine ih (nl + 1) (il + 1) 2 σB _ hB (by omega) (by omega) (by omega) fun l kk σC gl hC mC => ?_
          have gl1 := gl.len
          simp (config := { maxSteps := 4000000 }) (disch := omega) only [pvE_q, pvS_q, vi, vs, vb', vp, wrap_ok, cast_0, notL_E, notL_S, pvSs_length, List.length_map, psl_v, pslV_q, pslV2_q, cellsAll, pavQ_q, pavC_f, pavC_v, pavO_q, σset_obj, pvB, sMk6W_35, reduceIte, Nat.reduceEqDiff, Nat.reduceAdd, Nat.reduceSub, Nat.reduceMul, Nat.reduceLT, Nat.reduceLeDiff, Nat.reduceBEq, reduceCtorEq, Int.reduceAdd, Int.reduceSub, Int.reduceMul, Int.reduceLT, Int.reduceLE, Int.reduceEq, Int.reduceToNat, Int.reduceNeg, Nat.reduceBNe, Int.reduceBEq, Int.reduceBNe, forall_const, eq_self, decide_true, decide_false, w_loop]
          refine nameE_c v σC _ ?_
          simp (config := { maxSteps := 4000000 }) (disch := omega) only [pvE_q, pvS_q, vi, vs, vb', vp, wrap_ok, cast_0, notL_E, notL_S, pvSs_length, List.length_map, psl_v, pslV_q, pslV2_q, cellsAll, pavQ_q, pavC_f, pavC_v, pavO_q, σset_obj, pvB, sMk6W_35, reduceIte, Nat.reduceEqDiff, Nat.reduceAdd, Nat.reduceSub, Nat.reduceMul, Nat.reduceLT, Nat.reduceLeDiff, Nat.reduceBEq, reduceCtorEq, Int.reduceAdd, Int.reduceSub, Int.reduceMul, Int.reduceLT, Int.reduceLE, Int.reduceEq, Int.reduceToNat, Int.reduceNeg, Nat.reduceBNe, Int.reduceBEq, Int.reduceBNe, forall_const, eq_self, decide_true, decide_false, w_loop]
          refine num_c (1 + st) σC _ ?_
          simp (config := { maxSteps := 4000000 }) (disch := omega) only [pvE_q, pvS_q, vi, vs, vb', vp, wrap_ok, cast_0, notL_E, notL_S, pvSs_length, List.length_map, psl_v, pslV_q, pslV2_q, cellsAll, pavQ_q, pavC_f, pavC_v, pavO_q, σset_obj, pvB, sMk6W_35, reduceIte, Nat.reduceEqDiff, Nat.reduceAdd, Nat.reduceSub, Nat.reduceMul, Nat.reduceLT, Nat.reduceLeDiff, Nat.reduceBEq, reduceCtorEq, Int.reduceAdd, Int.reduceSub, Int.reduceMul, Int.reduceLT, Int.reduceLE, Int.reduceEq, Int.reduceToNat, Int.reduceNeg, Nat.reduceBNe, Int.reduceBEq, Int.reduceBNe, forall_const, eq_self, decide_true, decide_false, w_loop]
          have bc := fun K hK => bin_c 1 (.mk 2 0 v 0 []) (.mk 1 (1 + st) ⟨#[]⟩ 0 []) σC K hK
          simp only [pvE_q, pvEs, vi, vs] at bc
          refine bc _ ?_
          simp (config := { maxSteps := 4000000 }) (disch := omega) only [pvE_q, pvS_q, vi, vs, vb', vp, wrap_ok, cast_0, notL_E, notL_S, pvSs_length, List.length_map, psl_v, pslV_q, pslV2_q, cellsAll, pavQ_q, pavC_f, pavC_v, pavO_q, σset_obj, pvB, sMk6W_35, reduceIte, Nat.reduceEqDiff, Nat.reduceAdd, Nat.reduceSub, Nat.reduceMul, Nat.reduceLT, Nat.reduceLeDiff, Nat.reduceBEq, reduceCtorEq, Int.reduceAdd, Int.reduceSub, Int.reduceMul, Int.reduceLT, Int.reduceLE, Int.reduceEq, Int.reduceToNat, Int.reduceNeg, Nat.reduceBNe, Int.reduceBEq, Int.reduceBNe, forall_const, eq_self, decide_true, decide_false, w_loop, pvEs]
          refine ⟨by omega, by omega, mC.owns, fun k5 σE a5 => ?_⟩
          have hE := hC.app hB.frame.own mC a5
          have mE := mC.app a5
          obtain ⟨kv2, ka2, ks2, lp2', held2, labels2, stmts2, c9, l9, b9⟩ := hE.own
          unfold mkCells at c9
          simp only [vi, vs, vp] at c9
          rcases l9 with ⟨q, _⟩ | ⟨b2, c2', ds2, Lp2, rfl, y1, y2, y3, y4, y5, y6, y7, y8, y9⟩
          · omega
          have e5 : ((((nl + 1) : Nat) : Int) - 1) = nl := by omega
          have e6 : (0 : Int) ≤ nl := by omega
          have e7 : (nl : Int) ≤ (((nl + 1) : Nat) : Int) := by omega
          have e2 : il + 1 - 1 = il := by omega
          simp (config := { maxSteps := 4000000 }) (disch := omega) only [pvE_q, pvS_q, vi, vs, vb', vp, wrap_ok, cast_0, notL_E, notL_S, pvSs_length, List.length_map, psl_v, pslV_q, pslV2_q, cellsAll, pavQ_q, pavC_f, pavC_v, pavO_q, σset_obj, pvB, sMk6W_35, reduceIte, Nat.reduceEqDiff, Nat.reduceAdd, Nat.reduceSub, Nat.reduceMul, Nat.reduceLT, Nat.reduceLeDiff, Nat.reduceBEq, reduceCtorEq, Int.reduceAdd, Int.reduceSub, Int.reduceMul, Int.reduceLT, Int.reduceLE, Int.reduceEq, Int.reduceToNat, Int.reduceNeg, Nat.reduceBNe, Int.reduceBEq, Int.reduceBNe, forall_const, eq_self, decide_true, decide_false, w_loop, c9, e5, e6, e7, e2, y5, Int.toNat_natCast]
          have w5 := hE.write (nl' := nl) (il' := il + 1) (kv := kv2) (ka := ka2) (ks := ks2) (lp := .val (.slice (some ⟨b2, 0, none⟩) nl c2')) (held := held2) (labels := labels2) (stmts := stmts2) (by omega) (by omega) (Loops.pop _ y1 y2 y3 y4 y5 y6 y7 y8 y9) ⟨b9.1, b9.2.1⟩ b9.2.2
          have w6 := w5.write (nl' := nl) (il' := il) (kv := kv2) (ka := ka2) (ks := ks2) (lp := .val (.slice (some ⟨b2, 0, none⟩) nl c2')) (held := held2) (labels := labels2) (stmts := stmts2) hi (by omega) ((Loops.pop _ y1 y2 y3 y4 y5 y6 y7 y8 y9).frame (Frame.set _ _ (.inr rfl))) ⟨b9.1, b9.2.1⟩ b9.2.2
          clear w5
          unfold mkCells at w6
          simp only [vi, vs, vp] at w6
          refine next_c d L 3 _ w6.deck h.hL (by omega) _ fun z σF z0 z1 tF => ?_
          have hF := w6.took tF
          simp (config := { maxSteps := 4000000 }) (disch := omega) only [pvE_q, pvS_q, vi, vs, vb', vp, wrap_ok, cast_0, notL_E, notL_S, pvSs_length, List.length_map, psl_v, pslV_q, pslV2_q, cellsAll, pavQ_q, pavC_f, pavC_v, pavO_q, σset_obj, pvB, sMk6W_35, reduceIte, Nat.reduceEqDiff, Nat.reduceAdd, Nat.reduceSub, Nat.reduceMul, Nat.reduceLT, Nat.reduceLeDiff, Nat.reduceBEq, reduceCtorEq, Int.reduceAdd, Int.reduceSub, Int.reduceMul, Int.reduceLT, Int.reduceLE, Int.reduceEq, Int.reduceToNat, Int.reduceNeg, Nat.reduceBNe, Int.reduceBEq, Int.reduceBNe, forall_const, eq_self, decide_true, decide_false, w_loop]
          refine num_c z σF _ ?_
          simp (config := { maxSteps := 4000000 }) (disch := omega) only [pvE_q, pvS_q, vi, vs, vb', vp, wrap_ok, cast_0, notL_E, notL_S, pvSs_length, List.length_map, psl_v, pslV_q, pslV2_q, cellsAll, pavQ_q, pavC_f, pavC_v, pavO_q, σset_obj, pvB, sMk6W_35, reduceIte, Nat.reduceEqDiff, Nat.reduceAdd, Nat.reduceSub, Nat.reduceMul, Nat.reduceLT, Nat.reduceLeDiff, Nat.reduceBEq, reduceCtorEq, Int.reduceAdd, Int.reduceSub, Int.reduceMul, Int.reduceLT, Int.reduceLE, Int.reduceEq, Int.reduceToNat, Int.reduceNeg, Nat.reduceBNe, Int.reduceBEq, Int.reduceBNe, forall_const, eq_self, decide_true, decide_false, w_loop, pvEs]
          refine ⟨_, .refl _, ?_⟩
          have := hK [.mk 1 v [] [.mk 1 z ⟨#[]⟩ 0 []] 0 0 [] [], .mk 4 ⟨#[]⟩ [] [.mk 4 0 ⟨#[]⟩ (11 + op) [.mk 2 0 v 0 [], .mk 1 tp ⟨#[]⟩ 0 []]] mx (labels + 1) (l ++ [.mk 1 v [] [.mk 4 0 ⟨#[]⟩ 1 [.mk 2 0 v 0 [], .mk 1 (1 + st) ⟨#[]⟩ 0 []]] 0 0 [] []]) []] σF (by
            have q1 := gl.d
            have q2 := gl.x
            have q3 := gl.z
            have q6 := Zb_pos D
            refine ⟨by simp, ?_, ?_, ?_⟩
            · simp only [dSs, dS, dSs_append]; omega
            · simp only [xSs, xS, dEs, dE, xSs_append]; omega
            · simp only [zSs, zS, wEs, wE, zSs_append, Zb]; omega) hF (oA.trans (tB.own.trans (mE.le.trans ((own_set σE m _).trans ((own_set _ m _).trans tF.own)))))
          simp only [Res.forget, forget, forgets, pvE, pvEs, pvS, pvSs, vi, vs, forgets_Es, forgets_Ss, forget_E, forgets_append, pvSs_append] at this ⊢
          exact this
        · obtain ⟨f1, f2, f3⟩ := h8.fresh q1
          have f5 : ¬ m = b' := fun z => f2 z.symm
          simp (config := { maxSteps := 4000000 }) (disch := omega) only [pvE_q, pvS_q, vi, vs, vb', vp, wrap_ok, cast_0, notL_E, notL_S, pvSs_length, List.length_map, psl_v, pslV_q, pslV2_q, cellsAll, pavQ_q, pavC_f, pavC_v, pavO_q, σset_obj, pvB, sMk6W_35, reduceIte, Nat.reduceEqDiff, Nat.reduceAdd, Nat.reduceSub, Nat.reduceMul, Nat.reduceLT, Nat.reduceLeDiff, Nat.reduceBEq, reduceCtorEq, Int.reduceAdd, Int.reduceSub, Int.reduceMul, Int.reduceLT, Int.reduceLE, Int.reduceEq, Int.reduceToNat, Int.reduceNeg, Nat.reduceBNe, Int.reduceBEq, Int.reduceBNe, forall_const, eq_self, decide_true, decide_false, w_loop, c8, f5]
          have hA := h8.push (kv := kv) (ka := ka) (ks := ks) (held := held) (labels := labels + 1) (stmts := stmts) (nl' := nl + 1) (by omega) (by omega) (by omega) (b := b') (c := c') (ds := List.take (nl * 1) ds ++ [vs v] ++ List.replicate ((c' - (nl + 1)) * 1) .undef) (Lp ++ [v]) f1 f2 f3 (by simp; omega) (by simp; omega) (by rw [List.append_assoc]; exact push_take x4 (by omega) v _) q3 (by omega)
          have cA := set_get (σ8.set b' (.cells (List.take (nl * 1) ds ++ [vs v] ++ List.replicate ((c' - (nl + 1)) * 1) .undef))) m (.cells (mkCells d kv V (.val (.slice (some ⟨b', 0, none⟩) (nl + 1) c')) ka A ks Sx held (labels + 1) stmts (il + 1)))
          have oA : OwnLe σ _ := o8.trans ((own_set σ8 b' (.cells (List.take (nl * 1) ds ++ [vs v] ++ List.replicate ((c' - (nl + 1)) * 1) .undef))).trans (own_set _ m (.cells (mkCells d kv V (.val (.slice (some ⟨b', 0, none⟩) (nl + 1) c')) ka A ks Sx held (labels + 1) stmts (il + 1)))))
          unfold mkCells at hA cA oA
          simp only [vi, vs, vp] at hA cA oA
          generalize (σ8.set b' _).set m _ = σA at hA cA oA ⊢
          refine next_c d L 2 σA hA.deck h.hL (by omega) _ fun op σB op0 op1 tB => ?_
          have hB := hA.took tB
          simp (config := { maxSteps := 4000000 }) (disch := omega) only [pvE_q, pvS_q, vi, vs, vb', vp, wrap_ok, cast_0, notL_E, notL_S, pvSs_length, List.length_map, psl_v, pslV_q, pslV2_q, cellsAll, pavQ_q, pavC_f, pavC_v, pavO_q, σset_obj, pvB, sMk6W_35, reduceIte, Nat.reduceEqDiff, Nat.reduceAdd, Nat.reduceSub, Nat.reduceMul, Nat.reduceLT, Nat.reduceLeDiff, Nat.reduceBEq, reduceCtorEq, Int.reduceAdd, Int.reduceSub, Int.reduceMul, Int.reduceLT, Int.reduceLE, Int.reduceEq, Int.reduceToNat, Int.reduceNeg, Nat.reduceBNe, Int.reduceBEq, Int.reduceBNe, forall_const, eq_self, decide_true, decide_false, w_loop]
          refine nameE_c v σB _ ?_
          simp (config := { maxSteps := 4000000 }) (disch := omega) only [pvE_q, pvS_q, vi, vs, vb', vp, wrap_ok, cast_0, notL_E, notL_S, pvSs_length, List.length_map, psl_v, pslV_q, pslV2_q, cellsAll, pavQ_q, pavC_f, pavC_v, pavO_q, σset_obj, pvB, sMk6W_35, reduceIte, Nat.reduceEqDiff, Nat.reduceAdd, Nat.reduceSub, Nat.reduceMul, Nat.reduceLT, Nat.reduceLeDiff, Nat.reduceBEq, reduceCtorEq, Int.reduceAdd, Int.reduceSub, Int.reduceMul, Int.reduceLT, Int.reduceLE, Int.reduceEq, Int.reduceToNat, Int.reduceNeg, Nat.reduceBNe, Int.reduceBEq, Int.reduceBNe, forall_const, eq_self, decide_true, decide_false, w_loop]
          have bb := fun K hK => bin_c (11 + op) (.mk 2 0 v 0 []) (.mk 1 tp ⟨#[]⟩ 0 []) σB K hK
          simp only [pvE_q, pvEs, vi, vs] at bb
          refine bb _ ?_
          have e1 : (D : Int) + 1 - 1 = D := by omega
          simp (config := { maxSteps := 4000000 }) (disch := omega) only [pvE_q, pvS_q, vi, vs, vb', vp, wrap_ok, cast_0, notL_E, notL_S, pvSs_length, List.length_map, psl_v, pslV_q, pslV2_q, cellsAll, pavQ_q, pavC_f, pavC_v, pavO_q, σset_obj, pvB, sMk6W_35, reduceIte, Nat.reduceEqDiff, Nat.reduceAdd, Nat.reduceSub, Nat.reduceMul, Nat.reduceLT, Nat.reduceLeDiff, Nat.reduceBEq, reduceCtorEq, Int.reduceAdd, Int.reduceSub, Int.reduceMul, Int.reduceLT, Int.reduceLE, Int.reduceEq, Int.reduceToNat, Int.reduceNeg, Nat.reduceBNe, Int.reduceBEq, Int.reduceBNe, forall_const, eq_self, decide_true, decide_false, w_loop, pvEs, e1]
          refine ih (nl + 1) (il + 1) 2 σB _ hB (by omega) (by omega) (by omega) fun l kk σC gl hC mC => ?_
          have gl1 := gl.len
          simp (config := { maxSteps := 4000000 }) (disch := omega) only [pvE_q, pvS_q, vi, vs, vb', vp, wrap_ok, cast_0, notL_E, notL_S, pvSs_length, List.length_map, psl_v, pslV_q, pslV2_q, cellsAll, pavQ_q, pavC_f, pavC_v, pavO_q, σset_obj, pvB, sMk6W_35, reduceIte, Nat.reduceEqDiff, Nat.reduceAdd, Nat.reduceSub, Nat.reduceMul, Nat.reduceLT, Nat.reduceLeDiff, Nat.reduceBEq, reduceCtorEq, Int.reduceAdd, Int.reduceSub, Int.reduceMul, Int.reduceLT, Int.reduceLE, Int.reduceEq, Int.reduceToNat, Int.reduceNeg, Nat.reduceBNe, Int.reduceBEq, Int.reduceBNe, forall_const, eq_self, decide_true, decide_false, w_loop]
          refine nameE_c v σC _ ?_
          simp (config := { maxSteps := 4000000 }) (disch := omega) only [pvE_q, pvS_q, vi, vs, vb', vp, wrap_ok, cast_0, notL_E, notL_S, pvSs_length, List.length_map, psl_v, pslV_q, pslV2_q, cellsAll, pavQ_q, pavC_f, pavC_v, pavO_q, σset_obj, pvB, sMk6W_35, reduceIte, Nat.reduceEqDiff, Nat.reduceAdd, Nat.reduceSub, Nat.reduceMul, Nat.reduceLT, Nat.reduceLeDiff, Nat.reduceBEq, reduceCtorEq, Int.reduceAdd, Int.reduceSub, Int.reduceMul, Int.reduceLT, Int.reduceLE, Int.reduceEq, Int.reduceToNat, Int.reduceNeg, Nat.reduceBNe, Int.reduceBEq, Int.reduceBNe, forall_const, eq_self, decide_true, decide_false, w_loop]
          refine num_c (1 + st) σC _ ?_
          simp (config := { maxSteps := 4000000 }) (disch := omega) only [pvE_q, pvS_q, vi, vs, vb', vp, wrap_ok, cast_0, notL_E, notL_S, pvSs_length, List.length_map, psl_v, pslV_q, pslV2_q, cellsAll, pavQ_q, pavC_f, pavC_v, pavO_q, σset_obj, pvB, sMk6W_35, reduceIte, Nat.reduceEqDiff, Nat.reduceAdd, Nat.reduceSub, Nat.reduceMul, Nat.reduceLT, Nat.reduceLeDiff, Nat.reduceBEq, reduceCtorEq, Int.reduceAdd, Int.reduceSub, Int.reduceMul, Int.reduceLT, Int.reduceLE, Int.reduceEq, Int.reduceToNat, Int.reduceNeg, Nat.reduceBNe, Int.reduceBEq, Int.reduceBNe, forall_const, eq_self, decide_true, decide_false, w_loop]
          have bc := fun K hK => bin_c 1 (.mk 2 0 v 0 []) (.mk 1 (1 + st) ⟨#[]⟩ 0 []) σC K hK
          simp only [pvE_q, pvEs, vi, vs] at bc
          refine bc _ ?_
          simp (config := { maxSteps := 4000000 }) (disch := omega) only [pvE_q, pvS_q, vi, vs, vb', vp, wrap_ok, cast_0, notL_E, notL_S, pvSs_length, List.length_map, psl_v, pslV_q, pslV2_q, cellsAll, pavQ_q, pavC_f, pavC_v, pavO_q, σset_obj, pvB, sMk6W_35, reduceIte, Nat.reduceEqDiff, Nat.reduceAdd, Nat.reduceSub, Nat.reduceMul, Nat.reduceLT, Nat.reduceLeDiff, Nat.reduceBEq, reduceCtorEq, Int.reduceAdd, Int.reduceSub, Int.reduceMul, Int.reduceLT, Int.reduceLE, Int.reduceEq, Int.reduceToNat, Int.reduceNeg, Nat.reduceBNe, Int.reduceBEq, Int.reduceBNe, forall_const, eq_self, decide_true, decide_false, w_loop, pvEs]
          refine ⟨by omega, by omega, mC.owns, fun k5 σE a5 => ?_⟩
          have hE := hC.app hB.frame.own mC a5
          have mE := mC.app a5
          obtain ⟨kv2, ka2, ks2, lp2', held2, labels2, stmts2, c9, l9, b9⟩ := hE.own
          unfold mkCells at c9
          simp only [vi, vs, vp] at c9
          rcases l9 with ⟨q, _⟩ | ⟨b2, c2', ds2, Lp2, rfl, y1, y2, y3, y4, y5, y6, y7, y8, y9⟩
          · omega
          have e5 : ((((nl + 1) : Nat) : Int) - 1) = nl := by omega
          have e6 : (0 : Int) ≤ nl := by omega
          have e7 : (nl : Int) ≤ (((nl + 1) : Nat) : Int) := by omega
          have e2 : il + 1 - 1 = il := by omega
          simp (config := { maxSteps := 4000000 }) (disch := omega) only [pvE_q, pvS_q, vi, vs, vb', vp, wrap_ok, cast_0, notL_E, notL_S, pvSs_length, List.length_map, psl_v, pslV_q, pslV2_q, cellsAll, pavQ_q, pavC_f, pavC_v, pavO_q, σset_obj, pvB, sMk6W_35, reduceIte, Nat.reduceEqDiff, Nat.reduceAdd, Nat.reduceSub, Nat.reduceMul, Nat.reduceLT, Nat.reduceLeDiff, Nat.reduceBEq, reduceCtorEq, Int.reduceAdd, Int.reduceSub, Int.reduceMul, Int.reduceLT, Int.reduceLE, Int.reduceEq, Int.reduceToNat, Int.reduceNeg, Nat.reduceBNe, Int.reduceBEq, Int.reduceBNe, forall_const, eq_self, decide_true, decide_false, w_loop, c9, e5, e6, e7, e2, y5, Int.toNat_natCast]
          have w5 := hE.write (nl' := nl) (il' := il + 1) (kv := kv2) (ka := ka2) (ks := ks2) (lp := .val (.slice (some ⟨b2, 0, none⟩) nl c2')) (held := held2) (labels := labels2) (stmts := stmts2) (by omega) (by omega) (Loops.pop _ y1 y2 y3 y4 y5 y6 y7 y8 y9) ⟨b9.1, b9.2.1⟩ b9.2.2
          have w6 := w5.write (nl' := nl) (il' := il) (kv := kv2) (ka := ka2) (ks := ks2) (lp := .val (.slice (some ⟨b2, 0, none⟩) nl c2')) (held := held2) (labels := labels2) (stmts := stmts2) hi (by omega) ((Loops.pop _ y1 y2 y3 y4 y5 y6 y7 y8 y9).frame (Frame.set _ _ (.inr rfl))) ⟨b9.1, b9.2.1⟩ b9.2.2
          clear w5
          unfold mkCells at w6
          simp only [vi, vs, vp] at w6
          refine next_c d L 3 _ w6.deck h.hL (by omega) _ fun z σF z0 z1 tF => ?_
          have hF := w6.took tF
          simp (config := { maxSteps := 4000000 }) (disch := omega) only [pvE_q, pvS_q, vi, vs, vb', vp, wrap_ok, cast_0, notL_E, notL_S, pvSs_length, List.length_map, psl_v, pslV_q, pslV2_q, cellsAll, pavQ_q, pavC_f, pavC_v, pavO_q, σset_obj, pvB, sMk6W_35, reduceIte, Nat.reduceEqDiff, Nat.reduceAdd, Nat.reduceSub, Nat.reduceMul, Nat.reduceLT, Nat.reduceLeDiff, Nat.reduceBEq, reduceCtorEq, Int.reduceAdd, Int.reduceSub, Int.reduceMul, Int.reduceLT, Int.reduceLE, Int.reduceEq, Int.reduceToNat, Int.reduceNeg, Nat.reduceBNe, Int.reduceBEq, Int.reduceBNe, forall_const, eq_self, decide_true, decide_false, w_loop]
          refine num_c z σF _ ?_
          simp (config := { maxSteps := 4000000 }) (disch := omega) only [pvE_q, pvS_q, vi, vs, vb', vp, wrap_ok, cast_0, notL_E, notL_S, pvSs_length, List.length_map, psl_v, pslV_q, pslV2_q, cellsAll, pavQ_q, pavC_f, pavC_v, pavO_q, σset_obj, pvB, sMk6W_35, reduceIte, Nat.reduceEqDiff, Nat.reduceAdd, Nat.reduceSub, Nat.reduceMul, Nat.reduceLT, Nat.reduceLeDiff, Nat.reduceBEq, reduceCtorEq, Int.reduceAdd, Int.reduceSub, Int.reduceMul, Int.reduceLT, Int.reduceLE, Int.reduceEq, Int.reduceToNat, Int.reduceNeg, Nat.reduceBNe, Int.reduceBEq, Int.reduceBNe, forall_const, eq_self, decide_true, decide_false, w_loop, pvEs]
          refine ⟨_, .refl _, ?_⟩
          have := hK [.mk 1 v [] [.mk 1 z ⟨#[]⟩ 0 []] 0 0 [] [], .mk 4 ⟨#[]⟩ [] [.mk 4 0 ⟨#[]⟩ (11 + op) [.mk 2 0 v 0 [], .mk 1 tp ⟨#[]⟩ 0 []]] mx (labels + 1) (l ++ [.mk 1 v [] [.mk 4 0 ⟨#[]⟩ 1 [.mk 2 0 v 0 [], .mk 1 (1 + st) ⟨#[]⟩ 0 []]] 0 0 [] []]) []] σF (by
            have q1 := gl.d
            have q2 := gl.x
            have q3 := gl.z
            have q6 := Zb_pos D
            refine ⟨by simp, ?_, ?_, ?_⟩
            · simp only [dSs, dS, dSs_append]; omega
            · simp only [xSs, xS, dEs, dE, xSs_append]; omega
            · simp only [zSs, zS, wEs, wE, zSs_append, Zb]; omega) hF (oA.trans (tB.own.trans (mE.le.trans ((own_set σE m _).trans ((own_set _ m _).trans tF.own)))))
          simp only [Res.forget, forget, forgets, pvE, pvEs, pvS, pvSs, vi, vs, forgets_Es, forgets_Ss, forget_E, forgets_append, pvSs_append] at this ⊢
          exact this
    · simp (config := { maxSteps := 4000000 }) (disch := omega) only [pvE_q, pvS_q, vi, vs, vb', vp, wrap_ok, cast_0, notL_E, notL_S, pvSs_length, List.length_map, psl_v, pslV_q, pslV2_q, cellsAll, pavQ_q, pavC_f, pavC_v, pavO_q, σset_obj, pvB, sMk6W_35, reduceIte, Nat.reduceEqDiff, Nat.reduceAdd, Nat.reduceSub, Nat.reduceMul, Nat.reduceLT, Nat.reduceLeDiff, Nat.reduceBEq, reduceCtorEq, Int.reduceAdd, Int.reduceSub, Int.reduceMul, Int.reduceLT, Int.reduceLE, Int.reduceEq, Int.reduceToNat, Int.reduceNeg, Nat.reduceBNe, Int.reduceBEq, Int.reduceBNe, forall_const, eq_self, decide_true, decide_false, w_loop, u2, c8]
      refine name_c h8 kv V h.hV.1 (by omega) _ fun nm σ9 _ t9 => ?_
      have h9 := h8.took t9
      have cN := t9.frame.obj m _ hmd c8
      have lN := l8.frame (t9.frame.mono fun x q => .inl q)
      have oN := o8.trans t9.own
      simp (config := { maxSteps := 4000000 }) (disch := omega) only [pvE_q, pvS_q, vi, vs, vb', vp, wrap_ok, cast_0, notL_E, notL_S, pvSs_length, List.length_map, psl_v, pslV_q, pslV2_q, cellsAll, pavQ_q, pavC_f, pavC_v, pavO_q, σset_obj, pvB, sMk6W_35, reduceIte, Nat.reduceEqDiff, Nat.reduceAdd, Nat.reduceSub, Nat.reduceMul, Nat.reduceLT, Nat.reduceLeDiff, Nat.reduceBEq, reduceCtorEq, Int.reduceAdd, Int.reduceSub, Int.reduceMul, Int.reduceLT, Int.reduceLE, Int.reduceEq, Int.reduceToNat, Int.reduceNeg, Nat.reduceBNe, Int.reduceBEq, Int.reduceBNe, forall_const, eq_self, decide_true, decide_false, w_loop]
      refine nameE_c nm σ9 _ ?_
      rcases lN with ⟨rfl, rfl⟩ | ⟨b, c, ds, Lp, rfl, x1, x2, x3, x4, x5, x6, x7, x8, x9⟩
      · simp (config := { maxSteps := 4000000 }) (disch := omega) only [pvE_q, pvS_q, vi, vs, vb', vp, wrap_ok, cast_0, notL_E, notL_S, pvSs_length, List.length_map, psl_v, pslV_q, pslV2_q, cellsAll, pavQ_q, pavC_f, pavC_v, pavO_q, σset_obj, pvB, sMk6W_35, reduceIte, Nat.reduceEqDiff, Nat.reduceAdd, Nat.reduceSub, Nat.reduceMul, Nat.reduceLT, Nat.reduceLeDiff, Nat.reduceBEq, reduceCtorEq, Int.reduceAdd, Int.reduceSub, Int.reduceMul, Int.reduceLT, Int.reduceLE, Int.reduceEq, Int.reduceToNat, Int.reduceNeg, Nat.reduceBNe, Int.reduceBEq, Int.reduceBNe, forall_const, eq_self, decide_true, decide_false, w_loop, cN, hmd]
        intro b c q1 q2 q3
        obtain ⟨f1, f2, f3⟩ := h9.fresh q1
        have f4 : ¬ m = b := fun z => f2 z.symm
        simp (config := { maxSteps := 4000000 }) (disch := omega) only [pvE_q, pvS_q, vi, vs, vb', vp, wrap_ok, cast_0, notL_E, notL_S, pvSs_length, List.length_map, psl_v, pslV_q, pslV2_q, cellsAll, pavQ_q, pavC_f, pavC_v, pavO_q, σset_obj, pvB, sMk6W_35, reduceIte, Nat.reduceEqDiff, Nat.reduceAdd, Nat.reduceSub, Nat.reduceMul, Nat.reduceLT, Nat.reduceLeDiff, Nat.reduceBEq, reduceCtorEq, Int.reduceAdd, Int.reduceSub, Int.reduceMul, Int.reduceLT, Int.reduceLE, Int.reduceEq, Int.reduceToNat, Int.reduceNeg, Nat.reduceBNe, Int.reduceBEq, Int.reduceBNe, forall_const, eq_self, decide_true, decide_false, w_loop, cN, f4]
        have hA := h9.push (kv := kv) (ka := ka) (ks := ks) (held := held) (labels := labels + 1) (stmts := stmts) (nl' := 1) (by omega) (by omega) (by omega) (b := b) (c := c) (ds := vs v :: List.replicate ((c - 1) * 1) .undef) [v] f1 f2 f3 (by simp; omega) rfl (by simp) q3 (by omega)
        have cA := set_get (σ9.set b (.cells (vs v :: List.replicate ((c - 1) * 1) .undef))) m (.cells (mkCells d kv V (.val (.slice (some ⟨b, 0, none⟩) 1 c)) ka A ks Sx held (labels + 1) stmts (il + 1)))
        have oA : OwnLe σ _ := oN.trans ((own_set σ9 b (.cells (vs v :: List.replicate ((c - 1) * 1) .undef))).trans (own_set _ m (.cells (mkCells d kv V (.val (.slice (some ⟨b, 0, none⟩) 1 c)) ka A ks Sx held (labels + 1) stmts (il + 1)))))
        unfold mkCells at hA cA oA
        simp only [vi, vs, vp] at hA cA oA
        generalize (σ9.set b _).set m _ = σA at hA cA oA ⊢
        refine next_c d L 2 σA hA.deck h.hL (by omega) _ fun op σB op0 op1 tB => ?_
        have hB := hA.took tB
        simp (config := { maxSteps := 4000000 }) (disch := omega) only [pvE_q, pvS_q, vi, vs, vb', vp, wrap_ok, cast_0, notL_E, notL_S, pvSs_length, List.length_map, psl_v, pslV_q, pslV2_q, cellsAll, pavQ_q, pavC_f, pavC_v, pavO_q, σset_obj, pvB, sMk6W_35, reduceIte, Nat.reduceEqDiff, Nat.reduceAdd, Nat.reduceSub, Nat.reduceMul, Nat.reduceLT, Nat.reduceLeDiff, Nat.reduceBEq, reduceCtorEq, Int.reduceAdd, Int.reduceSub, Int.reduceMul, Int.reduceLT, Int.reduceLE, Int.reduceEq, Int.reduceToNat, Int.reduceNeg, Nat.reduceBNe, Int.reduceBEq, Int.reduceBNe, forall_const, eq_self, decide_true, decide_false, w_loop]
        refine nameE_c v σB _ ?_
        simp (config := { maxSteps := 4000000 }) (disch := omega) only [pvE_q, pvS_q, vi, vs, vb', vp, wrap_ok, cast_0, notL_E, notL_S, pvSs_length, List.length_map, psl_v, pslV_q, pslV2_q, cellsAll, pavQ_q, pavC_f, pavC_v, pavO_q, σset_obj, pvB, sMk6W_35, reduceIte, Nat.reduceEqDiff, Nat.reduceAdd, Nat.reduceSub, Nat.reduceMul, Nat.reduceLT, Nat.reduceLeDiff, Nat.reduceBEq, reduceCtorEq, Int.reduceAdd, Int.reduceSub, Int.reduceMul, Int.reduceLT, Int.reduceLE, Int.reduceEq, Int.reduceToNat, Int.reduceNeg, Nat.reduceBNe, Int.reduceBEq, Int.reduceBNe, forall_const, eq_self, decide_true, decide_false, w_loop]
        have bb := fun K hK => bin_c (11 + op) (.mk 2 0 v 0 []) (.mk 2 0 nm 0 []) σB K hK
        simp only [pvE_q, pvEs, vi, vs] at bb
        refine bb _ ?_
        have e1 : (D : Int) + 1 - 1 = D := by omega
        simp (config := { maxSteps := 4000000 }) (disch := omega) only [pvE_q, pvS_q, vi, vs, vb', vp, wrap_ok, cast_0, notL_E, notL_S, pvSs_length, List.length_map, psl_v, pslV_q, pslV2_q, cellsAll, pavQ_q, pavC_f, pavC_v, pavO_q, σset_obj, pvB, sMk6W_35, reduceIte, Nat.reduceEqDiff, Nat.reduceAdd, Nat.reduceSub, Nat.reduceMul, Nat.reduceLT, Nat.reduceLeDiff, Nat.reduceBEq, reduceCtorEq, Int.reduceAdd, Int.reduceSub, Int.reduceMul, Int.reduceLT, Int.reduceLE, Int.reduceEq, Int.reduceToNat, Int.reduceNeg, Nat.reduceBNe, Int.reduceBEq, Int.reduceBNe, forall_const, eq_self, decide_true, decide_false, w_loop, pvEs, e1]
        refine ih 1 (il + 1) 2 σB _ hB (by omega) (by omega) (by omega) fun l kk σC gl hC mC => ?_
        have gl1 := gl.len
        simp (config := { maxSteps := 4000000 }) (disch := omega) only [pvE_q, pvS_q, vi, vs, vb', vp, wrap_ok, cast_0, notL_E, notL_S, pvSs_length, List.length_map, psl_v, pslV_q, pslV2_q, cellsAll, pavQ_q, pavC_f, pavC_v, pavO_q, σset_obj, pvB, sMk6W_35, reduceIte, Nat.reduceEqDiff, Nat.reduceAdd, Nat.reduceSub, Nat.reduceMul, Nat.reduceLT, Nat.reduceLeDiff, Nat.reduceBEq, reduceCtorEq, Int.reduceAdd, Int.reduceSub, Int.reduceMul, Int.reduceLT, Int.reduceLE, Int.reduceEq, Int.reduceToNat, Int.reduceNeg, Nat.reduceBNe, Int.reduceBEq, Int.reduceBNe, forall_const, eq_self, decide_true, decide_false, w_loop]
        refine nameE_c v σC _ ?_
        simp (config := { maxSteps := 4000000 }) (disch := omega) only [pvE_q, pvS_q, vi, vs, vb', vp, wrap_ok, cast_0, notL_E, notL_S, pvSs_length, List.length_map, psl_v, pslV_q, pslV2_q, cellsAll, pavQ_q, pavC_f, pavC_v, pavO_q, σset_obj, pvB, sMk6W_35, reduceIte, Nat.reduceEqDiff, Nat.reduceAdd, Nat.reduceSub, Nat.reduceMul, Nat.reduceLT, Nat.reduceLeDiff, Nat.reduceBEq, reduceCtorEq, Int.reduceAdd, Int.reduceSub, Int.reduceMul, Int.reduceLT, Int.reduceLE, Int.reduceEq, Int.reduceToNat, Int.reduceNeg, Nat.reduceBNe, Int.reduceBEq, Int.reduceBNe, forall_const, eq_self, decide_true, decide_false, w_loop]
        refine num_c (1 + st) σC _ ?_
        simp (config := { maxSteps := 4000000 }) (disch := omega) only [pvE_q, pvS_q, vi, vs, vb', vp, wrap_ok, cast_0, notL_E, notL_S, pvSs_length, List.length_map, psl_v, pslV_q, pslV2_q, cellsAll, pavQ_q, pavC_f, pavC_v, pavO_q, σset_obj, pvB, sMk6W_35, reduceIte, Nat.reduceEqDiff, Nat.reduceAdd, Nat.reduceSub, Nat.reduceMul, Nat.reduceLT, Nat.reduceLeDiff, Nat.reduceBEq, reduceCtorEq, Int.reduceAdd, Int.reduceSub, Int.reduceMul, Int.reduceLT, Int.reduceLE, Int.reduceEq, Int.reduceToNat, Int.reduceNeg, Nat.reduceBNe, Int.reduceBEq, Int.reduceBNe, forall_const, eq_self, decide_true, decide_false, w_loop]
        have bc := fun K hK => bin_c 1 (.mk 2 0 v 0 []) (.mk 1 (1 + st) ⟨#[]⟩ 0 []) σC K hK
        simp only [pvE_q, pvEs, vi, vs] at bc
        refine bc _ ?_
        simp (config := { maxSteps := 4000000 }) (disch := omega) only [pvE_q, pvS_q, vi, vs, vb', vp, wrap_ok, cast_0, notL_E, notL_S, pvSs_length, List.length_map, psl_v, pslV_q, pslV2_q, cellsAll, pavQ_q, pavC_f, pavC_v, pavO_q, σset_obj, pvB, sMk6W_35, reduceIte, Nat.reduceEqDiff, Nat.reduceAdd, Nat.reduceSub, Nat.reduceMul, Nat.reduceLT, Nat.reduceLeDiff, Nat.reduceBEq, reduceCtorEq, Int.reduceAdd, Int.reduceSub, Int.reduceMul, Int.reduceLT, Int.reduceLE, Int.reduceEq, Int.reduceToNat, Int.reduceNeg, Nat.reduceBNe, Int.reduceBEq, Int.reduceBNe, forall_const, eq_self, decide_true, decide_false, w_loop, pvEs]
        refine ⟨by omega, by omega, mC.owns, fun k5 σE a5 => ?_⟩
        have hE := hC.app hB.frame.own mC a5
        have mE := mC.app a5
        obtain ⟨kv2, ka2, ks2, lp2', held2, labels2, stmts2, c9, l9, b9⟩ := hE.own
        unfold mkCells at c9
        simp only [vi, vs, vp] at c9
        rcases l9 with ⟨q, _⟩ | ⟨b2, c2', ds2, Lp2, rfl, y1, y2, y3, y4, y5, y6, y7, y8, y9⟩
        · omega
        have e5 : (((1 : Nat) : Int) - 1) = 0 := by omega
        have e6 : (0 : Int) ≤ 0 := by omega
        have e7 : (0 : Int) ≤ ((1 : Nat) : Int) := by omega
        have e2 : il + 1 - 1 = il := by omega
        simp (config := { maxSteps := 4000000 }) (disch := omega) only [pvE_q, pvS_q, vi, vs, vb', vp, wrap_ok, cast_0, notL_E, notL_S, pvSs_length, List.length_map, psl_v, pslV_q, pslV2_q, cellsAll, pavQ_q, pavC_f, pavC_v, pavO_q, σset_obj, pvB, sMk6W_35, reduceIte, Nat.reduceEqDiff, Nat.reduceAdd, Nat.reduceSub, Nat.reduceMul, Nat.reduceLT, Nat.reduceLeDiff, Nat.reduceBEq, reduceCtorEq, Int.reduceAdd, Int.reduceSub, Int.reduceMul, Int.reduceLT, Int.reduceLE, Int.reduceEq, Int.reduceToNat, Int.reduceNeg, Nat.reduceBNe, Int.reduceBEq, Int.reduceBNe, forall_const, eq_self, decide_true, decide_false, w_loop, c9, e5, e6, e7, e2, y5, Int.toNat_natCast]
        have w5 := hE.write (nl' := 0) (il' := il + 1) (kv := kv2) (ka := ka2) (ks := ks2) (lp := .val (.slice (some ⟨b2, 0, none⟩) 0 c2')) (held := held2) (labels := labels2) (stmts := stmts2) (by omega) (by omega) (Loops.pop _ y1 y2 y3 y4 y5 y6 y7 y8 y9) ⟨b9.1, b9.2.1⟩ b9.2.2
        have w6 := w5.write (nl' := 0) (il' := il) (kv := kv2) (ka := ka2) (ks := ks2) (lp := .val (.slice (some ⟨b2, 0, none⟩) 0 c2')) (held := held2) (labels := labels2) (stmts := stmts2) hi (by omega) ((Loops.pop _ y1 y2 y3 y4 y5 y6 y7 y8 y9).frame (Frame.set _ _ (.inr rfl))) ⟨b9.1, b9.2.1⟩ b9.2.2
        clear w5
        unfold mkCells at w6
        simp only [vi, vs, vp] at w6
        refine next_c d L 3 _ w6.deck h.hL (by omega) _ fun z σF z0 z1 tF => ?_
        have hF := w6.took tF
        simp (config := { maxSteps := 4000000 }) (disch := omega) only [pvE_q, pvS_q, vi, vs, vb', vp, wrap_ok, cast_0, notL_E, notL_S, pvSs_length, List.length_map, psl_v, pslV_q, pslV2_q, cellsAll, pavQ_q, pavC_f, pavC_v, pavO_q, σset_obj, pvB, sMk6W_35, reduceIte, Nat.reduceEqDiff, Nat.reduceAdd, Nat.reduceSub, Nat.reduceMul, Nat.reduceLT, Nat.reduceLeDiff, Nat.reduceBEq, reduceCtorEq, Int.reduceAdd, Int.reduceSub, Int.reduceMul, Int.reduceLT, Int.reduceLE, Int.reduceEq, Int.reduceToNat, Int.reduceNeg, Nat.reduceBNe, Int.reduceBEq, Int.reduceBNe, forall_const, eq_self, decide_true, decide_false, w_loop]
        refine num_c z σF _ ?_
        simp (config := { maxSteps := 4000000 }) (disch := omega) only [pvE_q, pvS_q, vi, vs, vb', vp, wrap_ok, cast_0, notL_E, notL_S, pvSs_length, List.length_map, psl_v, pslV_q, pslV2_q, cellsAll, pavQ_q, pavC_f, pavC_v, pavO_q, σset_obj, pvB, sMk6W_35, reduceIte, Nat.reduceEqDiff, Nat.reduceAdd, Nat.reduceSub, Nat.reduceMul, Nat.reduceLT, Nat.reduceLeDiff, Nat.reduceBEq, reduceCtorEq, Int.reduceAdd, Int.reduceSub, Int.reduceMul, Int.reduceLT, Int.reduceLE, Int.reduceEq, Int.reduceToNat, Int.reduceNeg, Nat.reduceBNe, Int.reduceBEq, Int.reduceBNe, forall_const, eq_self, decide_true, decide_false, w_loop, pvEs]
        refine ⟨_, .refl _, ?_⟩
        have := hK [.mk 1 v [] [.mk 1 z ⟨#[]⟩ 0 []] 0 0 [] [], .mk 4 ⟨#[]⟩ [] [.mk 4 0 ⟨#[]⟩ (11 + op) [.mk 2 0 v 0 [], .mk 2 0 nm 0 []]] mx (labels + 1) (l ++ [.mk 1 v [] [.mk 4 0 ⟨#[]⟩ 1 [.mk 2 0 v 0 [], .mk 1 (1 + st) ⟨#[]⟩ 0 []]] 0 0 [] []]) []] σF (by
          have q1 := gl.d
          have q2 := gl.x
          have q3 := gl.z
          have q6 := Zb_pos D
          refine ⟨by simp, ?_, ?_, ?_⟩
          · simp only [dSs, dS, dSs_append]; omega
          · simp only [xSs, xS, dEs, dE, xSs_append]; omega
          · simp only [zSs, zS, wEs, wE, zSs_append, Zb]; omega) hF (oA.trans (tB.own.trans (mE.le.trans ((own_set σE m _).trans ((own_set _ m _).trans tF.own)))))
        simp only [Res.forget, forget, forgets, pvE, pvEs, pvS, pvSs, vi, vs, forgets_Es, forgets_Ss, forget_E, forgets_append, pvSs_append] at this ⊢
        exact this
      · have f4 : ¬ m = b := fun z => x8 z.symm
        simp (config := { maxSteps := 4000000 }) (disch := omega) only [pvE_q, pvS_q, vi, vs, vb', vp, wrap_ok, cast_0, notL_E, notL_S, pvSs_length, List.length_map, psl_v, pslV_q, pslV2_q, cellsAll, pavQ_q, pavC_f, pavC_v, pavO_q, σset_obj, pvB, sMk6W_35, reduceIte, Nat.reduceEqDiff, Nat.reduceAdd, Nat.reduceSub, Nat.reduceMul, Nat.reduceLT, Nat.reduceLeDiff, Nat.reduceBEq, reduceCtorEq, Int.reduceAdd, Int.reduceSub, Int.reduceMul, Int.reduceLT, Int.reduceLE, Int.reduceEq, Int.reduceToNat, Int.reduceNeg, Nat.reduceBNe, Int.reduceBEq, Int.reduceBNe, forall_const, eq_self, decide_true, decide_false, w_loop, cN, hmd, x1, f4]
        refine ⟨by omega, by omega, x5, by simpa using x2, fun hin => ?_, fun hout b' c' q1 q2 q3 => ?_⟩
        · have hA := h9.push (kv := kv) (ka := ka) (ks := ks) (held := held) (labels := labels + 1) (stmts := stmts) (nl' := nl + 1) (by omega) (by omega) (by omega) (b := b) (c := c) (ds := List.take (nl * 1) ds ++ vs v :: List.drop (nl * 1 + 1) ds) (Lp ++ [v]) x7 x8 x9 (by simp; omega) (by simp; omega) (push_take x4 (by omega) v _) hin x6
          have cA := set_get (σ9.set b (.cells (List.take (nl * 1) ds ++ vs v :: List.drop (nl * 1 + 1) ds))) m (.cells (mkCells d kv V (.val (.slice (some ⟨b, 0, none⟩) (nl + 1) c)) ka A ks Sx held (labels + 1) stmts (il + 1)))
          have oA : OwnLe σ _ := oN.trans ((own_set σ9 b (.cells (List.take (nl * 1) ds ++ vs v :: List.drop (nl * 1 + 1) ds))).trans (own_set _ m (.cells (mkCells d kv V (.val (.slice (some ⟨b, 0, none⟩) (nl + 1) c)) ka A ks Sx held (labels + 1) stmts (il + 1)))))
          unfold mkCells at hA cA oA
          simp only [vi, vs, vp] at hA cA oA
          generalize (σ9.set b _).set m _ = σA at hA cA oA ⊢
          refine next_c d L 2 σA hA.deck h.hL (by omega) _ fun op σB op0 op1 tB => ?_
          have hB := hA.took tB
          simp (config := { maxSteps := 4000000 }) (disch := omega) only [pvE_q, pvS_q, vi, vs, vb', vp, wrap_ok, cast_0, notL_E, notL_S, pvSs_length, List.length_map, psl_v, pslV_q, pslV2_q, cellsAll, pavQ_q, pavC_f, pavC_v, pavO_q, σset_obj, pvB, sMk6W_35, reduceIte, Nat.reduceEqDiff, Nat.reduceAdd, Nat.reduceSub, Nat.reduceMul, Nat.reduceLT, Nat.reduceLeDiff, Nat.reduceBEq, reduceCtorEq, Int.reduceAdd, Int.reduceSub, Int.reduceMul, Int.reduceLT, Int.reduceLE, Int.reduceEq, Int.reduceToNat, Int.reduceNeg, Nat.reduceBNe, Int.reduceBEq, Int.reduceBNe, forall_const, eq_self, decide_true, decide_false, w_loop]
          refine nameE_c v σB _ ?_
          simp (config := { maxSteps := 4000000 }) (disch := omega) only [pvE_q, pvS_q, vi, vs, vb', vp, wrap_ok, cast_0, notL_E, notL_S, pvSs_length, List.length_map, psl_v, pslV_q, pslV2_q, cellsAll, pavQ_q, pavC_f, pavC_v, pavO_q, σset_obj, pvB, sMk6W_35, reduceIte, Nat.reduceEqDiff, Nat.reduceAdd, Nat.reduceSub, Nat.reduceMul, Nat.reduceLT, Nat.reduceLeDiff, Nat.reduceBEq, reduceCtorEq, Int.reduceAdd, Int.reduceSub, Int.reduceMul, Int.reduceLT, Int.reduceLE, Int.reduceEq, Int.reduceToNat, Int.reduceNeg, Nat.reduceBNe, Int.reduceBEq, Int.reduceBNe, forall_const, eq_self, decide_true, decide_false, w_loop]
          have bb := fun K hK => bin_c (11 + op) (.mk 2 0 v 0 []) (.mk 2 0 nm 0 []) σB K hK
          simp only [pvE_q, pvEs, vi, vs] at bb
          refine bb _ ?_
          have e1 : (D : Int) + 1 - 1 = D := by omega
          simp (config := { maxSteps := 4000000 }) (disch := omega) only [pvE_q, pvS_q, vi, vs, vb', vp, wrap_ok, cast_0, notL_E, notL_S, pvSs_length, List.length_map, psl_v, pslV_q, pslV2_q, cellsAll, pavQ_q, pavC_f, pavC_v, pavO_q, σset_obj, pvB, sMk6W_35, reduceIte, Nat.reduceEqDiff, Nat.reduceAdd, Nat.reduceSub, Nat.reduceMul, Nat.reduceLT, Nat.reduceLeDiff, Nat.reduceBEq, reduceCtorEq, Int.reduceAdd, Int.reduceSub, Int.reduceMul, Int.reduceLT, Int.reduceLE, Int.reduceEq, Int.reduceToNat, Int.reduceNeg, Nat.reduceBNe, Int.reduceBEq, Int.reduceBNe, forall_const, eq_self, decide_true, decide_false, w_loop, pvEs, e1]
          refine ih (nl + 1) (il + 1) 2 σB _ hB (by omega) (by omega) (by omega) fun l kk σC gl hC mC => ?_
          have gl1 := gl.len
          simp (config := { maxSteps := 4000000 }) (disch := omega) only [pvE_q, pvS_q, vi, vs, vb', vp, wrap_ok, cast_0, notL_E, notL_S, pvSs_length, List.length_map, psl_v, pslV_q, pslV2_q, cellsAll, pavQ_q, pavC_f, pavC_v, pavO_q, σset_obj, pvB, sMk6W_35, reduceIte, Nat.reduceEqDiff, Nat.reduceAdd, Nat.reduceSub, Nat.reduceMul, Nat.reduceLT, Nat.reduceLeDiff, Nat.reduceBEq, reduceCtorEq, Int.reduceAdd, Int.reduceSub, Int.reduceMul, Int.reduceLT, Int.reduceLE, Int.reduceEq, Int.reduceToNat, Int.reduceNeg, Nat.reduceBNe, Int.reduceBEq, Int.reduceBNe, forall_const, eq_self, decide_true, decide_false, w_loop]
          refine nameE_c v σC _ ?_
          simp (config := { maxSteps := 4000000 }) (disch := omega) only [pvE_q, pvS_q, vi, vs, vb', vp, wrap_ok, cast_0, notL_E, notL_S, pvSs_length, List.length_map, psl_v, pslV_q, pslV2_q, cellsAll, pavQ_q, pavC_f, pavC_v, pavO_q, σset_obj, pvB, sMk6W_35, reduceIte, Nat.reduceEqDiff, Nat.reduceAdd, Nat.reduceSub, Nat.reduceMul, Nat.reduceLT, Nat.reduceLeDiff, Nat.reduceBEq, reduceCtorEq, Int.reduceAdd, Int.reduceSub, Int.reduceMul, Int.reduceLT, Int.reduceLE, Int.reduceEq, Int.reduceToNat, Int.reduceNeg, Nat.reduceBNe, Int.reduceBEq, Int.reduceBNe, forall_const, eq_self, decide_true, decide_false, w_loop]
          refine num_c (1 + st) σC _ ?_
          simp (config := { maxSteps := 4000000 }) (disch := omega) only [pvE_q, pvS_q, vi, vs, vb', vp, wrap_ok, cast_0, notL_E, notL_S, pvSs_length, List.length_map, psl_v, pslV_q, pslV2_q, cellsAll, pavQ_q, pavC_f, pavC_v, pavO_q, σset_obj, pvB, sMk6W_35, reduceIte, Nat.reduceEqDiff, Nat.reduceAdd, Nat.reduceSub, Nat.reduceMul, Nat.reduceLT, Nat.reduceLeDiff, Nat.reduceBEq, reduceCtorEq, Int.reduceAdd, Int.reduceSub, Int.reduceMul, Int.reduceLT, Int.reduceLE, Int.reduceEq, Int.reduceToNat, Int.reduceNeg, Nat.reduceBNe, Int.reduceBEq, Int.reduceBNe, forall_const, eq_self, decide_true, decide_false, w_loop]
          have bc := fun K hK => bin_c 1 (.mk 2 0 v 0 []) (.mk 1 (1 + st) ⟨#[]⟩ 0 []) σC K hK
          simp only [pvE_q, pvEs, vi, vs] at bc
          refine bc _ ?_
          simp (config := { maxSteps := 4000000 }) (disch := omega) only [pvE_q, pvS_q, vi, vs, vb', vp, wrap_ok, cast_0, notL_E, notL_S, pvSs_length, List.length_map, psl_v, pslV_q, pslV2_q, cellsAll, pavQ_q, pavC_f, pavC_v, pavO_q, σset_obj, pvB, sMk6W_35, reduceIte, Nat.reduceEqDiff, Nat.reduceAdd, Nat.reduceSub, Nat.reduceMul, Nat.reduceLT, Nat.reduceLeDiff, Nat.reduceBEq, reduceCtorEq, Int.reduceAdd, Int.reduceSub, Int.reduceMul, Int.reduceLT, Int.reduceLE, Int.reduceEq, Int.reduceToNat, Int.reduceNeg, Nat.reduceBNe, Int.reduceBEq, Int.reduceBNe, forall_const, eq_self, decide_true, decide_false, w_loop, pvEs]
          refine ⟨by omega, by omega, mC.owns, fun k5 σE a5 => ?_⟩
          have hE := hC.app hB.frame.own mC a5
          have mE := mC.app a5
          obtain ⟨kv2, ka2, ks2, lp2', held2, labels2, stmts2, c9, l9, b9⟩ := hE.own
          unfold mkCells at c9
          simp only [vi, vs, vp] at c9
          rcases l9 with ⟨q, _⟩ | ⟨b2, c2', ds2, Lp2, rfl, y1, y2, y3, y4, y5, y6, y7, y8, y9⟩
          · omega
          have e5 : ((((nl + 1) : Nat) : Int) - 1) = nl := by omega
          have e6 : (0 : Int) ≤ nl := by omega
          have e7 : (nl : Int) ≤ (((nl + 1) : Nat) : Int) := by omega
          have e2 : il + 1 - 1 = il := by omega
          simp (config := { maxSteps := 4000000 }) (disch := omega) only [pvE_q, pvS_q, vi, vs, vb', vp, wrap_ok, cast_0, notL_E, notL_S, pvSs_length, List.length_map, psl_v, pslV_q, pslV2_q, cellsAll, pavQ_q, pavC_f, pavC_v, pavO_q, σset_obj, pvB, sMk6W_35, reduceIte, Nat.reduceEqDiff, Nat.reduceAdd, Nat.reduceSub, Nat.reduceMul, Nat.reduceLT, Nat.reduceLeDiff, Nat.reduceBEq, reduceCtorEq, Int.reduceAdd, Int.reduceSub, Int.reduceMul, Int.reduceLT, Int.reduceLE, Int.reduceEq, Int.reduceToNat, Int.reduceNeg, Nat.reduceBNe, Int.reduceBEq, Int.reduceBNe, forall_const, eq_self, decide_true, decide_false, w_loop, c9, e5, e6, e7, e2, y5, Int.toNat_natCast]
          have w5 := hE.write (nl' := nl) (il' := il + 1) (kv := kv2) (ka := ka2) (ks := ks2) (lp := .val (.slice (some ⟨b2, 0, none⟩) nl c2')) (held := held2) (labels := labels2) (stmts := stmts2) (by omega) (by omega) (Loops.pop _ y1 y2 y3 y4 y5 y6 y7 y8 y9) ⟨b9.1, b9.2.1⟩ b9.2.2
          have w6 := w5.write (nl' := nl) (il' := il) (kv := kv2) (ka := ka2) (ks := ks2) (lp := .val (.slice (some ⟨b2, 0, none⟩) nl c2')) (held := held2) (labels := labels2) (stmts := stmts2) hi (by omega) ((Loops.pop _ y1 y2 y3 y4 y5 y6 y7 y8 y9).frame (Frame.set _ _ (.inr rfl))) ⟨b9.1, b9.2.1⟩ b9.2.2
          clear w5
          unfold mkCells at w6
          simp only [vi, vs, vp] at w6
          refine next_c d L 3 _ w6.deck h.hL (by omega) _ fun z σF z0 z1 tF => ?_
          have hF := w6.took tF
          simp (config := { maxSteps := 4000000 }) (disch := omega) only [pvE_q, pvS_q, vi, vs, vb', vp, wrap_ok, cast_0, notL_E, notL_S, pvSs_length, List.length_map, psl_v, pslV_q, pslV2_q, cellsAll, pavQ_q, pavC_f, pavC_v, pavO_q, σset_obj, pvB, sMk6W_35, reduceIte, Nat.reduceEqDiff, Nat.reduceAdd, Nat.reduceSub, Nat.reduceMul, Nat.reduceLT, Nat.reduceLeDiff, Nat.reduceBEq, reduceCtorEq, Int.reduceAdd, Int.reduceSub, Int.reduceMul, Int.reduceLT, Int.reduceLE, Int.reduceEq, Int.reduceToNat, Int.reduceNeg, Nat.reduceBNe, Int.reduceBEq, Int.reduceBNe, forall_const, eq_self, decide_true, decide_false, w_loop]
          refine num_c z σF _ ?_
          simp (config := { maxSteps := 4000000 }) (disch := omega) only [pvE_q, pvS_q, vi, vs, vb', vp, wrap_ok, cast_0, notL_E, notL_S, pvSs_length, List.length_map, psl_v, pslV_q, pslV2_q, cellsAll, pavQ_q, pavC_f, pavC_v, pavO_q, σset_obj, pvB, sMk6W_35, reduceIte, Nat.reduceEqDiff, Nat.reduceAdd, Nat.reduceSub, Nat.reduceMul, Nat.reduceLT, Nat.reduceLeDiff, Nat.reduceBEq, reduceCtorEq, Int.reduceAdd, Int.reduceSub, Int.reduceMul, Int.reduceLT, Int.reduceLE, Int.reduceEq, Int.reduceToNat, Int.reduceNeg, Nat.reduceBNe, Int.reduceBEq, Int.reduceBNe, forall_const, eq_self, decide_true, decide_false, w_loop, pvEs]
          refine ⟨_, .refl _, ?_⟩
          have := hK [.mk 1 v [] [.mk 1 z ⟨#[]⟩ 0 []] 0 0 [] [], .mk 4 ⟨#[]⟩ [] [.mk 4 0 ⟨#[]⟩ (11 + op) [.mk 2 0 v 0 [], .mk 2 0 nm 0 []]] mx (labels + 1) (l ++ [.mk 1 v [] [.mk 4 0 ⟨#[]⟩ 1 [.mk 2 0 v 0 [], .mk 1 (1 + st) ⟨#[]⟩ 0 []]] 0 0 [] []]) []] σF (by
            have q1 := gl.d
            have q2 := gl.x
            have q3 := gl.z
            have q6 := Zb_pos D
            refine ⟨by simp, ?_, ?_, ?_⟩
            · simp only [dSs, dS, dSs_append]; omega
            · simp only [xSs, xS, dEs, dE, xSs_append]; omega
            · simp only [zSs, zS, wEs, wE, zSs_append, Zb]; omega) hF (oA.trans (tB.own.trans (mE.le.trans ((own_set σE m _).trans ((own_set _ m _).trans tF.own)))))
          simp only [Res.forget, forget, forgets, pvE, pvEs, pvS, pvSs, vi, vs, forgets_Es, forgets_Ss, forget_E, forgets_append, pvSs_append] at this ⊢
          exact this
        · obtain ⟨f1, f2, f3⟩ := h9.fresh q1
          have f5 : ¬ m = b' := fun z => f2 z.symm
          simp (config := { maxSteps := 4000000 }) (disch := omega) only [pvE_q, pvS_q, vi, vs, vb', vp, wrap_ok, cast_0, notL_E, notL_S, pvSs_length, List.length_map, psl_v, pslV_q, pslV2_q, cellsAll, pavQ_q, pavC_f, pavC_v, pavO_q, σset_obj, pvB, sMk6W_35, reduceIte, Nat.reduceEqDiff, Nat.reduceAdd, Nat.reduceSub, Nat.reduceMul, Nat.reduceLT, Nat.reduceLeDiff, Nat.reduceBEq, reduceCtorEq, Int.reduceAdd, Int.reduceSub, Int.reduceMul, Int.reduceLT, Int.reduceLE, Int.reduceEq, Int.reduceToNat, Int.reduceNeg, Nat.reduceBNe, Int.reduceBEq, Int.reduceBNe, forall_const, eq_self, decide_true, decide_false, w_loop, cN, f5]
          have hA := h9.push (kv := kv) (ka := ka) (ks := ks) (held := held) (labels := labels + 1) (stmts := stmts) (nl' := nl + 1) (by omega) (by omega) (by omega) (b := b') (c := c') (ds := List.take (nl * 1) ds ++ [vs v] ++ List.replicate ((c' - (nl + 1)) * 1) .undef) (Lp ++ [v]) f1 f2 f3 (by simp; omega) (by simp; omega) (by rw [List.append_assoc]; exact push_take x4 (by omega) v _) q3 (by omega)
          have cA := set_get (σ9.set b' (.cells (List.take (nl * 1) ds ++ [vs v] ++ List.replicate ((c' - (nl + 1)) * 1) .undef))) m (.cells (mkCells d kv V (.val (.slice (some ⟨b', 0, none⟩) (nl + 1) c')) ka A ks Sx held (labels + 1) stmts (il + 1)))
          have oA : OwnLe σ _ := oN.trans ((own_set σ9 b' (.cells (List.take (nl * 1) ds ++ [vs v] ++ List.replicate ((c' - (nl + 1)) * 1) .undef))).trans (own_set _ m (.cells (mkCells d kv V (.val (.slice (some ⟨b', 0, none⟩) (nl + 1) c')) ka A ks Sx held (labels + 1) stmts (il + 1)))))
          unfold mkCells at hA cA oA
          simp only [vi, vs, vp] at hA cA oA
          generalize (σ9.set b' _).set m _ = σA at hA cA oA ⊢
          refine next_c d L 2 σA hA.deck h.hL (by omega) _ fun op σB op0 op1 tB => ?_
          have hB := hA.took tB
          simp (config := { maxSteps := 4000000 }) (disch := omega) only [pvE_q, pvS_q, vi, vs, vb', vp, wrap_ok, cast_0, notL_E, notL_S, pvSs_length, List.length_map, psl_v, pslV_q, pslV2_q, cellsAll, pavQ_q, pavC_f, pavC_v, pavO_q, σset_obj, pvB, sMk6W_35, reduceIte, Nat.reduceEqDiff, Nat.reduceAdd, Nat.reduceSub, Nat.reduceMul, Nat.reduceLT, Nat.reduceLeDiff, Nat.reduceBEq, reduceCtorEq, Int.reduceAdd, Int.reduceSub, Int.reduceMul, Int.reduceLT, Int.reduceLE, Int.reduceEq, Int.reduceToNat, Int.reduceNeg, Nat.reduceBNe, Int.reduceBEq, Int.reduceBNe, forall_const, eq_self, decide_true, decide_false, w_loop]
          refine nameE_c v σB _ ?_
          simp (config := { maxSteps := 4000000 }) (disch := omega) only [pvE_q, pvS_q, vi, vs, vb', vp, wrap_ok, cast_0, notL_E, notL_S, pvSs_length, List.length_map, psl_v, pslV_q, pslV2_q, cellsAll, pavQ_q, pavC_f, pavC_v, pavO_q, σset_obj, pvB, sMk6W_35, reduceIte, Nat.reduceEqDiff, Nat.reduceAdd, Nat.reduceSub, Nat.reduceMul, Nat.reduceLT, Nat.reduceLeDiff, Nat.reduceBEq, reduceCtorEq, Int.reduceAdd, Int.reduceSub, Int.reduceMul, Int.reduceLT, Int.reduceLE, Int.reduceEq, Int.reduceToNat, Int.reduceNeg, Nat.reduceBNe, Int.reduceBEq, Int.reduceBNe, forall_const, eq_self, decide_true, decide_false, w_loop]
          have bb := fun K hK => bin_c (11 + op) (.mk 2 0 v 0 []) (.mk 2 0 nm 0 []) σB K hK
          simp only [pvE_q, pvEs, vi, vs] at bb
          refine bb _ ?_
          have e1 : (D : Int) + 1 - 1 = D := by omega
          simp (config := { maxSteps := 4000000 }) (disch := omega) only [pvE_q, pvS_q, vi, vs, vb', vp, wrap_ok, cast_0, notL_E, notL_S, pvSs_length, List.length_map, psl_v, pslV_q, pslV2_q, cellsAll, pavQ_q, pavC_f, pavC_v, pavO_q, σset_obj, pvB, sMk6W_35, reduceIte, Nat.reduceEqDiff, Nat.reduceAdd, Nat.reduceSub, Nat.reduceMul, Nat.reduceLT, Nat.reduceLeDiff, Nat.reduceBEq, reduceCtorEq, Int.reduceAdd, Int.reduceSub, Int.reduceMul, Int.reduceLT, Int.reduceLE, Int.reduceEq, Int.reduceToNat, Int.reduceNeg, Nat.reduceBNe, Int.reduceBEq, Int.reduceBNe, forall_const, eq_self, decide_true, decide_false, w_loop, pvEs, e1]
          refine ih (nl + 1) (il + 1) 2 σB _ hB (by omega) (by omega) (by omega) fun l kk σC gl hC mC => ?_
          have gl1 := gl.len
          simp (config := { maxSteps := 4000000 }) (disch := omega) only [pvE_q, pvS_q, vi, vs, vb', vp, wrap_ok, cast_0, notL_E, notL_S, pvSs_length, List.length_map, psl_v, pslV_q, pslV2_q, cellsAll, pavQ_q, pavC_f, pavC_v, pavO_q, σset_obj, pvB, sMk6W_35, reduceIte, Nat.reduceEqDiff, Nat.reduceAdd, Nat.reduceSub, Nat.reduceMul, Nat.reduceLT, Nat.reduceLeDiff, Nat.reduceBEq, reduceCtorEq, Int.reduceAdd, Int.reduceSub, Int.reduceMul, Int.reduceLT, Int.reduceLE, Int.reduceEq, Int.reduceToNat, Int.reduceNeg, Nat.reduceBNe, Int.reduceBEq, Int.reduceBNe, forall_const, eq_self, decide_true, decide_false, w_loop]
          refine nameE_c v σC _ ?_
          simp (config := { maxSteps := 4000000 }) (disch := omega) only [pvE_q, pvS_q, vi, vs, vb', vp, wrap_ok, cast_0, notL_E, notL_S, pvSs_length, List.length_map, psl_v, pslV_q, pslV2_q, cellsAll, pavQ_q, pavC_f, pavC_v, pavO_q, σset_obj, pvB, sMk6W_35, reduceIte, Nat.reduceEqDiff, Nat.reduceAdd, Nat.reduceSub, Nat.reduceMul, Nat.reduceLT, Nat.reduceLeDiff, Nat.reduceBEq, reduceCtorEq, Int.reduceAdd, Int.reduceSub, Int.reduceMul, Int.reduceLT, Int.reduceLE, Int.reduceEq, Int.reduceToNat, Int.reduceNeg, Nat.reduceBNe, Int.reduceBEq, Int.reduceBNe, forall_const, eq_self, decide_true, decide_false, w_loop]
          refine num_c (1 + st) σC _ ?_
          simp (config := { maxSteps := 4000000 }) (disch := omega) only [pvE_q, pvS_q, vi, vs, vb', vp, wrap_ok, cast_0, notL_E, notL_S, pvSs_length, List.length_map, psl_v, pslV_q, pslV2_q, cellsAll, pavQ_q, pavC_f, pavC_v, pavO_q, σset_obj, pvB, sMk6W_35, reduceIte, Nat.reduceEqDiff, Nat.reduceAdd, Nat.reduceSub, Nat.reduceMul, Nat.reduceLT, Nat.reduceLeDiff, Nat.reduceBEq, reduceCtorEq, Int.reduceAdd, Int.reduceSub, Int.reduceMul, Int.reduceLT, Int.reduceLE, Int.reduceEq, Int.reduceToNat, Int.reduceNeg, Nat.reduceBNe, Int.reduceBEq, Int.reduceBNe, forall_const, eq_self, decide_true, decide_false, w_loop]
          have bc := fun K hK => bin_c 1 (.mk 2 0 v 0 []) (.mk 1 (1 + st) ⟨#[]⟩ 0 []) σC K hK
          simp only [pvE_q, pvEs, vi, vs] at bc
          refine bc _ ?_
          simp (config := { maxSteps := 4000000 }) (disch := omega) only [pvE_q, pvS_q, vi, vs, vb', vp, wrap_ok, cast_0, notL_E, notL_S, pvSs_length, List.length_map, psl_v, pslV_q, pslV2_q, cellsAll, pavQ_q, pavC_f, pavC_v, pavO_q, σset_obj, pvB, sMk6W_35, reduceIte, Nat.reduceEqDiff, Nat.reduceAdd, Nat.reduceSub, Nat.reduceMul, Nat.reduceLT, Nat.reduceLeDiff, Nat.reduceBEq, reduceCtorEq, Int.reduceAdd, Int.reduceSub, Int.reduceMul, Int.reduceLT, Int.reduceLE, Int.reduceEq, Int.reduceToNat, Int.reduceNeg, Nat.reduceBNe, Int.reduceBEq, Int.reduceBNe, forall_const, eq_self, decide_true, decide_false, w_loop, pvEs]
          refine ⟨by omega, by omega, mC.owns, fun k5 σE a5 => ?_⟩
          have hE := hC.app hB.frame.own mC a5
          have mE := mC.app a5
          obtain ⟨kv2, ka2, ks2, lp2', held2, labels2, stmts2, c9, l9, b9⟩ := hE.own
          unfold mkCells at c9
          simp only [vi, vs, vp] at c9
          rcases l9 with ⟨q, _⟩ | ⟨b2, c2', ds2, Lp2, rfl, y1, y2, y3, y4, y5, y6, y7, y8, y9⟩
          · omega
          have e5 : ((((nl + 1) : Nat) : Int) - 1) = nl := by omega
          have e6 : (0 : Int) ≤ nl := by omega
          have e7 : (nl : Int) ≤ (((nl + 1) : Nat) : Int) := by omega
          have e2 : il + 1 - 1 = il := by omega
          simp (config := { maxSteps := 4000000 }) (disch := omega) only [pvE_q, pvS_q, vi, vs, vb', vp, wrap_ok, cast_0, notL_E, notL_S, pvSs_length, List.length_map, psl_v, pslV_q, pslV2_q, cellsAll, pavQ_q, pavC_f, pavC_v, pavO_q, σset_obj, pvB, sMk6W_35, reduceIte, Nat.reduceEqDiff, Nat.reduceAdd, Nat.reduceSub, Nat.reduceMul, Nat.reduceLT, Nat.reduceLeDiff, Nat.reduceBEq, reduceCtorEq, Int.reduceAdd, Int.reduceSub, Int.reduceMul, Int.reduceLT, Int.reduceLE, Int.reduceEq, Int.reduceToNat, Int.reduceNeg, Nat.reduceBNe, Int.reduceBEq, Int.reduceBNe, forall_const, eq_self, decide_true, decide_false, w_loop, c9, e5, e6, e7, e2, y5, Int.toNat_natCast]
          have w5 := hE.write (nl' := nl) (il' := il + 1) (kv := kv2) (ka := ka2) (ks := ks2) (lp := .val (.slice (some ⟨b2, 0, none⟩) nl c2')) (held := held2) (labels := labels2) (stmts := stmts2) (by omega) (by omega) (Loops.pop _ y1 y2 y3 y4 y5 y6 y7 y8 y9) ⟨b9.1, b9.2.1⟩ b9.2.2
          have w6 := w5.write (nl' := nl) (il' := il) (kv := kv2) (ka := ka2) (ks := ks2) (lp := .val (.slice (some ⟨b2, 0, none⟩) nl c2')) (held := held2) (labels := labels2) (stmts := stmts2) hi (by omega) ((Loops.pop _ y1 y2 y3 y4 y5 y6 y7 y8 y9).frame (Frame.set _ _ (.inr rfl))) ⟨b9.1, b9.2.1⟩ b9.2.2
          clear w5
          unfold mkCells at w6
          simp only [vi, vs, vp] at w6
          refine next_c d L 3 _ w6.deck h.hL (by omega) _ fun z σF z0 z1 tF => ?_
          have hF := w6.took tF
          simp (config := { maxSteps := 4000000 }) (disch := omega) only [pvE_q, pvS_q, vi, vs, vb', vp, wrap_ok, cast_0, notL_E, notL_S, pvSs_length, List.length_map, psl_v, pslV_q, pslV2_q, cellsAll, pavQ_q, pavC_f, pavC_v, pavO_q, σset_obj, pvB, sMk6W_35, reduceIte, Nat.reduceEqDiff, Nat.reduceAdd, Nat.reduceSub, Nat.reduceMul, Nat.reduceLT, Nat.reduceLeDiff, Nat.reduceBEq, reduceCtorEq, Int.reduceAdd, Int.reduceSub, Int.reduceMul, Int.reduceLT, Int.reduceLE, Int.reduceEq, Int.reduceToNat, Int.reduceNeg, Nat.reduceBNe, Int.reduceBEq, Int.reduceBNe, forall_const, eq_self, decide_true, decide_false, w_loop]
          refine num_c z σF _ ?_
          simp (config := { maxSteps := 4000000 }) (disch := omega) only [pvE_q, pvS_q, vi, vs, vb', vp, wrap_ok, cast_0, notL_E, notL_S, pvSs_length, List.length_map, psl_v, pslV_q, pslV2_q, cellsAll, pavQ_q, pavC_f, pavC_v, pavO_q, σset_obj, pvB, sMk6W_35, reduceIte, Nat.reduceEqDiff, Nat.reduceAdd, Nat.reduceSub, Nat.reduceMul, Nat.reduceLT, Nat.reduceLeDiff, Nat.reduceBEq, reduceCtorEq, Int.reduceAdd, Int.reduceSub, Int.reduceMul, Int.reduceLT, Int.reduceLE, Int.reduceEq, Int.reduceToNat, Int.reduceNeg, Nat.reduceBNe, Int.reduceBEq, Int.reduceBNe, forall_const, eq_self, decide_true, decide_false, w_loop, pvEs]
          refine ⟨_, .refl _, ?_⟩
          have := hK [.mk 1 v [] [.mk 1 z ⟨#[]⟩ 0 []] 0 0 [] [], .mk 4 ⟨#[]⟩ [] [.mk 4 0 ⟨#[]⟩ (11 + op) [.mk 2 0 v 0 [], .mk 2 0 nm 0 []]] mx (labels + 1) (l ++ [.mk 1 v [] [.mk 4 0 ⟨#[]⟩ 1 [.mk 2 0 v 0 [], .mk 1 (1 + st) ⟨#[]⟩ 0 []]] 0 0 [] []]) []] σF (by
            have q1 := gl.d
            have q2 := gl.x
            have q3 := gl.z
            have q6 := Zb_pos D
            refine ⟨by simp, ?_, ?_, ?_⟩
            · simp only [dSs, dS, dSs_append]; omega
            · simp only [xSs, xS, dEs, dE, xSs_append]; omega
            · simp only [zSs, zS, wEs, wE, zSs_append, Zb]; omega) hF (oA.trans (tB.own.trans (mE.le.trans ((own_set σE m _).trans ((own_set _ m _).trans tF.own)))))
          simp only [Res.forget, forget, forgets, pvE, pvEs, pvS, pvSs, vi, vs, forgets_Es, forgets_Ss, forget_E, forgets_append, pvSs_append] at this ⊢
          exact this
  · simp (config := { maxSteps := 4000000 }) (disch := omega) only [pvE_q, pvS_q, vi, vs, vb', vp, wrap_ok, cast_0, notL_E, notL_S, pvSs_length, List.length_map, psl_v, pslV_q, pslV2_q, cellsAll, pavQ_q, pavC_f, pavC_v, pavO_q, σset_obj, pvB, sMk6W_35, reduceIte, Nat.reduceEqDiff, Nat.reduceAdd, Nat.reduceSub, Nat.reduceMul, Nat.reduceLT, Nat.reduceLeDiff, Nat.reduceBEq, reduceCtorEq, Int.reduceAdd, Int.reduceSub, Int.reduceMul, Int.reduceLT, Int.reduceLE, Int.reduceEq, Int.reduceToNat, Int.reduceNeg, Nat.reduceBNe, Int.reduceBEq, Int.reduceBNe, forall_const, eq_self, decide_true, decide_false, w_loop, g3, c4]
    refine condition_c h4 _ fun e σ5 ge t5 => ?_
    have h5 := h4.took t5
    have fe := forget_E e
    obtain ⟨ek, en, es, eo, el⟩ := e
    simp only [pvE_q, vi, vs] at fe
    have e1 : (D : Int) + 1 - 1 = D := by omega
    simp (config := { maxSteps := 4000000 }) (disch := omega) only [pvE_q, pvS_q, vi, vs, vb', vp, wrap_ok, cast_0, notL_E, notL_S, pvSs_length, List.length_map, psl_v, pslV_q, pslV2_q, cellsAll, pavQ_q, pavC_f, pavC_v, pavO_q, σset_obj, pvB, sMk6W_35, reduceIte, Nat.reduceEqDiff, Nat.reduceAdd, Nat.reduceSub, Nat.reduceMul, Nat.reduceLT, Nat.reduceLeDiff, Nat.reduceBEq, reduceCtorEq, Int.reduceAdd, Int.reduceSub, Int.reduceMul, Int.reduceLT, Int.reduceLE, Int.reduceEq, Int.reduceToNat, Int.reduceNeg, Nat.reduceBNe, Int.reduceBEq, Int.reduceBNe, forall_const, eq_self, decide_true, decide_false, w_loop, fe, e1]
    refine ih nl (il + 1) 2 σ5 _ h5 (by omega) (by omega) (by omega) fun l kk σ6 gl h6 m6 => ?_
    obtain ⟨kv2, ka2, ks2, lp2', held2, labels2, stmts2, c9, l9, b9⟩ := h6.own
    unfold mkCells at c9
    simp only [vi, vs, vp] at c9
    have e2 : il + 1 - 1 = il := by omega
    simp (config := { maxSteps := 4000000 }) (disch := omega) only [pvE_q, pvS_q, vi, vs, vb', vp, wrap_ok, cast_0, notL_E, notL_S, pvSs_length, List.length_map, psl_v, pslV_q, pslV2_q, cellsAll, pavQ_q, pavC_f, pavC_v, pavO_q, σset_obj, pvB, sMk6W_35, reduceIte, Nat.reduceEqDiff, Nat.reduceAdd, Nat.reduceSub, Nat.reduceMul, Nat.reduceLT, Nat.reduceLeDiff, Nat.reduceBEq, reduceCtorEq, Int.reduceAdd, Int.reduceSub, Int.reduceMul, Int.reduceLT, Int.reduceLE, Int.reduceEq, Int.reduceToNat, Int.reduceNeg, Nat.reduceBNe, Int.reduceBEq, Int.reduceBNe, forall_const, eq_self, decide_true, decide_false, w_loop, c9, e2]
    have w7 := h6.write (kv := kv2) (ka := ka2) (ks := ks2) (lp := lp2') (held := held2) (labels := labels2) (stmts := stmts2) (il' := il) hi hl (l9.frame (Frame.set _ _ (.inr rfl))) ⟨b9.1, b9.2.1⟩ b9.2.2
    unfold mkCells at w7
    simp only [vi, vs, vp] at w7
    refine ⟨_, .refl _, ?_⟩
    have := hK [.mk 4 ⟨#[]⟩ [] [.mk ek en es eo el] mx (labels + 1) l []] _ (by
      have q1 := gl.d
      have q2 := gl.x
      have q3 := gl.z
      have q4 := ge.d
      have q5 := ge.w
      have q6 := Zb_pos D
      have q7 : WE 2 = 7 := rfl
      refine ⟨by simp, ?_, ?_, ?_⟩
      · simp only [dSs, dS]; omega
      · simp only [xSs, xS, dEs]; omega
      · simp only [zSs, zS, wEs, Zb]; omega) w7 (o2.trans (t3.own.trans (t4.own.trans (t5.own.trans (m6.le.trans (own_set _ _ _))))))
    simp only [Res.forget, forget, forgets, pvE, pvEs, pvS, pvSs, vi, vs, forgets_Es, forgets_Ss, forget_E, forgets_append, pvSs_append] at this ⊢
    exact this
end Go.Pv.W
