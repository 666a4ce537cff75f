/- Part 2 of the texts for: For every piece list, white space around the text or between its tokens changes nothing but lines, so TokenSpaces answers true. No condition. -/
import Derived.Shelf.Strconv.Itoa0
import Derived.Shelf.Strconv.Itoa1
import Derived.Shelf.LaysM
import Derived.Shelf.Strconv.Itoa2
import Derived.Shelf.Strconv.Itoa3
import Derived.Shelf.Slices.Turned
import Derived.Test.YtcnmejahighkfaaDoorProg
import Derived.WalkKit
import Derived.WalkSmall
import Derived.Lib.AppendIntMem
import Derived.Lib.LaidTab
import Derived.MapKept
import Derived.Carry
import Derived.KernelRfl
import Derived.Below
import Derived.Deep.Draws
import Derived.Deep.AppendLies
import Derived.Maps.AppendAt
import Derived.OwnWalk
import Derived.Laws.BytesArg
import Derived.Laws.MakeOwn
import Derived.Laws.OwnMore
import Derived.Deep.OwnRows
import Derived.Tactics
import Derived.Lib.ConvBytes
import Derived.Laws.Slices
import Derived.RowKit3
import Derived.Deep.LoopGhost
import Derived.Deep.QuietTactic
import Derived.BigQuiet
import Derived.WideLaws
import Derived.Deep.DeepCutAuto
import Derived.Deep.CutBlock
import Derived.Deep.RegionHeld3
import Derived.Laws.Rows
import Derived.Lib.AppendStr
import Derived.ArgAppend
import Derived.Laws.IdiomCopy
import Derived.OrdersHeld
import Derived.Laws.BitsLemmas
import Derived.RowKit
import Derived.Test.YtcnmejahighkfaaDoorWWords
import Derived.Test.YtcnmejahighkfaaDoorWLast
import Derived.Test.YtcnmejahighkfaaDoorWTab
import Derived.Test.YtcnmejahighkfaaDoorWFour
import Derived.Test.YtcnmejahighkfaaDoorWQPut
import Derived.Test.YtcnmejahighkfaaDoorWApart
import Derived.Test.YtcnmejahighkfaaDoorWArr
import Derived.Test.YtcnmejahighkfaaDoorWZeros
import Derived.Test.YtcnmejahighkfaaDoorWFoot
import Derived.Test.YtcnmejahighkfaaDoorWKept
import Derived.Test.YtcnmejahighkfaaDoorWShare
import Derived.Test.YtcnmejahighkfaaDoorWN
import Derived.Test.YtcnmejahighkfaaDoorWFootNe
import Derived.Test.YtcnmejahighkfaaDoorWAt
import Derived.Test.YtcnmejahighkfaaDoorWEqStruct
import Derived.Test.YtcnmejahighkfaaDoorWRepsOne
import Derived.Test.YtcnmejahighkfaaDoorWInv
import Derived.Test.YtcnmejahighkfaaDoorWInvWords
import Derived.Test.YtcnmejahighkfaaDoorWGuard
import Derived.Test.YtcnmejahighkfaaDoorWNEv
import Derived.Test.YtcnmejahighkfaaDoorWMore
import Derived.OpenShut
import Derived.Lib.ItoaMem
import Derived.Test.YtcnmejahighkfaaDoorMgTokenSpaces1
-- Pf23
namespace Go.Proofs.YtcnmejahighkfaaDoor.P
open Go.RowKit Go.Proofs.YtcnmejahighkfaaDoorW.PrintWords Go.Proofs.YtcnmejahighkfaaDoorW.PrintLast Go.Proofs.YtcnmejahighkfaaDoorW.PrintMore
attribute [local go_sem] max2_int min2_int max_two min_two max_three min_three max_four min_four   -- for this text's walks alone
set_option linter.unusedVariables false
set_option linter.unusedSimpArgs false

/-! ### timeboundref02_Scan: function 23 -/
mutual
def timeboundref02_Scan.l0 : Nat → ByteArray → List (S59) → Int → Int → Option ((List (S59)) × Int × Int)
  | 0, _, _, _, _ => none
  | k + 1, x0, x5, x6, x7 => if x7 < (x0.size : Int) then (if 0 ≤ x7 then (if (bt x0 x7) = 10 then (timeboundref02_Scan.l0 k x0 x5 (wrap64 (x6 + 1)) (wrap64 (x7 + 1))) else (if (bt x0 x7) = 32 then (timeboundref02_Scan.j1 k x0 x5 x6 x7 (bt x0 x7) x7 true) else (timeboundref02_Scan.j1 k x0 x5 x6 x7 (bt x0 x7) x7 ((bt x0 x7) == 9)))) else (none)) else (some (x5, 0, 0))
def timeboundref02_Scan.j1 : Nat → ByteArray → List (S59) → Int → Int → Int → Int → Bool → Option ((List (S59)) × Int × Int)
  | 0, _, _, _, _, _, _, _ => none
  | k + 1, x0, x5, x6, x7, x8, x9, x47 => if x47 = true then (timeboundref02_Scan.l0 k x0 x5 x6 (wrap64 (x7 + 1))) else ((timeboundref02_letter.f x8).bind fun t140 => (if t140 = true then (timeboundref02_Scan.l1 k x0 x5 x6 x7 x9) else ((timeboundref02_digit.f x8).bind fun t149 => (if t149 = true then (timeboundref02_Scan.l2 k x0 x5 x6 x7 x9) else (if 0 ≤ x7 then (if x7 ≤ (x0.size : Int) then ((timeboundref02_sign.f k (x0.extract (x7 : Int).toNat x0.size)).bind fun t159 => (if t159.toList = ([] : List UInt8) then (some (([] : List (S59)), x6, 1)) else (if x5.length < 3518437208883 then (timeboundref02_Scan.l0 k x0 (x5 ++ [(⟨3, 0, x6, t159⟩ : S59)]) x6 (wrap64 (x7 + (t159.size : Int)))) else (none)))) else (none)) else (none))))))
def timeboundref02_Scan.l1 : Nat → ByteArray → List (S59) → Int → Int → Int → Option ((List (S59)) × Int × Int)
  | 0, _, _, _, _, _ => none
  | k + 1, x0, x5, x6, x7, x9 => if x9 < (x0.size : Int) then (if 0 ≤ x9 then ((timeboundref02_letter.f (bt x0 x9)).bind fun t141 => (if t141 = true then (timeboundref02_Scan.l1 k x0 x5 x6 x7 (wrap64 (x9 + 1))) else ((timeboundref02_digit.f (bt x0 x9)).bind fun t142 => (if t142 = true then (timeboundref02_Scan.l1 k x0 x5 x6 x7 (wrap64 (x9 + 1))) else (if (wrap64 (x9 - x7)) > 12 then (some (([] : List (S59)), x6, 1)) else (if 0 ≤ x7 then (if x7 ≤ x9 then (if x9 ≤ (x0.size : Int) then (if x5.length < 3518437208883 then (timeboundref02_Scan.l0 k x0 (x5 ++ [(⟨1, 0, x6, x0.extract (x7 : Int).toNat (x9 : Int).toNat⟩ : S59)]) x6 x9) else (none)) else (none)) else (none)) else (none))))))) else (none)) else (if (wrap64 (x9 - x7)) > 12 then (some (([] : List (S59)), x6, 1)) else (if 0 ≤ x7 then (if x7 ≤ x9 then (if x9 ≤ (x0.size : Int) then (if x5.length < 3518437208883 then (timeboundref02_Scan.l0 k x0 (x5 ++ [(⟨1, 0, x6, x0.extract (x7 : Int).toNat (x9 : Int).toNat⟩ : S59)]) x6 x9) else (none)) else (none)) else (none)) else (none)))
def timeboundref02_Scan.l2 : Nat → ByteArray → List (S59) → Int → Int → Int → Option ((List (S59)) × Int × Int)
  | 0, _, _, _, _, _ => none
  | k + 1, x0, x5, x6, x7, x9 => if x9 < (x0.size : Int) then (if 0 ≤ x9 then ((timeboundref02_digit.f (bt x0 x9)).bind fun t150 => (if t150 = true then (timeboundref02_Scan.l2 k x0 x5 x6 x7 (wrap64 (x9 + 1))) else (if 0 ≤ x7 then (if x7 ≤ x9 then (if x9 ≤ (x0.size : Int) then ((timeboundref02_value.f k (x0.extract (x7 : Int).toNat (x9 : Int).toNat)).bind fun t151 => (if t151 < 0 then (some (([] : List (S59)), x6, 1)) else (if x5.length < 3518437208883 then (timeboundref02_Scan.l0 k x0 (x5 ++ [(⟨2, t151, x6, (⟨#[]⟩ : ByteArray)⟩ : S59)]) x6 x9) else (none)))) else (none)) else (none)) else (none)))) else (none)) else (if 0 ≤ x7 then (if x7 ≤ x9 then (if x9 ≤ (x0.size : Int) then ((timeboundref02_value.f k (x0.extract (x7 : Int).toNat (x9 : Int).toNat)).bind fun t155 => (if t155 < 0 then (some (([] : List (S59)), x6, 1)) else (if x5.length < 3518437208883 then (timeboundref02_Scan.l0 k x0 (x5 ++ [(⟨2, t155, x6, (⟨#[]⟩ : ByteArray)⟩ : S59)]) x6 x9) else (none)))) else (none)) else (none)) else (none))
end
def timeboundref02_Scan.f (k : Nat) (a0 : ByteArray) : Option ((List (S59)) × Int × Int) := if (a0.size : Int) > 8192 then (some (([] : List (S59)), 0, 4)) else (timeboundref02_Scan.l0 k a0 ([] : List (S59)) 1 0)
theorem timeboundref02_Scan.mono_l : ∀ k, (∀ y0 y1 y2 y3, LeO (timeboundref02_Scan.l0 k y0 y1 y2 y3) (timeboundref02_Scan.l0 (k + 1) y0 y1 y2 y3)) ∧ (∀ y0 y1 y2 y3 y4 y5 y6, LeO (timeboundref02_Scan.j1 k y0 y1 y2 y3 y4 y5 y6) (timeboundref02_Scan.j1 (k + 1) y0 y1 y2 y3 y4 y5 y6)) ∧ (∀ y0 y1 y2 y3 y4, LeO (timeboundref02_Scan.l1 k y0 y1 y2 y3 y4) (timeboundref02_Scan.l1 (k + 1) y0 y1 y2 y3 y4)) ∧ (∀ y0 y1 y2 y3 y4, LeO (timeboundref02_Scan.l2 k y0 y1 y2 y3 y4) (timeboundref02_Scan.l2 (k + 1) y0 y1 y2 y3 y4))
  | 0 => ⟨fun _ _ _ _ r h => by simp [timeboundref02_Scan.l0] at h, fun _ _ _ _ _ _ _ r h => by simp [timeboundref02_Scan.j1] at h, fun _ _ _ _ _ r h => by simp [timeboundref02_Scan.l1] at h, fun _ _ _ _ _ r h => by simp [timeboundref02_Scan.l2] at h⟩
  | k + 1 => by
    obtain ⟨ih0, ih1, ih2, ih3⟩ := timeboundref02_Scan.mono_l k
    refine ⟨?_, ?_, ?_, ?_⟩
    · intro y0 y1 y2 y3
      unfold timeboundref02_Scan.l0
      repeat' first
      | (with_reducible exact ih0 _ _ _ _)
      | (with_reducible exact ih1 _ _ _ _ _ _ _)
      | (with_reducible exact ih2 _ _ _ _ _)
      | (with_reducible exact ih3 _ _ _ _ _)
      | (with_reducible exact timeboundref02_sign.mono _ _)
      | (with_reducible exact timeboundref02_value.mono _ _)
      | (with_reducible exact LeO.refl _)
      | (with_reducible exact LeO.none _)
      | (with_reducible refine LeO.ite ?_ ?_)
      | (with_reducible refine LeO.bind ?_ (fun _ => ?_))
      | exact ih0 _ _ _ _
      | exact ih1 _ _ _ _ _ _ _
      | exact ih2 _ _ _ _ _
      | exact ih3 _ _ _ _ _
      | exact timeboundref02_sign.mono _ _
      | exact timeboundref02_value.mono _ _
      | exact LeO.none _
      | refine LeO.ite ?_ ?_
      | refine LeO.bind ?_ (fun _ => ?_)
    · intro y0 y1 y2 y3 y4 y5 y6
      unfold timeboundref02_Scan.j1
      repeat' first
      | (with_reducible exact ih0 _ _ _ _)
      | (with_reducible exact ih1 _ _ _ _ _ _ _)
      | (with_reducible exact ih2 _ _ _ _ _)
      | (with_reducible exact ih3 _ _ _ _ _)
      | (with_reducible exact timeboundref02_sign.mono _ _)
      | (with_reducible exact timeboundref02_value.mono _ _)
      | (with_reducible exact LeO.refl _)
      | (with_reducible exact LeO.none _)
      | (with_reducible refine LeO.ite ?_ ?_)
      | (with_reducible refine LeO.bind ?_ (fun _ => ?_))
      | exact ih0 _ _ _ _
      | exact ih1 _ _ _ _ _ _ _
      | exact ih2 _ _ _ _ _
      | exact ih3 _ _ _ _ _
      | exact timeboundref02_sign.mono _ _
      | exact timeboundref02_value.mono _ _
      | exact LeO.none _
      | refine LeO.ite ?_ ?_
      | refine LeO.bind ?_ (fun _ => ?_)
    · intro y0 y1 y2 y3 y4
      unfold timeboundref02_Scan.l1
      repeat' first
      | (with_reducible exact ih0 _ _ _ _)
      | (with_reducible exact ih1 _ _ _ _ _ _ _)
      | (with_reducible exact ih2 _ _ _ _ _)
      | (with_reducible exact ih3 _ _ _ _ _)
      | (with_reducible exact timeboundref02_sign.mono _ _)
      | (with_reducible exact timeboundref02_value.mono _ _)
      | (with_reducible exact LeO.refl _)
      | (with_reducible exact LeO.none _)
      | (with_reducible refine LeO.ite ?_ ?_)
      | (with_reducible refine LeO.bind ?_ (fun _ => ?_))
      | exact ih0 _ _ _ _
      | exact ih1 _ _ _ _ _ _ _
      | exact ih2 _ _ _ _ _
      | exact ih3 _ _ _ _ _
      | exact timeboundref02_sign.mono _ _
      | exact timeboundref02_value.mono _ _
      | exact LeO.none _
      | refine LeO.ite ?_ ?_
      | refine LeO.bind ?_ (fun _ => ?_)
    · intro y0 y1 y2 y3 y4
      unfold timeboundref02_Scan.l2
      repeat' first
      | (with_reducible exact ih0 _ _ _ _)
      | (with_reducible exact ih1 _ _ _ _ _ _ _)
      | (with_reducible exact ih2 _ _ _ _ _)
      | (with_reducible exact ih3 _ _ _ _ _)
      | (with_reducible exact timeboundref02_sign.mono _ _)
      | (with_reducible exact timeboundref02_value.mono _ _)
      | (with_reducible exact LeO.refl _)
      | (with_reducible exact LeO.none _)
      | (with_reducible refine LeO.ite ?_ ?_)
      | (with_reducible refine LeO.bind ?_ (fun _ => ?_))
      | exact ih0 _ _ _ _
      | exact ih1 _ _ _ _ _ _ _
      | exact ih2 _ _ _ _ _
      | exact ih3 _ _ _ _ _
      | exact timeboundref02_sign.mono _ _
      | exact timeboundref02_value.mono _ _
      | exact LeO.none _
      | refine LeO.ite ?_ ?_
      | refine LeO.bind ?_ (fun _ => ?_)
theorem timeboundref02_Scan.mono : ∀ a0 k, LeO (timeboundref02_Scan.f k a0) (timeboundref02_Scan.f (k + 1) a0) := by
  intro a0 k
  obtain ⟨ih0, ih1, ih2, ih3⟩ := timeboundref02_Scan.mono_l k
  unfold timeboundref02_Scan.f
  repeat' first
      | (with_reducible exact ih0 _ _ _ _)
      | (with_reducible exact ih1 _ _ _ _ _ _ _)
      | (with_reducible exact ih2 _ _ _ _ _)
      | (with_reducible exact ih3 _ _ _ _ _)
      | (with_reducible exact timeboundref02_sign.mono _ _)
      | (with_reducible exact timeboundref02_value.mono _ _)
      | (with_reducible exact LeO.refl _)
      | (with_reducible exact LeO.none _)
      | (with_reducible refine LeO.ite ?_ ?_)
      | (with_reducible refine LeO.bind ?_ (fun _ => ?_))
      | exact ih0 _ _ _ _
      | exact ih1 _ _ _ _ _ _ _
      | exact ih2 _ _ _ _ _
      | exact ih3 _ _ _ _ _
      | exact timeboundref02_sign.mono _ _
      | exact timeboundref02_value.mono _ _
      | exact LeO.none _
      | refine LeO.ite ?_ ?_
      | refine LeO.bind ?_ (fun _ => ?_)
set_option maxHeartbeats 8000000 in
set_option maxRecDepth 100000 in
theorem timeboundref02_Scan.calls (k : Nat) (a0 : ByteArray) (r1 : List (S59)) (r2 : Int) (r3 : Int) (w : World) (h : timeboundref02_Scan.f k a0 = some (r1, r2, r3)) :
    Calls Tryd.prog 23 #[.string a0] w fun e w' => ∃ v0_ : Value, e = .returned (.tuple #[v0_, .int .i64 r2, .int .i64 r3]) ∧ Kd.R k59 59 w' w.heap.size (fun _ => True) v0_ r1 ∧ Below w.heap.size w w' := by
  have hu59 := Tryd.underlying59
  have HB := Aside0.mk (Below.refl w.heap.size w)
  have H : (if (a0.size : Int) > 8192 then (some (([] : List (S59)), 0, 4)) else (timeboundref02_Scan.l0 k a0 ([] : List (S59)) 1 0)) = some (r1, r2, r3) := h
  clear h
  by_cases c2 : (a0.size : Int) > 8192
  · rw [if_pos c2] at H
    have c2b0 : decide (8192 < (a0.size : Int)) = true := decide_eq_true c2
    have c2b1 : decide (8192 < a0.size) = true := decide_eq_true (by omega)
    clear c2
    simp only [Option.some.injEq, Prod.mk.injEq] at H
    obtain ⟨rfl, rfl, rfl⟩ := H
    go_enter Tryd.func23, Tryd.ntmps23
    go_wp2
    go_ret3
    exact ⟨_, by first | rfl | (simp [errW_none, errW_some] <;> rfl) | (simp [*, errW_none, errW_some] <;> rfl), by first | exact Kd.R_nil _ _ _ _ _ | exact Kd.N_nil _ _ _ _ _ | exact Kd.V_nil _ _ _ _ _ | exact Kd.Q_nil _ _ _ _ _ | exact Kd.S_nil _ _ _ _ _, by repeat (first | (with_reducible first | exact HB.out | apply below_alloc | apply pw_below_drewN | apply below_drew1) | exact HB.out)⟩
  · rw [if_neg c2] at H
    have c2b0 : decide (8192 < (a0.size : Int)) = false := decide_eq_false c2
    have c2b1 : decide (8192 < a0.size) = false := decide_eq_false (by omega)
    clear c2
    have H' := Aside0.mk H
    clear H
    go_enter Tryd.func23, Tryd.ntmps23
    go_wp2
    go_loopg [5, 6, 7] k (fun kq v5 v6 v7 w' => ∃ (x5_1 : List (S59)) (x6_1 : Int) (x7_1 : Int), v6 = .int .i64 x6_1 ∧ v7 = .int .i64 x7_1 ∧ Aside0 (timeboundref02_Scan.l0 kq a0 x5_1 x6_1 x7_1 = some (r1, r2, r3)) ∧ Aside0 (kq ≤ k) ∧ Aside0 (Kd.R k59 59 w' w.heap.size (fun _ => True) v5 x5_1) ∧ Aside0 (Below w.heap.size w w'))
    case atStart => exact ⟨(([] : List (S59))), (1), (0), (by first | rfl | (simp; done) | (simp [*]; done)), (by first | rfl | (simp; done) | (simp [*]; done)), H', ⟨Nat.le_refl _⟩, ⟨by first | exact Kd.R_nil _ _ _ _ _ | exact Kd.N_nil _ _ _ _ _ | exact Kd.V_nil _ _ _ _ _ | exact Kd.Q_nil _ _ _ _ _ | exact Kd.S_nil _ _ _ _ _⟩, ⟨by repeat (first | (with_reducible first | exact HB.out | apply below_alloc | apply pw_below_drewN | apply below_drew1) | exact HB.out)⟩⟩
    case round =>
      clear H'
      try clear c2
      try clear c2b0
      try clear c2b1
      try clear p2
      obtain ⟨x5_1, x6_1, x7_1, rfl, rfl, HA, HK1, HO_5, HB⟩ := hrel
      cases gk with
      | zero => exact absurd HA.out (by simp [timeboundref02_Scan.l0])
      | succ k1 =>
        have H := HA.out
        clear HA
        simp only [timeboundref02_Scan.l0] at H
        by_cases c3 : x7_1 < (a0.size : Int)
        · rw [if_pos c3] at H
          have c3b0 : decide (x7_1 < (a0.size : Int)) = true := decide_eq_true c3
          clear c3
          by_cases c4 : 0 ≤ x7_1
          · rw [if_pos c4] at H
            have c4b0 : decide (0 ≤ x7_1) = true := decide_eq_true c4
            clear c4
            by_cases c6 : (bt a0 x7_1) = 10
            · rw [if_pos c6] at H
              have c6b0 : ((bt a0 x7_1) == 10) = true := beq_iff_eq.mpr c6
              have c6b1 : ((bt a0 x7_1) != 10) = false := bne_eq_false_iff_eq.mpr c6
              clear c6
              have H' := Aside0.mk H
              clear H
              have p5 : 0 ≤ (x7_1 : Int) := of_decide_eq_true (by first | (with_reducible assumption) | assumption)
              have q5 : x7_1 < (a0.size : Int) := of_decide_eq_true (by first | (with_reducible assumption) | assumption)
              have hx5 := bt_at a0 x7_1
              replace p5 := eq_true p5
              replace q5 := eq_true q5
              go_wp2
              go_roundg k1
              case measure => have := HK1.out; omega
              case rel => exact ⟨(x5_1), (wrap64 (x6_1 + 1)), (wrap64 (x7_1 + 1)), (by first | rfl | (simp; done) | (simp [*]; done)), (by first | rfl | (simp; done) | (simp [*]; done)), H', ⟨by have := HK1.out; omega⟩, ⟨by (with_reducible repeat (first | apply Kd.R_alloc | apply Kd.R_drewN | apply Kd.R_drew)); exact HO_5.out⟩, ⟨by repeat (first | (with_reducible first | exact HB.out | apply below_alloc | apply pw_below_drewN | apply below_drew1) | exact HB.out)⟩⟩
            · rw [if_neg c6] at H
              have c6b0 : ((bt a0 x7_1) == 10) = false := beq_eq_false_iff_ne.mpr c6
              have c6b1 : ((bt a0 x7_1) != 10) = true := bne_iff_ne.mpr c6
              have HC7 := Aside0.mk H
              clear H
              have p5 : 0 ≤ (x7_1 : Int) := of_decide_eq_true (by first | (with_reducible assumption) | assumption)
              have q5 : x7_1 < (a0.size : Int) := of_decide_eq_true (by first | (with_reducible assumption) | assumption)
              have hx5 := bt_at a0 x7_1
              replace p5 := eq_true p5
              replace q5 := eq_true q5
              go_upto_region 17 with (fail)
              go_cut [47] (fun v47 wc => ∃ (kq : Nat) (x47_6 : Bool), v47 = .bool x47_6 ∧ Aside0 (timeboundref02_Scan.j1 kq a0 x5_1 x6_1 x7_1 (bt a0 x7_1) x7_1 x47_6 = some (r1, r2, r3)) ∧ Aside0 (kq ≤ k1) ∧ Aside0 (Kd.R k59 59 wc w.heap.size (fun _ => True) u5 x5_1) ∧ Aside0 (Below w.heap.size w wc))
              case first =>
                have H := HC7.out
                clear HC7
                by_cases c8 : (bt a0 x7_1) = 32
                · rw [if_pos c8] at H
                  have c8b0 : ((bt a0 x7_1) == 32) = true := beq_iff_eq.mpr c8
                  have c8b1 : ((bt a0 x7_1) != 32) = false := bne_eq_false_iff_eq.mpr c8
                  clear c8
                  (first | rw [c8b0] | (simp only [i64_w, i32_w]; rw [c8b0]) | skip)
                  have H' := Aside0.mk H
                  clear H
                  go_wp2
                  go_meet
                  case rel => exact ⟨_, (true), (by first | rfl | (simp; done) | (simp [*]; done)), H', ⟨by have := HK1.out; first | omega | exact Nat.le_refl _⟩, ⟨by (with_reducible repeat (first | apply Kd.R_alloc | apply Kd.R_drewN | apply Kd.R_drew)); exact HO_5.out⟩, ⟨by repeat (first | (with_reducible first | exact HB.out | apply below_alloc | apply pw_below_drewN | apply below_drew1) | exact HB.out)⟩⟩
                · rw [if_neg c8] at H
                  have c8b0 : ((bt a0 x7_1) == 32) = false := beq_eq_false_iff_ne.mpr c8
                  have c8b1 : ((bt a0 x7_1) != 32) = true := bne_iff_ne.mpr c8
                  (first | rw [c8b0] | (simp only [i64_w, i32_w]; rw [c8b0]) | skip)
                  have H' := Aside0.mk H
                  clear H
                  go_wp2
                  go_meet
                  case rel => exact ⟨_, (((bt a0 x7_1) == 9)), (by first | rfl | (simp; done) | (simp [*]; done)), H', ⟨by have := HK1.out; first | omega | exact Nat.le_refl _⟩, ⟨by (with_reducible repeat (first | apply Kd.R_alloc | apply Kd.R_drewN | apply Kd.R_drew)); exact HO_5.out⟩, ⟨by repeat (first | (with_reducible first | exact HB.out | apply below_alloc | apply pw_below_drewN | apply below_drew1) | exact HB.out)⟩⟩
              case rest =>
                clear HC7
                try clear c2
                try clear c2b0
                try clear c2b1
                try clear p2
                try clear c3
                try clear c3b0
                try clear c4
                try clear c4b0
                try clear p5
                try clear q5
                try clear hx5
                try clear c6
                try clear c6b0
                try clear c6b1
                try clear p6
                try clear c8
                try clear c8b0
                try clear c8b1
                try clear p2
                try clear p5
                try clear q5
                obtain ⟨kq, x47_6, rfl, HA, HJ6, HO_5, HB⟩ := hcut
                cases kq with
                | zero => exact absurd HA.out (by simp [timeboundref02_Scan.j1])
                | succ kj6 =>
                  have H := HA.out
                  clear HA
                  simp only [timeboundref02_Scan.j1] at H
                  by_cases c9 : x47_6 = true
                  · subst c9
                    have H1 : (timeboundref02_Scan.l0 kj6 a0 x5_1 x6_1 (wrap64 (x7_1 + 1))) = some (r1, r2, r3) := by rw [if_pos rfl] at H; exact H
                    clear H
                    have H := H1
                    clear H1
                    have H' := Aside0.mk H
                    clear H
                    go_wp2
                    go_roundg kj6
                    case measure => have := HK1.out; have := HJ6.out; omega
                    case rel => exact ⟨(x5_1), (x6_1), (wrap64 (x7_1 + 1)), (by first | rfl | (simp; done) | (simp [*]; done)), (by first | rfl | (simp; done) | (simp [*]; done)), H', ⟨by have := HK1.out; have := HJ6.out; omega⟩, ⟨by (with_reducible repeat (first | apply Kd.R_alloc | apply Kd.R_drewN | apply Kd.R_drew)); exact HO_5.out⟩, ⟨by repeat (first | (with_reducible first | exact HB.out | apply below_alloc | apply pw_below_drewN | apply below_drew1) | exact HB.out)⟩⟩
                  · replace c9 := Bool.eq_false_iff.mpr c9
                    subst c9
                    have H1 : ((timeboundref02_letter.f (bt a0 x7_1)).bind fun t140 => (if t140 = true then (timeboundref02_Scan.l1 kj6 a0 x5_1 x6_1 x7_1 x7_1) else ((timeboundref02_digit.f (bt a0 x7_1)).bind fun t149 => (if t149 = true then (timeboundref02_Scan.l2 kj6 a0 x5_1 x6_1 x7_1 x7_1) else (if 0 ≤ x7_1 then (if x7_1 ≤ (a0.size : Int) then ((timeboundref02_sign.f kj6 (a0.extract (x7_1 : Int).toNat a0.size)).bind fun t159 => (if t159.toList = ([] : List UInt8) then (some (([] : List (S59)), x6_1, 1)) else (if x5_1.length < 3518437208883 then (timeboundref02_Scan.l0 kj6 a0 (x5_1 ++ [(⟨3, 0, x6_1, t159⟩ : S59)]) x6_1 (wrap64 (x7_1 + (t159.size : Int)))) else (none)))) else (none)) else (none)))))) = some (r1, r2, r3) := by rw [if_neg (show ¬ (false = true) by decide)] at H; exact H
                    clear H
                    have H := H1
                    clear H1
                    replace H := Option.bind_eq_some_iff.mp H
                    obtain ⟨t140, A100, H⟩ := H
                    replace H : (if t140 = true then (timeboundref02_Scan.l1 kj6 a0 x5_1 x6_1 x7_1 x7_1) else ((timeboundref02_digit.f (bt a0 x7_1)).bind fun t149 => (if t149 = true then (timeboundref02_Scan.l2 kj6 a0 x5_1 x6_1 x7_1 x7_1) else (if 0 ≤ x7_1 then (if x7_1 ≤ (a0.size : Int) then ((timeboundref02_sign.f kj6 (a0.extract (x7_1 : Int).toNat a0.size)).bind fun t159 => (if t159.toList = ([] : List UInt8) then (some (([] : List (S59)), x6_1, 1)) else (if x5_1.length < 3518437208883 then (timeboundref02_Scan.l0 kj6 a0 (x5_1 ++ [(⟨3, 0, x6_1, t159⟩ : S59)]) x6_1 (wrap64 (x7_1 + (t159.size : Int)))) else (none)))) else (none)) else (none))))) = some (r1, r2, r3) := H
                    have A10 := Aside0.mk A100
                    clear A100
                    by_cases c11 : t140 = true
                    · subst c11
                      have H1 : (timeboundref02_Scan.l1 kj6 a0 x5_1 x6_1 x7_1 x7_1) = some (r1, r2, r3) := by rw [if_pos rfl] at H; exact H
                      clear H
                      have H := H1
                      clear H1
                      have H' := Aside0.mk H
                      clear H
                      go_wp2_with (first | ((with_reducible refine gate_callee (f := 48) rfl ?_); refine goesL_ (some 58) rfl rfl Tryd.func48 (by kernel_rfl) rfl #[.int .u8 (bt a0 x7_1)] rfl (by (try simp only [List.map_toArray, List.map_cons, List.map_nil]); first | done | rfl | (simp only [List.length_drop, List.length_take]; rfl)) ?_; (with_reducible refine (timeboundref02_letter.calls (bt a0 x7_1) true _ A10.out).mono ?_); rintro e w' ⟨rfl, ⟨nd, rfl⟩⟩; refine ⟨_, rfl, ?_⟩))
                      go_loopg [9] kj6 (fun kq v9 w' => ∃ (x9_3 : Int), v9 = .int .i64 x9_3 ∧ Aside0 (timeboundref02_Scan.l1 kq a0 x5_1 x6_1 x7_1 x9_3 = some (r1, r2, r3)) ∧ Aside0 (kq ≤ kj6) ∧ Aside0 (Kd.R k59 59 w' w.heap.size (fun _ => True) u5 x5_1) ∧ Aside0 (Below w.heap.size w w'))
                      case atStart => exact ⟨(x7_1), (by first | rfl | (simp; done) | (simp [*]; done)), H', ⟨Nat.le_refl _⟩, ⟨by (with_reducible repeat (first | apply Kd.R_alloc | apply Kd.R_drewN | apply Kd.R_drew)); exact HO_5.out⟩, ⟨by repeat (first | (with_reducible first | exact HB.out | apply below_alloc | apply pw_below_drewN | apply below_drew1) | exact HB.out)⟩⟩
                      case round =>
                        clear H'
                        try clear c1
                        try clear c2
                        try clear c2b0
                        try clear c2b1
                        try clear p2
                        try clear c3
                        try clear c3b0
                        try clear c4
                        try clear c4b0
                        try clear p5
                        try clear q5
                        try clear hx5
                        try clear c6
                        try clear c6b0
                        try clear c6b1
                        try clear p6
                        try clear c8
                        try clear c8b0
                        try clear c8b1
                        try clear c9
                        try clear c11
                        try clear p2
                        try clear p5
                        try clear p6
                        try clear q5
                        obtain ⟨x9_3, rfl, HA, HK3, HO_5, HB⟩ := hrel
                        cases gk with
                        | zero => exact absurd HA.out (by simp [timeboundref02_Scan.l1])
                        | succ k3 =>
                          have H := HA.out
                          clear HA
                          simp only [timeboundref02_Scan.l1] at H
                          by_cases c12 : x9_3 < (a0.size : Int)
                          · rw [if_pos c12] at H
                            have c12b0 : decide (x9_3 < (a0.size : Int)) = true := decide_eq_true c12
                            clear c12
                            by_cases c13 : 0 ≤ x9_3
                            · rw [if_pos c13] at H
                              have c13b0 : decide (0 ≤ x9_3) = true := decide_eq_true c13
                              clear c13
                              replace H := Option.bind_eq_some_iff.mp H
                              obtain ⟨t141, A150, H⟩ := H
                              replace H : (if t141 = true then (timeboundref02_Scan.l1 k3 a0 x5_1 x6_1 x7_1 (wrap64 (x9_3 + 1))) else ((timeboundref02_digit.f (bt a0 x9_3)).bind fun t142 => (if t142 = true then (timeboundref02_Scan.l1 k3 a0 x5_1 x6_1 x7_1 (wrap64 (x9_3 + 1))) else (if (wrap64 (x9_3 - x7_1)) > 12 then (some (([] : List (S59)), x6_1, 1)) else (if 0 ≤ x7_1 then (if x7_1 ≤ x9_3 then (if x9_3 ≤ (a0.size : Int) then (if x5_1.length < 3518437208883 then (timeboundref02_Scan.l0 k3 a0 (x5_1 ++ [(⟨1, 0, x6_1, a0.extract (x7_1 : Int).toNat (x9_3 : Int).toNat⟩ : S59)]) x6_1 x9_3) else (none)) else (none)) else (none)) else (none)))))) = some (r1, r2, r3) := H
                              have A15 := Aside0.mk A150
                              clear A150
                              by_cases c16 : t141 = true
                              · subst c16
                                have H1 : (timeboundref02_Scan.l1 k3 a0 x5_1 x6_1 x7_1 (wrap64 (x9_3 + 1))) = some (r1, r2, r3) := by rw [if_pos rfl] at H; exact H
                                clear H
                                have H := H1
                                clear H1
                                have H' := Aside0.mk H
                                clear H
                                have p14 : 0 ≤ (x9_3 : Int) := of_decide_eq_true (by first | (with_reducible assumption) | assumption)
                                have q14 : x9_3 < (a0.size : Int) := of_decide_eq_true (by first | (with_reducible assumption) | assumption)
                                have hx14 := bt_at a0 x9_3
                                replace p14 := eq_true p14
                                replace q14 := eq_true q14
                                go_wp2_with (first | (go_at_call 48; (with_reducible refine (timeboundref02_letter.calls (bt a0 x9_3) true _ A15.out).mono ?_); rintro e w' ⟨rfl, ⟨nd, rfl⟩⟩))
                                go_roundg k3
                                case measure => have := HK1.out; have := HJ6.out; have := HK3.out; omega
                                case rel => exact ⟨(wrap64 (x9_3 + 1)), (by first | rfl | (simp; done) | (simp [*]; done)), H', ⟨by have := HK1.out; have := HJ6.out; have := HK3.out; omega⟩, ⟨by (with_reducible repeat (first | apply Kd.R_alloc | apply Kd.R_drewN | apply Kd.R_drew)); exact HO_5.out⟩, ⟨by repeat (first | (with_reducible first | exact HB.out | apply below_alloc | apply pw_below_drewN | apply below_drew1) | exact HB.out)⟩⟩
                              · replace c16 := Bool.eq_false_iff.mpr c16
                                subst c16
                                have H1 : ((timeboundref02_digit.f (bt a0 x9_3)).bind fun t142 => (if t142 = true then (timeboundref02_Scan.l1 k3 a0 x5_1 x6_1 x7_1 (wrap64 (x9_3 + 1))) else (if (wrap64 (x9_3 - x7_1)) > 12 then (some (([] : List (S59)), x6_1, 1)) else (if 0 ≤ x7_1 then (if x7_1 ≤ x9_3 then (if x9_3 ≤ (a0.size : Int) then (if x5_1.length < 3518437208883 then (timeboundref02_Scan.l0 k3 a0 (x5_1 ++ [(⟨1, 0, x6_1, a0.extract (x7_1 : Int).toNat (x9_3 : Int).toNat⟩ : S59)]) x6_1 x9_3) else (none)) else (none)) else (none)) else (none))))) = some (r1, r2, r3) := by rw [if_neg (show ¬ (false = true) by decide)] at H; exact H
                                clear H
                                have H := H1
                                clear H1
                                replace H := Option.bind_eq_some_iff.mp H
                                obtain ⟨t142, A180, H⟩ := H
                                replace H : (if t142 = true then (timeboundref02_Scan.l1 k3 a0 x5_1 x6_1 x7_1 (wrap64 (x9_3 + 1))) else (if (wrap64 (x9_3 - x7_1)) > 12 then (some (([] : List (S59)), x6_1, 1)) else (if 0 ≤ x7_1 then (if x7_1 ≤ x9_3 then (if x9_3 ≤ (a0.size : Int) then (if x5_1.length < 3518437208883 then (timeboundref02_Scan.l0 k3 a0 (x5_1 ++ [(⟨1, 0, x6_1, a0.extract (x7_1 : Int).toNat (x9_3 : Int).toNat⟩ : S59)]) x6_1 x9_3) else (none)) else (none)) else (none)) else (none)))) = some (r1, r2, r3) := H
                                have A18 := Aside0.mk A180
                                clear A180
                                by_cases c19 : t142 = true
                                · subst c19
                                  have H1 : (timeboundref02_Scan.l1 k3 a0 x5_1 x6_1 x7_1 (wrap64 (x9_3 + 1))) = some (r1, r2, r3) := by rw [if_pos rfl] at H; exact H
                                  clear H
                                  have H := H1
                                  clear H1
                                  have H' := Aside0.mk H
                                  clear H
                                  have p14 : 0 ≤ (x9_3 : Int) := of_decide_eq_true (by first | (with_reducible assumption) | assumption)
                                  have q14 : x9_3 < (a0.size : Int) := of_decide_eq_true (by first | (with_reducible assumption) | assumption)
                                  have hx14 := bt_at a0 x9_3
                                  replace p14 := eq_true p14
                                  replace q14 := eq_true q14
                                  go_wp2_with (first | (go_at_call 48; (with_reducible refine (timeboundref02_letter.calls (bt a0 x9_3) false _ A15.out).mono ?_); rintro e w' ⟨rfl, ⟨nd, rfl⟩⟩; have p17 : 0 ≤ (x9_3 : Int) := of_decide_eq_true (by first | (with_reducible assumption) | assumption); have q17 : x9_3 < (a0.size : Int) := of_decide_eq_true (by first | (with_reducible assumption) | assumption); have hx17 := bt_at a0 x9_3; replace p17 := eq_true p17; replace q17 := eq_true q17) | (go_at_call 49; (with_reducible refine (timeboundref02_digit.calls (bt a0 x9_3) true _ A18.out).mono ?_); rintro e w' ⟨rfl, ⟨nd, rfl⟩⟩))
                                  go_roundg k3
                                  case measure => have := HK1.out; have := HJ6.out; have := HK3.out; omega
                                  case rel => exact ⟨(wrap64 (x9_3 + 1)), (by first | rfl | (simp; done) | (simp [*]; done)), H', ⟨by have := HK1.out; have := HJ6.out; have := HK3.out; omega⟩, ⟨by (with_reducible repeat (first | apply Kd.R_alloc | apply Kd.R_drewN | apply Kd.R_drew)); exact HO_5.out⟩, ⟨by repeat (first | (with_reducible first | exact HB.out | apply below_alloc | apply pw_below_drewN | apply below_drew1) | exact HB.out)⟩⟩
                                · replace c19 := Bool.eq_false_iff.mpr c19
                                  subst c19
                                  have H1 : (if (wrap64 (x9_3 - x7_1)) > 12 then (some (([] : List (S59)), x6_1, 1)) else (if 0 ≤ x7_1 then (if x7_1 ≤ x9_3 then (if x9_3 ≤ (a0.size : Int) then (if x5_1.length < 3518437208883 then (timeboundref02_Scan.l0 k3 a0 (x5_1 ++ [(⟨1, 0, x6_1, a0.extract (x7_1 : Int).toNat (x9_3 : Int).toNat⟩ : S59)]) x6_1 x9_3) else (none)) else (none)) else (none)) else (none))) = some (r1, r2, r3) := by rw [if_neg (show ¬ (false = true) by decide)] at H; exact H
                                  clear H
                                  have H := H1
                                  clear H1
                                  by_cases c20 : (wrap64 (x9_3 - x7_1)) > 12
                                  · rw [if_pos c20] at H
                                    have c20b0 : decide (12 < (wrap64 (x9_3 - x7_1))) = true := decide_eq_true c20
                                    clear c20
                                    simp only [Option.some.injEq, Prod.mk.injEq] at H
                                    obtain ⟨rfl, rfl, rfl⟩ := H
                                    have p14 : 0 ≤ (x9_3 : Int) := of_decide_eq_true (by first | (with_reducible assumption) | assumption)
                                    have q14 : x9_3 < (a0.size : Int) := of_decide_eq_true (by first | (with_reducible assumption) | assumption)
                                    have hx14 := bt_at a0 x9_3
                                    replace p14 := eq_true p14
                                    replace q14 := eq_true q14
                                    go_wp2_with (first | (go_at_call 48; (with_reducible refine (timeboundref02_letter.calls (bt a0 x9_3) false _ A15.out).mono ?_); rintro e w' ⟨rfl, ⟨nd, rfl⟩⟩; have p17 : 0 ≤ (x9_3 : Int) := of_decide_eq_true (by first | (with_reducible assumption) | assumption); have q17 : x9_3 < (a0.size : Int) := of_decide_eq_true (by first | (with_reducible assumption) | assumption); have hx17 := bt_at a0 x9_3; replace p17 := eq_true p17; replace q17 := eq_true q17) | (go_at_call 49; (with_reducible refine (timeboundref02_digit.calls (bt a0 x9_3) false _ A18.out).mono ?_); rintro e w' ⟨rfl, ⟨nd, rfl⟩⟩))
                                    go_ret3
                                    exact ⟨_, by first | rfl | (simp [errW_none, errW_some] <;> rfl) | (simp [*, errW_none, errW_some] <;> rfl), by first | exact Kd.R_nil _ _ _ _ _ | exact Kd.N_nil _ _ _ _ _ | exact Kd.V_nil _ _ _ _ _ | exact Kd.Q_nil _ _ _ _ _ | exact Kd.S_nil _ _ _ _ _, by repeat (first | (with_reducible first | exact HB.out | apply below_alloc | apply pw_below_drewN | apply below_drew1) | exact HB.out)⟩
                                  · rw [if_neg c20] at H
                                    have c20b0 : decide (12 < (wrap64 (x9_3 - x7_1))) = false := decide_eq_false c20
                                    clear c20
                                    by_cases c21 : 0 ≤ x7_1
                                    · rw [if_pos c21] at H
                                      have c21b0 := eq_true c21
                                      have c21b1 : decide (0 ≤ x7_1) = true := decide_eq_true c21
                                      clear c21
                                      by_cases c22 : x7_1 ≤ x9_3
                                      · rw [if_pos c22] at H
                                        have c22b0 := eq_true c22
                                        have c22b1 : decide (x7_1 ≤ x9_3) = true := decide_eq_true c22
                                        clear c22
                                        by_cases c23 : x9_3 ≤ (a0.size : Int)
                                        · rw [if_pos c23] at H
                                          have c23b0 := eq_true c23
                                          have c23b1 : decide (x9_3 ≤ (a0.size : Int)) = true := decide_eq_true c23
                                          clear c23
                                          by_cases c24 : x5_1.length < 3518437208883
                                          · rw [if_pos c24] at H
                                            have LMc24 := Aside0.mk c24
                                            clear c24
                                            obtain ⟨y143, hy143⟩ : ∃ y_ : List (S59), y_ = (x5_1 ++ [(⟨1, 0, x6_1, a0.extract (x7_1 : Int).toNat (x9_3 : Int).toNat⟩ : S59)]) := ⟨_, rfl⟩
                                            replace H : (timeboundref02_Scan.l0 k3 a0 y143 x6_1 x9_3) = some (r1, r2, r3) := by first | (rw [hy143]; with_reducible exact H) | (have H2_ := (Option.bind_some _ _).symm.trans H; rw [hy143]; with_reducible exact H2_) | (have H2_ := (Option.bind_some _ _).symm.trans H; with_reducible exact H2_) | with_reducible exact H | (rw [hy143]; exact H) | exact H
                                            have Ny143 := Aside0.mk hy143
                                            clear hy143
                                            have H' := Aside0.mk H
                                            clear H
                                            have p14 : 0 ≤ (x9_3 : Int) := of_decide_eq_true (by first | (with_reducible assumption) | assumption)
                                            have q14 : x9_3 < (a0.size : Int) := of_decide_eq_true (by first | (with_reducible assumption) | assumption)
                                            have hx14 := bt_at a0 x9_3
                                            replace p14 := eq_true p14
                                            replace q14 := eq_true q14
                                            go_wp2_with (first | (go_at_call 48; (with_reducible refine (timeboundref02_letter.calls (bt a0 x9_3) false _ A15.out).mono ?_); rintro e w' ⟨rfl, ⟨nd, rfl⟩⟩; have p17 : 0 ≤ (x9_3 : Int) := of_decide_eq_true (by first | (with_reducible assumption) | assumption); have q17 : x9_3 < (a0.size : Int) := of_decide_eq_true (by first | (with_reducible assumption) | assumption); have hx17 := bt_at a0 x9_3; replace p17 := eq_true p17; replace q17 := eq_true q17) | (go_at_call 49; (with_reducible refine (timeboundref02_digit.calls (bt a0 x9_3) false _ A18.out).mono ?_); rintro e w' ⟨rfl, ⟨nd, rfl⟩⟩) | ((with_reducible refine gate_builtin (b := .append) (xs := #[.tmp 82, .tmp 89]) rfl ?_); at_builtin; refine Kd.R_append k59 (w0 := w) w.heap.size rfl (.tmp 82) (.tmp 89) 23 59 (.agg #[(.int .i64 0), (.int .i64 0), (.int .i64 0), (.string ⟨#[]⟩)]) 40 rfl Tryd.underlying23 info59 rfl (by decide) (by omega) u5 x5_1 (⟨1, 0, x6_1, a0.extract (x7_1 : Int).toNat (x9_3 : Int).toNat⟩ : S59) [.int .i64 1, .int .i64 0, .int .i64 x6_1, .string (a0.extract (x7_1 : Int).toNat (x9_3 : Int).toNat)] (fun _ => True) (fun _ => False) rfl rfl ?aP (fun _ hk => hk.elim) ?aF ?aO ?aB ?aS ?aL ?_; (case aP => exact k59_mkM _ _ _ (⟨1, 0, x6_1, a0.extract (x7_1 : Int).toNat (x9_3 : Int).toNat⟩ : S59)); (case aB => exact (by repeat (first | (with_reducible first | exact HB.out | apply below_alloc | apply pw_below_drewN | apply below_drew1) | exact HB.out))); (case aF => exact (fun _ _ => trivial)); (case aO => exact (by (with_reducible repeat (first | apply Kd.R_alloc | apply Kd.R_drewN | apply Kd.R_drew)); exact HO_5.out)); (case aS => exact (below_size (by repeat (first | (with_reducible first | exact HB.out | apply below_alloc | apply pw_below_drewN | apply below_drew1) | exact HB.out)))); (case aL => have := LMc24.out; omega); intro v144 w25 ho hb hg hat; rw [← Ny143.out] at ho; have n0_ := Aside0.mk (hb); have n1_ := Aside0.mk (ho); clear HB; clear HO_5; have HB := n0_; have HO145 := n1_; clear n0_ n1_; clear ho hb hg hat))
                                            go_roundg k3
                                            case measure => have := HK1.out; have := HJ6.out; have := HK3.out; omega
                                            case rel => exact ⟨(y143), (x6_1), (x9_3), (by first | rfl | (simp; done) | (simp [*]; done)), (by first | rfl | (simp; done) | (simp [*]; done)), H', ⟨by have := HK1.out; have := HJ6.out; have := HK3.out; omega⟩, ⟨by (with_reducible repeat (first | apply Kd.R_alloc | apply Kd.R_drewN | apply Kd.R_drew)); exact HO145.out⟩, ⟨by repeat (first | (with_reducible first | exact HB.out | apply below_alloc | apply pw_below_drewN | apply below_drew1) | exact HB.out)⟩⟩
                                          · rw [if_neg c24] at H
                                            exact absurd H (by simp)
                                        · rw [if_neg c23] at H
                                          exact absurd H (by simp)
                                      · rw [if_neg c22] at H
                                        exact absurd H (by simp)
                                    · rw [if_neg c21] at H
                                      exact absurd H (by simp)
                            · rw [if_neg c13] at H
                              exact absurd H (by simp)
                          · rw [if_neg c12] at H
                            have c12b0 : decide (x9_3 < (a0.size : Int)) = false := decide_eq_false c12
                            clear c12
                            by_cases c26 : (wrap64 (x9_3 - x7_1)) > 12
                            · rw [if_pos c26] at H
                              have c26b0 : decide (12 < (wrap64 (x9_3 - x7_1))) = true := decide_eq_true c26
                              clear c26
                              simp only [Option.some.injEq, Prod.mk.injEq] at H
                              obtain ⟨rfl, rfl, rfl⟩ := H
                              go_wp2
                              go_ret3
                              exact ⟨_, by first | rfl | (simp [errW_none, errW_some] <;> rfl) | (simp [*, errW_none, errW_some] <;> rfl), by first | exact Kd.R_nil _ _ _ _ _ | exact Kd.N_nil _ _ _ _ _ | exact Kd.V_nil _ _ _ _ _ | exact Kd.Q_nil _ _ _ _ _ | exact Kd.S_nil _ _ _ _ _, by repeat (first | (with_reducible first | exact HB.out | apply below_alloc | apply pw_below_drewN | apply below_drew1) | exact HB.out)⟩
                            · rw [if_neg c26] at H
                              have c26b0 : decide (12 < (wrap64 (x9_3 - x7_1))) = false := decide_eq_false c26
                              clear c26
                              by_cases c27 : 0 ≤ x7_1
                              · rw [if_pos c27] at H
                                have c27b0 := eq_true c27
                                have c27b1 : decide (0 ≤ x7_1) = true := decide_eq_true c27
                                clear c27
                                by_cases c28 : x7_1 ≤ x9_3
                                · rw [if_pos c28] at H
                                  have c28b0 := eq_true c28
                                  have c28b1 : decide (x7_1 ≤ x9_3) = true := decide_eq_true c28
                                  clear c28
                                  by_cases c29 : x9_3 ≤ (a0.size : Int)
                                  · rw [if_pos c29] at H
                                    have c29b0 := eq_true c29
                                    have c29b1 : decide (x9_3 ≤ (a0.size : Int)) = true := decide_eq_true c29
                                    clear c29
                                    by_cases c30 : x5_1.length < 3518437208883
                                    · rw [if_pos c30] at H
                                      have LMc30 := Aside0.mk c30
                                      clear c30
                                      obtain ⟨y146, hy146⟩ : ∃ y_ : List (S59), y_ = (x5_1 ++ [(⟨1, 0, x6_1, a0.extract (x7_1 : Int).toNat (x9_3 : Int).toNat⟩ : S59)]) := ⟨_, rfl⟩
                                      replace H : (timeboundref02_Scan.l0 k3 a0 y146 x6_1 x9_3) = some (r1, r2, r3) := by first | (rw [hy146]; with_reducible exact H) | (have H2_ := (Option.bind_some _ _).symm.trans H; rw [hy146]; with_reducible exact H2_) | (have H2_ := (Option.bind_some _ _).symm.trans H; with_reducible exact H2_) | with_reducible exact H | (rw [hy146]; exact H) | exact H
                                      have Ny146 := Aside0.mk hy146
                                      clear hy146
                                      have H' := Aside0.mk H
                                      clear H
                                      go_wp2_with (first | ((with_reducible refine gate_builtin (b := .append) (xs := #[.tmp 82, .tmp 89]) rfl ?_); at_builtin; refine Kd.R_append k59 (w0 := w) w.heap.size rfl (.tmp 82) (.tmp 89) 23 59 (.agg #[(.int .i64 0), (.int .i64 0), (.int .i64 0), (.string ⟨#[]⟩)]) 40 rfl Tryd.underlying23 info59 rfl (by decide) (by omega) u5 x5_1 (⟨1, 0, x6_1, a0.extract (x7_1 : Int).toNat (x9_3 : Int).toNat⟩ : S59) [.int .i64 1, .int .i64 0, .int .i64 x6_1, .string (a0.extract (x7_1 : Int).toNat (x9_3 : Int).toNat)] (fun _ => True) (fun _ => False) rfl rfl ?aP (fun _ hk => hk.elim) ?aF ?aO ?aB ?aS ?aL ?_; (case aP => exact k59_mkM _ _ _ (⟨1, 0, x6_1, a0.extract (x7_1 : Int).toNat (x9_3 : Int).toNat⟩ : S59)); (case aB => exact (by repeat (first | (with_reducible first | exact HB.out | apply below_alloc | apply pw_below_drewN | apply below_drew1) | exact HB.out))); (case aF => exact (fun _ _ => trivial)); (case aO => exact (by (with_reducible repeat (first | apply Kd.R_alloc | apply Kd.R_drewN | apply Kd.R_drew)); exact HO_5.out)); (case aS => exact (below_size (by repeat (first | (with_reducible first | exact HB.out | apply below_alloc | apply pw_below_drewN | apply below_drew1) | exact HB.out)))); (case aL => have := LMc30.out; omega); intro v147 w31 ho hb hg hat; rw [← Ny146.out] at ho; have n0_ := Aside0.mk (hb); have n1_ := Aside0.mk (ho); clear HB; clear HO_5; have HB := n0_; have HO148 := n1_; clear n0_ n1_; clear ho hb hg hat))
                                      go_roundg k3
                                      case measure => have := HK1.out; have := HJ6.out; have := HK3.out; omega
                                      case rel => exact ⟨(y146), (x6_1), (x9_3), (by first | rfl | (simp; done) | (simp [*]; done)), (by first | rfl | (simp; done) | (simp [*]; done)), H', ⟨by have := HK1.out; have := HJ6.out; have := HK3.out; omega⟩, ⟨by (with_reducible repeat (first | apply Kd.R_alloc | apply Kd.R_drewN | apply Kd.R_drew)); exact HO148.out⟩, ⟨by repeat (first | (with_reducible first | exact HB.out | apply below_alloc | apply pw_below_drewN | apply below_drew1) | exact HB.out)⟩⟩
                                    · rw [if_neg c30] at H
                                      exact absurd H (by simp)
                                  · rw [if_neg c29] at H
                                    exact absurd H (by simp)
                                · rw [if_neg c28] at H
                                  exact absurd H (by simp)
                              · rw [if_neg c27] at H
                                exact absurd H (by simp)
                    · replace c11 := Bool.eq_false_iff.mpr c11
                      subst c11
                      have H1 : ((timeboundref02_digit.f (bt a0 x7_1)).bind fun t149 => (if t149 = true then (timeboundref02_Scan.l2 kj6 a0 x5_1 x6_1 x7_1 x7_1) else (if 0 ≤ x7_1 then (if x7_1 ≤ (a0.size : Int) then ((timeboundref02_sign.f kj6 (a0.extract (x7_1 : Int).toNat a0.size)).bind fun t159 => (if t159.toList = ([] : List UInt8) then (some (([] : List (S59)), x6_1, 1)) else (if x5_1.length < 3518437208883 then (timeboundref02_Scan.l0 kj6 a0 (x5_1 ++ [(⟨3, 0, x6_1, t159⟩ : S59)]) x6_1 (wrap64 (x7_1 + (t159.size : Int)))) else (none)))) else (none)) else (none)))) = some (r1, r2, r3) := by rw [if_neg (show ¬ (false = true) by decide)] at H; exact H
                      clear H
                      have H := H1
                      clear H1
                      replace H := Option.bind_eq_some_iff.mp H
                      obtain ⟨t149, A320, H⟩ := H
                      replace H : (if t149 = true then (timeboundref02_Scan.l2 kj6 a0 x5_1 x6_1 x7_1 x7_1) else (if 0 ≤ x7_1 then (if x7_1 ≤ (a0.size : Int) then ((timeboundref02_sign.f kj6 (a0.extract (x7_1 : Int).toNat a0.size)).bind fun t159 => (if t159.toList = ([] : List UInt8) then (some (([] : List (S59)), x6_1, 1)) else (if x5_1.length < 3518437208883 then (timeboundref02_Scan.l0 kj6 a0 (x5_1 ++ [(⟨3, 0, x6_1, t159⟩ : S59)]) x6_1 (wrap64 (x7_1 + (t159.size : Int)))) else (none)))) else (none)) else (none))) = some (r1, r2, r3) := H
                      have A32 := Aside0.mk A320
                      clear A320
                      by_cases c33 : t149 = true
                      · subst c33
                        have H1 : (timeboundref02_Scan.l2 kj6 a0 x5_1 x6_1 x7_1 x7_1) = some (r1, r2, r3) := by rw [if_pos rfl] at H; exact H
                        clear H
                        have H := H1
                        clear H1
                        have H' := Aside0.mk H
                        clear H
                        go_wp2_with (first | ((with_reducible refine gate_callee (f := 48) rfl ?_); refine goesL_ (some 58) rfl rfl Tryd.func48 (by kernel_rfl) rfl #[.int .u8 (bt a0 x7_1)] rfl (by (try simp only [List.map_toArray, List.map_cons, List.map_nil]); first | done | rfl | (simp only [List.length_drop, List.length_take]; rfl)) ?_; (with_reducible refine (timeboundref02_letter.calls (bt a0 x7_1) false _ A10.out).mono ?_); rintro e w' ⟨rfl, ⟨nd, rfl⟩⟩; refine ⟨_, rfl, ?_⟩) | ((with_reducible refine gate_callee (f := 49) rfl ?_); refine goesL_ (some 93) rfl rfl Tryd.func49 (by kernel_rfl) rfl #[.int .u8 (bt a0 x7_1)] rfl (by (try simp only [List.map_toArray, List.map_cons, List.map_nil]); first | done | rfl | (simp only [List.length_drop, List.length_take]; rfl)) ?_; (with_reducible refine (timeboundref02_digit.calls (bt a0 x7_1) true _ A32.out).mono ?_); rintro e w' ⟨rfl, ⟨nd, rfl⟩⟩; refine ⟨_, rfl, ?_⟩))
                        go_loopg [9] kj6 (fun kq v9 w' => ∃ (x9_3 : Int), v9 = .int .i64 x9_3 ∧ Aside0 (timeboundref02_Scan.l2 kq a0 x5_1 x6_1 x7_1 x9_3 = some (r1, r2, r3)) ∧ Aside0 (kq ≤ kj6) ∧ Aside0 (Kd.R k59 59 w' w.heap.size (fun _ => True) u5 x5_1) ∧ Aside0 (Below w.heap.size w w'))
                        case atStart => exact ⟨(x7_1), (by first | rfl | (simp; done) | (simp [*]; done)), H', ⟨Nat.le_refl _⟩, ⟨by (with_reducible repeat (first | apply Kd.R_alloc | apply Kd.R_drewN | apply Kd.R_drew)); exact HO_5.out⟩, ⟨by repeat (first | (with_reducible first | exact HB.out | apply below_alloc | apply pw_below_drewN | apply below_drew1) | exact HB.out)⟩⟩
                        case round =>
                          clear H'
                          try clear c1
                          try clear p1
                          try clear q1
                          try clear hx1
                          try clear c2
                          try clear c2b0
                          try clear c2b1
                          try clear p2
                          try clear c3
                          try clear c3b0
                          try clear c4
                          try clear c4b0
                          try clear p5
                          try clear q5
                          try clear hx5
                          try clear c6
                          try clear c6b0
                          try clear c6b1
                          try clear p6
                          try clear c8
                          try clear c8b0
                          try clear c8b1
                          try clear c9
                          try clear c11
                          try clear c12
                          try clear c12b0
                          try clear c13
                          try clear c13b0
                          try clear p14
                          try clear q14
                          try clear hx14
                          try clear c16
                          try clear p17
                          try clear q17
                          try clear hx17
                          try clear c19
                          try clear c20
                          try clear c20b0
                          try clear c21
                          try clear c21b0
                          try clear c21b1
                          try clear c22
                          try clear c22b0
                          try clear c22b1
                          try clear c23
                          try clear c23b0
                          try clear c23b1
                          try clear c24
                          try clear c26
                          try clear c26b0
                          try clear c27
                          try clear c27b0
                          try clear c27b1
                          try clear c28
                          try clear c28b0
                          try clear c28b1
                          try clear c29
                          try clear c29b0
                          try clear c29b1
                          try clear c30
                          try clear c33
                          try clear p14
                          try clear p17
                          try clear p2
                          try clear p5
                          try clear p6
                          try clear q14
                          try clear q17
                          try clear q5
                          obtain ⟨x9_3, rfl, HA, HK3, HO_5, HB⟩ := hrel
                          cases gk with
                          | zero => exact absurd HA.out (by simp [timeboundref02_Scan.l2])
                          | succ k3 =>
                            have H := HA.out
                            clear HA
                            simp only [timeboundref02_Scan.l2] at H
                            by_cases c34 : x9_3 < (a0.size : Int)
                            · rw [if_pos c34] at H
                              have c34b0 : decide (x9_3 < (a0.size : Int)) = true := decide_eq_true c34
                              clear c34
                              by_cases c35 : 0 ≤ x9_3
                              · rw [if_pos c35] at H
                                have c35b0 : decide (0 ≤ x9_3) = true := decide_eq_true c35
                                clear c35
                                replace H := Option.bind_eq_some_iff.mp H
                                obtain ⟨t150, A370, H⟩ := H
                                replace H : (if t150 = true then (timeboundref02_Scan.l2 k3 a0 x5_1 x6_1 x7_1 (wrap64 (x9_3 + 1))) else (if 0 ≤ x7_1 then (if x7_1 ≤ x9_3 then (if x9_3 ≤ (a0.size : Int) then ((timeboundref02_value.f k3 (a0.extract (x7_1 : Int).toNat (x9_3 : Int).toNat)).bind fun t151 => (if t151 < 0 then (some (([] : List (S59)), x6_1, 1)) else (if x5_1.length < 3518437208883 then (timeboundref02_Scan.l0 k3 a0 (x5_1 ++ [(⟨2, t151, x6_1, (⟨#[]⟩ : ByteArray)⟩ : S59)]) x6_1 x9_3) else (none)))) else (none)) else (none)) else (none))) = some (r1, r2, r3) := H
                                have A37 := Aside0.mk A370
                                clear A370
                                by_cases c38 : t150 = true
                                · subst c38
                                  have H1 : (timeboundref02_Scan.l2 k3 a0 x5_1 x6_1 x7_1 (wrap64 (x9_3 + 1))) = some (r1, r2, r3) := by rw [if_pos rfl] at H; exact H
                                  clear H
                                  have H := H1
                                  clear H1
                                  have H' := Aside0.mk H
                                  clear H
                                  have p36 : 0 ≤ (x9_3 : Int) := of_decide_eq_true (by first | (with_reducible assumption) | assumption)
                                  have q36 : x9_3 < (a0.size : Int) := of_decide_eq_true (by first | (with_reducible assumption) | assumption)
                                  have hx36 := bt_at a0 x9_3
                                  replace p36 := eq_true p36
                                  replace q36 := eq_true q36
                                  go_wp2_with (first | (go_at_call 49; (with_reducible refine (timeboundref02_digit.calls (bt a0 x9_3) true _ A37.out).mono ?_); rintro e w' ⟨rfl, ⟨nd, rfl⟩⟩))
                                  go_roundg k3
                                  case measure => have := HK1.out; have := HJ6.out; have := HK3.out; omega
                                  case rel => exact ⟨(wrap64 (x9_3 + 1)), (by first | rfl | (simp; done) | (simp [*]; done)), H', ⟨by have := HK1.out; have := HJ6.out; have := HK3.out; omega⟩, ⟨by (with_reducible repeat (first | apply Kd.R_alloc | apply Kd.R_drewN | apply Kd.R_drew)); exact HO_5.out⟩, ⟨by repeat (first | (with_reducible first | exact HB.out | apply below_alloc | apply pw_below_drewN | apply below_drew1) | exact HB.out)⟩⟩
                                · replace c38 := Bool.eq_false_iff.mpr c38
                                  subst c38
                                  have H1 : (if 0 ≤ x7_1 then (if x7_1 ≤ x9_3 then (if x9_3 ≤ (a0.size : Int) then ((timeboundref02_value.f k3 (a0.extract (x7_1 : Int).toNat (x9_3 : Int).toNat)).bind fun t151 => (if t151 < 0 then (some (([] : List (S59)), x6_1, 1)) else (if x5_1.length < 3518437208883 then (timeboundref02_Scan.l0 k3 a0 (x5_1 ++ [(⟨2, t151, x6_1, (⟨#[]⟩ : ByteArray)⟩ : S59)]) x6_1 x9_3) else (none)))) else (none)) else (none)) else (none)) = some (r1, r2, r3) := by rw [if_neg (show ¬ (false = true) by decide)] at H; exact H
                                  clear H
                                  have H := H1
                                  clear H1
                                  by_cases c39 : 0 ≤ x7_1
                                  · rw [if_pos c39] at H
                                    have c39b0 := eq_true c39
                                    have c39b1 : decide (0 ≤ x7_1) = true := decide_eq_true c39
                                    clear c39
                                    by_cases c40 : x7_1 ≤ x9_3
                                    · rw [if_pos c40] at H
                                      have c40b0 := eq_true c40
                                      have c40b1 : decide (x7_1 ≤ x9_3) = true := decide_eq_true c40
                                      clear c40
                                      by_cases c41 : x9_3 ≤ (a0.size : Int)
                                      · rw [if_pos c41] at H
                                        have c41b0 := eq_true c41
                                        have c41b1 : decide (x9_3 ≤ (a0.size : Int)) = true := decide_eq_true c41
                                        clear c41
                                        replace H := Option.bind_eq_some_iff.mp H
                                        obtain ⟨t151, A420, H⟩ := H
                                        replace H : (if t151 < 0 then (some (([] : List (S59)), x6_1, 1)) else (if x5_1.length < 3518437208883 then (timeboundref02_Scan.l0 k3 a0 (x5_1 ++ [(⟨2, t151, x6_1, (⟨#[]⟩ : ByteArray)⟩ : S59)]) x6_1 x9_3) else (none))) = some (r1, r2, r3) := H
                                        have A42 := Aside0.mk A420
                                        clear A420
                                        by_cases c43 : t151 < 0
                                        · rw [if_pos c43] at H
                                          have c43b0 : decide (t151 < 0) = true := decide_eq_true c43
                                          clear c43
                                          simp only [Option.some.injEq, Prod.mk.injEq] at H
                                          obtain ⟨rfl, rfl, rfl⟩ := H
                                          have p36 : 0 ≤ (x9_3 : Int) := of_decide_eq_true (by first | (with_reducible assumption) | assumption)
                                          have q36 : x9_3 < (a0.size : Int) := of_decide_eq_true (by first | (with_reducible assumption) | assumption)
                                          have hx36 := bt_at a0 x9_3
                                          replace p36 := eq_true p36
                                          replace q36 := eq_true q36
                                          go_wp2_with (first | (go_at_call 49; (with_reducible refine (timeboundref02_digit.calls (bt a0 x9_3) false _ A37.out).mono ?_); rintro e w' ⟨rfl, ⟨nd, rfl⟩⟩) | ((with_reducible refine gate_callee (f := 50) rfl ?_); refine goesL_ (some 110) rfl rfl Tryd.func50 (by kernel_rfl) rfl #[.string (a0.extract (x7_1 : Int).toNat (x9_3 : Int).toNat)] rfl (by (try simp only [List.map_toArray, List.map_cons, List.map_nil]); first | done | rfl | (simp only [List.length_drop, List.length_take]; rfl)) ?_; (with_reducible refine (timeboundref02_value.calls k3 (a0.extract (x7_1 : Int).toNat (x9_3 : Int).toNat) t151 _ A42.out).mono ?_); rintro e w' ⟨rfl, ⟨nd, rfl⟩⟩; refine ⟨_, rfl, ?_⟩))
                                          go_ret3
                                          exact ⟨_, by first | rfl | (simp [errW_none, errW_some] <;> rfl) | (simp [*, errW_none, errW_some] <;> rfl), by first | exact Kd.R_nil _ _ _ _ _ | exact Kd.N_nil _ _ _ _ _ | exact Kd.V_nil _ _ _ _ _ | exact Kd.Q_nil _ _ _ _ _ | exact Kd.S_nil _ _ _ _ _, by repeat (first | (with_reducible first | exact HB.out | apply below_alloc | apply pw_below_drewN | apply below_drew1) | exact HB.out)⟩
                                        · rw [if_neg c43] at H
                                          have c43b0 : decide (t151 < 0) = false := decide_eq_false c43
                                          clear c43
                                          by_cases c44 : x5_1.length < 3518437208883
                                          · rw [if_pos c44] at H
                                            have LMc44 := Aside0.mk c44
                                            clear c44
                                            obtain ⟨y152, hy152⟩ : ∃ y_ : List (S59), y_ = (x5_1 ++ [(⟨2, t151, x6_1, (⟨#[]⟩ : ByteArray)⟩ : S59)]) := ⟨_, rfl⟩
                                            replace H : (timeboundref02_Scan.l0 k3 a0 y152 x6_1 x9_3) = some (r1, r2, r3) := by first | (rw [hy152]; with_reducible exact H) | (have H2_ := (Option.bind_some _ _).symm.trans H; rw [hy152]; with_reducible exact H2_) | (have H2_ := (Option.bind_some _ _).symm.trans H; with_reducible exact H2_) | with_reducible exact H | (rw [hy152]; exact H) | exact H
                                            have Ny152 := Aside0.mk hy152
                                            clear hy152
                                            have H' := Aside0.mk H
                                            clear H
                                            have p36 : 0 ≤ (x9_3 : Int) := of_decide_eq_true (by first | (with_reducible assumption) | assumption)
                                            have q36 : x9_3 < (a0.size : Int) := of_decide_eq_true (by first | (with_reducible assumption) | assumption)
                                            have hx36 := bt_at a0 x9_3
                                            replace p36 := eq_true p36
                                            replace q36 := eq_true q36
                                            go_wp2_with (first | (go_at_call 49; (with_reducible refine (timeboundref02_digit.calls (bt a0 x9_3) false _ A37.out).mono ?_); rintro e w' ⟨rfl, ⟨nd, rfl⟩⟩) | ((with_reducible refine gate_callee (f := 50) rfl ?_); refine goesL_ (some 110) rfl rfl Tryd.func50 (by kernel_rfl) rfl #[.string (a0.extract (x7_1 : Int).toNat (x9_3 : Int).toNat)] rfl (by (try simp only [List.map_toArray, List.map_cons, List.map_nil]); first | done | rfl | (simp only [List.length_drop, List.length_take]; rfl)) ?_; (with_reducible refine (timeboundref02_value.calls k3 (a0.extract (x7_1 : Int).toNat (x9_3 : Int).toNat) t151 _ A42.out).mono ?_); rintro e w' ⟨rfl, ⟨nd, rfl⟩⟩; refine ⟨_, rfl, ?_⟩) | ((with_reducible refine gate_builtin (b := .append) (xs := #[.tmp 114, .tmp 118]) rfl ?_); at_builtin; refine Kd.R_append k59 (w0 := w) w.heap.size rfl (.tmp 114) (.tmp 118) 23 59 (.agg #[(.int .i64 0), (.int .i64 0), (.int .i64 0), (.string ⟨#[]⟩)]) 40 rfl Tryd.underlying23 info59 rfl (by decide) (by omega) u5 x5_1 (⟨2, t151, x6_1, (⟨#[]⟩ : ByteArray)⟩ : S59) [.int .i64 2, .int .i64 t151, .int .i64 x6_1, .string (⟨#[]⟩ : ByteArray)] (fun _ => True) (fun _ => False) rfl rfl ?aP (fun _ hk => hk.elim) ?aF ?aO ?aB ?aS ?aL ?_; (case aP => exact k59_mkM _ _ _ (⟨2, t151, x6_1, (⟨#[]⟩ : ByteArray)⟩ : S59)); (case aB => exact (by repeat (first | (with_reducible first | exact HB.out | apply below_alloc | apply pw_below_drewN | apply below_drew1) | exact HB.out))); (case aF => exact (fun _ _ => trivial)); (case aO => exact (by (with_reducible repeat (first | apply Kd.R_alloc | apply Kd.R_drewN | apply Kd.R_drew)); exact HO_5.out)); (case aS => exact (below_size (by repeat (first | (with_reducible first | exact HB.out | apply below_alloc | apply pw_below_drewN | apply below_drew1) | exact HB.out)))); (case aL => have := LMc44.out; omega); intro v153 w45 ho hb hg hat; rw [← Ny152.out] at ho; have n0_ := Aside0.mk (hb); have n1_ := Aside0.mk (ho); clear HB; clear HO_5; have HB := n0_; have HO154 := n1_; clear n0_ n1_; clear ho hb hg hat))
                                            go_roundg k3
                                            case measure => have := HK1.out; have := HJ6.out; have := HK3.out; omega
                                            case rel => exact ⟨(y152), (x6_1), (x9_3), (by first | rfl | (simp; done) | (simp [*]; done)), (by first | rfl | (simp; done) | (simp [*]; done)), H', ⟨by have := HK1.out; have := HJ6.out; have := HK3.out; omega⟩, ⟨by (with_reducible repeat (first | apply Kd.R_alloc | apply Kd.R_drewN | apply Kd.R_drew)); exact HO154.out⟩, ⟨by repeat (first | (with_reducible first | exact HB.out | apply below_alloc | apply pw_below_drewN | apply below_drew1) | exact HB.out)⟩⟩
                                          · rw [if_neg c44] at H
                                            exact absurd H (by simp)
                                      · rw [if_neg c41] at H
                                        exact absurd H (by simp)
                                    · rw [if_neg c40] at H
                                      exact absurd H (by simp)
                                  · rw [if_neg c39] at H
                                    exact absurd H (by simp)
                              · rw [if_neg c35] at H
                                exact absurd H (by simp)
                            · rw [if_neg c34] at H
                              have c34b0 : decide (x9_3 < (a0.size : Int)) = false := decide_eq_false c34
                              clear c34
                              by_cases c46 : 0 ≤ x7_1
                              · rw [if_pos c46] at H
                                have c46b0 := eq_true c46
                                have c46b1 : decide (0 ≤ x7_1) = true := decide_eq_true c46
                                clear c46
                                by_cases c47 : x7_1 ≤ x9_3
                                · rw [if_pos c47] at H
                                  have c47b0 := eq_true c47
                                  have c47b1 : decide (x7_1 ≤ x9_3) = true := decide_eq_true c47
                                  clear c47
                                  by_cases c48 : x9_3 ≤ (a0.size : Int)
                                  · rw [if_pos c48] at H
                                    have c48b0 := eq_true c48
                                    have c48b1 : decide (x9_3 ≤ (a0.size : Int)) = true := decide_eq_true c48
                                    clear c48
                                    replace H := Option.bind_eq_some_iff.mp H
                                    obtain ⟨t155, A490, H⟩ := H
                                    replace H : (if t155 < 0 then (some (([] : List (S59)), x6_1, 1)) else (if x5_1.length < 3518437208883 then (timeboundref02_Scan.l0 k3 a0 (x5_1 ++ [(⟨2, t155, x6_1, (⟨#[]⟩ : ByteArray)⟩ : S59)]) x6_1 x9_3) else (none))) = some (r1, r2, r3) := H
                                    have A49 := Aside0.mk A490
                                    clear A490
                                    by_cases c50 : t155 < 0
                                    · rw [if_pos c50] at H
                                      have c50b0 : decide (t155 < 0) = true := decide_eq_true c50
                                      clear c50
                                      simp only [Option.some.injEq, Prod.mk.injEq] at H
                                      obtain ⟨rfl, rfl, rfl⟩ := H
                                      go_wp2_with (first | ((with_reducible refine gate_callee (f := 50) rfl ?_); refine goesL_ (some 110) rfl rfl Tryd.func50 (by kernel_rfl) rfl #[.string (a0.extract (x7_1 : Int).toNat (x9_3 : Int).toNat)] rfl (by (try simp only [List.map_toArray, List.map_cons, List.map_nil]); first | done | rfl | (simp only [List.length_drop, List.length_take]; rfl)) ?_; (with_reducible refine (timeboundref02_value.calls k3 (a0.extract (x7_1 : Int).toNat (x9_3 : Int).toNat) t155 _ A49.out).mono ?_); rintro e w' ⟨rfl, ⟨nd, rfl⟩⟩; refine ⟨_, rfl, ?_⟩))
                                      go_ret3
                                      exact ⟨_, by first | rfl | (simp [errW_none, errW_some] <;> rfl) | (simp [*, errW_none, errW_some] <;> rfl), by first | exact Kd.R_nil _ _ _ _ _ | exact Kd.N_nil _ _ _ _ _ | exact Kd.V_nil _ _ _ _ _ | exact Kd.Q_nil _ _ _ _ _ | exact Kd.S_nil _ _ _ _ _, by repeat (first | (with_reducible first | exact HB.out | apply below_alloc | apply pw_below_drewN | apply below_drew1) | exact HB.out)⟩
                                    · rw [if_neg c50] at H
                                      have c50b0 : decide (t155 < 0) = false := decide_eq_false c50
                                      clear c50
                                      by_cases c51 : x5_1.length < 3518437208883
                                      · rw [if_pos c51] at H
                                        have LMc51 := Aside0.mk c51
                                        clear c51
                                        obtain ⟨y156, hy156⟩ : ∃ y_ : List (S59), y_ = (x5_1 ++ [(⟨2, t155, x6_1, (⟨#[]⟩ : ByteArray)⟩ : S59)]) := ⟨_, rfl⟩
                                        replace H : (timeboundref02_Scan.l0 k3 a0 y156 x6_1 x9_3) = some (r1, r2, r3) := by first | (rw [hy156]; with_reducible exact H) | (have H2_ := (Option.bind_some _ _).symm.trans H; rw [hy156]; with_reducible exact H2_) | (have H2_ := (Option.bind_some _ _).symm.trans H; with_reducible exact H2_) | with_reducible exact H | (rw [hy156]; exact H) | exact H
                                        have Ny156 := Aside0.mk hy156
                                        clear hy156
                                        have H' := Aside0.mk H
                                        clear H
                                        go_wp2_with (first | ((with_reducible refine gate_callee (f := 50) rfl ?_); refine goesL_ (some 110) rfl rfl Tryd.func50 (by kernel_rfl) rfl #[.string (a0.extract (x7_1 : Int).toNat (x9_3 : Int).toNat)] rfl (by (try simp only [List.map_toArray, List.map_cons, List.map_nil]); first | done | rfl | (simp only [List.length_drop, List.length_take]; rfl)) ?_; (with_reducible refine (timeboundref02_value.calls k3 (a0.extract (x7_1 : Int).toNat (x9_3 : Int).toNat) t155 _ A49.out).mono ?_); rintro e w' ⟨rfl, ⟨nd, rfl⟩⟩; refine ⟨_, rfl, ?_⟩) | ((with_reducible refine gate_builtin (b := .append) (xs := #[.tmp 114, .tmp 118]) rfl ?_); at_builtin; refine Kd.R_append k59 (w0 := w) w.heap.size rfl (.tmp 114) (.tmp 118) 23 59 (.agg #[(.int .i64 0), (.int .i64 0), (.int .i64 0), (.string ⟨#[]⟩)]) 40 rfl Tryd.underlying23 info59 rfl (by decide) (by omega) u5 x5_1 (⟨2, t155, x6_1, (⟨#[]⟩ : ByteArray)⟩ : S59) [.int .i64 2, .int .i64 t155, .int .i64 x6_1, .string (⟨#[]⟩ : ByteArray)] (fun _ => True) (fun _ => False) rfl rfl ?aP (fun _ hk => hk.elim) ?aF ?aO ?aB ?aS ?aL ?_; (case aP => exact k59_mkM _ _ _ (⟨2, t155, x6_1, (⟨#[]⟩ : ByteArray)⟩ : S59)); (case aB => exact (by repeat (first | (with_reducible first | exact HB.out | apply below_alloc | apply pw_below_drewN | apply below_drew1) | exact HB.out))); (case aF => exact (fun _ _ => trivial)); (case aO => exact (by (with_reducible repeat (first | apply Kd.R_alloc | apply Kd.R_drewN | apply Kd.R_drew)); exact HO_5.out)); (case aS => exact (below_size (by repeat (first | (with_reducible first | exact HB.out | apply below_alloc | apply pw_below_drewN | apply below_drew1) | exact HB.out)))); (case aL => have := LMc51.out; omega); intro v157 w52 ho hb hg hat; rw [← Ny156.out] at ho; have n0_ := Aside0.mk (hb); have n1_ := Aside0.mk (ho); clear HB; clear HO_5; have HB := n0_; have HO158 := n1_; clear n0_ n1_; clear ho hb hg hat))
                                        go_roundg k3
                                        case measure => have := HK1.out; have := HJ6.out; have := HK3.out; omega
                                        case rel => exact ⟨(y156), (x6_1), (x9_3), (by first | rfl | (simp; done) | (simp [*]; done)), (by first | rfl | (simp; done) | (simp [*]; done)), H', ⟨by have := HK1.out; have := HJ6.out; have := HK3.out; omega⟩, ⟨by (with_reducible repeat (first | apply Kd.R_alloc | apply Kd.R_drewN | apply Kd.R_drew)); exact HO158.out⟩, ⟨by repeat (first | (with_reducible first | exact HB.out | apply below_alloc | apply pw_below_drewN | apply below_drew1) | exact HB.out)⟩⟩
                                      · rw [if_neg c51] at H
                                        exact absurd H (by simp)
                                  · rw [if_neg c48] at H
                                    exact absurd H (by simp)
                                · rw [if_neg c47] at H
                                  exact absurd H (by simp)
                              · rw [if_neg c46] at H
                                exact absurd H (by simp)
                      · replace c33 := Bool.eq_false_iff.mpr c33
                        subst c33
                        have H1 : (if 0 ≤ x7_1 then (if x7_1 ≤ (a0.size : Int) then ((timeboundref02_sign.f kj6 (a0.extract (x7_1 : Int).toNat a0.size)).bind fun t159 => (if t159.toList = ([] : List UInt8) then (some (([] : List (S59)), x6_1, 1)) else (if x5_1.length < 3518437208883 then (timeboundref02_Scan.l0 kj6 a0 (x5_1 ++ [(⟨3, 0, x6_1, t159⟩ : S59)]) x6_1 (wrap64 (x7_1 + (t159.size : Int)))) else (none)))) else (none)) else (none)) = some (r1, r2, r3) := by rw [if_neg (show ¬ (false = true) by decide)] at H; exact H
                        clear H
                        have H := H1
                        clear H1
                        by_cases c53 : 0 ≤ x7_1
                        · rw [if_pos c53] at H
                          have c53b0 := eq_true c53
                          have c53b1 : decide (0 ≤ x7_1) = true := decide_eq_true c53
                          clear c53
                          by_cases c54 : x7_1 ≤ (a0.size : Int)
                          · rw [if_pos c54] at H
                            have c54b0 := eq_true c54
                            have c54b1 : decide (x7_1 ≤ (a0.size : Int)) = true := decide_eq_true c54
                            clear c54
                            replace H := Option.bind_eq_some_iff.mp H
                            obtain ⟨t159, A550, H⟩ := H
                            replace H : (if t159.toList = ([] : List UInt8) then (some (([] : List (S59)), x6_1, 1)) else (if x5_1.length < 3518437208883 then (timeboundref02_Scan.l0 kj6 a0 (x5_1 ++ [(⟨3, 0, x6_1, t159⟩ : S59)]) x6_1 (wrap64 (x7_1 + (t159.size : Int)))) else (none))) = some (r1, r2, r3) := H
                            have A55 := Aside0.mk A550
                            clear A550
                            by_cases c56 : t159.toList = ([] : List UInt8)
                            · rw [if_pos c56] at H
                              have c56b0 : (t159.toList == ([] : List UInt8)) = true := beq_iff_eq.mpr c56
                              have c56b1 : (t159.toList != ([] : List UInt8)) = false := bne_eq_false_iff_eq.mpr c56
                              clear c56
                              simp only [Option.some.injEq, Prod.mk.injEq] at H
                              obtain ⟨rfl, rfl, rfl⟩ := H
                              go_wp2_with (first | ((with_reducible refine gate_callee (f := 48) rfl ?_); refine goesL_ (some 58) rfl rfl Tryd.func48 (by kernel_rfl) rfl #[.int .u8 (bt a0 x7_1)] rfl (by (try simp only [List.map_toArray, List.map_cons, List.map_nil]); first | done | rfl | (simp only [List.length_drop, List.length_take]; rfl)) ?_; (with_reducible refine (timeboundref02_letter.calls (bt a0 x7_1) false _ A10.out).mono ?_); rintro e w' ⟨rfl, ⟨nd, rfl⟩⟩; refine ⟨_, rfl, ?_⟩) | ((with_reducible refine gate_callee (f := 49) rfl ?_); refine goesL_ (some 93) rfl rfl Tryd.func49 (by kernel_rfl) rfl #[.int .u8 (bt a0 x7_1)] rfl (by (try simp only [List.map_toArray, List.map_cons, List.map_nil]); first | done | rfl | (simp only [List.length_drop, List.length_take]; rfl)) ?_; (with_reducible refine (timeboundref02_digit.calls (bt a0 x7_1) false _ A32.out).mono ?_); rintro e w' ⟨rfl, ⟨nd, rfl⟩⟩; refine ⟨_, rfl, ?_⟩) | ((with_reducible refine gate_callee (f := 51) rfl ?_); refine goesL_ (some 26) rfl rfl Tryd.func51 (by kernel_rfl) rfl #[.string (a0.extract (x7_1 : Int).toNat a0.size)] rfl (by (try simp only [List.map_toArray, List.map_cons, List.map_nil]); first | done | rfl | (simp only [List.length_drop, List.length_take]; rfl)) ?_; (with_reducible refine (timeboundref02_sign.calls kj6 (a0.extract (x7_1 : Int).toNat a0.size) t159 _ A55.out).mono ?_); rintro e w57 ⟨rfl, hb⟩; refine ⟨_, rfl, ?_⟩; have n0_ := Aside0.mk (Kd.R_below (by (with_reducible repeat (first | apply Kd.R_alloc | apply Kd.R_drewN | apply Kd.R_drew)); exact HO_5.out) hb); have n1_ := Aside0.mk (below_step (by repeat (first | (with_reducible first | exact HB.out | apply below_alloc | apply pw_below_drewN | apply below_drew1) | exact HB.out)) hb); clear HO_5; clear HB; have HO_5 := n0_; have HB := n1_; clear n0_ n1_; (try clear hb); (try clear hb2); (try clear hk); (try clear hi)))
                              go_ret3
                              exact ⟨_, by first | rfl | (simp [errW_none, errW_some] <;> rfl) | (simp [*, errW_none, errW_some] <;> rfl), by first | exact Kd.R_nil _ _ _ _ _ | exact Kd.N_nil _ _ _ _ _ | exact Kd.V_nil _ _ _ _ _ | exact Kd.Q_nil _ _ _ _ _ | exact Kd.S_nil _ _ _ _ _, by repeat (first | (with_reducible first | exact HB.out | apply below_alloc | apply pw_below_drewN | apply below_drew1) | exact HB.out)⟩
                            · rw [if_neg c56] at H
                              have c56b0 : (t159.toList == ([] : List UInt8)) = false := beq_eq_false_iff_ne.mpr c56
                              have c56b1 : (t159.toList != ([] : List UInt8)) = true := bne_iff_ne.mpr c56
                              by_cases c58 : x5_1.length < 3518437208883
                              · rw [if_pos c58] at H
                                have LMc58 := Aside0.mk c58
                                clear c58
                                obtain ⟨y160, hy160⟩ : ∃ y_ : List (S59), y_ = (x5_1 ++ [(⟨3, 0, x6_1, t159⟩ : S59)]) := ⟨_, rfl⟩
                                replace H : (timeboundref02_Scan.l0 kj6 a0 y160 x6_1 (wrap64 (x7_1 + (t159.size : Int)))) = some (r1, r2, r3) := by first | (rw [hy160]; with_reducible exact H) | (have H2_ := (Option.bind_some _ _).symm.trans H; rw [hy160]; with_reducible exact H2_) | (have H2_ := (Option.bind_some _ _).symm.trans H; with_reducible exact H2_) | with_reducible exact H | (rw [hy160]; exact H) | exact H
                                have Ny160 := Aside0.mk hy160
                                clear hy160
                                have H' := Aside0.mk H
                                clear H
                                go_wp2_with (first | ((with_reducible refine gate_callee (f := 48) rfl ?_); refine goesL_ (some 58) rfl rfl Tryd.func48 (by kernel_rfl) rfl #[.int .u8 (bt a0 x7_1)] rfl (by (try simp only [List.map_toArray, List.map_cons, List.map_nil]); first | done | rfl | (simp only [List.length_drop, List.length_take]; rfl)) ?_; (with_reducible refine (timeboundref02_letter.calls (bt a0 x7_1) false _ A10.out).mono ?_); rintro e w' ⟨rfl, ⟨nd, rfl⟩⟩; refine ⟨_, rfl, ?_⟩) | ((with_reducible refine gate_callee (f := 49) rfl ?_); refine goesL_ (some 93) rfl rfl Tryd.func49 (by kernel_rfl) rfl #[.int .u8 (bt a0 x7_1)] rfl (by (try simp only [List.map_toArray, List.map_cons, List.map_nil]); first | done | rfl | (simp only [List.length_drop, List.length_take]; rfl)) ?_; (with_reducible refine (timeboundref02_digit.calls (bt a0 x7_1) false _ A32.out).mono ?_); rintro e w' ⟨rfl, ⟨nd, rfl⟩⟩; refine ⟨_, rfl, ?_⟩) | ((with_reducible refine gate_callee (f := 51) rfl ?_); refine goesL_ (some 26) rfl rfl Tryd.func51 (by kernel_rfl) rfl #[.string (a0.extract (x7_1 : Int).toNat a0.size)] rfl (by (try simp only [List.map_toArray, List.map_cons, List.map_nil]); first | done | rfl | (simp only [List.length_drop, List.length_take]; rfl)) ?_; (with_reducible refine (timeboundref02_sign.calls kj6 (a0.extract (x7_1 : Int).toNat a0.size) t159 _ A55.out).mono ?_); rintro e w59 ⟨rfl, hb⟩; refine ⟨_, rfl, ?_⟩; have n0_ := Aside0.mk (Kd.R_below (by (with_reducible repeat (first | apply Kd.R_alloc | apply Kd.R_drewN | apply Kd.R_drew)); exact HO_5.out) hb); have n1_ := Aside0.mk (below_step (by repeat (first | (with_reducible first | exact HB.out | apply below_alloc | apply pw_below_drewN | apply below_drew1) | exact HB.out)) hb); clear HO_5; clear HB; have HO_5 := n0_; have HB := n1_; clear n0_ n1_; (try clear hb); (try clear hb2); (try clear hk); (try clear hi)) | ((with_reducible refine gate_builtin (b := .append) (xs := #[.tmp 34, .tmp 38]) rfl ?_); at_builtin; refine Kd.R_append k59 (w0 := w) w.heap.size rfl (.tmp 34) (.tmp 38) 23 59 (.agg #[(.int .i64 0), (.int .i64 0), (.int .i64 0), (.string ⟨#[]⟩)]) 40 rfl Tryd.underlying23 info59 rfl (by decide) (by omega) u5 x5_1 (⟨3, 0, x6_1, t159⟩ : S59) [.int .i64 3, .int .i64 0, .int .i64 x6_1, .string t159] (fun _ => True) (fun _ => False) rfl rfl ?aP (fun _ hk => hk.elim) ?aF ?aO ?aB ?aS ?aL ?_; (case aP => exact k59_mkM _ _ _ (⟨3, 0, x6_1, t159⟩ : S59)); (case aB => exact (by repeat (first | (with_reducible first | exact HB.out | apply below_alloc | apply pw_below_drewN | apply below_drew1) | exact HB.out))); (case aF => exact (fun _ _ => trivial)); (case aO => exact (by (with_reducible repeat (first | apply Kd.R_alloc | apply Kd.R_drewN | apply Kd.R_drew)); exact HO_5.out)); (case aS => exact (below_size (by repeat (first | (with_reducible first | exact HB.out | apply below_alloc | apply pw_below_drewN | apply below_drew1) | exact HB.out)))); (case aL => have := LMc58.out; omega); intro v161 w60 ho hb hg hat; rw [← Ny160.out] at ho; have n0_ := Aside0.mk (hb); have n1_ := Aside0.mk (ho); clear HB; clear HO_5; have HB := n0_; have HO162 := n1_; clear n0_ n1_; clear ho hb hg hat))
                                go_roundg kj6
                                case measure => have := HK1.out; have := HJ6.out; omega
                                case rel => exact ⟨(y160), (x6_1), (wrap64 (x7_1 + (t159.size : Int))), (by first | rfl | (simp; done) | (simp [*]; done)), (by first | rfl | (simp; done) | (simp [*]; done)), H', ⟨by have := HK1.out; have := HJ6.out; omega⟩, ⟨by (with_reducible repeat (first | apply Kd.R_alloc | apply Kd.R_drewN | apply Kd.R_drew)); exact HO162.out⟩, ⟨by repeat (first | (with_reducible first | exact HB.out | apply below_alloc | apply pw_below_drewN | apply below_drew1) | exact HB.out)⟩⟩
                              · rw [if_neg c58] at H
                                exact absurd H (by simp)
                          · rw [if_neg c54] at H
                            exact absurd H (by simp)
                        · rw [if_neg c53] at H
                          exact absurd H (by simp)
          · rw [if_neg c4] at H
            exact absurd H (by simp)
        · rw [if_neg c3] at H
          have c3b0 : decide (x7_1 < (a0.size : Int)) = false := decide_eq_false c3
          clear c3
          simp only [Option.some.injEq, Prod.mk.injEq] at H
          obtain ⟨rfl, rfl, rfl⟩ := H
          go_wp2
          go_ret3
          exact ⟨_, by first | rfl | (simp [errW_none, errW_some] <;> rfl) | (simp [*, errW_none, errW_some] <;> rfl), by (with_reducible repeat (first | apply Kd.R_alloc | apply Kd.R_drewN | apply Kd.R_drew)); exact HO_5.out, by repeat (first | (with_reducible first | exact HB.out | apply below_alloc | apply pw_below_drewN | apply below_drew1) | exact HB.out)⟩

end Go.Proofs.YtcnmejahighkfaaDoor.P
-- TokB
/- The reference's scanner computes the same plain function. -/
namespace Go.Proofs.YtcnmejahighkfaaDoor.Tok
open Go.RowKit Go.Proofs.YtcnmejahighkfaaDoor.P Go.Proofs.YtcnmejahighkfaaDoorW.PrintWords Go.Proofs.YtcnmejahighkfaaDoorW.PrintLast Go.Proofs.YtcnmejahighkfaaDoorW.PrintMore
set_option linter.unusedVariables false
set_option linter.unusedSimpArgs false

/-! ### the reference's scanner -/
theorem rletter_eq (c : Int) : timeboundref02_letter.f c = some (isL c) := by
  unfold timeboundref02_letter.f isL; split <;> simp_all <;> omega
theorem rdigit_eq (c : Int) : timeboundref02_digit.f c = some (isD c) := by
  unfold timeboundref02_digit.f isD; split <;> simp_all <;> omega
theorem rvalue_eq (s : ByteArray) (hs : s.size ≤ 1000000) : ∀ (l : List Int) (i k : Nat) (n : Int), (bytesOf s).drop i = l → i ≤ s.size → l.length < k → (∀ c ∈ l, 48 ≤ c ∧ c ≤ 57) → 0 ≤ n → n ≤ 2147483647 → timeboundref02_value.l0 k s n i = some (if 2147483647 < numv l n then -1 else numv l n) := by
  intro l
  induction l with
  | nil =>
    intro i k n h hi hk _ _ _
    obtain ⟨k, rfl⟩ : ∃ m, k = m + 1 := ⟨k - 1, by omega⟩
    have := bt_nil h
    have e : numv [] n = n := rfl
    simp only [timeboundref02_value.l0]
    rw [if_neg (by omega), e, if_neg (by omega)]
  | cons c r ih =>
    intro i k n h hi hk hd h0 hn
    obtain ⟨k, rfl⟩ : ∃ m, k = m + 1 := ⟨k - 1, by simp at hk; omega⟩
    obtain ⟨h1, h2, h3⟩ := bt_cons h
    have hc := hd c (.head _)
    simp only [timeboundref02_value.l0]
    rw [if_pos (by omega), if_pos (by omega), h2, wrap_small (i := n * 10) (by omega) (by omega), wrap_small (i := (i : Int) + 1) (by omega) (by omega), Int.emod_eq_of_lt (by omega) (by omega), wrap_small (by omega) (by omega)]
    have hsat : ∀ l : List Int, (∀ c ∈ l, 48 ≤ c ∧ c ≤ 57) → numv l 2147483648 = 2147483648 := by
      intro l
      induction l with
      | nil => intro _; rfl
      | cons x r ih =>
        intro h
        have hx := h x (.head _)
        simp only [numv, List.foldl_cons]
        rw [if_neg (by omega)]
        exact ih fun y hy => h y (.tail _ hy)
    have hstep : numv (c :: r) n = numv r (if 10 * n + (c - 48) ≤ 2147483648 then 10 * n + (c - 48) else 2147483648) := rfl
    rw [hstep]
    by_cases hb : n * 10 + (c - 48) ≥ 2147483648
    · rw [if_pos hb]
      have e : (if 10 * n + (c - 48) ≤ 2147483648 then 10 * n + (c - 48) else 2147483648) = 2147483648 := by split <;> omega
      rw [e, hsat r fun x hx => hd x (.tail _ hx)]
      rfl
    · have e : (if 10 * n + (c - 48) ≤ 2147483648 then 10 * n + (c - 48) else 2147483648) = 10 * n + (c - 48) := if_pos (by omega)
      rw [e, if_neg hb, show ((i : Int) + 1) = ((i + 1 : Nat) : Int) by omega, ih (i + 1) k _ h3 (by omega) (by simp at hk; omega) (fun x hx => hd x (.tail _ hx)) (by omega) (by omega), show n * 10 + (c - 48) = 10 * n + (c - 48) by omega]
/-- The first text of a list with which a text begins. -/
def firstPre (s : List Int) : List (List Int) → Option (List Int)
  | [] => none
  | g :: r => if g.length ≤ s.length ∧ s.take g.length = g then some g else firstPre s r
theorem rsign_l0 (s : ByteArray) (hs : s.size ≤ 1000000) (L : List ByteArray) (hL : L.length ≤ 1000) : ∀ (r : List ByteArray) (i k : Nat), L.drop i = r → i ≤ L.length → r.length < k → timeboundref02_sign.l0 k s L i = some (strOfNums ((firstPre (bytesOf s) (r.map bytesOf)).getD [])) := by
  intro r
  induction r with
  | nil =>
    intro i k h hi hk
    obtain ⟨k, rfl⟩ : ∃ m, k = m + 1 := ⟨k - 1, by omega⟩
    have := List.drop_eq_nil_iff.1 h
    simp only [timeboundref02_sign.l0]
    rw [if_neg (by omega)]
    rfl
  | cons g r ih =>
    intro i k h hi hk
    obtain ⟨k, rfl⟩ : ∃ m, k = m + 1 := ⟨k - 1, by simp at hk; omega⟩
    have hl : i < L.length := by
      rcases Nat.lt_or_ge i L.length with h1 | h1
      · exact h1
      · rw [List.drop_eq_nil_of_le h1] at h; cases h
    have e := List.drop_eq_getElem_cons hl
    rw [e] at h
    injection h with h1 h2
    have hg : rdOf ByteArray.empty L (i : Int) = g := by simp [rdOf, hl, h1]
    simp only [timeboundref02_sign.l0]
    rw [if_pos (by omega), if_pos (by omega), hg, wrap_small (by omega) (by omega), show ((i : Int) + 1) = ((i + 1 : Nat) : Int) by omega]
    have hih := ih (i + 1) k h2 (by omega) (by simp at hk; omega)
    have hbl := bytesOf_length s
    have hgl := bytesOf_length g
    simp only [List.map_cons, firstPre]
    by_cases hsz : (s.size : Int) ≥ (g.size : Int)
    · rw [if_pos hsz, if_pos (by omega), if_pos hsz, Int.toNat_natCast, toList_data, toList_data]
      have hx : bytesOf (s.extract 0 g.size) = (bytesOf s).take g.size := by rw [bytes_ext]; simp
      by_cases hp : (s.extract 0 g.size).data.toList = g.data.toList
      · rw [if_pos hp]
        have hq : (bytesOf s).take g.size = bytesOf g := by rw [← hx]; unfold bytesOf; rw [hp]
        rw [if_pos ⟨by omega, by rw [hgl]; exact hq⟩]
        simp [strOfNums_bytes]
      · rw [if_neg hp, if_neg (fun q => hp ?_), hih]
        have hq : bytesOf (s.extract 0 g.size) = bytesOf g := by rw [hx, ← hgl]; exact q.2
        rw [bytesOf_inj hq]
    · rw [if_neg hsz, if_neg (fun q => by omega), hih]
def twoC : List (List Int) := [[60, 60], [62, 62], [60, 61], [61, 61], [33, 61]]
def oneC : List (List Int) := [[43], [45], [42], [47], [37], [38], [124], [94], [60], [61], [40], [41], [91], [93], [123], [125]]
theorem firstPre_app (s : List Int) (a b : List (List Int)) : firstPre s (a ++ b) = match firstPre s a with | some g => some g | none => firstPre s b := by
  induction a with
  | nil => rfl
  | cons g r ih => simp only [List.cons_append, firstPre]; split <;> simp [ih]
theorem firstPre_len (s : List Int) (n : Nat) : ∀ (L : List (List Int)), (∀ g ∈ L, g.length = n) → firstPre s L = if n ≤ s.length ∧ s.take n ∈ L then some (s.take n) else none := by
  intro L
  induction L with
  | nil => intro _; simp [firstPre]
  | cons g r ih =>
    intro h
    have hg := h g (.head _)
    simp only [firstPre]
    rw [hg, ih fun x hx => h x (.tail _ hx)]
    by_cases h1 : n ≤ s.length
    · by_cases h2 : s.take n = g
      · rw [if_pos ⟨h1, h2⟩, if_pos ⟨h1, by rw [h2]; exact .head _⟩, h2]
      · rw [if_neg (fun q => h2 q.2)]
        by_cases h3 : s.take n ∈ r
        · rw [if_pos ⟨h1, h3⟩, if_pos ⟨h1, .tail _ h3⟩]
        · rw [if_neg (fun q => h3 q.2), if_neg (fun q => by rcases List.mem_cons.1 q.2 with q | q; exact h2 q; exact h3 q)]
    · rw [if_neg (fun q => h1 q.1), if_neg (fun q => h1 q.1), if_neg (fun q => h1 q.1)]
theorem signC_eq : signC = [[43], [45], [42], [47], [37], [38], [124], [94], [60, 60], [62, 62], [60], [60, 61], [61, 61], [33, 61], [61], [40], [41], [91], [93], [123], [125]] := by decide +kernel
theorem mem_two (x : List Int) (h : x.length = 2) : x ∈ signC ↔ x ∈ twoC := by
  rw [signC_eq]
  simp only [twoC, List.mem_cons, List.not_mem_nil, or_false]
  constructor
  · intro q
    rcases q with q | q | q | q | q | q | q | q | q | q | q | q | q | q | q | q | q | q | q | q | q <;> subst q <;> simp at h ⊢
  · intro q
    rcases q with q | q | q | q | q <;> subst q <;> simp
theorem mem_one (x : List Int) (h : x.length = 1) : x ∈ signC ↔ x ∈ oneC := by
  rw [signC_eq]
  simp only [oneC, List.mem_cons, List.not_mem_nil, or_false]
  constructor
  · intro q
    rcases q with q | q | q | q | q | q | q | q | q | q | q | q | q | q | q | q | q | q | q | q | q <;> subst q <;> simp at h ⊢
  · intro q
    rcases q with q | q | q | q | q | q | q | q | q | q | q | q | q | q | q | q <;> subst q <;> simp
def rsigns : List ByteArray := (timeboundref02_Signs.f).getD []
theorem rsign_eq (s : ByteArray) (hs : s.size ≤ 1000000) (k : Nat) (hk : 21 < k) : timeboundref02_sign.f k s = some (strOfNums ((bytesOf s).take (signM (bytesOf s)))) := by
  unfold timeboundref02_sign.f
  have hS : timeboundref02_Signs.f = some rsigns := rfl
  rw [hS]
  simp only [Option.bind_some]
  have := rsign_l0 s hs rsigns (by decide +kernel) rsigns 0 k rfl (by decide +kernel) (Nat.lt_of_le_of_lt (by decide +kernel : rsigns.length ≤ 21) hk)
  rw [show (0 : Int) = ((0 : Nat) : Int) from rfl, this]
  refine congrArg (fun x => some (strOfNums x)) ?_
  have e : ∀ L : List ByteArray, L.map bytesOf = twoC ++ oneC → (firstPre (bytesOf s) (L.map bytesOf)).getD [] = (bytesOf s).take (signM (bytesOf s)) := by
    intro L hL
    have i2 : (2 ≤ (bytesOf s).length ∧ (bytesOf s).take 2 ∈ twoC) ↔ (2 ≤ (bytesOf s).length ∧ (bytesOf s).take 2 ∈ signC) := and_congr_right fun h => (mem_two _ (by simp; omega)).symm
    have i1 : (1 ≤ (bytesOf s).length ∧ (bytesOf s).take 1 ∈ oneC) ↔ (1 ≤ (bytesOf s).length ∧ (bytesOf s).take 1 ∈ signC) := and_congr_right fun h => (mem_one _ (by simp; omega)).symm
    rw [hL, firstPre_app, firstPre_len _ 2 twoC (by decide), firstPre_len _ 1 oneC (by decide)]
    unfold signM
    simp only [i2, i1]
    by_cases p2 : 2 ≤ (bytesOf s).length ∧ (bytesOf s).take 2 ∈ signC
    · simp only [if_pos p2, Option.getD_some]
    · simp only [if_neg p2]
      by_cases p1 : 1 ≤ (bytesOf s).length ∧ (bytesOf s).take 1 ∈ signC
      · simp only [if_pos p1, Option.getD_some]
      · simp only [if_neg p1, Option.getD_none, List.take_zero]
  exact e _ (by decide +kernel)

theorem rscan_name (s : ByteArray) (hs : s.size ≤ 8192) (out : List TS) (ho : out.length ≤ 8192) (line : Int) (i : Nat) (hi : i ≤ s.size) : ∀ (l : List Int) (j k : Nat), (bytesOf s).drop j = l → i ≤ j → j ≤ s.size → l.length < k →
    ∃ k', k' + (l.takeWhile isA).length + 1 = k ∧ timeboundref02_Scan.l1 k s out line i j = if 12 < j - i + (l.takeWhile isA).length then some ([], line, 1) else timeboundref02_Scan.l0 k' s (out ++ [(⟨1, 0, line, s.extract i (j + (l.takeWhile isA).length)⟩ : TS)]) line ((j + (l.takeWhile isA).length : Nat) : Int) := by
  intro l
  induction l with
  | nil =>
    intro j k h hij hj hk
    obtain ⟨k, rfl⟩ : ∃ m, k = m + 1 := ⟨k - 1, by omega⟩
    have := bt_nil h
    refine ⟨k, by simp, ?_⟩
    show timeboundref02_Scan.l1 (k + 1) s out line i j = if 12 < j - i then some ([], line, 1) else timeboundref02_Scan.l0 k s (out ++ [(⟨1, 0, line, s.extract i j⟩ : TS)]) line (j : Int)
    simp only [timeboundref02_Scan.l1]
    rw [if_neg (by omega), wrap_small (by omega) (by omega)]
    by_cases h12 : 12 < j - i
    · rw [if_pos (by omega), if_pos h12]
    · rw [if_neg (by omega), if_pos (by omega), if_pos (by omega), if_pos (by omega), if_pos (by omega), if_neg h12, Int.toNat_natCast, Int.toNat_natCast]
  | cons c r ih =>
    intro j k h hij hj hk
    obtain ⟨k, rfl⟩ : ∃ m, k = m + 1 := ⟨k - 1, by simp at hk; omega⟩
    obtain ⟨h1, h2, h3⟩ := bt_cons h
    simp only [timeboundref02_Scan.l1]
    rw [if_pos (by omega), if_pos (by omega), h2, rletter_eq]
    simp only [Option.bind_some]
    have e1 : wrap64 ((j : Int) + 1) = ((j + 1 : Nat) : Int) := by rw [wrap_small (by omega) (by omega)]; omega
    rw [e1]
    by_cases ha : isA c = true
    · obtain ⟨k', hk', hr⟩ := ih (j + 1) k h3 (by omega) (by omega) (by simp at hk; omega)
      have htw : ((c :: r).takeWhile isA).length = (r.takeWhile isA).length + 1 := by simp [List.takeWhile_cons, ha]
      refine ⟨k', by omega, ?_⟩
      have hgo : (if isL c = true then timeboundref02_Scan.l1 k s out line i ((j + 1 : Nat) : Int) else (timeboundref02_digit.f c).bind fun t => if t = true then timeboundref02_Scan.l1 k s out line i ((j + 1 : Nat) : Int) else if wrap64 ((j : Int) - i) > 12 then some ([], line, 1) else if 0 ≤ (i : Int) then if (i : Int) ≤ j then if (j : Int) ≤ s.size then if out.length < 3518437208883 then timeboundref02_Scan.l0 k s (out ++ [(⟨1, 0, line, s.extract (i : Int).toNat (j : Int).toNat⟩ : TS)]) line j else none else none else none else none) = timeboundref02_Scan.l1 k s out line i ((j + 1 : Nat) : Int) := by
        by_cases hl : isL c = true
        · rw [if_pos hl]
        · rw [if_neg hl, rdigit_eq]
          have hd : isD c = true := by simpa [isA, hl] using ha
          simp [hd]
      rw [hgo, hr, htw]
      have e2 : j + 1 - i + (r.takeWhile isA).length = j - i + ((r.takeWhile isA).length + 1) := by omega
      have e3 : j + 1 + (r.takeWhile isA).length = j + ((r.takeWhile isA).length + 1) := by omega
      rw [e2, e3]
    · have hl : ¬ isL c = true := fun q => ha (isL_isA q)
      have hd : isD c = false := by simp only [isA, Bool.or_eq_true, not_or] at ha; simpa using ha.2
      have htw : ((c :: r).takeWhile isA).length = 0 := by simp [List.takeWhile_cons, ha]
      refine ⟨k, by omega, ?_⟩
      rw [if_neg hl, rdigit_eq, htw, hd]
      simp only [Option.bind_some, Bool.false_eq_true, if_false, Nat.add_zero]
      rw [wrap_small (by omega) (by omega)]
      by_cases h12 : 12 < j - i
      · rw [if_pos (by omega), if_pos h12]
      · rw [if_neg (by omega), if_pos (by omega), if_pos (by omega), if_pos (by omega), if_pos (by omega), if_neg h12]
        simp
theorem rscan_num (s : ByteArray) (hs : s.size ≤ 8192) (out : List TS) (ho : out.length ≤ 8192) (line : Int) (i : Nat) (hi : i ≤ s.size) : ∀ (l : List Int) (j k : Nat), (bytesOf s).drop j = l → i ≤ j → j ≤ s.size → 2 * l.length + (j - i) + 2 < k → (∀ c ∈ ((bytesOf s).drop i).take (j - i), isD c = true) →
    ∃ k', k' + (l.takeWhile isD).length + 1 = k ∧ timeboundref02_Scan.l2 k s out line i j = if 2147483647 < numv (((bytesOf s).drop i).take (j - i) ++ l.takeWhile isD) 0 then some ([], line, 1) else timeboundref02_Scan.l0 k' s (out ++ [(⟨2, numv (((bytesOf s).drop i).take (j - i) ++ l.takeWhile isD) 0, line, ⟨#[]⟩⟩ : TS)]) line ((j + (l.takeWhile isD).length : Nat) : Int) := by
  have hend : ∀ (j k : Nat), i ≤ j → j ≤ s.size → (j - i) + 1 < k + 1 → (∀ c ∈ ((bytesOf s).drop i).take (j - i), isD c = true) →
      (if 0 ≤ (i : Int) then if (i : Int) ≤ j then if (j : Int) ≤ s.size then (timeboundref02_value.f k (s.extract (i : Int).toNat (j : Int).toNat)).bind fun t => if t < 0 then some ([], line, 1) else if out.length < 3518437208883 then timeboundref02_Scan.l0 k s (out ++ [(⟨2, t, line, ⟨#[]⟩⟩ : TS)]) line j else none else none else none else none) =
      if 2147483647 < numv (((bytesOf s).drop i).take (j - i)) 0 then some ([], line, 1) else timeboundref02_Scan.l0 k s (out ++ [(⟨2, numv (((bytesOf s).drop i).take (j - i)) 0, line, ⟨#[]⟩⟩ : TS)]) line (j : Int) := by
    intro j k hij hj hk hd
    rw [if_pos (by omega), if_pos (by omega), if_pos (by omega), Int.toNat_natCast, Int.toNat_natCast]
    have hx : bytesOf (s.extract i j) = ((bytesOf s).drop i).take (j - i) := bytes_ext s i j
    have hl : (((bytesOf s).drop i).take (j - i)).length ≤ j - i := List.length_take_le _ _
    have hv := rvalue_eq (s.extract i j) (by simp; omega) (((bytesOf s).drop i).take (j - i)) 0 k 0 (by rw [hx]; rfl) (by omega) (by omega) (fun c hc => isD_range (hd c hc)) (by omega) (by omega)
    have hv' : timeboundref02_value.f k (s.extract i j) = some (if 2147483647 < numv (((bytesOf s).drop i).take (j - i)) 0 then -1 else numv (((bytesOf s).drop i).take (j - i)) 0) := hv
    rw [hv']
    have hr := numv_range (((bytesOf s).drop i).take (j - i)) 0 (by omega) (by omega) (fun c hc => isD_range (hd c hc))
    simp only [Option.bind_some]
    by_cases hb : 2147483647 < numv (((bytesOf s).drop i).take (j - i)) 0
    · simp only [if_pos hb]
      rw [if_pos (by omega)]
    · simp only [if_neg hb]
      rw [if_neg (by omega), if_pos (by omega)]
  intro l
  induction l with
  | nil =>
    intro j k h hij hj hk hd
    obtain ⟨k, rfl⟩ : ∃ m, k = m + 1 := ⟨k - 1, by omega⟩
    have := bt_nil h
    refine ⟨k, by simp, ?_⟩
    simp only [timeboundref02_Scan.l2, List.takeWhile_nil, List.length_nil, Nat.add_zero, List.append_nil]
    rw [if_neg (by omega)]
    exact hend j k hij hj (by simp at hk; omega) hd
  | cons c r ih =>
    intro j k h hij hj hk hd
    obtain ⟨k, rfl⟩ : ∃ m, k = m + 1 := ⟨k - 1, by simp at hk; omega⟩
    obtain ⟨h1, h2, h3⟩ := bt_cons h
    simp only [timeboundref02_Scan.l2]
    rw [if_pos (by omega), if_pos (by omega), h2, rdigit_eq]
    simp only [Option.bind_some]
    have e1 : wrap64 ((j : Int) + 1) = ((j + 1 : Nat) : Int) := by rw [wrap_small (by omega) (by omega)]; omega
    rw [e1]
    by_cases ha : isD c = true
    · have hsucc : ((bytesOf s).drop i).take (j + 1 - i) = ((bytesOf s).drop i).take (j - i) ++ [c] := by
        have e : j + 1 - i = (j - i) + 1 := by omega
        have hg : ((bytesOf s).drop i)[j - i]? = some c := by
          rw [List.getElem?_drop, show i + (j - i) = j by omega, ← List.head?_drop, h]; rfl
        rw [e, List.take_add_one, hg]; rfl
      obtain ⟨k', hk', hr⟩ := ih (j + 1) k h3 (by omega) (by omega) (by simp only [List.length_cons] at hk; omega) (by rw [hsucc]; intro x hx; rcases List.mem_append.1 hx with hx | hx; exact hd x hx; simp at hx; rw [hx]; exact ha)
      have htw : (c :: r).takeWhile isD = c :: r.takeWhile isD := by simp [List.takeWhile_cons, ha]
      refine ⟨k', by rw [htw]; simp; omega, ?_⟩
      rw [if_pos ha, hr, htw, hsucc]
      simp only [List.append_assoc, List.singleton_append, List.length_cons]
      have e3 : j + 1 + (r.takeWhile isD).length = j + ((r.takeWhile isD).length + 1) := by omega
      rw [e3]
    · have htw : (c :: r).takeWhile isD = [] := by simp [List.takeWhile_cons, ha]
      refine ⟨k, by rw [htw]; simp, ?_⟩
      rw [if_neg ha, htw]
      simp only [List.append_nil, List.length_nil, Nat.add_zero]
      exact hend j k hij hj (by simp at hk; omega) hd
theorem rscan_eq (s : ByteArray) (hs : s.size ≤ 8192) : ∀ (f : Nat) (l : List Int) (i k : Nat) (out : List TS) (line : Int), (bytesOf s).drop i = l → i ≤ s.size → l.length ≤ f → 4 * l.length + 40 ≤ k → out.length ≤ i → 0 ≤ line → line ≤ i + 1 →
    timeboundref02_Scan.l0 k s out line i = some (scanM f l out line) := by
  intro f
  induction f with
  | zero =>
    intro l i k out line h hi hf hk ho h0 h1
    obtain rfl := List.eq_nil_of_length_eq_zero (Nat.le_zero.1 hf)
    obtain ⟨k, rfl⟩ : ∃ m, k = m + 1 := ⟨k - 1, by omega⟩
    have := bt_nil h
    simp only [timeboundref02_Scan.l0, scanM]
    rw [if_neg (by omega)]
  | succ f ih =>
    intro l i k out line h hi hf hk ho h0 h1
    obtain ⟨k, rfl⟩ : ∃ m, k = m + 1 := ⟨k - 1, by omega⟩
    cases l with
    | nil =>
      have := bt_nil h
      simp only [timeboundref02_Scan.l0, scanM]
      rw [if_neg (by omega)]
    | cons c r =>
      obtain ⟨h2, h3, h4⟩ := bt_cons h
      have hlen : r.length + 1 = s.size - i := by have := congrArg List.length h; simp only [List.length_drop, bytesOf_length, List.length_cons] at this; omega
      simp only [List.length_cons] at hf hk
      have e1 : wrap64 ((i : Int) + 1) = ((i + 1 : Nat) : Int) := by rw [wrap_small (by omega) (by omega)]; omega
      have E1 := Lib.hid e1
      clear e1
      have hsp : ∀ m, 4 * r.length + 40 ≤ m → timeboundref02_Scan.l0 m s out line ((i + 1 : Nat) : Int) = some (scanM f r out line) := by
        intro m hm
        have q1 : i + 1 ≤ s.size := h2
        have q2 : r.length ≤ f := Nat.le_of_succ_le_succ hf
        have q3 : out.length ≤ i + 1 := Nat.le_succ_of_le ho
        have q4 : line ≤ ((i + 1 : Nat) : Int) + 1 := by clear ih h h4 h3 hf hk; omega
        exact ih r (i + 1) m out line h4 q1 q2 hm q3 h0 q4
      simp only [timeboundref02_Scan.l0, scanM]
      rw [if_pos (by omega), if_pos (by omega), h3]
      by_cases c10 : c = 10
      · rw [if_pos c10, if_pos c10, wrap_small (i := line + 1) (by omega) (by omega), E1.out]
        exact ih r (i + 1) k out (line + 1) h4 (by omega) (by omega) (by omega) (by omega) (by omega) (by omega)
      · rw [if_neg c10, if_neg c10]
        obtain ⟨k, rfl⟩ : ∃ m, k = m + 1 := ⟨k - 1, by omega⟩
        by_cases c32 : c = 32
        · rw [if_pos c32, if_pos (.inl c32)]
          simp only [timeboundref02_Scan.j1, if_true]
          rw [E1.out]
          exact hsp k (by omega)
        · rw [if_neg c32]
          by_cases c9 : c = 9
          · rw [if_pos (.inr c9)]
            simp only [timeboundref02_Scan.j1]
            rw [if_pos (by simp [c9]), E1.out]
            exact hsp k (by omega)
          · rw [if_neg (by omega)]
            simp only [timeboundref02_Scan.j1]
            rw [if_neg (by simpa using c9), rletter_eq]
            simp only [Option.bind_some]
            by_cases hl : isL c = true
            · rw [if_pos hl]
              obtain ⟨k', hk', hr⟩ := rscan_name s hs out (by omega) line i hi (c :: r) i k h (by omega) hi (by simp; omega)
              rw [hr]
              have htw : 1 ≤ ((c :: r).takeWhile isA).length := by simp [List.takeWhile_cons, isL_isA hl]
              have hle := tw_le isA (c :: r)
              simp only [List.length_cons] at hle
              by_cases h12 : 12 < ((c :: r).takeWhile isA).length
              · have hm : nextM (c :: r) = none := by simp only [nextM, if_pos hl, if_pos h12]
                rw [if_pos (by omega), hm]
              · have hm : nextM (c :: r) = some (1, 0, (c :: r).takeWhile isA, ((c :: r).takeWhile isA).length) := by simp only [nextM, if_pos hl, if_neg h12]
                rw [if_neg (by omega), hm]
                have ht : s.extract i (i + ((c :: r).takeWhile isA).length) = strOfNums ((c :: r).takeWhile isA) := by
                  refine bytesOf_inj ?_
                  rw [bytes_ext, h, show i + ((c :: r).takeWhile isA).length - i = ((c :: r).takeWhile isA).length by omega, take_tw, bytes_strOfNums]
                  intro x hx
                  exact bytes_lt s x (List.mem_of_mem_drop (by rw [h]; exact (List.takeWhile_sublist _).subset hx))
                rw [ht]
                exact ih _ _ k' _ line (by rw [← h, List.drop_drop]) (by omega) (by simp; omega) (by simp; omega) (by simp; omega) (by omega) (by omega)
            · rw [if_neg hl, rdigit_eq]
              simp only [Option.bind_some]
              by_cases hd : isD c = true
              · rw [if_pos hd]
                obtain ⟨k', hk', hr⟩ := rscan_num s hs out (by omega) line i hi (c :: r) i k h (by omega) hi (by simp; omega) (by simp)
                rw [hr]
                have htw : 1 ≤ ((c :: r).takeWhile isD).length := by simp [List.takeWhile_cons, hd]
                have hle := tw_le isD (c :: r)
                simp only [List.length_cons] at hle
                have e0 : ((bytesOf s).drop i).take (i - i) ++ (c :: r).takeWhile isD = (c :: r).takeWhile isD := by simp
                rw [e0]
                by_cases hv : 2147483647 < numv ((c :: r).takeWhile isD) 0
                · have hm : nextM (c :: r) = none := by simp only [nextM, if_neg hl, if_pos hd, if_pos hv]
                  rw [if_pos hv, hm]
                · have hm : nextM (c :: r) = some (2, numv ((c :: r).takeWhile isD) 0, [], ((c :: r).takeWhile isD).length) := by simp only [nextM, if_neg hl, if_pos hd, if_neg hv]
                  rw [if_neg hv, hm]
                  exact ih _ _ k' _ line (by rw [← h, List.drop_drop]) (by omega) (by simp; omega) (by simp; omega) (by simp; omega) (by omega) (by omega)
              · rw [if_neg hd, if_pos (by omega), if_pos (by omega), Int.toNat_natCast]
                have hx : bytesOf (s.extract i s.size) = c :: r := by rw [bytes_ext, h, List.take_of_length_le]; simp only [List.length_cons]; omega
                rw [rsign_eq (s.extract i s.size) (by simp; omega) k (by omega), hx]
                simp only [Option.bind_some]
                have hsl := signM_le (c :: r)
                have hcb : ∀ x ∈ (c :: r).take (signM (c :: r)), 0 ≤ x ∧ x ≤ 255 := fun x hx => bytes_lt s x (List.mem_of_mem_drop (by rw [h]; exact List.mem_of_mem_take hx))
                have hbs := bytes_strOfNums _ hcb
                by_cases hz : signM (c :: r) = 0
                · have hm : nextM (c :: r) = none := by simp only [nextM, if_neg hl, if_neg hd, if_pos hz]
                  rw [hm, if_pos ((nil_iff _).2 (by rw [hbs, hz]; rfl))]
                · have hm : nextM (c :: r) = some (3, 0, (c :: r).take (signM (c :: r)), signM (c :: r)) := by simp only [nextM, if_neg hl, if_neg hd, if_neg hz]
                  have hsz : (strOfNums ((c :: r).take (signM (c :: r)))).size = signM (c :: r) := by rw [← bytesOf_length, hbs, List.length_take]; omega
                  rw [hm, if_neg (fun q => hz ?_), if_pos (by omega), hsz, wrap_small (by omega) (by simp only [List.length_cons] at hsl; omega)]
                  · have e2 : (i : Int) + (signM (c :: r) : Int) = ((i + signM (c :: r) : Nat) : Int) := by omega
                    rw [e2]
                    simp only [List.length_cons] at hsl
                    exact ih _ _ k _ line (by rw [← h, List.drop_drop]) (by omega) (by simp; omega) (by simp; omega) (by simp; omega) (by omega) (by omega)
                  · have := (nil_iff _).1 q
                    rw [hbs] at this
                    have := congrArg List.length this
                    simp only [List.length_take, List.length_cons, List.length_nil] at this hsl
                    omega
theorem rScan_eq (s : ByteArray) (k : Nat) (hk : 4 * s.size + 40 ≤ k) : timeboundref02_Scan.f k s = some (scanA s) := by
  unfold timeboundref02_Scan.f scanA
  by_cases h : 8192 < s.size
  · rw [if_pos (by omega), if_pos h]
  · rw [if_neg (by omega), if_neg h]
    have hl := bytesOf_length s
    exact rscan_eq s (by omega) s.size (bytesOf s) 0 k [] 1 rfl (by omega) (by omega) (by omega) (by simp) (by omega) (by omega)
end Go.Proofs.YtcnmejahighkfaaDoor.Tok
-- TokC
/- The parts of the laws on tokens. -/
namespace Go.Proofs.YtcnmejahighkfaaDoor.Tok
open Go.RowKit Go.Proofs.YtcnmejahighkfaaDoor.P Go.Proofs.YtcnmejahighkfaaDoorW.PrintWords Go.Proofs.YtcnmejahighkfaaDoorW.PrintLast Go.Proofs.YtcnmejahighkfaaDoorW.PrintMore
set_option linter.unusedVariables false
set_option linter.unusedSimpArgs false

theorem scan_awake : scanA (⟨#[105, 60, 61, 49, 48]⟩ : ByteArray) = ([⟨1, 0, 1, ⟨#[105]⟩⟩, ⟨3, 0, 1, ⟨#[60, 61]⟩⟩, ⟨2, 10, 1, ⟨#[]⟩⟩], 0, 0) := by kernel_rfl
theorem name_a1 : nameM (bytesOf (⟨#[97, 49]⟩ : ByteArray)) = 2 := by kernel_rfl
theorem itoa_10 : (⟨(Lib.itoa 10).toArray⟩ : ByteArray) = ⟨#[49, 48]⟩ := by kernel_rfl
theorem awake_eq (k : Nat) (hk : 5 ≤ k) : timeboundlaw02_awake.f k = some true := by
  obtain ⟨k, rfl⟩ : ∃ m, k = m + 1 := ⟨k - 1, by omega⟩
  obtain ⟨L, hL⟩ : ∃ L : List TS, L = [⟨1, 0, 1, ⟨#[105]⟩⟩, ⟨3, 0, 1, ⟨#[60, 61]⟩⟩, ⟨2, 10, 1, ⟨#[]⟩⟩] := ⟨_, rfl⟩
  have hlen : (L.length : Int) = 3 := by rw [hL]; rfl
  have e0 : (rd_T59 L 0).f3.toList = ([105] : List UInt8) := by rw [hL, toList_data]; rfl
  have e1 : (rd_T59 L 1).f3.toList = ([60, 61] : List UInt8) := by rw [hL, toList_data]; rfl
  have e2 : (rd_T59 L 2).f1 = 10 := by rw [hL]; rfl
  have e3 : (rd_T59 L 2).f0 = 2 := by rw [hL]; rfl
  have h1 : token_Name.f (k + 1) (⟨#[97, 49]⟩ : ByteArray) = some true := by
    unfold token_Name.f
    rw [if_neg (by rw [toList_data]; simp), if_pos (by decide), name_eq _ (by show 2 ≤ 1000000; omega) (k + 1) (by show 2 < k + 1; omega), name_a1]
    rfl
  have h2 : ∀ (a : Int) (b : ByteArray), token_Word.f (k + 1) 2 10 a b = some ⟨#[49, 48]⟩ := by
    intro a b
    unfold token_Word.f
    rw [if_neg (by omega)]
    simp only [token_Word.j0]
    rw [if_neg (by decide), if_pos trivial, if_neg (by omega), if_neg (by omega)]
    unfold strconv_Itoa.f
    rw [if_pos (by omega), if_pos (by omega), itoa_10]
    rfl
  unfold timeboundlaw02_awake.f
  rw [Scan_eq, scan_awake, ← hL]
  simp only [Option.bind_some]
  rw [if_pos trivial, if_pos trivial, if_pos hlen, if_pos (by omega), if_pos e0, if_pos (by omega), if_pos e1, if_pos (by omega), if_pos e2, h1]
  simp only [Option.bind_some, if_true]
  rw [e2, e3, h2]
  simp only [Option.bind_some]
  rw [toList_data]
  rfl
/-- Two lists of tokens are equal, but perhaps for the lines. -/
def eqTok (lines : Bool) (a b : TS) : Prop := a.f0 = b.f0 ∧ a.f1 = b.f1 ∧ a.f3 = b.f3 ∧ (lines = true → a.f2 = b.f2)
theorem rd_at (xs : List TS) (i : Nat) (h : i < xs.length) : rd_T59 xs (i : Int) = xs[i] := by simp [rd_T59, h]
theorem same_l0 (a b : List TS) (lines : Bool) (hl : a.length = b.length) (hb : a.length ≤ 1000000000) (h : ∀ (i : Nat) (h1 : i < a.length) (h2 : i < b.length), eqTok lines a[i] b[i]) : ∀ (d i k : Nat), a.length - i = d → i ≤ a.length → d < k → timeboundref02_Same.l0 k a b lines i = some true := by
  intro d
  induction d with
  | zero =>
    intro i k hd hi hk
    obtain ⟨k, rfl⟩ : ∃ m, k = m + 1 := ⟨k - 1, by omega⟩
    simp only [timeboundref02_Same.l0]
    rw [if_neg (by omega)]
  | succ d ih =>
    intro i k hd hi hk
    obtain ⟨k, rfl⟩ : ∃ m, k = m + 1 := ⟨k - 1, by omega⟩
    have h1 : i < a.length := by omega
    have h2 : i < b.length := by omega
    obtain ⟨e0, e1, e3, e2⟩ := h i h1 h2
    have hw : wrap64 ((i : Int) + 1) = ((i + 1 : Nat) : Int) := by rw [wrap_small (by omega) (by omega)]; omega
    have HW := Lib.hid hw
    clear hw
    have hn := ih (i + 1) k (by omega) (by omega) (by omega)
    simp only [timeboundref02_Same.l0]
    rw [if_pos (by omega), if_pos (by omega), if_pos (by omega), rd_at a i h1, rd_at b i h2, if_pos e0, if_pos e1, if_pos (by rw [e3]), HW.out]
    cases lines with
    | false => simpa using hn
    | true => rw [if_pos rfl, if_pos (e2 rfl)]; exact hn
theorem same_eq (a b : List TS) (lines : Bool) (hl : a.length = b.length) (hb : a.length ≤ 1000000000) (h : ∀ (i : Nat) (h1 : i < a.length) (h2 : i < b.length), eqTok lines a[i] b[i]) (k : Nat) (hk : a.length < k) : timeboundref02_Same.f k a b lines = some true := by
  unfold timeboundref02_Same.f
  rw [if_pos (by omega)]
  exact same_l0 a b lines hl hb h a.length 0 k (by omega) (by omega) hk
theorem same_self (a : List TS) (hb : a.length ≤ 1000000000) (k : Nat) (hk : a.length < k) : timeboundref02_Same.f k a a true = some true :=
  same_eq a a true rfl hb (fun i h1 h2 => ⟨rfl, rfl, rfl, fun _ => rfl⟩) k hk
theorem scanM_len : ∀ (f : Nat) (l : List Int) (out : List TS) (line : Int), (scanM f l out line).1.length ≤ out.length + f := by
  intro f
  induction f with
  | zero => intro l out line; simp [scanM]
  | succ f ih =>
    intro l out line
    cases l with
    | nil => simp [scanM]
    | cons c r =>
      simp only [scanM]
      split
      · have := ih r out (line + 1); omega
      · split
        · have := ih r out line; omega
        · cases nextM (c :: r) with
          | none => simp
          | some x =>
            obtain ⟨a, b, t, n⟩ := x
            have := ih ((c :: r).drop n) (out ++ [⟨a, b, line, strOfNums t⟩]) line
            simp at this ⊢
            omega
theorem scanA_len (s : ByteArray) : (scanA s).1.length ≤ 8192 := by
  unfold scanA
  split
  · simp
  · have := scanM_len s.size (bytesOf s) [] 1
    simp at this
    omega
def pieceList : List ByteArray := [⟨#[97]⟩, ⟨#[116, 97, 115, 107]⟩, ⟨#[120, 57]⟩, ⟨#[49, 50]⟩, ⟨#[48]⟩, ⟨#[48, 48, 55]⟩, ⟨#[50, 49, 52, 55, 52, 56, 51, 54, 52, 55]⟩, ⟨#[50, 49, 52, 55, 52, 56, 51, 54, 52, 56]⟩, ⟨#[60]⟩, ⟨#[60, 60]⟩, ⟨#[61]⟩, ⟨#[61, 61]⟩, ⟨#[33]⟩, ⟨#[33, 61]⟩, ⟨#[62]⟩, ⟨#[62, 62]⟩, ⟨#[43]⟩, ⟨#[45]⟩, ⟨#[42]⟩, ⟨#[47]⟩, ⟨#[37]⟩, ⟨#[38]⟩, ⟨#[124]⟩, ⟨#[94]⟩, ⟨#[40]⟩, ⟨#[41]⟩, ⟨#[91]⟩, ⟨#[93]⟩, ⟨#[123]⟩, ⟨#[125]⟩, ⟨#[32]⟩, ⟨#[32, 32]⟩, ⟨#[9]⟩, ⟨#[10]⟩, ⟨#[65]⟩, ⟨#[95]⟩, ⟨#[97, 98, 99, 100, 101, 102, 103, 104, 105, 106, 107, 108]⟩, ⟨#[109]⟩, ⟨#[13]⟩, ⟨#[195, 169]⟩]
theorem piece_len : pieceList.length = 40 := by decide +kernel
theorem piece_size : ∀ p ∈ pieceList, p.size ≤ 12 := by decide +kernel
theorem wf_range {x : Int} (h : (Lit.int .u8 x).wf = true) : 0 ≤ x ∧ x ≤ 255 := Go.bounds_u8 h
theorem pieces_l0 (l0 : List Int) (hw : ∀ x ∈ l0, 0 ≤ x ∧ x ≤ 255) (hlen : l0.length ≤ 140737488351232) : ∀ (d i k : Nat) (t : ByteArray), 60 - i = d → i ≤ 60 → d < k → t.size ≤ 12 * i → ∃ r, (∀ k, d < k → timeboundlaw02_pieces.l0 k l0 pieceList t i = some r) ∧ r.size ≤ 720 := by
  intro d
  induction d with
  | zero =>
    intro i k t hd hi hk ht
    refine ⟨t, fun k hk => ?_, by omega⟩
    obtain ⟨k, rfl⟩ : ∃ m, k = m + 1 := ⟨k - 1, by omega⟩
    simp only [timeboundlaw02_pieces.l0]
    split
    · rw [if_neg (by omega)]
    · rfl
  | succ d ih =>
    intro i k t hd hi hk ht
    by_cases hil : i < l0.length
    · have hx := hw l0[i] (List.getElem_mem hil)
      have hr : rd l0 (i : Int) = l0[i] := by simp [rd, hil]
      have hpl : (pieceList.length : Int) = 40 := by rw [piece_len]; rfl
      have htm : Int.tmod l0[i] 40 = l0[i] % 40 := Int.tmod_eq_emod_of_nonneg hx.1
      have hj0 : 0 ≤ l0[i] % 40 := by omega
      have hj1 : l0[i] % 40 < 40 := by omega
      have hmem : rdOf ByteArray.empty pieceList (l0[i] % 40) ∈ pieceList := by
        have hlt : (l0[i] % 40).toNat < pieceList.length := by rw [piece_len]; omega
        have e : rdOf ByteArray.empty pieceList (l0[i] % 40) = pieceList[(l0[i] % 40).toNat] := by simp only [rdOf, List.getD_eq_getElem?_getD, List.getElem?_eq_getElem hlt, Option.getD_some]
        rw [e]
        exact List.getElem_mem hlt
      have hps := piece_size _ hmem
      obtain ⟨r, hr2, hrs⟩ := ih (i + 1) (d + 1) (t ++ rdOf ByteArray.empty pieceList (l0[i] % 40)) (by omega) (by omega) (by omega) (by rw [ByteArray.size_append]; omega)
      refine ⟨r, fun k hk => ?_, hrs⟩
      obtain ⟨k, rfl⟩ : ∃ m, k = m + 1 := ⟨k - 1, by omega⟩
      have hw1 : wrap64 ((i : Int) + 1) = ((i + 1 : Nat) : Int) := by rw [wrap_small (by omega) (by omega)]; omega
      have HW := Lib.hid hw1
      clear hw1
      simp only [timeboundlaw02_pieces.l0]
      rw [if_pos (by omega), if_pos (by omega), if_pos (by omega), hr, wrap_small (by omega) (by omega), hpl, htm, if_neg (by omega), if_pos hj0, if_pos hj1, if_pos (by omega), HW.out]
      exact hr2 k (by omega)
    · refine ⟨t, fun k hk => ?_, by omega⟩
      obtain ⟨k, rfl⟩ : ∃ m, k = m + 1 := ⟨k - 1, by omega⟩
      simp only [timeboundlaw02_pieces.l0]
      rw [if_neg (by omega)]
theorem pieces_eq (l0 : List Int) (hw : ∀ x ∈ l0, (Lit.int .u8 x).wf = true) (hlen : l0.length ≤ 140737488351232) : ∃ r, (∀ k, 60 < k → timeboundlaw02_pieces.f k l0 = some r) ∧ r.size ≤ 720 := by
  have h0 : (⟨#[]⟩ : ByteArray).size = 0 := rfl
  obtain ⟨r, h, hs⟩ := pieces_l0 l0 (fun x hx => wf_range (hw x hx)) hlen 60 0 61 ⟨#[]⟩ rfl (by omega) (by omega) (by omega)
  exact ⟨r, fun k hk => h k hk, hs⟩
end Go.Proofs.YtcnmejahighkfaaDoor.Tok
-- Pf28
namespace Go.Proofs.YtcnmejahighkfaaDoor.P
open Go.RowKit Go.Proofs.YtcnmejahighkfaaDoorW.PrintWords Go.Proofs.YtcnmejahighkfaaDoorW.PrintLast Go.Proofs.YtcnmejahighkfaaDoorW.PrintMore
attribute [local go_sem] max2_int min2_int max_two min_two max_three min_three max_four min_four   -- for this text's walks alone
set_option linter.unusedVariables false
set_option linter.unusedSimpArgs false

/-! ### timeboundref02_Name: function 28 -/
mutual
def timeboundref02_Name.j0 : Nat → ByteArray → Bool → Option (Bool)
  | 0, _, _ => none
  | k + 1, x0, x17 => if x17 = true then (some false) else (timeboundref02_Name.l0 k x0 0)
def timeboundref02_Name.l0 : Nat → ByteArray → Int → Option (Bool)
  | 0, _, _ => none
  | k + 1, x0, x3 => if x3 < (x0.size : Int) then (if 0 ≤ x3 then ((timeboundref02_letter.f (bt x0 x3)).bind fun t355 => (if t355 = true then (timeboundref02_Name.l0 k x0 (wrap64 (x3 + 1))) else ((timeboundref02_digit.f (bt x0 x3)).bind fun t356 => (if t356 = true then (timeboundref02_Name.l0 k x0 (wrap64 (x3 + 1))) else (some false))))) else (none)) else (some true)
end
def timeboundref02_Name.f (k : Nat) (a0 : ByteArray) : Option (Bool) := if (a0.size : Int) < 1 then (timeboundref02_Name.j0 k a0 true) else (if (a0.size : Int) > 12 then (timeboundref02_Name.j0 k a0 true) else (if 0 < (a0.size : Int) then ((timeboundref02_letter.f (bt a0 0)).bind fun t354 => (timeboundref02_Name.j0 k a0 (!t354))) else (none)))
theorem timeboundref02_Name.mono_l : ∀ k, (∀ y0 y1, LeO (timeboundref02_Name.j0 k y0 y1) (timeboundref02_Name.j0 (k + 1) y0 y1)) ∧ (∀ y0 y1, LeO (timeboundref02_Name.l0 k y0 y1) (timeboundref02_Name.l0 (k + 1) y0 y1))
  | 0 => ⟨fun _ _ r h => by simp [timeboundref02_Name.j0] at h, fun _ _ r h => by simp [timeboundref02_Name.l0] at h⟩
  | k + 1 => by
    obtain ⟨ih0, ih1⟩ := timeboundref02_Name.mono_l k
    refine ⟨?_, ?_⟩
    · intro y0 y1
      unfold timeboundref02_Name.j0
      repeat' first
      | (with_reducible exact ih0 _ _)
      | (with_reducible exact ih1 _ _)
      | (with_reducible exact LeO.refl _)
      | (with_reducible exact LeO.none _)
      | (with_reducible refine LeO.ite ?_ ?_)
      | (with_reducible refine LeO.bind ?_ (fun _ => ?_))
      | exact ih0 _ _
      | exact ih1 _ _
      | exact LeO.none _
      | refine LeO.ite ?_ ?_
      | refine LeO.bind ?_ (fun _ => ?_)
    · intro y0 y1
      unfold timeboundref02_Name.l0
      repeat' first
      | (with_reducible exact ih0 _ _)
      | (with_reducible exact ih1 _ _)
      | (with_reducible exact LeO.refl _)
      | (with_reducible exact LeO.none _)
      | (with_reducible refine LeO.ite ?_ ?_)
      | (with_reducible refine LeO.bind ?_ (fun _ => ?_))
      | exact ih0 _ _
      | exact ih1 _ _
      | exact LeO.none _
      | refine LeO.ite ?_ ?_
      | refine LeO.bind ?_ (fun _ => ?_)
theorem timeboundref02_Name.mono : ∀ a0 k, LeO (timeboundref02_Name.f k a0) (timeboundref02_Name.f (k + 1) a0) := by
  intro a0 k
  obtain ⟨ih0, ih1⟩ := timeboundref02_Name.mono_l k
  unfold timeboundref02_Name.f
  repeat' first
      | (with_reducible exact ih0 _ _)
      | (with_reducible exact ih1 _ _)
      | (with_reducible exact LeO.refl _)
      | (with_reducible exact LeO.none _)
      | (with_reducible refine LeO.ite ?_ ?_)
      | (with_reducible refine LeO.bind ?_ (fun _ => ?_))
      | exact ih0 _ _
      | exact ih1 _ _
      | exact LeO.none _
      | refine LeO.ite ?_ ?_
      | refine LeO.bind ?_ (fun _ => ?_)
set_option maxHeartbeats 8000000 in
set_option maxRecDepth 100000 in
theorem timeboundref02_Name.calls (k : Nat) (a0 : ByteArray) (r : Bool) (w : World) (h : timeboundref02_Name.f k a0 = some r) :
    Calls Tryd.prog 28 #[.string a0] w fun e w' => e = .returned (.bool r) ∧ Drawn0 w w' := by
  have H : (if (a0.size : Int) < 1 then (timeboundref02_Name.j0 k a0 true) else (if (a0.size : Int) > 12 then (timeboundref02_Name.j0 k a0 true) else (if 0 < (a0.size : Int) then ((timeboundref02_letter.f (bt a0 0)).bind fun t354 => (timeboundref02_Name.j0 k a0 (!t354))) else (none)))) = some r := h
  clear h
  have HC2 := Aside0.mk H
  clear H
  go_enter Tryd.func28, Tryd.ntmps28
  go_upto_region 1 with (fail)
  go_cut [17] (fun v17 wc => ∃ (kq : Nat) (x17_1 : Bool), v17 = .bool x17_1 ∧ Aside0 (timeboundref02_Name.j0 kq a0 x17_1 = some r) ∧ Aside0 (kq ≤ k) ∧ Drawn0 w wc)
  case first =>
    have H := HC2.out
    clear HC2
    by_cases c3 : (a0.size : Int) < 1
    · rw [if_pos c3] at H
      have c3b0 : decide ((a0.size : Int) < 1) = true := decide_eq_true c3
      have c3b1 : decide (a0.size < 1) = true := decide_eq_true (by omega)
      clear c3
      (first | rw [c3b0] | (simp only [i64_w, i32_w]; rw [c3b0]) | skip)
      have H' := Aside0.mk H
      clear H
      go_wp2
      go_meet
      case rel => exact ⟨_, (true), (by first | rfl | (simp; done) | (simp [*]; done)), H', ⟨by first | omega | exact Nat.le_refl _⟩, by repeat (first | exact Drawn0.refl _ | apply Drawn0.step)⟩
    · rw [if_neg c3] at H
      have c3b0 : decide ((a0.size : Int) < 1) = false := decide_eq_false c3
      have c3b1 : decide (a0.size < 1) = false := decide_eq_false (by omega)
      clear c3
      (first | rw [c3b0] | (simp only [i64_w, i32_w]; rw [c3b0]) | skip)
      by_cases c4 : (a0.size : Int) > 12
      · rw [if_pos c4] at H
        have c4b0 : decide (12 < (a0.size : Int)) = true := decide_eq_true c4
        have c4b1 : decide (12 < a0.size) = true := decide_eq_true (by omega)
        clear c4
        have H' := Aside0.mk H
        clear H
        go_wp2
        go_meet
        case rel => exact ⟨_, (true), (by first | rfl | (simp; done) | (simp [*]; done)), H', ⟨by first | omega | exact Nat.le_refl _⟩, by repeat (first | exact Drawn0.refl _ | apply Drawn0.step)⟩
      · rw [if_neg c4] at H
        have c4b0 : decide (12 < (a0.size : Int)) = false := decide_eq_false c4
        have c4b1 : decide (12 < a0.size) = false := decide_eq_false (by omega)
        clear c4
        by_cases c5 : 0 < (a0.size : Int)
        · rw [if_pos c5] at H
          have c5b0 : decide (0 < (a0.size : Int)) = true := decide_eq_true c5
          have c5b1 : decide (0 < a0.size) = true := decide_eq_true (by omega)
          clear c5
          replace H := Option.bind_eq_some_iff.mp H
          obtain ⟨t354, A70, H⟩ := H
          replace H : (timeboundref02_Name.j0 k a0 (!t354)) = some r := H
          have A7 := Aside0.mk A70
          clear A70
          have H' := Aside0.mk H
          clear H
          have p6 : 0 ≤ (0 : Int) := (by omega)
          have q6 : 0 < a0.size := (by have : (0 : Int) < (a0.size : Int) := of_decide_eq_true (by first | (with_reducible assumption) | assumption); omega)
          have hx6 : ∀ h : 0 < a0.size, ((a0[0]'h).toNat : Int) = bt a0 0 := bt_at a0 0
          clear p6
          have qi6 : (0 < (a0.size : Int)) = True := eq_true (of_decide_eq_true (by first | (with_reducible assumption) | assumption))
          replace q6 := eq_true q6
          go_wp2_with (first | (go_at_call 48; (with_reducible refine (timeboundref02_letter.calls (bt a0 0) t354 _ A7.out).mono ?_); rintro e w' ⟨rfl, ⟨nd, rfl⟩⟩))
          go_meet
          case rel => exact ⟨_, (!t354), (by first | rfl | (simp; done) | (simp [*]; done)), H', ⟨by first | omega | exact Nat.le_refl _⟩, by repeat (first | exact Drawn0.refl _ | apply Drawn0.step)⟩
        · rw [if_neg c5] at H
          exact absurd H (by simp)
  case rest =>
    clear HC2
    try clear c2
    try clear p2
    try clear c3
    try clear c3b0
    try clear c3b1
    try clear c4
    try clear c4b0
    try clear c4b1
    try clear c5
    try clear c5b0
    try clear c5b1
    try clear p6
    try clear q6
    try clear hx6
    try clear qi6
    try clear p6
    try clear q6
    obtain ⟨kq, x17_1, rfl, HA, HJ1, ⟨mc1, rfl⟩⟩ := hcut
    cases kq with
    | zero => exact absurd HA.out (by simp [timeboundref02_Name.j0])
    | succ kj1 =>
      have H := HA.out
      clear HA
      simp only [timeboundref02_Name.j0] at H
      by_cases c8 : x17_1 = true
      · subst c8
        have H1 : (some false) = some r := by rw [if_pos rfl] at H; exact H
        clear H
        have H := H1
        clear H1
        obtain rfl := Option.some.inj H
        go_wp2
        go_ret
        exact ⟨by first | rfl | (simp; done) | (simp [*]; done), by repeat (first | exact Drawn0.refl _ | apply Drawn0.step)⟩
      · replace c8 := Bool.eq_false_iff.mpr c8
        subst c8
        have H1 : (timeboundref02_Name.l0 kj1 a0 0) = some r := by rw [if_neg (show ¬ (false = true) by decide)] at H; exact H
        clear H
        have H := H1
        clear H1
        have H' := Aside0.mk H
        clear H
        go_wp2
        go_loopg [3] kj1 (fun kq v3 w' => ∃ (x3_2 : Int), v3 = .int .i64 x3_2 ∧ Aside0 (timeboundref02_Name.l0 kq a0 x3_2 = some r) ∧ Aside0 (kq ≤ kj1) ∧ Drawn0 w w')
        case atStart => exact ⟨(0), (by first | rfl | (simp; done) | (simp [*]; done)), H', ⟨Nat.le_refl _⟩, by repeat (first | exact Drawn0.refl _ | apply Drawn0.step)⟩
        case round =>
          clear H'
          try clear c1
          try clear c2
          try clear p2
          try clear c3
          try clear c3b0
          try clear c3b1
          try clear c4
          try clear c4b0
          try clear c4b1
          try clear c5
          try clear c5b0
          try clear c5b1
          try clear p6
          try clear q6
          try clear hx6
          try clear qi6
          try clear c8
          try clear p2
          try clear p6
          try clear q6
          obtain ⟨x3_2, rfl, HA, HK2, ⟨m2, rfl⟩⟩ := hrel
          cases gk with
          | zero => exact absurd HA.out (by simp [timeboundref02_Name.l0])
          | succ k2 =>
            have H := HA.out
            clear HA
            simp only [timeboundref02_Name.l0] at H
            by_cases c9 : x3_2 < (a0.size : Int)
            · rw [if_pos c9] at H
              have c9b0 : decide (x3_2 < (a0.size : Int)) = true := decide_eq_true c9
              clear c9
              by_cases c10 : 0 ≤ x3_2
              · rw [if_pos c10] at H
                have c10b0 : decide (0 ≤ x3_2) = true := decide_eq_true c10
                clear c10
                replace H := Option.bind_eq_some_iff.mp H
                obtain ⟨t355, A120, H⟩ := H
                replace H : (if t355 = true then (timeboundref02_Name.l0 k2 a0 (wrap64 (x3_2 + 1))) else ((timeboundref02_digit.f (bt a0 x3_2)).bind fun t356 => (if t356 = true then (timeboundref02_Name.l0 k2 a0 (wrap64 (x3_2 + 1))) else (some false)))) = some r := H
                have A12 := Aside0.mk A120
                clear A120
                by_cases c13 : t355 = true
                · subst c13
                  have H1 : (timeboundref02_Name.l0 k2 a0 (wrap64 (x3_2 + 1))) = some r := by rw [if_pos rfl] at H; exact H
                  clear H
                  have H := H1
                  clear H1
                  have H' := Aside0.mk H
                  clear H
                  have p11 : 0 ≤ (x3_2 : Int) := of_decide_eq_true (by first | (with_reducible assumption) | assumption)
                  have q11 : x3_2 < (a0.size : Int) := of_decide_eq_true (by first | (with_reducible assumption) | assumption)
                  have hx11 := bt_at a0 x3_2
                  replace p11 := eq_true p11
                  replace q11 := eq_true q11
                  go_wp2_with (first | ((with_reducible refine gate_callee (f := 48) rfl ?_); refine goesL_ (some 27) rfl rfl Tryd.func48 (by kernel_rfl) rfl #[.int .u8 (bt a0 x3_2)] rfl (by (try simp only [List.map_toArray, List.map_cons, List.map_nil]); first | done | rfl | (simp only [List.length_drop, List.length_take]; rfl)) ?_; (with_reducible refine (timeboundref02_letter.calls (bt a0 x3_2) true _ A12.out).mono ?_); rintro e w' ⟨rfl, ⟨nd, rfl⟩⟩; refine ⟨_, rfl, ?_⟩))
                  go_roundg k2
                  case measure => have := HJ1.out; have := HK2.out; omega
                  case rel => exact ⟨(wrap64 (x3_2 + 1)), (by first | rfl | (simp; done) | (simp [*]; done)), H', ⟨by have := HJ1.out; have := HK2.out; omega⟩, by repeat (first | exact Drawn0.refl _ | apply Drawn0.step)⟩
                · replace c13 := Bool.eq_false_iff.mpr c13
                  subst c13
                  have H1 : ((timeboundref02_digit.f (bt a0 x3_2)).bind fun t356 => (if t356 = true then (timeboundref02_Name.l0 k2 a0 (wrap64 (x3_2 + 1))) else (some false))) = some r := by rw [if_neg (show ¬ (false = true) by decide)] at H; exact H
                  clear H
                  have H := H1
                  clear H1
                  replace H := Option.bind_eq_some_iff.mp H
                  obtain ⟨t356, A150, H⟩ := H
                  replace H : (if t356 = true then (timeboundref02_Name.l0 k2 a0 (wrap64 (x3_2 + 1))) else (some false)) = some r := H
                  have A15 := Aside0.mk A150
                  clear A150
                  by_cases c16 : t356 = true
                  · subst c16
                    have H1 : (timeboundref02_Name.l0 k2 a0 (wrap64 (x3_2 + 1))) = some r := by rw [if_pos rfl] at H; exact H
                    clear H
                    have H := H1
                    clear H1
                    have H' := Aside0.mk H
                    clear H
                    have p11 : 0 ≤ (x3_2 : Int) := of_decide_eq_true (by first | (with_reducible assumption) | assumption)
                    have q11 : x3_2 < (a0.size : Int) := of_decide_eq_true (by first | (with_reducible assumption) | assumption)
                    have hx11 := bt_at a0 x3_2
                    replace p11 := eq_true p11
                    replace q11 := eq_true q11
                    go_wp2_with (first | ((with_reducible refine gate_callee (f := 48) rfl ?_); refine goesL_ (some 27) rfl rfl Tryd.func48 (by kernel_rfl) rfl #[.int .u8 (bt a0 x3_2)] rfl (by (try simp only [List.map_toArray, List.map_cons, List.map_nil]); first | done | rfl | (simp only [List.length_drop, List.length_take]; rfl)) ?_; (with_reducible refine (timeboundref02_letter.calls (bt a0 x3_2) false _ A12.out).mono ?_); rintro e w' ⟨rfl, ⟨nd, rfl⟩⟩; refine ⟨_, rfl, ?_⟩; have p14 : 0 ≤ (x3_2 : Int) := of_decide_eq_true (by first | (with_reducible assumption) | assumption); have q14 : x3_2 < (a0.size : Int) := of_decide_eq_true (by first | (with_reducible assumption) | assumption); have hx14 := bt_at a0 x3_2; replace p14 := eq_true p14; replace q14 := eq_true q14) | (go_at_call 49; (with_reducible refine (timeboundref02_digit.calls (bt a0 x3_2) true _ A15.out).mono ?_); rintro e w' ⟨rfl, ⟨nd, rfl⟩⟩))
                    go_roundg k2
                    case measure => have := HJ1.out; have := HK2.out; omega
                    case rel => exact ⟨(wrap64 (x3_2 + 1)), (by first | rfl | (simp; done) | (simp [*]; done)), H', ⟨by have := HJ1.out; have := HK2.out; omega⟩, by repeat (first | exact Drawn0.refl _ | apply Drawn0.step)⟩
                  · replace c16 := Bool.eq_false_iff.mpr c16
                    subst c16
                    have H1 : (some false) = some r := by rw [if_neg (show ¬ (false = true) by decide)] at H; exact H
                    clear H
                    have H := H1
                    clear H1
                    obtain rfl := Option.some.inj H
                    have p11 : 0 ≤ (x3_2 : Int) := of_decide_eq_true (by first | (with_reducible assumption) | assumption)
                    have q11 : x3_2 < (a0.size : Int) := of_decide_eq_true (by first | (with_reducible assumption) | assumption)
                    have hx11 := bt_at a0 x3_2
                    replace p11 := eq_true p11
                    replace q11 := eq_true q11
                    go_wp2_with (first | ((with_reducible refine gate_callee (f := 48) rfl ?_); refine goesL_ (some 27) rfl rfl Tryd.func48 (by kernel_rfl) rfl #[.int .u8 (bt a0 x3_2)] rfl (by (try simp only [List.map_toArray, List.map_cons, List.map_nil]); first | done | rfl | (simp only [List.length_drop, List.length_take]; rfl)) ?_; (with_reducible refine (timeboundref02_letter.calls (bt a0 x3_2) false _ A12.out).mono ?_); rintro e w' ⟨rfl, ⟨nd, rfl⟩⟩; refine ⟨_, rfl, ?_⟩; have p14 : 0 ≤ (x3_2 : Int) := of_decide_eq_true (by first | (with_reducible assumption) | assumption); have q14 : x3_2 < (a0.size : Int) := of_decide_eq_true (by first | (with_reducible assumption) | assumption); have hx14 := bt_at a0 x3_2; replace p14 := eq_true p14; replace q14 := eq_true q14) | (go_at_call 49; (with_reducible refine (timeboundref02_digit.calls (bt a0 x3_2) false _ A15.out).mono ?_); rintro e w' ⟨rfl, ⟨nd, rfl⟩⟩))
                    go_ret
                    exact ⟨by first | rfl | (simp; done) | (simp [*]; done), by repeat (first | exact Drawn0.refl _ | apply Drawn0.step)⟩
              · rw [if_neg c10] at H
                exact absurd H (by simp)
            · rw [if_neg c9] at H
              have c9b0 : decide (x3_2 < (a0.size : Int)) = false := decide_eq_false c9
              clear c9
              obtain rfl := Option.some.inj H
              go_wp2
              go_ret
              exact ⟨by first | rfl | (simp; done) | (simp [*]; done), by repeat (first | exact Drawn0.refl _ | apply Drawn0.step)⟩

end Go.Proofs.YtcnmejahighkfaaDoor.P
-- Pf56
namespace Go.Proofs.YtcnmejahighkfaaDoor.P
open Go.RowKit Go.Proofs.YtcnmejahighkfaaDoorW.PrintWords Go.Proofs.YtcnmejahighkfaaDoorW.PrintLast Go.Proofs.YtcnmejahighkfaaDoorW.PrintMore
attribute [local go_sem] max2_int min2_int max_two min_two max_three min_three max_four min_four   -- for this text's walks alone
set_option linter.unusedVariables false
set_option linter.unusedSimpArgs false

/-! ### timeboundref02_Decimal: function 56 -/
def timeboundref02_Decimal.f : Nat → Int → Option (ByteArray)
  | 0, _ => none
  | k + 1, a0 => if a0 < 10 then (some (strOfNums (([(wrap64 (48 + a0)) % 256] : List Int)))) else ((timeboundref02_Decimal.f k (wrap64 (Int.tdiv a0 10))).bind fun t372 => ((some (([(wrap64 (48 + (Int.tmod a0 10))) % 256] : List Int) : List Int)).bind fun y373 => (if t372.size + (strOfNums y373).size ≤ 9223372036854775807 then (some (t372 ++ (strOfNums y373))) else (none))))
theorem timeboundref02_Decimal.mono_l : ∀ k, (∀ y0, LeO (timeboundref02_Decimal.f k y0) (timeboundref02_Decimal.f (k + 1) y0))
  | 0 => fun _ r h => by simp [timeboundref02_Decimal.f] at h
  | k + 1 => by
    have ih0 := timeboundref02_Decimal.mono_l k
    · intro y0
      unfold timeboundref02_Decimal.f
      repeat' first
      | (with_reducible exact ih0 _)
      | (with_reducible exact LeO.refl _)
      | (with_reducible exact LeO.none _)
      | (with_reducible refine LeO.ite ?_ ?_)
      | (with_reducible refine LeO.bind ?_ (fun _ => ?_))
      | exact ih0 _
      | exact LeO.none _
      | refine LeO.ite ?_ ?_
      | refine LeO.bind ?_ (fun _ => ?_)
theorem timeboundref02_Decimal.mono : ∀ a0 k, LeO (timeboundref02_Decimal.f k a0) (timeboundref02_Decimal.f (k + 1) a0) := by
  intro a0 k
  have ih0 := timeboundref02_Decimal.mono_l k
  exact ih0 a0
def timeboundref02_Decimal.T3 : Bool × List (List Nat × List Nat) := (true, [([], []), ([0], [0]), ([1], [1]), ([], []), ([3], [3]), ([4], [4]), ([5], [5]), ([6], [6]), ([7], [7]), ([2, 8], [2, 8]), ([9, 2, 0, 1, 2, 3, 4, 5, 6, 7, 8, 9], [9])])
def timeboundref02_Decimal.B3 : List Nat := [0, 1, 3, 0, 8, 24, 56, 120, 248, 511, 1023]
theorem timeboundref02_Decimal.tab3 : rtab .any (opsOf Tryd.f56 3) = timeboundref02_Decimal.T3 := by kernel_rfl
theorem timeboundref02_Decimal.bits3 : waitsOk timeboundref02_Decimal.T3.2 timeboundref02_Decimal.B3 = true := by kernel_rfl
set_option maxHeartbeats 8000000 in
set_option maxRecDepth 100000 in
theorem timeboundref02_Decimal.calls (k : Nat) : ∀ (a0 : Int) (r : ByteArray) (w : World) (h : timeboundref02_Decimal.f k a0 = some r),
    Calls Tryd.prog 56 #[.int .i64 a0] w fun e w' => e = .returned (.string r) ∧ Below w.heap.size w w' := by
  induction k using Nat.strongRecOn with
  | _ k ih =>
  intro a0 r w h
  cases k with
  | zero => exact absurd h (by simp [timeboundref02_Decimal.f])
  | succ k =>
  simp only [timeboundref02_Decimal.f] at h
  have HB := Aside0.mk (Below.refl w.heap.size w)
  have H : (if a0 < 10 then (some (strOfNums (([(wrap64 (48 + a0)) % 256] : List Int)))) else ((timeboundref02_Decimal.f k (wrap64 (Int.tdiv a0 10))).bind fun t372 => ((some (([(wrap64 (48 + (Int.tmod a0 10))) % 256] : List Int) : List Int)).bind fun y373 => (if t372.size + (strOfNums y373).size ≤ 9223372036854775807 then (some (t372 ++ (strOfNums y373))) else (none))))) = some r := h
  clear h
  by_cases c2 : a0 < 10
  · rw [if_pos c2] at H
    have c2b0 : decide (a0 < 10) = true := decide_eq_true c2
    clear c2
    obtain ⟨y369, hy369⟩ : ∃ y_ : List Int, y_ = (([(wrap64 (48 + a0)) % 256] : List Int)) := ⟨_, rfl⟩
    replace H : (some (strOfNums y369)) = some r := by first | (rw [hy369]; with_reducible exact H) | (have H2_ := (Option.bind_some _ _).symm.trans H; rw [hy369]; with_reducible exact H2_) | (have H2_ := (Option.bind_some _ _).symm.trans H; with_reducible exact H2_) | with_reducible exact H | (rw [hy369]; exact H) | exact H
    have Ny369 := Aside0.mk hy369
    clear hy369
    obtain rfl := Option.some.inj H
    go_enter Tryd.func56, Tryd.ntmps56
    go_wp2_with (first | ((with_reducible refine gate_dst (N := 8) rfl ?_); refine Kd.R_lit (Kd.int .u8) _ 5 ?hg (N := 8) ?hd (xs := ([(wrap64 (48 + a0)) % 256] : List Int)) (inner := [.int .u8 ((wrap64 (48 + a0)) % 256)]) (ok := fun _ => True) (okp := fun _ => True) ?hr ?hp (fun _ hk => hk) trivial (Below.refl _ _) (Nat.le_refl _) (by simp) ?_; (case hd => rfl); (case hg => rfl); (case hr => first | (go_simp; done) | (go_simp; rfl)); (case hp => exact (Reps.one (show Kd.M (Kd.int .u8) _ _ _ ((wrap64 (48 + a0)) % 256) [.int .u8 ((wrap64 (48 + a0)) % 256)] from rfl) (Reps.none _ _))); intro v370 w3 ho4 hb hg_ hnew_; clear hg_ hnew_; (first | rw [← Ny369.out] at ho4 | (simp only [Int.reduceToNat] at ho4; rw [← Ny369.out] at ho4)); have n0_ := Aside0.mk (Kd.R_lower ho4 (below_size (by repeat (first | (with_reducible first | exact HB.out | apply below_alloc | apply pw_below_drewN | apply below_drew1) | exact HB.out)))); have n1_ := Aside0.mk (below_step (by repeat (first | (with_reducible first | exact HB.out | apply below_alloc | apply pw_below_drewN | apply below_drew1) | exact HB.out)) hb); clear HB; have HO371 := n0_; have HB := n1_; clear n0_ n1_; clear hb ho4; have hcv5 := own_string (P := Tryd.prog) Tryd.underlying22 Tryd.underlying5 Tryd.underlying9 (Kd.own_of_R HO371.out)))
    go_ret
    exact ⟨by first | rfl | (simp [errW_none, errW_some] <;> rfl) | (simp [*, errW_none, errW_some] <;> rfl), by repeat (first | (with_reducible first | exact HB.out | apply below_alloc | apply pw_below_drewN | apply below_drew1) | exact HB.out)⟩
  · rw [if_neg c2] at H
    have c2b0 : decide (a0 < 10) = false := decide_eq_false c2
    clear c2
    replace H := Option.bind_eq_some_iff.mp H
    obtain ⟨t372, A60, H⟩ := H
    replace H : ((some (([(wrap64 (48 + (Int.tmod a0 10))) % 256] : List Int) : List Int)).bind fun y373 => (if t372.size + (strOfNums y373).size ≤ 9223372036854775807 then (some (t372 ++ (strOfNums y373))) else (none))) = some r := H
    have A6 := Aside0.mk A60
    clear A60
    obtain ⟨y373, hy373⟩ : ∃ y_ : List Int, y_ = (([(wrap64 (48 + (Int.tmod a0 10))) % 256] : List Int)) := ⟨_, rfl⟩
    replace H : (if t372.size + (strOfNums y373).size ≤ 9223372036854775807 then (some (t372 ++ (strOfNums y373))) else (none)) = some r := by first | (rw [hy373]; with_reducible exact H) | (have H2_ := (Option.bind_some _ _).symm.trans H; rw [hy373]; with_reducible exact H2_) | (have H2_ := (Option.bind_some _ _).symm.trans H; with_reducible exact H2_) | with_reducible exact H | (rw [hy373]; exact H) | exact H
    have Ny373 := Aside0.mk hy373
    clear hy373
    by_cases c7 : t372.size + (strOfNums y373).size ≤ 9223372036854775807
    · rw [if_pos c7] at H
      have c7b0 := eq_true c7
      have c7b1 : decide (t372.size + (strOfNums y373).size ≤ 9223372036854775807) = true := decide_eq_true c7
      try have c7b2 : (9223372036854775807 < t372.size + (strOfNums y373).size) = False := eq_false (Nat.not_lt.2 c7)
      obtain rfl := Option.some.inj H
      go_enter Tryd.func56, Tryd.ntmps56
      try go_wp2
      have n0_ := Aside0.mk (below_drew1 HB.out)
      clear HB
      have HB := n0_
      clear n0_
      refine start_ (n := 11) (S := fun w' => True) (ds := []) #[false, false, false, false, false, false, false, false, false, false, false] (by kernel_rfl) rfl rfl trivial (fun hHeld => ?_); refine with_tabW timeboundref02_Decimal.tab3 timeboundref02_Decimal.bits3 (fun HT_ HW_ => ?_)
      generalize w.drew = w8 at HB hHeld ⊢
      refine pure_ (i := 0) (N := some 10) (v := ?_) (a' := ?_) #[true, false, false, false, false, false, false, false, false, false, false] rfl rfl (any_of HT_.out (by kernel_rfl)) (fun _ _ _ h => h) (Or.inl ⟨by rfl, ?_⟩) ?_ ?_
      rotate_left
      · intro w'
        go_simp
        with_reducible rfl
      rotate_left
      · simp only [Act.put, List.setIfInBounds_toArray, List.set_cons_zero, List.set_cons_succ, i64_w, i32_w]
        rfl
      refine pure_ (i := 1) (N := some 11) (v := ?_) (a' := ?_) #[true, true, false, false, false, false, false, false, false, false, false] rfl rfl (any_of HT_.out (by kernel_rfl)) (fun _ _ _ h => h) (Or.inl ⟨by rfl, ?_⟩) ?_ ?_
      rotate_left
      · intro w'
        go_simp
        with_reducible rfl
      rotate_left
      · simp only [Act.put, List.setIfInBounds_toArray, List.set_cons_zero, List.set_cons_succ, i64_w, i32_w]
        rfl
      refine pure_ (i := 3) (N := some 13) (v := ?_) (a' := ?_) #[true, true, false, true, false, false, false, false, false, false, false] rfl rfl (any_of HT_.out (by kernel_rfl)) (fun _ _ _ h => h) (Or.inl ⟨by rfl, ?_⟩) ?_ ?_
      rotate_left
      · intro w'
        go_simp
        with_reducible rfl
      rotate_left
      · simp only [Act.put, List.setIfInBounds_toArray, List.set_cons_zero, List.set_cons_succ, i64_w, i32_w]
        rfl
      refine pure_ (i := 4) (N := some 14) (v := ?_) (a' := ?_) #[true, true, false, true, true, false, false, false, false, false, false] rfl rfl (any_of HT_.out (by kernel_rfl)) (fun _ _ _ h => h) (Or.inl ⟨by rfl, ?_⟩) ?_ ?_
      rotate_left
      · intro w'
        go_simp
        with_reducible rfl
      rotate_left
      · simp only [Act.put, List.setIfInBounds_toArray, List.set_cons_zero, List.set_cons_succ, i64_w, i32_w]
        rfl
      refine pure_ (i := 5) (N := some 15) (v := ?_) (a' := ?_) #[true, true, false, true, true, true, false, false, false, false, false] rfl rfl (any_of HT_.out (by kernel_rfl)) (fun _ _ _ h => h) (Or.inl ⟨by rfl, ?_⟩) ?_ ?_
      rotate_left
      · intro w'
        go_simp
        with_reducible rfl
      rotate_left
      · simp only [Act.put, List.setIfInBounds_toArray, List.set_cons_zero, List.set_cons_succ, i64_w, i32_w]
        rfl
      refine pure_ (i := 6) (N := some 16) (v := ?_) (a' := ?_) #[true, true, false, true, true, true, true, false, false, false, false] rfl rfl (any_of HT_.out (by kernel_rfl)) (fun _ _ _ h => h) (Or.inl ⟨by rfl, ?_⟩) ?_ ?_
      rotate_left
      · intro w'
        go_simp
        with_reducible rfl
      rotate_left
      · simp only [Act.put, List.setIfInBounds_toArray, List.set_cons_zero, List.set_cons_succ, i64_w, i32_w]
        rfl
      refine join_ (σ := Value) 2 #[true, true, true, true, true, true, true, true, true, false, false] (fun s_ => [(12, .string t372), (17, s_), (18, .string (strOfNums y373))]) (fun s_ w' => (Kd.R (Kd.int .u8) 5 w' w.heap.size (fun _ => True) s_ y373) ∧ (Below w.heap.size w w')) ?_ ?_
      rotate_left
      · intro hCont
        refine two_ (i := 2) (j := 7) (Ni := some 12) (Nj := some 17) #[true, true, true, true, true, true, true, false, false, false, false] #[true, true, false, true, true, true, true, true, false, false, false] rfl rfl rfl rfl (two_of HT_.out (by kernel_rfl)) (by decide) (by decide) (fun K hK => ?_) (fun K hK => ?_)
        · skip
          refine goes_ Tryd.func56 (by kernel_rfl) rfl #[.int .i64 (wrap64 (Int.tdiv a0 10))] (by rfl) rfl rfl (by (try simp only [List.map_toArray, List.map_cons, List.map_nil]); first | done | rfl | (simp only [List.length_drop, List.length_take]; rfl)) ?_
          with_reducible refine (ih k (by omega) (wrap64 (Int.tdiv a0 10)) t372 _ A6.out).mono ?_
          rintro e w9 ⟨rfl, hb⟩
          refine ⟨_, rfl, ?_⟩
          have n0_ := Aside0.mk (below_step (by repeat (first | (with_reducible first | exact HB.out | apply below_alloc | apply pw_below_drewN | apply below_drew1) | exact HB.out)) hb)
          clear HB
          have HB := n0_
          clear n0_
          (try clear hb)
          (try clear hb2)
          (try clear hk)
          (try clear hi)
          refine hK.out _ _ trivial (fun hHeld => ?_)
          clear hK K
          refine norm_ (a' := ?_) ?_ ?_
          rotate_left
          · show Act.put _ (some 12) _ = _
            simp only [Act.put, List.setIfInBounds_toArray, List.set_cons_zero, List.set_cons_succ, i64_w, i32_w]
            rfl
          refine one_ (i := 7) (N := some 17) #[true, true, true, true, true, true, true, true, false, false, false] rfl rfl (one_of HT_.out (by kernel_rfl)) (by decide) (fun K hK => ?_)
          refine Kd.R_lit_step (Kd.int .u8) _ 5 ?hg (N := 17) ?hd (xs := ([(wrap64 (48 + (Int.tmod a0 10))) % 256] : List Int)) (inner := [.int .u8 ((wrap64 (48 + (Int.tmod a0 10))) % 256)]) (ok := fun _ => True) (okp := fun _ => True) ?hr ?hp (fun _ hk => hk) trivial (Below.refl _ _) (Nat.le_refl _) (by simp) ?_; (case hd => rfl); (case hg => rfl); (case hr => first | (go_simp; done) | (go_simp; rfl)); (case hp => exact (Reps.one (show Kd.M (Kd.int .u8) _ _ _ ((wrap64 (48 + (Int.tmod a0 10))) % 256) [.int .u8 ((wrap64 (48 + (Int.tmod a0 10))) % 256)] from rfl) (Reps.none _ _)))
          intro v374 w10 ho11 hb hg_ hnew_
          clear hg_ hnew_
          (first | rw [← Ny373.out] at ho11 | (simp only [Int.reduceToNat] at ho11; rw [← Ny373.out] at ho11))
          have n0_ := Aside0.mk (Kd.R_lower ho11 (below_size (by repeat (first | (with_reducible first | exact HB.out | apply below_alloc | apply pw_below_drewN | apply below_drew1) | exact HB.out))))
          have n1_ := Aside0.mk (below_step (by repeat (first | (with_reducible first | exact HB.out | apply below_alloc | apply pw_below_drewN | apply below_drew1) | exact HB.out)) hb)
          clear HB
          have HO375 := n0_
          have HB := n1_
          clear n0_ n1_
          clear hb ho11
          refine hK.out _ _ trivial (fun hHeld => ?_)
          clear hK K
          refine norm_ (a' := ?_) ?_ ?_
          rotate_left
          · show Act.put _ (some 17) _ = _
            simp only [Act.put, List.setIfInBounds_toArray, List.set_cons_zero, List.set_cons_succ, i64_w, i32_w]
            rfl
          refine one_ (i := 8) (N := some 18) #[true, true, true, true, true, true, true, true, true, false, false] rfl rfl (one_of HT_.out (by kernel_rfl)) (by decide) (fun K hK => ?_)
          have hcv12 := own_string (P := Tryd.prog) Tryd.underlying22 Tryd.underlying5 Tryd.underlying9 (Kd.own_of_R HO375.out)
          refine value_ (w1 := ?_) (v := ?_) (by rfl) rfl ?_ ?_
          rotate_left 2
          · go_simp
            constructor
            · rfl
            · rfl
          clear hcv12
          refine hK.out _ _ trivial (fun hHeld => ?_)
          clear hK K
          refine norm_ (a' := ?_) ?_ ?_
          rotate_left
          · show Act.put _ (some 18) _ = _
            simp only [Act.put, List.setIfInBounds_toArray, List.set_cons_zero, List.set_cons_succ, i64_w, i32_w]
            rfl
          exact norm_ (by simp only [putAll, Act.put, List.setIfInBounds_toArray, List.set_cons_zero, List.set_cons_succ]) (hCont (v374) _ ⟨(by (with_reducible repeat (first | apply Kd.R_alloc | apply Kd.R_drewN | apply Kd.R_drew)); exact HO375.out), (by repeat (first | (with_reducible first | exact HB.out | apply below_alloc | apply pw_below_drewN | apply below_drew1) | exact HB.out))⟩)
        · skip
          refine Kd.R_lit_step (Kd.int .u8) _ 5 ?hg (N := 17) ?hd (xs := ([(wrap64 (48 + (Int.tmod a0 10))) % 256] : List Int)) (inner := [.int .u8 ((wrap64 (48 + (Int.tmod a0 10))) % 256)]) (ok := fun _ => True) (okp := fun _ => True) ?hr ?hp (fun _ hk => hk) trivial (Below.refl _ _) (Nat.le_refl _) (by simp) ?_; (case hd => rfl); (case hg => rfl); (case hr => first | (go_simp; done) | (go_simp; rfl)); (case hp => exact (Reps.one (show Kd.M (Kd.int .u8) _ _ _ ((wrap64 (48 + (Int.tmod a0 10))) % 256) [.int .u8 ((wrap64 (48 + (Int.tmod a0 10))) % 256)] from rfl) (Reps.none _ _)))
          intro v374 w9 ho10 hb hg_ hnew_
          clear hg_ hnew_
          (first | rw [← Ny373.out] at ho10 | (simp only [Int.reduceToNat] at ho10; rw [← Ny373.out] at ho10))
          have n0_ := Aside0.mk (Kd.R_lower ho10 (below_size (by repeat (first | (with_reducible first | exact HB.out | apply below_alloc | apply pw_below_drewN | apply below_drew1) | exact HB.out))))
          have n1_ := Aside0.mk (below_step (by repeat (first | (with_reducible first | exact HB.out | apply below_alloc | apply pw_below_drewN | apply below_drew1) | exact HB.out)) hb)
          clear HB
          have HO375 := n0_
          have HB := n1_
          clear n0_ n1_
          clear hb ho10
          refine hK.out _ _ trivial (fun hHeld => ?_)
          clear hK K
          refine norm_ (a' := ?_) ?_ ?_
          rotate_left
          · show Act.put _ (some 17) _ = _
            simp only [Act.put, List.setIfInBounds_toArray, List.set_cons_zero, List.set_cons_succ, i64_w, i32_w]
            rfl
          refine two_ (i := 2) (j := 8) (Ni := some 12) (Nj := some 18) #[true, true, true, true, true, true, true, true, false, false, false] #[true, true, false, true, true, true, true, true, true, false, false] rfl rfl rfl rfl (two_of HT_.out (by kernel_rfl)) (by decide) (by decide) (fun K hK => ?_) (fun K hK => ?_)
          · skip
            refine goes_ Tryd.func56 (by kernel_rfl) rfl #[.int .i64 (wrap64 (Int.tdiv a0 10))] (by rfl) rfl rfl (by (try simp only [List.map_toArray, List.map_cons, List.map_nil]); first | done | rfl | (simp only [List.length_drop, List.length_take]; rfl)) ?_
            with_reducible refine (ih k (by omega) (wrap64 (Int.tdiv a0 10)) t372 _ A6.out).mono ?_
            rintro e w11 ⟨rfl, hb⟩
            refine ⟨_, rfl, ?_⟩
            have n0_ := Aside0.mk (Kd.R_below (by (with_reducible repeat (first | apply Kd.R_alloc | apply Kd.R_drewN | apply Kd.R_drew)); exact HO375.out) hb)
            have n1_ := Aside0.mk (below_step (by repeat (first | (with_reducible first | exact HB.out | apply below_alloc | apply pw_below_drewN | apply below_drew1) | exact HB.out)) hb)
            clear HO375
            clear HB
            have HO375 := n0_
            have HB := n1_
            clear n0_ n1_
            (try clear hb)
            (try clear hb2)
            (try clear hk)
            (try clear hi)
            refine hK.out _ _ trivial (fun hHeld => ?_)
            clear hK K
            refine norm_ (a' := ?_) ?_ ?_
            rotate_left
            · show Act.put _ (some 12) _ = _
              simp only [Act.put, List.setIfInBounds_toArray, List.set_cons_zero, List.set_cons_succ, i64_w, i32_w]
              rfl
            refine one_ (i := 8) (N := some 18) #[true, true, true, true, true, true, true, true, true, false, false] rfl rfl (one_of HT_.out (by kernel_rfl)) (by decide) (fun K hK => ?_)
            have hcv12 := own_string (P := Tryd.prog) Tryd.underlying22 Tryd.underlying5 Tryd.underlying9 (Kd.own_of_R HO375.out)
            refine value_ (w1 := ?_) (v := ?_) (by rfl) rfl ?_ ?_
            rotate_left 2
            · go_simp
              constructor
              · rfl
              · rfl
            clear hcv12
            refine hK.out _ _ trivial (fun hHeld => ?_)
            clear hK K
            refine norm_ (a' := ?_) ?_ ?_
            rotate_left
            · show Act.put _ (some 18) _ = _
              simp only [Act.put, List.setIfInBounds_toArray, List.set_cons_zero, List.set_cons_succ, i64_w, i32_w]
              rfl
            exact norm_ (by simp only [putAll, Act.put, List.setIfInBounds_toArray, List.set_cons_zero, List.set_cons_succ]) (hCont (v374) _ ⟨(by (with_reducible repeat (first | apply Kd.R_alloc | apply Kd.R_drewN | apply Kd.R_drew)); exact HO375.out), (by repeat (first | (with_reducible first | exact HB.out | apply below_alloc | apply pw_below_drewN | apply below_drew1) | exact HB.out))⟩)
          · skip
            have hcv11 := own_string (P := Tryd.prog) Tryd.underlying22 Tryd.underlying5 Tryd.underlying9 (Kd.own_of_R HO375.out)
            refine value_ (w1 := ?_) (v := ?_) (by rfl) rfl ?_ ?_
            rotate_left 2
            · go_simp
              constructor
              · rfl
              · rfl
            clear hcv11
            refine hK.out _ _ trivial (fun hHeld => ?_)
            clear hK K
            refine norm_ (a' := ?_) ?_ ?_
            rotate_left
            · show Act.put _ (some 18) _ = _
              simp only [Act.put, List.setIfInBounds_toArray, List.set_cons_zero, List.set_cons_succ, i64_w, i32_w]
              rfl
            refine one_ (i := 2) (N := some 12) #[true, true, true, true, true, true, true, true, true, false, false] rfl rfl (one_of HT_.out (by kernel_rfl)) (by decide) (fun K hK => ?_)
            refine goes_ Tryd.func56 (by kernel_rfl) rfl #[.int .i64 (wrap64 (Int.tdiv a0 10))] (by rfl) rfl rfl (by (try simp only [List.map_toArray, List.map_cons, List.map_nil]); first | done | rfl | (simp only [List.length_drop, List.length_take]; rfl)) ?_
            with_reducible refine (ih k (by omega) (wrap64 (Int.tdiv a0 10)) t372 _ A6.out).mono ?_
            rintro e w12 ⟨rfl, hb⟩
            refine ⟨_, rfl, ?_⟩
            have n0_ := Aside0.mk (Kd.R_below (by (with_reducible repeat (first | apply Kd.R_alloc | apply Kd.R_drewN | apply Kd.R_drew)); exact HO375.out) hb)
            have n1_ := Aside0.mk (below_step (by repeat (first | (with_reducible first | exact HB.out | apply below_alloc | apply pw_below_drewN | apply below_drew1) | exact HB.out)) hb)
            clear HO375
            clear HB
            have HO375 := n0_
            have HB := n1_
            clear n0_ n1_
            (try clear hb)
            (try clear hb2)
            (try clear hk)
            (try clear hi)
            refine hK.out _ _ trivial (fun hHeld => ?_)
            clear hK K
            refine norm_ (a' := ?_) ?_ ?_
            rotate_left
            · show Act.put _ (some 12) _ = _
              simp only [Act.put, List.setIfInBounds_toArray, List.set_cons_zero, List.set_cons_succ, i64_w, i32_w]
              rfl
            exact norm_ (by simp only [putAll, Act.put, List.setIfInBounds_toArray, List.set_cons_zero, List.set_cons_succ]) (hCont (v374) _ ⟨(by (with_reducible repeat (first | apply Kd.R_alloc | apply Kd.R_drewN | apply Kd.R_drew)); exact HO375.out), (by repeat (first | (with_reducible first | exact HB.out | apply below_alloc | apply pw_below_drewN | apply below_drew1) | exact HB.out))⟩)
      rintro v374 w13 ⟨h0_, h1_⟩
      have n0_ : Aside0 (Kd.R (Kd.int .u8) 5 w13 w.heap.size (fun _ => True) v374 y373) := ⟨h0_⟩
      have n1_ : Aside0 (Below w.heap.size w w13) := ⟨h1_⟩
      clear HB
      clear h0_ h1_
      have HO375 := n0_
      have HB := n1_
      clear n0_ n1_
      have hHeld := trivial
      refine norm_ (a' := ?_) ?_ ?_
      rotate_left
      · simp only [putAll, Act.put, List.setIfInBounds_toArray, List.set_cons_zero, List.set_cons_succ]
        rfl
      refine pure_ (i := 9) (N := some 19) (v := ?_) (a' := ?_) #[true, true, true, true, true, true, true, true, true, true, false] rfl rfl (any_of HT_.out (by kernel_rfl)) (fun _ _ _ h => h) (Or.inl ⟨by rfl, ?_⟩) ?_ ?_
      rotate_left
      · intro w'
        go_simp
        with_reducible rfl
      rotate_left
      · simp only [Act.put, List.setIfInBounds_toArray, List.set_cons_zero, List.set_cons_succ, i64_w, i32_w]
        rfl
      refine pure_ (i := 10) (N := some 2) (v := ?_) (a' := ?_) #[true, true, true, true, true, true, true, true, true, true, true] rfl rfl (any_of HT_.out (by kernel_rfl)) (fun _ _ _ h => h) (Or.inl ⟨by rfl, ?_⟩) ?_ ?_
      rotate_left
      · intro w'
        go_simp
        with_reducible rfl
      rotate_left
      · simp only [Act.put, List.setIfInBounds_toArray, List.set_cons_zero, List.set_cons_succ, i64_w, i32_w]
        rfl
      refine done_ (done_of HT_.out (by kernel_rfl)) ?_
      try go_wp2
      go_ret
      exact ⟨by first | rfl | (simp [errW_none, errW_some] <;> rfl) | (simp [*, errW_none, errW_some] <;> rfl), by repeat (first | (with_reducible first | exact HB.out | apply below_alloc | apply pw_below_drewN | apply below_drew1) | exact HB.out)⟩
    · rw [if_neg c7] at H
      exact absurd H (by simp)

end Go.Proofs.YtcnmejahighkfaaDoor.P
-- Pf30
namespace Go.Proofs.YtcnmejahighkfaaDoor.P
open Go.RowKit Go.Proofs.YtcnmejahighkfaaDoorW.PrintWords Go.Proofs.YtcnmejahighkfaaDoorW.PrintLast Go.Proofs.YtcnmejahighkfaaDoorW.PrintMore
attribute [local go_sem] max2_int min2_int max_two min_two max_three min_three max_four min_four   -- for this text's walks alone
set_option linter.unusedVariables false
set_option linter.unusedSimpArgs false

/-! ### timeboundref02_Word: function 30 -/
def timeboundref02_Word.j0 : Nat → Int → Bool → Int → Int → Int → ByteArray → Option (ByteArray)
  | 0, _, _, _, _, _, _ => none
  | k + 1, x4, x5, x438000, x438001, x438002, x438003 => if x5 = true then (some x438003) else (if x4 = 2 then (if x438001 < 0 then (some (⟨#[48]⟩ : ByteArray)) else (if x438001 ≥ 2147483648 then (some (⟨#[48]⟩ : ByteArray)) else ((timeboundref02_Decimal.f k x438001).bind fun t438 => (some t438)))) else (some (⟨#[]⟩ : ByteArray)))
def timeboundref02_Word.f (k : Nat) (a0_0 : Int) (a0_1 : Int) (a0_2 : Int) (a0_3 : ByteArray) : Option (ByteArray) := if a0_0 = 1 then (timeboundref02_Word.j0 k a0_0 (a0_0 == 1) a0_0 a0_1 a0_2 a0_3) else (timeboundref02_Word.j0 k a0_0 (a0_0 == 3) a0_0 a0_1 a0_2 a0_3)
theorem timeboundref02_Word.mono_l : ∀ k, (∀ y0 y1 y2 y3 y4 y5, LeO (timeboundref02_Word.j0 k y0 y1 y2 y3 y4 y5) (timeboundref02_Word.j0 (k + 1) y0 y1 y2 y3 y4 y5))
  | 0 => fun _ _ _ _ _ _ r h => by simp [timeboundref02_Word.j0] at h
  | k + 1 => by
    have ih0 := timeboundref02_Word.mono_l k
    · intro y0 y1 y2 y3 y4 y5
      unfold timeboundref02_Word.j0
      repeat' first
      | (with_reducible exact ih0 _ _ _ _ _ _)
      | (with_reducible exact timeboundref02_Decimal.mono _ _)
      | (with_reducible exact LeO.refl _)
      | (with_reducible exact LeO.none _)
      | (with_reducible refine LeO.ite ?_ ?_)
      | (with_reducible refine LeO.bind ?_ (fun _ => ?_))
      | exact ih0 _ _ _ _ _ _
      | exact timeboundref02_Decimal.mono _ _
      | exact LeO.none _
      | refine LeO.ite ?_ ?_
      | refine LeO.bind ?_ (fun _ => ?_)
theorem timeboundref02_Word.mono : ∀ a0 a1 a2 a3 k, LeO (timeboundref02_Word.f k a0 a1 a2 a3) (timeboundref02_Word.f (k + 1) a0 a1 a2 a3) := by
  intro a0 a1 a2 a3 k
  have ih0 := timeboundref02_Word.mono_l k
  unfold timeboundref02_Word.f
  repeat' first
      | (with_reducible exact ih0 _ _ _ _ _ _)
      | (with_reducible exact timeboundref02_Decimal.mono _ _)
      | (with_reducible exact LeO.refl _)
      | (with_reducible exact LeO.none _)
      | (with_reducible refine LeO.ite ?_ ?_)
      | (with_reducible refine LeO.bind ?_ (fun _ => ?_))
      | exact ih0 _ _ _ _ _ _
      | exact timeboundref02_Decimal.mono _ _
      | exact LeO.none _
      | refine LeO.ite ?_ ?_
      | refine LeO.bind ?_ (fun _ => ?_)
set_option maxHeartbeats 8000000 in
set_option maxRecDepth 100000 in
theorem timeboundref02_Word.calls (k : Nat) (a0_0 : Int) (a0_1 : Int) (a0_2 : Int) (a0_3 : ByteArray) (r : ByteArray) (w : World) (h : timeboundref02_Word.f k a0_0 a0_1 a0_2 a0_3 = some r) :
    Calls Tryd.prog 30 #[.agg #[.int .i64 a0_0, .int .i64 a0_1, .int .i64 a0_2, .string a0_3]] w fun e w' => e = .returned (.string r) ∧ Below w.heap.size w w' := by
  have hu59 := Tryd.underlying59
  have HB := Aside0.mk (Below.refl w.heap.size w)
  have H : (if a0_0 = 1 then (timeboundref02_Word.j0 k a0_0 (a0_0 == 1) a0_0 a0_1 a0_2 a0_3) else (timeboundref02_Word.j0 k a0_0 (a0_0 == 3) a0_0 a0_1 a0_2 a0_3)) = some r := h
  clear h
  have HC2 := Aside0.mk H
  clear H
  go_enter Tryd.func30, Tryd.ntmps30
  go_upto_if 5 with (first | ((with_reducible refine gate_dst (N := 1) rfl ?_); refine box_event ?hg (N := 1) ?hd (cs := #[.int .i64 a0_0, .int .i64 a0_1, .int .i64 a0_2, .string a0_3]) (t := 59) ?hr ?_; (case hd => rfl); (case hg => rfl); (case hr => first | (go_simp; done) | (go_simp; rfl)); intro gb437 hg w3 hbox hb; have n0_ := Aside0.mk (below_step (by repeat (first | (with_reducible first | exact HB.out | apply below_alloc | apply pw_below_drewN | apply below_drew1) | exact HB.out)) hb); have n1_ := Aside0.mk (hbox); have n2_ := Aside0.mk ((by rw [hg]; exact (below_size (by repeat (first | (with_reducible first | exact HB.out | apply below_alloc | apply pw_below_drewN | apply below_drew1) | exact HB.out))) : w.heap.size ≤ gb437)); have n3_ := Aside0.mk ((by rw [hg]; exact (below_size (by repeat (first | (with_reducible first | exact HB.out | apply below_alloc | apply pw_below_drewN | apply below_drew1) | exact HB.out))) : w.heap.size ≤ gb437)); clear HB; have HB := n0_; have BK437 := n1_; have GW437 := n2_; have GE437 := n3_; clear n0_ n1_ n2_ n3_; clear hb hbox hg; have hcz4_0 : w3.cell? ⟨gb437, 0, none⟩ = some (.int .i64 a0_0) := (blk_cell BK437.out 0).trans rfl; have hcz4_1 : w3.cell? ⟨gb437, 1, none⟩ = some (.int .i64 a0_1) := (blk_cell BK437.out 1).trans rfl; have hcz4_2 : w3.cell? ⟨gb437, 2, none⟩ = some (.int .i64 a0_2) := (blk_cell BK437.out 2).trans rfl; have hcz4_3 : w3.cell? ⟨gb437, 3, none⟩ = some (.string a0_3) := (blk_cell BK437.out 3).trans rfl; have hfz4_0 := blk_frozen BK437.out 0; have hfz4_1 := blk_frozen BK437.out 1; have hfz4_2 := blk_frozen BK437.out 2; have hfz4_3 := blk_frozen BK437.out 3))
  (try simp only [Act.put, List.setIfInBounds_toArray, List.set_cons_zero, List.set_cons_succ])
  go_cut [5] (fun v5 wc => ∃ (kq : Nat) (x5_1 : Bool), v5 = .bool x5_1 ∧ Aside0 (timeboundref02_Word.j0 kq a0_0 x5_1 a0_0 a0_1 a0_2 a0_3 = some r) ∧ Aside0 (kq ≤ k) ∧ Aside0 (wc.heap[gb437]? = some (.cells #[.int .i64 a0_0, .int .i64 a0_1, .int .i64 a0_2, .string a0_3] 59 (0, 0))) ∧ Aside0 (Below w.heap.size w wc))
  case first =>
    have H := HC2.out
    clear HC2
    by_cases c5 : a0_0 = 1
    · rw [if_pos c5] at H
      have c5b0 : (a0_0 == 1) = true := beq_iff_eq.mpr c5
      have c5b1 : (a0_0 != 1) = false := bne_eq_false_iff_eq.mpr c5
      clear c5
      (first | rw [c5b0] | (simp only [i64_w, i32_w]; rw [c5b0]) | skip)
      have H' := Aside0.mk H
      clear H
      go_wp2
      go_meet
      case rel => exact ⟨_, ((a0_0 == 1)), (by first | rfl | (simp; done) | (simp [*]; done)), H', ⟨by first | omega | exact Nat.le_refl _⟩, ⟨by (with_reducible repeat (first | refine blk_drewN ?_ _ | refine blk_drew ?_ | refine blk_alloc ?_ _)); exact BK437.out⟩, ⟨by repeat (first | (with_reducible first | exact HB.out | apply below_alloc | apply pw_below_drewN | apply below_drew1 | refine below_set ?_ GE437.out) | exact HB.out)⟩⟩
    · rw [if_neg c5] at H
      have c5b0 : (a0_0 == 1) = false := beq_eq_false_iff_ne.mpr c5
      have c5b1 : (a0_0 != 1) = true := bne_iff_ne.mpr c5
      (first | rw [c5b0] | (simp only [i64_w, i32_w]; rw [c5b0]) | skip)
      have H' := Aside0.mk H
      clear H
      go_wp2
      go_meet
      case rel => exact ⟨_, ((a0_0 == 3)), (by first | rfl | (simp; done) | (simp [*]; done)), H', ⟨by first | omega | exact Nat.le_refl _⟩, ⟨by (with_reducible repeat (first | refine blk_drewN ?_ _ | refine blk_drew ?_ | refine blk_alloc ?_ _)); exact BK437.out⟩, ⟨by repeat (first | (with_reducible first | exact HB.out | apply below_alloc | apply pw_below_drewN | apply below_drew1 | refine below_set ?_ GE437.out) | exact HB.out)⟩⟩
  case rest =>
    clear HC2
    try clear p2
    try clear c3
    try clear c5
    try clear c5b0
    try clear c5b1
    try clear hcz4_0
    try clear hcz4_1
    try clear hcz4_2
    try clear hcz4_3
    try clear hfz4_0
    try clear hfz4_1
    try clear hfz4_2
    try clear hfz4_3
    obtain ⟨kq, x5_1, rfl, HA, HJ1, BK437, HB⟩ := hcut
    cases kq with
    | zero => exact absurd HA.out (by simp [timeboundref02_Word.j0])
    | succ kj1 =>
      have H := HA.out
      clear HA
      simp only [timeboundref02_Word.j0] at H
      by_cases c6 : x5_1 = true
      · subst c6
        have H1 : (some a0_3) = some r := by rw [if_pos rfl] at H; exact H
        clear H
        have H := H1
        clear H1
        obtain rfl := Option.some.inj H
        have hcz7_0 : wc.cell? ⟨gb437, 0, none⟩ = some (.int .i64 a0_0) := (blk_cell BK437.out 0).trans rfl
        have hcz7_1 : wc.cell? ⟨gb437, 1, none⟩ = some (.int .i64 a0_1) := (blk_cell BK437.out 1).trans rfl
        have hcz7_2 : wc.cell? ⟨gb437, 2, none⟩ = some (.int .i64 a0_2) := (blk_cell BK437.out 2).trans rfl
        have hcz7_3 : wc.cell? ⟨gb437, 3, none⟩ = some (.string a0_3) := (blk_cell BK437.out 3).trans rfl
        have hfz7_0 := blk_frozen BK437.out 0
        have hfz7_1 := blk_frozen BK437.out 1
        have hfz7_2 := blk_frozen BK437.out 2
        have hfz7_3 := blk_frozen BK437.out 3
        go_wp2
        go_ret
        exact ⟨by first | rfl | (simp [errW_none, errW_some] <;> rfl) | (simp [*, errW_none, errW_some] <;> rfl), by repeat (first | (with_reducible first | exact HB.out | apply below_alloc | apply pw_below_drewN | apply below_drew1 | refine below_set ?_ GE437.out) | exact HB.out)⟩
      · replace c6 := Bool.eq_false_iff.mpr c6
        subst c6
        have H1 : (if a0_0 = 2 then (if a0_1 < 0 then (some (⟨#[48]⟩ : ByteArray)) else (if a0_1 ≥ 2147483648 then (some (⟨#[48]⟩ : ByteArray)) else ((timeboundref02_Decimal.f kj1 a0_1).bind fun t438 => (some t438)))) else (some (⟨#[]⟩ : ByteArray))) = some r := by rw [if_neg (show ¬ (false = true) by decide)] at H; exact H
        clear H
        have H := H1
        clear H1
        by_cases c8 : a0_0 = 2
        · rw [if_pos c8] at H
          have c8b0 : (a0_0 == 2) = true := beq_iff_eq.mpr c8
          have c8b1 : (a0_0 != 2) = false := bne_eq_false_iff_eq.mpr c8
          clear c8
          by_cases c9 : a0_1 < 0
          · rw [if_pos c9] at H
            have c9b0 : decide (a0_1 < 0) = true := decide_eq_true c9
            clear c9
            obtain rfl := Option.some.inj H
            have hcz10_0 : wc.cell? ⟨gb437, 0, none⟩ = some (.int .i64 a0_0) := (blk_cell BK437.out 0).trans rfl
            have hcz10_1 : wc.cell? ⟨gb437, 1, none⟩ = some (.int .i64 a0_1) := (blk_cell BK437.out 1).trans rfl
            have hcz10_2 : wc.cell? ⟨gb437, 2, none⟩ = some (.int .i64 a0_2) := (blk_cell BK437.out 2).trans rfl
            have hcz10_3 : wc.cell? ⟨gb437, 3, none⟩ = some (.string a0_3) := (blk_cell BK437.out 3).trans rfl
            have hfz10_0 := blk_frozen BK437.out 0
            have hfz10_1 := blk_frozen BK437.out 1
            have hfz10_2 := blk_frozen BK437.out 2
            have hfz10_3 := blk_frozen BK437.out 3
            go_wp2
            go_ret
            exact ⟨by first | rfl | (simp [errW_none, errW_some] <;> rfl) | (simp [*, errW_none, errW_some] <;> rfl), by repeat (first | (with_reducible first | exact HB.out | apply below_alloc | apply pw_below_drewN | apply below_drew1 | refine below_set ?_ GE437.out) | exact HB.out)⟩
          · rw [if_neg c9] at H
            have c9b0 : decide (a0_1 < 0) = false := decide_eq_false c9
            clear c9
            by_cases c11 : a0_1 ≥ 2147483648
            · rw [if_pos c11] at H
              have c11b0 : decide (2147483648 ≤ a0_1) = true := decide_eq_true c11
              clear c11
              obtain rfl := Option.some.inj H
              have hcz12_0 : wc.cell? ⟨gb437, 0, none⟩ = some (.int .i64 a0_0) := (blk_cell BK437.out 0).trans rfl
              have hcz12_1 : wc.cell? ⟨gb437, 1, none⟩ = some (.int .i64 a0_1) := (blk_cell BK437.out 1).trans rfl
              have hcz12_2 : wc.cell? ⟨gb437, 2, none⟩ = some (.int .i64 a0_2) := (blk_cell BK437.out 2).trans rfl
              have hcz12_3 : wc.cell? ⟨gb437, 3, none⟩ = some (.string a0_3) := (blk_cell BK437.out 3).trans rfl
              have hfz12_0 := blk_frozen BK437.out 0
              have hfz12_1 := blk_frozen BK437.out 1
              have hfz12_2 := blk_frozen BK437.out 2
              have hfz12_3 := blk_frozen BK437.out 3
              go_wp2
              go_ret
              exact ⟨by first | rfl | (simp [errW_none, errW_some] <;> rfl) | (simp [*, errW_none, errW_some] <;> rfl), by repeat (first | (with_reducible first | exact HB.out | apply below_alloc | apply pw_below_drewN | apply below_drew1 | refine below_set ?_ GE437.out) | exact HB.out)⟩
            · rw [if_neg c11] at H
              have c11b0 : decide (2147483648 ≤ a0_1) = false := decide_eq_false c11
              clear c11
              replace H := Option.bind_eq_some_iff.mp H
              obtain ⟨t438, A130, H⟩ := H
              replace H : (some t438) = some r := H
              have A13 := Aside0.mk A130
              clear A130
              obtain rfl := Option.some.inj H
              have hcz14_0 : wc.cell? ⟨gb437, 0, none⟩ = some (.int .i64 a0_0) := (blk_cell BK437.out 0).trans rfl
              have hcz14_1 : wc.cell? ⟨gb437, 1, none⟩ = some (.int .i64 a0_1) := (blk_cell BK437.out 1).trans rfl
              have hcz14_2 : wc.cell? ⟨gb437, 2, none⟩ = some (.int .i64 a0_2) := (blk_cell BK437.out 2).trans rfl
              have hcz14_3 : wc.cell? ⟨gb437, 3, none⟩ = some (.string a0_3) := (blk_cell BK437.out 3).trans rfl
              have hfz14_0 := blk_frozen BK437.out 0
              have hfz14_1 := blk_frozen BK437.out 1
              have hfz14_2 := blk_frozen BK437.out 2
              have hfz14_3 := blk_frozen BK437.out 3
              go_wp2_with (first | ((with_reducible refine gate_callee (f := 56) rfl ?_); refine goesL_ (some 22) rfl rfl Tryd.func56 (by kernel_rfl) rfl #[.int .i64 a0_1] rfl (by (try simp only [List.map_toArray, List.map_cons, List.map_nil]); first | done | rfl | (simp only [List.length_drop, List.length_take]; rfl)) ?_; (with_reducible refine (timeboundref02_Decimal.calls kj1 a0_1 t438 _ A13.out).mono ?_); rintro e w15 ⟨rfl, hb⟩; refine ⟨_, rfl, ?_⟩; have n0_ := Aside0.mk (blk_below (g := gb437) (o := .cells #[.int .i64 a0_0, .int .i64 a0_1, .int .i64 a0_2, .string a0_3] 59 (0, 0)) (by (with_reducible repeat (first | refine blk_drewN ?_ _ | refine blk_drew ?_ | refine blk_alloc ?_ _)); exact BK437.out) hb); have n1_ := Aside0.mk (below_step (by repeat (first | (with_reducible first | exact HB.out | apply below_alloc | apply pw_below_drewN | apply below_drew1 | refine below_set ?_ GE437.out) | exact HB.out)) hb); clear BK437; clear HB; have BK437 := n0_; have HB := n1_; clear n0_ n1_; (try clear hb); (try clear hb2); (try clear hk); (try clear hi)))
              go_ret
              exact ⟨by first | rfl | (simp [errW_none, errW_some] <;> rfl) | (simp [*, errW_none, errW_some] <;> rfl), by repeat (first | (with_reducible first | exact HB.out | apply below_alloc | apply pw_below_drewN | apply below_drew1 | refine below_set ?_ GE437.out) | exact HB.out)⟩
        · rw [if_neg c8] at H
          have c8b0 : (a0_0 == 2) = false := beq_eq_false_iff_ne.mpr c8
          have c8b1 : (a0_0 != 2) = true := bne_iff_ne.mpr c8
          obtain rfl := Option.some.inj H
          go_wp2
          go_ret
          exact ⟨by first | rfl | (simp [errW_none, errW_some] <;> rfl) | (simp [*, errW_none, errW_some] <;> rfl), by repeat (first | (with_reducible first | exact HB.out | apply below_alloc | apply pw_below_drewN | apply below_drew1 | refine below_set ?_ GE437.out) | exact HB.out)⟩

end Go.Proofs.YtcnmejahighkfaaDoor.P
-- TokD
/- Name and Word of both packages are one plain function each. -/
namespace Go.Proofs.YtcnmejahighkfaaDoor.Tok
open Go.RowKit Go.Proofs.YtcnmejahighkfaaDoor.P Go.Proofs.YtcnmejahighkfaaDoorW.PrintWords Go.Proofs.YtcnmejahighkfaaDoorW.PrintLast Go.Proofs.YtcnmejahighkfaaDoorW.PrintMore
set_option linter.unusedVariables false
set_option linter.unusedSimpArgs false

/-- A name: a letter, then letters and digits, twelve bytes at most. -/
def nameB (l : List Int) : Bool := decide (1 ≤ l.length) && (decide (l.length ≤ 12) && (isL (l.getD 0 0) && l.all isA))
theorem takeWhile_len (p : Int → Bool) (l : List Int) : (l.takeWhile p).length = l.length ↔ l.all p = true := by
  induction l with
  | nil => simp
  | cons c r ih =>
    simp only [List.takeWhile_cons, List.all_cons]
    cases h : p c with
    | true => simp only [if_true, List.length_cons, Bool.true_and]; rw [← ih]; omega
    | false => simp
theorem Name_eq (s : ByteArray) (k : Nat) (hk : 13 ≤ k) : token_Name.f k s = some (nameB (bytesOf s)) := by
  unfold token_Name.f
  have hb := bytesOf_length s
  cases h : bytesOf s with
  | nil => rw [if_pos ((nil_iff s).2 h)]; rfl
  | cons c r =>
    rw [if_neg (fun q => by rw [(nil_iff s).1 q] at h; cases h)]
    rw [h] at hb
    simp at hb
    by_cases hs : s.size ≤ 12
    · rw [if_pos (by omega), name_eq s (by omega) k (by omega), h]
      have e : nameB (c :: r) = (isL c && (c :: r).all isA) := by
        unfold nameB
        simp
        omega
      rw [e]
      simp only [Option.bind_some, nameM]
      cases hc : isL c with
      | false => simp; omega
      | true =>
        simp only [if_true, Bool.true_and]
        have ht := takeWhile_len isA (c :: r)
        congr 1
        rw [Bool.eq_iff_iff, ← ht]
        simp only [beq_iff_eq, List.length_cons]
        omega
    · rw [if_neg (by omega)]
      have e : nameB (c :: r) = false := by unfold nameB; simp; omega
      rw [e]
theorem rName_l0 (s : ByteArray) (hs : s.size ≤ 12) : ∀ (l : List Int) (i k : Nat), (bytesOf s).drop i = l → i ≤ s.size → l.length < k → timeboundref02_Name.l0 k s i = some (l.all isA) := by
  intro l
  induction l with
  | nil =>
    intro i k h hi hk
    obtain ⟨k, rfl⟩ : ∃ m, k = m + 1 := ⟨k - 1, by omega⟩
    have := bt_nil h
    simp only [timeboundref02_Name.l0]
    rw [if_neg (by omega)]
    rfl
  | cons c r ih =>
    intro i k h hi hk
    obtain ⟨k, rfl⟩ : ∃ m, k = m + 1 := ⟨k - 1, by simp at hk; omega⟩
    obtain ⟨h1, h2, h3⟩ := bt_cons h
    have hn := ih (i + 1) k h3 (by omega) (by simp at hk; omega)
    simp only [timeboundref02_Name.l0]
    rw [if_pos (by omega), if_pos (by omega), h2, rletter_eq, rdigit_eq, wrap_small (by omega) (by omega), show (i : Int) + 1 = ((i + 1 : Nat) : Int) by omega, hn]
    simp only [Option.bind_some, List.all_cons]
    cases hl : isL c with
    | true => simp [isA, hl]
    | false => cases hd : isD c <;> simp [isA, hl, hd]
theorem rName_eq (s : ByteArray) (k : Nat) (hk : 15 ≤ k) : timeboundref02_Name.f k s = some (nameB (bytesOf s)) := by
  obtain ⟨k, rfl⟩ : ∃ m, k = m + 1 := ⟨k - 1, by omega⟩
  unfold timeboundref02_Name.f
  have hb := bytesOf_length s
  by_cases h0 : (s.size : Int) < 1
  · rw [if_pos h0]
    simp only [timeboundref02_Name.j0, if_true]
    congr 1
    unfold nameB
    simp
    omega
  · rw [if_neg h0]
    by_cases h1 : (s.size : Int) > 12
    · rw [if_pos h1]
      simp only [timeboundref02_Name.j0, if_true]
      congr 1
      unfold nameB
      simp
      omega
    · rw [if_neg h1, if_pos (by omega), rletter_eq]
      have e : bt s 0 = (bytesOf s).getD 0 0 := bt_get s 0
      simp only [Option.bind_some, e]
      simp only [timeboundref02_Name.j0]
      have hn := rName_l0 s (by omega) (bytesOf s) 0 k (by simp) (by omega) (by omega)
      have e0 : timeboundref02_Name.l0 k s 0 = timeboundref02_Name.l0 k s ((0 : Nat) : Int) := rfl
      rw [e0, hn]
      unfold nameB
      rw [decide_eq_true (by omega : 1 ≤ (bytesOf s).length), decide_eq_true (by omega : (bytesOf s).length ≤ 12)]
      cases isL ((bytesOf s).getD 0 0) <;> simp
theorem bytesOf_of (l : List UInt8) : bytesOf (⟨l.toArray⟩ : ByteArray) = l.map fun b => (b.toNat : Int) := by simp [bytesOf]
theorem ba_app (a b : List UInt8) : (⟨a.toArray⟩ : ByteArray) ++ (⟨b.toArray⟩ : ByteArray) = ⟨(a ++ b).toArray⟩ := by
  apply ByteArray.ext
  rw [ByteArray.data_append]
  simp
theorem num_byte (d : Nat) (h : d ≤ 255) : strOfNums [(d : Int)] = ⟨#[UInt8.ofNat d]⟩ := by
  refine bytesOf_inj ?_
  rw [bytes_strOfNums _ (by intro c hc; simp at hc; omega)]
  simp [bytesOf, Nat.mod_eq_of_lt (by omega : d < 256)]
theorem digs_size : ∀ (n u : Nat), u < 10 ^ n → 1 ≤ n → (Lib.decDigits u).length ≤ n := by
  intro n
  induction n with
  | zero => intro u _ h; omega
  | succ n ih =>
    intro u h1 _
    rw [Lib.decDigits_length]
    by_cases h : u < 10
    · rw [Lib.nDigits_small h]; omega
    · rw [Lib.nDigits_big h]
      rw [Nat.pow_succ] at h1
      have hn : 1 ≤ n := by
        rcases n with _ | n
        · simp at h1; omega
        · omega
      have := ih (u / 10) (by omega) hn
      rw [Lib.decDigits_length] at this
      omega
theorem Decimal_eq : ∀ (n u k : Nat), u < 10 ^ n → u ≤ 1000000000000000000 → n ≤ 19 → n ≤ k → 1 ≤ k → timeboundref02_Decimal.f k u = some (⟨(Lib.decDigits u).toArray⟩ : ByteArray) := by
  intro n
  induction n with
  | zero =>
    intro u k h _ _ _ hk
    obtain ⟨k, rfl⟩ : ∃ m, k = m + 1 := ⟨k - 1, by omega⟩
    have : u = 0 := by simpa using h
    subst this
    simp only [timeboundref02_Decimal.f]
    rw [if_pos (by omega)]
    rw [Lib.decDigits, dif_pos (by omega), show (wrap64 (48 + ((0 : Nat) : Int)) % 256) = ((48 : Nat) : Int) by unfold wrap64; omega, num_byte _ (by omega)]
  | succ n ih =>
    intro u k h hu hn hnk hk
    obtain ⟨k, rfl⟩ : ∃ m, k = m + 1 := ⟨k - 1, by omega⟩
    simp only [timeboundref02_Decimal.f]
    rw [Lib.decDigits]
    by_cases h10 : u < 10
    · rw [if_pos (by omega), dif_pos h10, wrap_small (by omega) (by omega), Int.emod_eq_of_lt (by omega) (by omega), show (48 + (u : Int)) = ((48 + u : Nat) : Int) by omega, num_byte _ (by omega)]
    · have h2 : u / 10 < 10 ^ n := by rw [Nat.pow_succ] at h; omega
      have hk1 : 1 ≤ k := by
        rcases n with _ | n
        · simp at h; omega
        · omega
      have hd := ih (u / 10) k h2 (by omega) (by omega) (by omega) hk1
      have e1 : Int.tdiv (u : Int) 10 = ((u / 10 : Nat) : Int) := by rw [Int.tdiv_eq_ediv_of_nonneg (by omega)]; omega
      have e2 : Int.tmod (u : Int) 10 = ((u % 10 : Nat) : Int) := by rw [Int.tmod_eq_emod_of_nonneg (by omega)]; omega
      have hsz : (Lib.decDigits (u / 10)).length ≤ 19 := digs_size 19 _ (by omega) (by omega)
      rw [if_neg (by omega), dif_neg h10, e1, e2, wrap_small (by omega) (by omega), hd, wrap_small (by omega) (by omega), Int.emod_eq_of_lt (by omega) (by omega), show (48 + ((u % 10 : Nat) : Int)) = ((48 + u % 10 : Nat) : Int) by omega, Option.bind_some, Option.bind_some, num_byte _ (by omega), if_pos]
      · have := ba_app (Lib.decDigits (u / 10)) [UInt8.ofNat (48 + u % 10)]
        rw [← this]
      · show (⟨(Lib.decDigits (u / 10)).toArray⟩ : ByteArray).data.size + 1 ≤ _
        simp
        omega
/-- The source of a token. -/
def wordM (k v : Int) (t : ByteArray) : ByteArray := if k = 1 ∨ k = 3 then t else if k = 2 then (if v < 0 ∨ 2147483647 < v then ⟨#[48]⟩ else ⟨(Lib.decDigits v.toNat).toArray⟩) else ⟨#[]⟩
theorem Word_eq (k v l : Int) (t : ByteArray) (n : Nat) (hn : 1 ≤ n) : token_Word.f n k v l t = some (wordM k v t) := by
  obtain ⟨n, rfl⟩ : ∃ m, n = m + 1 := ⟨n - 1, by omega⟩
  unfold token_Word.f wordM
  by_cases h1 : k = 1
  · rw [if_pos h1, if_pos (.inl h1)]
    simp [token_Word.j0, h1]
  · rw [if_neg h1]
    simp only [token_Word.j0]
    by_cases h3 : k = 3
    · rw [if_pos (by simp [h3]), if_pos (.inr h3)]
    · rw [if_neg (by simp [h3]), if_neg (show ¬(k = 1 ∨ k = 3) by omega)]
      by_cases h2 : k = 2
      · rw [if_pos h2, if_pos h2]
        by_cases hv : v < 0
        · rw [if_pos hv, if_pos (.inl hv)]
        · rw [if_neg hv]
          by_cases hb : v > 2147483647
          · rw [if_pos hb, if_pos (.inr hb)]
          · rw [if_neg hb, if_neg (by omega)]
            unfold strconv_Itoa.f
            rw [if_pos (by omega), if_pos (by omega)]
            have := Lib.itoa_nonneg v.toNat
            rw [Int.toNat_of_nonneg (by omega)] at this
            rw [this]
            rfl
      · rw [if_neg h2, if_neg h2]
theorem rWord_eq (k v l : Int) (t : ByteArray) (n : Nat) (hn : 20 ≤ n) : timeboundref02_Word.f n k v l t = some (wordM k v t) := by
  obtain ⟨n, rfl⟩ : ∃ m, n = m + 1 := ⟨n - 1, by omega⟩
  unfold timeboundref02_Word.f wordM
  by_cases h1 : k = 1
  · rw [if_pos h1, if_pos (.inl h1)]
    simp [timeboundref02_Word.j0, h1]
  · rw [if_neg h1]
    simp only [timeboundref02_Word.j0]
    by_cases h3 : k = 3
    · rw [if_pos (by simp [h3]), if_pos (.inr h3)]
    · rw [if_neg (by simp [h3]), if_neg (show ¬(k = 1 ∨ k = 3) by omega)]
      by_cases h2 : k = 2
      · rw [if_pos h2, if_pos h2]
        by_cases hv : v < 0
        · rw [if_pos hv, if_pos (.inl hv)]
        · rw [if_neg hv]
          by_cases hb : v ≥ 2147483648
          · rw [if_pos hb, if_pos (.inr (by omega))]
          · rw [if_neg hb, if_neg (by omega)]
            have := Decimal_eq 10 v.toNat n (by omega) (by omega) (by omega) (by omega) (by omega)
            rw [Int.toNat_of_nonneg (by omega)] at this
            rw [this]
            rfl
      · rw [if_neg h2, if_neg h2]
end Go.Proofs.YtcnmejahighkfaaDoor.Tok
-- TokE
/- Texts of tokens, and what scanning them tells. Plain lists of numbers alone. -/
namespace Go.Proofs.YtcnmejahighkfaaDoor.Tok
open Go.RowKit Go.Proofs.YtcnmejahighkfaaDoor.P Go.Proofs.YtcnmejahighkfaaDoorW.PrintWords Go.Proofs.YtcnmejahighkfaaDoorW.PrintLast Go.Proofs.YtcnmejahighkfaaDoorW.PrintMore
set_option linter.unusedVariables false
set_option linter.unusedSimpArgs false

def isW (c : Int) : Bool := decide (c = 32) || (decide (c = 9) || decide (c = 10))
theorem isW_iff (c : Int) : isW c = true ↔ c = 32 ∨ c = 9 ∨ c = 10 := by simp [isW]
/-- A token as the scanner makes it. -/
def good (t : TS) : Prop := (t.f0 = 1 ∧ t.f1 = 0 ∧ nameB (bytesOf t.f3) = true) ∨ (t.f0 = 2 ∧ 0 ≤ t.f1 ∧ t.f1 ≤ 2147483647 ∧ t.f3 = ⟨#[]⟩) ∨ (t.f0 = 3 ∧ t.f1 = 0 ∧ bytesOf t.f3 ∈ signC)
/-- A token without its line. -/
def norm (t : TS) : Int × Int × ByteArray := (t.f0, t.f1, t.f3)
/-- Its source, as numbers. -/
def wordL (t : TS) : List Int := bytesOf (wordM t.f0 t.f1 t.f3)
theorem word_name {t : TS} (h : t.f0 = 1) : wordL t = bytesOf t.f3 := by unfold wordL wordM; rw [if_pos (.inl h)]
theorem word_sign {t : TS} (h : t.f0 = 3) : wordL t = bytesOf t.f3 := by unfold wordL wordM; rw [if_pos (.inr h)]
theorem word_num {t : TS} (h : t.f0 = 2) (h0 : 0 ≤ t.f1) (h1 : t.f1 ≤ 2147483647) : wordL t = (Lib.decDigits t.f1.toNat).map fun b => (b.toNat : Int) := by
  unfold wordL wordM
  rw [if_neg (by omega), if_pos h, if_neg (by omega), bytesOf_of]

/-! ### numbers -/
theorem numv_app (a b : List Int) (n : Int) : numv (a ++ b) n = numv b (numv a n) := by simp [numv]
def decL (u : Nat) : List Int := (Lib.decDigits u).map fun b => (b.toNat : Int)
theorem decL_small {u : Nat} (h : u < 10) : decL u = [48 + (u : Int)] := by
  unfold decL
  rw [Lib.decDigits, dif_pos h]
  simp [Nat.mod_eq_of_lt (by omega : 48 + u < 256)]
theorem decL_big {u : Nat} (h : ¬ u < 10) : decL u = decL (u / 10) ++ [48 + ((u % 10 : Nat) : Int)] := by
  unfold decL
  rw [Lib.decDigits, dif_neg h]
  simp [Nat.mod_eq_of_lt (by omega : 48 + u % 10 < 256)]
theorem decL_digits (u : Nat) : ∀ c ∈ decL u, isD c = true := by
  induction u using Nat.strongRecOn with
  | _ u ih =>
    intro c hc
    by_cases h : u < 10
    · rw [decL_small h] at hc
      simp at hc
      subst hc
      simp [isD]
      omega
    · rw [decL_big h] at hc
      rcases List.mem_append.1 hc with hc | hc
      · exact ih (u / 10) (by omega) c hc
      · simp only [List.mem_singleton] at hc
        subst hc
        have : u % 10 < 10 := Nat.mod_lt _ (by omega)
        simp [isD]
        omega
theorem decL_ne (u : Nat) : decL u ≠ [] := by
  by_cases h : u < 10
  · rw [decL_small h]; simp
  · rw [decL_big h]; simp
theorem decL_val (u : Nat) (hu : u ≤ 2147483647) : numv (decL u) 0 = u := by
  induction u using Nat.strongRecOn with
  | _ u ih =>
    by_cases h : u < 10
    · rw [decL_small h]
      simp only [numv, List.foldl]
      rw [if_pos (by omega)]
      omega
    · rw [decL_big h, numv_app, ih (u / 10) (by omega) (by omega)]
      simp only [numv, List.foldl]
      rw [if_pos (by omega)]
      omega
theorem numv_lt : ∀ (l : List Int) (n : Int), (∀ c ∈ l, isD c = true) → 0 ≤ n → 0 ≤ numv l n ∧ numv l n < (n + 1) * 10 ^ l.length := by
  intro l
  induction l with
  | nil => intro n _ h; simp [numv]; omega
  | cons c r ih =>
    intro n hc h
    have hd := hc c (.head _)
    simp [isD] at hd
    have e : numv (c :: r) n = numv r (if 10 * n + (c - 48) ≤ 2147483648 then 10 * n + (c - 48) else 2147483648) := rfl
    rw [e]
    have hp : (0 : Int) < 10 ^ r.length := Int.pow_pos (by omega)
    have h1 := ih (if 10 * n + (c - 48) ≤ 2147483648 then 10 * n + (c - 48) else 2147483648) (fun c hc' => hc c (.tail _ hc')) (by split <;> omega)
    refine ⟨h1.1, Int.lt_of_lt_of_le h1.2 ?_⟩
    rw [List.length_cons, Int.pow_succ, show (n + 1) * (10 ^ r.length * 10) = ((n + 1) * 10) * 10 ^ r.length by rw [Int.mul_assoc, Int.mul_comm (10 ^ r.length) 10]]
    refine Int.mul_le_mul_of_nonneg_right ?_ (by omega)
    split <;> omega
theorem decL_len (u n : Nat) (h : u < 10 ^ n) (h1 : 1 ≤ n) : (decL u).length ≤ n := by unfold decL; rw [List.length_map]; exact digs_size n u h h1

/-! ### what is good -/
theorem mem_tw {p : Int → Bool} {l : List Int} {x : Int} (h : x ∈ l.takeWhile p) : p x = true := by
  induction l with
  | nil => cases h
  | cons c r ih =>
    rw [List.takeWhile_cons] at h
    split at h
    · rcases List.mem_cons.1 h with rfl | h
      · assumption
      · exact ih h
    · cases h
theorem tw_append {p : Int → Bool} {a b : List Int} (ha : a.all p = true) (hb : b = [] ∨ p (b.getD 0 0) = false) : (a ++ b).takeWhile p = a := by
  induction a with
  | nil =>
    rcases b with _ | ⟨x, b⟩
    · rfl
    · rcases hb with h | h
      · cases h
      · have : p x = false := h
        simp [List.takeWhile_cons, this]
  | cons c r ih =>
    simp only [List.all_cons, Bool.and_eq_true] at ha
    simp [List.takeWhile_cons, ha.1, ih ha.2]
theorem isW_isA {c : Int} (h : isW c = true) : isA c = false := by
  rcases (isW_iff c).1 h with rfl | rfl | rfl <;> rfl
theorem isW_isD {c : Int} (h : isW c = true) : isD c = false := by
  rcases (isW_iff c).1 h with rfl | rfl | rfl <;> rfl
theorem signC_cases {t : List Int} (h : t ∈ signC) : (∃ a, t = [a] ∧ [a] ∈ oneC) ∨ (∃ a b, t = [a, b] ∧ [a, b] ∈ twoC) := by
  rw [signC_eq] at h
  simp only [List.mem_cons, List.not_mem_nil, or_false] at h
  rcases h with rfl | rfl | rfl | rfl | rfl | rfl | rfl | rfl | rfl | rfl | rfl | rfl | rfl | rfl | rfl | rfl | rfl | rfl | rfl | rfl | rfl <;> first | exact .inl ⟨_, rfl, by decide⟩ | exact .inr ⟨_, _, rfl, by decide⟩
theorem sign_head {t : List Int} (h : t ∈ signC) : ∃ a r, t = a :: r ∧ isA a = false ∧ isW a = false := by
  rw [signC_eq] at h
  simp only [List.mem_cons, List.not_mem_nil, or_false] at h
  rcases h with rfl | rfl | rfl | rfl | rfl | rfl | rfl | rfl | rfl | rfl | rfl | rfl | rfl | rfl | rfl | rfl | rfl | rfl | rfl | rfl | rfl <;> exact ⟨_, _, rfl, rfl, rfl⟩
theorem isA_false {c : Int} (h : isA c = false) : isL c = false ∧ isD c = false := by simpa [isA] using h
theorem two_ws (a c : Int) (h : isW c = true) : [a, c] ∉ signC := by
  rw [signC_eq]
  rcases (isW_iff c).1 h with rfl | rfl | rfl <;> simp
theorem sign_two (t : List Int) (h : t ∈ signC) (h2 : t.length ≠ 1) : t.length = 2 := by
  rcases signC_cases h with ⟨a, rfl, _⟩ | ⟨a, b, rfl, _⟩
  · simp at h2
  · rfl
/-- A sign with white space or nothing behind it. -/
theorem signM_word {t : List Int} (h : t ∈ signC) (r : List Int) (hr : r = [] ∨ isW (r.getD 0 0) = true) : signM (t ++ r) = t.length := by
  unfold signM
  rcases signC_cases h with ⟨a, rfl, _⟩ | ⟨a, b, rfl, _⟩
  · have h1 : ¬ (2 ≤ ([a] ++ r).length ∧ ([a] ++ r).take 2 ∈ signC) := by
      rintro ⟨h1, h2⟩
      rcases r with _ | ⟨c, r⟩
      · simp at h1
      · rcases hr with hr | hr
        · cases hr
        · exact two_ws a c hr (by simpa using h2)
    rw [if_neg h1, if_pos]
    · rfl
    · exact ⟨by simp, by simpa using h⟩
  · rw [if_pos]
    · rfl
    · exact ⟨by simp, by simpa using h⟩
/-- White space behind a text does not change what it begins with. -/
theorem signM_pad (c : Int) (l p : List Int) (hp : p = [] ∨ isW (p.getD 0 0) = true) : signM (c :: l ++ p) = signM (c :: l) := by
  rcases l with _ | ⟨d, l⟩
  · rcases p with _ | ⟨x, p⟩
    · rfl
    · rcases hp with hp | hp
      · cases hp
      · have hx := two_ws c x hp
        simp [signM, hx]
  · simp [signM]
theorem tw_pad {p : Int → Bool} (a b : List Int) (hb : b = [] ∨ p (b.getD 0 0) = false) : (a ++ b).takeWhile p = a.takeWhile p := by
  induction a with
  | nil =>
    rcases b with _ | ⟨x, b⟩
    · rfl
    · rcases hb with h | h
      · cases h
      · have : p x = false := h
        simp [List.takeWhile_cons, this]
  | cons c r ih => cases h : p c <;> simp [List.takeWhile_cons, h, ih]
theorem nextM_pad (c : Int) (l p : List Int) (hp : p = [] ∨ isW (p.getD 0 0) = true) : nextM (c :: l ++ p) = nextM (c :: l) := by
  have ha : p = [] ∨ isA (p.getD 0 0) = false := hp.imp_right isW_isA
  have hd : p = [] ∨ isD (p.getD 0 0) = false := hp.imp_right isW_isD
  have h1 := tw_pad (p := isA) (c :: l) p ha
  have h2 := tw_pad (p := isD) (c :: l) p hd
  have h3 := signM_pad c l p hp
  have h4 : signM (c :: l) ≤ (c :: l).length := by
    unfold signM
    split
    · omega
    · split <;> simp
  have e : c :: l ++ p = c :: (l ++ p) := rfl
  rw [e] at h1 h2 h3 ⊢
  simp only [nextM]
  rw [h1, h2, h3]
  have h5 : (c :: (l ++ p)).take (signM (c :: l)) = (c :: l).take (signM (c :: l)) := by rw [← e]; exact List.take_append_of_le_length h4
  rw [h5]
theorem nextM_good {l : List Int} {k v : Int} {t : List Int} {n : Nat} (hl : ∀ c ∈ l, 0 ≤ c ∧ c ≤ 255) (h : nextM l = some (k, v, t, n)) (line : Int) : good ⟨k, v, line, strOfNums t⟩ ∧ (wordL ⟨k, v, line, strOfNums t⟩).length ≤ n := by
  rcases l with _ | ⟨c, r⟩
  · cases h
  simp only [nextM] at h
  split at h
  · rename_i hc
    split at h
    · cases h
    · rename_i h12
      simp only [Option.some.injEq, Prod.mk.injEq] at h
      obtain ⟨rfl, rfl, rfl, rfl⟩ := h
      have hA : isA c = true := isL_isA hc
      have hb : bytesOf (strOfNums ((c :: r).takeWhile isA)) = (c :: r).takeWhile isA := bytes_strOfNums _ (fun x hx => hl x ((List.takeWhile_sublist _).subset hx))
      refine ⟨.inl ⟨rfl, rfl, ?_⟩, ?_⟩
      · show nameB (bytesOf (strOfNums _)) = true
        rw [hb]
        have h1 : ((c :: r).takeWhile isA).all isA = true := List.all_eq_true.2 fun x hx => mem_tw hx
        rw [List.takeWhile_cons, if_pos hA] at h12 h1 ⊢
        simp [nameB, hc] at h1 h12 ⊢
        exact ⟨by omega, h1⟩
      · rw [word_name rfl]
        show (bytesOf (strOfNums _)).length ≤ _
        rw [hb]
        exact Nat.le_refl _
  · split at h
    · rename_i hc hd
      split at h
      · cases h
      · rename_i hbig
        simp only [Option.some.injEq, Prod.mk.injEq] at h
        obtain ⟨rfl, rfl, rfl, rfl⟩ := h
        have hD : ∀ x ∈ (c :: r).takeWhile isD, isD x = true := fun x hx => mem_tw hx
        have hn := numv_lt ((c :: r).takeWhile isD) 0 hD (by omega)
        refine ⟨.inr (.inl ⟨rfl, hn.1, by show numv _ _ ≤ _; omega, rfl⟩), ?_⟩
        rw [word_num rfl hn.1 (by show numv _ _ ≤ _; omega)]
        refine decL_len _ _ ?_ ?_
        · have h2 := hn.2
          have h0 := hn.1
          rw [Int.zero_add, Int.one_mul] at h2
          have h3 : ((numv ((c :: r).takeWhile isD) 0).toNat : Int) < ((10 ^ ((c :: r).takeWhile isD).length : Nat) : Int) := by
            rw [Int.toNat_of_nonneg h0, Int.natCast_pow]
            exact h2
          exact Int.ofNat_lt.1 h3
        · rw [List.takeWhile_cons, if_pos hd]; simp
    · rename_i hc hd
      split at h
      · cases h
      · rename_i hz
        simp only [Option.some.injEq, Prod.mk.injEq] at h
        obtain ⟨rfl, rfl, rfl, rfl⟩ := h
        have hb : bytesOf (strOfNums ((c :: r).take (signM (c :: r)))) = (c :: r).take (signM (c :: r)) := bytes_strOfNums _ (fun x hx => hl x (List.mem_of_mem_take hx))
        refine ⟨.inr (.inr ⟨rfl, rfl, ?_⟩), ?_⟩
        · show bytesOf (strOfNums _) ∈ signC
          rw [hb]
          unfold signM at hz ⊢
          split
          · rename_i h1; exact h1.2
          · rename_i h1
            split
            · rename_i h2; exact h2.2
            · rename_i h2; rw [if_neg h1, if_neg h2] at hz; exact absurd rfl hz
        · rw [word_sign rfl]
          show (bytesOf (strOfNums _)).length ≤ _
          rw [hb, List.length_take]
          omega
/-- A good token's word, with white space or nothing behind it, is read as the token. -/
theorem nextM_word {t : TS} (h : good t) (r : List Int) (hr : r = [] ∨ isW (r.getD 0 0) = true) : ∃ c l, wordL t = c :: l ∧ isW c = false ∧ nextM (wordL t ++ r) = some (t.f0, t.f1, bytesOf t.f3, (wordL t).length) := by
  have ha : r = [] ∨ isA (r.getD 0 0) = false := hr.imp_right isW_isA
  have hd : r = [] ∨ isD (r.getD 0 0) = false := hr.imp_right isW_isD
  rcases h with ⟨h0, h1, h2⟩ | ⟨h0, h1, h2, h3⟩ | ⟨h0, h1, h2⟩
  · rw [word_name h0]
    generalize bytesOf t.f3 = w at h2 ⊢
    rcases w with _ | ⟨c, l⟩
    · simp [nameB] at h2
    · simp only [nameB, Bool.and_eq_true, decide_eq_true_eq] at h2
      obtain ⟨_, h12, hc, hall⟩ := h2
      have hc : isL c = true := hc
      have ht := tw_append (a := c :: l) hall ha
      have e : c :: l ++ r = c :: (l ++ r) := rfl
      refine ⟨c, l, rfl, ?_, ?_⟩
      · cases hw : isW c with
        | false => rfl
        | true => have := isW_isA hw; rw [isL_isA hc] at this; cases this
      · rw [e] at ht ⊢
        simp only [nextM]
        rw [if_pos hc, ht, if_neg (by omega), h0, h1]
  · rw [word_num h0 h1 h2]
    show ∃ c l, decL t.f1.toNat = c :: l ∧ isW c = false ∧ nextM (decL t.f1.toNat ++ r) = some (t.f0, t.f1, bytesOf t.f3, (decL t.f1.toNat).length)
    have hv := decL_val t.f1.toNat (by omega)
    have hD := decL_digits t.f1.toNat
    have hne := decL_ne t.f1.toNat
    generalize decL t.f1.toNat = w at hv hD hne ⊢
    rcases w with _ | ⟨c, l⟩
    · exact absurd rfl hne
    · have hcd := hD c (.head _)
      have hall : (c :: l).all isD = true := List.all_eq_true.2 hD
      have ht := tw_append (a := c :: l) hall hd
      have e : c :: l ++ r = c :: (l ++ r) := rfl
      have hcl : ¬ isL c = true := by
        simp [isD] at hcd
        simp [isL]
        omega
      refine ⟨c, l, rfl, ?_, ?_⟩
      · cases hw : isW c with
        | false => rfl
        | true => have := isW_isD hw; rw [hcd] at this; cases this
      · rw [e] at ht ⊢
        simp only [nextM]
        rw [if_neg hcl, if_pos hcd, ht, hv, Int.toNat_of_nonneg h1, if_neg (by omega), h0, h3]
        rfl
  · rw [word_sign h0]
    have hs := signM_word h2 r hr
    have hh := sign_head h2
    generalize bytesOf t.f3 = w at h2 hs hh ⊢
    obtain ⟨c, l, rfl, hcA, hcW⟩ := hh
    have ⟨hcl, hcd⟩ := isA_false hcA
    have e : c :: l ++ r = c :: (l ++ r) := rfl
    refine ⟨c, l, rfl, hcW, ?_⟩
    rw [e] at hs ⊢
    simp only [nextM]
    rw [if_neg (by simp [hcl]), if_neg (by simp [hcd]), hs, if_neg (by simp), h0, h1, ← e, List.take_append_of_le_length (Nat.le_refl _), List.take_length]
end Go.Proofs.YtcnmejahighkfaaDoor.Tok
-- TokF
/- Scanning texts of tokens. -/
namespace Go.Proofs.YtcnmejahighkfaaDoor.Tok
open Go.RowKit Go.Proofs.YtcnmejahighkfaaDoor.P Go.Proofs.YtcnmejahighkfaaDoorW.PrintWords Go.Proofs.YtcnmejahighkfaaDoorW.PrintLast Go.Proofs.YtcnmejahighkfaaDoorW.PrintMore
set_option linter.unusedVariables false
set_option linter.unusedSimpArgs false

/-- One step of the scan at white space. -/
theorem scan_ws {c : Int} (h : isW c = true) (f : Nat) (r : List Int) (out : List TS) (line : Int) : ∃ line', line ≤ line' ∧ scanM (f + 1) (c :: r) out line = scanM f r out line' := by
  simp only [scanM]
  rcases (isW_iff c).1 h with rfl | rfl | rfl
  · exact ⟨line, by omega, by rw [if_neg (by omega), if_pos (.inl rfl)]⟩
  · exact ⟨line, by omega, by rw [if_neg (by omega), if_pos (.inr rfl)]⟩
  · exact ⟨line + 1, by omega, by rw [if_pos rfl]⟩
theorem scan_skip : ∀ (p : List Int) (hp : p.all isW = true) (f : Nat) (r : List Int) (out : List TS) (line : Int), ∃ line', line ≤ line' ∧ scanM (f + p.length) (p ++ r) out line = scanM f r out line' := by
  intro p
  induction p with
  | nil => intro _ f r out line; exact ⟨line, Int.le_refl _, rfl⟩
  | cons c q ih =>
    intro hp f r out line
    simp only [List.all_cons, Bool.and_eq_true] at hp
    obtain ⟨l1, h1, e1⟩ := scan_ws hp.1 (f + q.length) (q ++ r) out line
    obtain ⟨l2, h2, e2⟩ := ih hp.2 f r out l1
    exact ⟨l2, by omega, by rw [List.length_cons, ← Nat.add_assoc, List.cons_append, e1, e2]⟩
/-- One step at a word. -/
theorem scan_step {c : Int} (h : isW c = false) (f : Nat) (r : List Int) (out : List TS) (line : Int) : scanM (f + 1) (c :: r) out line = match nextM (c :: r) with | none => ([], line, 1) | some (k, v, t, n) => scanM f ((c :: r).drop n) (out ++ [⟨k, v, line, strOfNums t⟩]) line := by
  have h1 : ¬ (c = 32 ∨ c = 9 ∨ c = 10) := fun q => by rw [(isW_iff c).2 q] at h; cases h
  simp only [scanM]
  rw [if_neg (by omega), if_neg (by omega)]
  cases nextM (c :: r) <;> rfl
theorem scan_word {t : TS} (h : good t) (f : Nat) (r : List Int) (hr : r = [] ∨ isW (r.getD 0 0) = true) (out : List TS) (line : Int) : scanM (f + 1) (wordL t ++ r) out line = scanM f r (out ++ [⟨t.f0, t.f1, line, t.f3⟩]) line := by
  obtain ⟨c, l, e, hc, hn⟩ := nextM_word h r hr
  have e2 : wordL t ++ r = c :: (l ++ r) := by rw [e]; rfl
  rw [e2, scan_step hc, ← e2, hn]
  show scanM f ((wordL t ++ r).drop (wordL t).length) _ _ = _
  rw [List.drop_append_of_le_length (Nat.le_refl _), List.drop_length, List.nil_append, strOfNums_bytes]
/-- Fuel to spare tells the same. -/
theorem scan_fuel : ∀ (f g : Nat) (l : List Int) (out : List TS) (line : Int), l.length ≤ f → l.length ≤ g → scanM f l out line = scanM g l out line := by
  intro f
  induction f with
  | zero =>
    intro g l out line hf _
    have : l = [] := List.length_eq_zero_iff.1 (by omega)
    subst this
    cases g <;> simp [scanM]
  | succ f ih =>
    intro g l out line hf hg
    rcases l with _ | ⟨c, r⟩
    · cases g <;> simp [scanM]
    · obtain ⟨g, rfl⟩ : ∃ m, g = m + 1 := ⟨g - 1, by simp at hg; omega⟩
      simp only [List.length_cons] at hf hg
      simp only [scanM]
      rw [ih g r out (line + 1) (by omega) (by omega), ih g r out line (by omega) (by omega)]
      cases hm : nextM (c :: r) with
      | none => rfl
      | some x =>
        obtain ⟨k, v, t, n⟩ := x
        have hl := nextM_len hm
        simp only [List.length_cons] at hl
        simp only
        rw [ih g _ _ line (by simp; omega) (by simp; omega)]
/-- A text of these tokens: white space, a word, and white space or nothing behind each. -/
def Txt : List TS → List Int → Prop
  | [], l => l.all isW = true
  | t :: ts, l => ∃ p r, l = p ++ (wordL t ++ r) ∧ p.all isW = true ∧ (r = [] ∨ isW (r.getD 0 0) = true) ∧ Txt ts r
theorem txt_nil {l : List Int} (h : l.all isW = true) : Txt [] l := h
theorem word_pos {t : TS} (h : good t) : 1 ≤ (wordL t).length := by
  obtain ⟨c, l, e, _, _⟩ := nextM_word h [] (.inl rfl)
  rw [e]; simp
theorem txt_scan : ∀ (ts : List TS) (hg : ∀ t ∈ ts, good t) (l : List Int) (h : Txt ts l) (f : Nat) (hf : l.length ≤ f) (out : List TS) (line : Int), ∃ o, scanM f l out line = (o, 0, 0) ∧ o.map norm = (out ++ ts).map norm := by
  intro ts
  induction ts with
  | nil =>
    intro _ l h f hf out line
    obtain ⟨l', _, e⟩ := scan_skip l h (f - l.length) [] out line
    rw [List.append_nil, Nat.sub_add_cancel hf] at e
    refine ⟨out, ?_, by simp⟩
    rw [e]
    cases f - l.length <;> simp [scanM]
  | cons t ts ih =>
    intro hg l h f hf out line
    obtain ⟨p, r, rfl, hp, hr, ht⟩ := h
    have hw := word_pos (hg t (.head _))
    simp only [List.length_append] at hf
    obtain ⟨l1, _, e1⟩ := scan_skip p hp (f - p.length) (wordL t ++ r) out line
    rw [Nat.sub_add_cancel (by omega)] at e1
    obtain ⟨g, hg'⟩ : ∃ g, f - p.length = g + 1 := ⟨f - p.length - 1, by omega⟩
    rw [hg', scan_word (hg t (.head _)) g r hr out l1] at e1
    obtain ⟨o, e2, e3⟩ := ih (fun t h => hg t (.tail _ h)) r ht g (by omega) (out ++ [⟨t.f0, t.f1, l1, t.f3⟩]) l1
    refine ⟨o, by rw [e1, e2], ?_⟩
    rw [e3]
    simp [norm]
theorem txt_skip {ts : List TS} {l p : List Int} (hp : p.all isW = true) (h : Txt ts l) : Txt ts (p ++ l) := by
  rcases ts with _ | ⟨t, ts⟩
  · show (p ++ l).all isW = true
    have h' : l.all isW = true := h
    rw [List.all_append, hp, h']; rfl
  · obtain ⟨q, r, rfl, hq, hr, ht⟩ := h
    exact ⟨p ++ q, r, by simp, by rw [List.all_append, hp, hq]; rfl, hr, ht⟩
/-- Words, each with a space behind. -/
def spaced (ts : List TS) : List Int := ts.flatMap fun t => wordL t ++ [32]
theorem txt_spaced : ∀ ts : List TS, Txt ts (spaced ts) := by
  intro ts
  induction ts with
  | nil => rfl
  | cons t ts ih =>
    refine ⟨[], 32 :: spaced ts, by simp [spaced], rfl, .inr rfl, ?_⟩
    exact txt_skip (p := [32]) rfl ih
/-- Words, each with white space ahead. -/
def ahead (m : Nat → List Int) : Nat → List TS → List Int
  | _, [] => []
  | i, t :: ts => m i ++ (wordL t ++ ahead m (i + 1) ts)
theorem txt_ahead (m : Nat → List Int) (hm : ∀ i, (m i).all isW = true ∧ 1 ≤ (m i).length) : ∀ (ts : List TS) (i : Nat), Txt ts (ahead m i ts) := by
  intro ts
  induction ts with
  | nil => intro i; rfl
  | cons t ts ih =>
    intro i
    refine ⟨m i, ahead m (i + 1) ts, rfl, (hm i).1, ?_, ih (i + 1)⟩
    rcases ts with _ | ⟨u, us⟩
    · exact .inl rfl
    · right
      obtain ⟨h1, h2⟩ := hm (i + 1)
      simp only [ahead]
      generalize m (i + 1) = q at h1 h2 ⊢
      rcases q with _ | ⟨c, q⟩
      · simp at h2
      · simp only [List.all_cons, Bool.and_eq_true] at h1
        exact h1.1
/-- White space around a text changes nothing but the lines. -/
theorem scan_pad (p : List Int) (hp : p.all isW = true) : ∀ (f : Nat) (l : List Int) (out : List TS) (line : Int) (o : List TS) (x : Int), scanM f l out line = (o, x, 0) → l.length ≤ f → ∀ (g : Nat) (out' : List TS) (line' : Int), l.length + p.length ≤ g → out'.map norm = out.map norm → ∃ o', scanM g (l ++ p) out' line' = (o', 0, 0) ∧ o'.map norm = o.map norm := by
  have hpw : p = [] ∨ isW (p.getD 0 0) = true := by
    rcases p with _ | ⟨c, p⟩
    · exact .inl rfl
    · simp only [List.all_cons, Bool.and_eq_true] at hp
      exact .inr hp.1
  intro f
  induction f with
  | zero =>
    intro l out line o x h hl g out' line' hg hn
    have : l = [] := List.length_eq_zero_iff.1 (by omega)
    subst this
    simp only [scanM, Prod.mk.injEq] at h
    obtain ⟨rfl, _, _⟩ := h
    obtain ⟨o', e1, e2⟩ := txt_scan [] (by intro t ht; cases ht) ([] ++ p) (txt_nil (l := [] ++ p) hp) g (by simpa using hg) out' line'
    exact ⟨o', e1, by rw [e2, List.append_nil, hn]⟩
  | succ f ih =>
    intro l out line o x h hl g out' line' hg hn
    rcases l with _ | ⟨c, r⟩
    · simp only [scanM, Prod.mk.injEq] at h
      obtain ⟨rfl, _, _⟩ := h
      obtain ⟨o', e1, e2⟩ := txt_scan [] (by intro t ht; cases ht) ([] ++ p) (txt_nil (l := [] ++ p) hp) g (by simpa using hg) out' line'
      exact ⟨o', e1, by rw [e2, List.append_nil, hn]⟩
    · simp only [List.length_cons] at hl hg
      obtain ⟨g, rfl⟩ : ∃ m, g = m + 1 := ⟨g - 1, by omega⟩
      cases hc : isW c with
      | true =>
        obtain ⟨l1, _, e1⟩ := scan_ws hc f r out line
        obtain ⟨l2, _, e2⟩ := scan_ws hc g (r ++ p) out' line'
        rw [e1] at h
        rw [List.cons_append, e2]
        exact ih r out l1 o x h (by omega) g out' l2 (by omega) hn
      | false =>
        rw [scan_step hc] at h
        have hpad := nextM_pad c r p hpw
        rw [List.cons_append] at hpad ⊢
        rw [scan_step hc, hpad]
        cases hm : nextM (c :: r) with
        | none => rw [hm] at h; simp at h
        | some y =>
          obtain ⟨k, v, t, n⟩ := y
          rw [hm] at h
          have hlen := nextM_len hm
          simp only [List.length_cons] at hlen
          simp only at h ⊢
          have hdr : (c :: (r ++ p)).drop n = (c :: r).drop n ++ p := by
            rw [← List.cons_append, List.drop_append_of_le_length (by simp; omega)]
          rw [hdr]
          exact ih ((c :: r).drop n) _ _ o x h (by simp; omega) g _ _ (by simp; omega) (by simp [hn, norm])
/-- What a scan that succeeds tells: good tokens, lines that do not fall, words no longer than the text. -/
def total (ts : List TS) : Nat := (ts.map fun t => (wordL t).length).sum
theorem scan_good : ∀ (f : Nat) (l : List Int) (out : List TS) (line : Int) (o : List TS) (x : Int), scanM f l out line = (o, x, 0) → (∀ c ∈ l, 0 ≤ c ∧ c ≤ 255) → (∀ t ∈ out, good t) → (∀ t ∈ out, t.f2 ≤ line) → out.Pairwise (fun a b => a.f2 ≤ b.f2) → (∀ t ∈ o, good t) ∧ o.Pairwise (fun a b => a.f2 ≤ b.f2) ∧ total o ≤ total out + l.length ∧ x = 0 ∧ o.length ≤ out.length + l.length := by
  intro f
  induction f with
  | zero =>
    intro l out line o x h hl hg h2 hp
    simp only [scanM, Prod.mk.injEq] at h
    obtain ⟨rfl, rfl, _⟩ := h
    exact ⟨hg, hp, by omega, rfl, by omega⟩
  | succ f ih =>
    intro l out line o x h hl hg h2 hp
    rcases l with _ | ⟨c, r⟩
    · simp only [scanM, Prod.mk.injEq] at h
      obtain ⟨rfl, rfl, _⟩ := h
      exact ⟨hg, hp, by simp, rfl, by simp⟩
    · cases hc : isW c with
      | true =>
        obtain ⟨l1, hl1, e1⟩ := scan_ws hc f r out line
        rw [e1] at h
        obtain ⟨a, b, d, e, g⟩ := ih r out l1 o x h (fun c hc => hl c (.tail _ hc)) hg (fun t ht => Int.le_trans (h2 t ht) hl1) hp
        exact ⟨a, b, by simp; omega, e, by simp; omega⟩
      | false =>
        rw [scan_step hc] at h
        cases hm : nextM (c :: r) with
        | none => rw [hm] at h; simp at h
        | some y =>
          obtain ⟨k, v, t, n⟩ := y
          rw [hm] at h
          have hlen := nextM_len hm
          obtain ⟨hgood, hw⟩ := nextM_good hl hm line
          simp only [List.length_cons] at hlen
          simp only at h
          obtain ⟨a, b, d, e, g⟩ := ih ((c :: r).drop n) _ _ o x h (fun c hc => hl c (List.mem_of_mem_drop hc)) (by
              intro t' ht'
              rcases List.mem_append.1 ht' with ht' | ht'
              · exact hg t' ht'
              · rw [List.mem_singleton.1 ht']; exact hgood) (by
              intro t' ht'
              rcases List.mem_append.1 ht' with ht' | ht'
              · exact h2 t' ht'
              · rw [List.mem_singleton.1 ht']; exact Int.le_refl _) (by
              rw [List.pairwise_append]
              refine ⟨hp, by simp, ?_⟩
              intro a ha b hb
              rw [List.mem_singleton.1 hb]
              exact h2 a ha)
          refine ⟨a, b, ?_, e, ?_⟩
          · simp only [total, List.map_append, List.sum_append, List.map_cons, List.map_nil, List.sum_cons, List.sum_nil, List.length_drop, List.length_cons] at d ⊢
            omega
          · simp only [List.length_append, List.length_drop, List.length_cons, List.length_nil] at g ⊢
            omega
end Go.Proofs.YtcnmejahighkfaaDoor.Tok
