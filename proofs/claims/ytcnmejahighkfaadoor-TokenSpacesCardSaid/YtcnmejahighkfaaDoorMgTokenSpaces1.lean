/- Part 1 of the texts for: For every piece list, white space around the text or between its tokens changes nothing but lines, so TokenSpaces answers true. No condition. -/
import Derived.Shelf.Strconv.Itoa0
import Derived.Shelf.Strconv.Itoa1
import Derived.Shelf.LaysM
import Derived.Shelf.Strconv.Itoa2
import Derived.Shelf.Strconv.Itoa3
import Derived.Shelf.Slices.Turned
import Derived.Test.YtcnmejahighkfaaDoorProg
import Derived.WalkKit
import Derived.WalkSmall
import Derived.Lib.AppendIntMem
import Derived.Lib.LaidTab
import Derived.MapKept
import Derived.Carry
import Derived.KernelRfl
import Derived.Below
import Derived.Deep.Draws
import Derived.Deep.AppendLies
import Derived.Maps.AppendAt
import Derived.OwnWalk
import Derived.Laws.BytesArg
import Derived.Laws.MakeOwn
import Derived.Laws.OwnMore
import Derived.Deep.OwnRows
import Derived.Tactics
import Derived.Lib.ConvBytes
import Derived.Laws.Slices
import Derived.RowKit3
import Derived.Deep.LoopGhost
import Derived.Deep.QuietTactic
import Derived.BigQuiet
import Derived.WideLaws
import Derived.Deep.DeepCutAuto
import Derived.Deep.CutBlock
import Derived.Deep.RegionHeld3
import Derived.Laws.Rows
import Derived.Lib.AppendStr
import Derived.ArgAppend
import Derived.Laws.IdiomCopy
import Derived.OrdersHeld
import Derived.Laws.BitsLemmas
import Derived.RowKit
import Derived.Test.YtcnmejahighkfaaDoorWWords
import Derived.Test.YtcnmejahighkfaaDoorWLast
import Derived.Test.YtcnmejahighkfaaDoorWTab
import Derived.Test.YtcnmejahighkfaaDoorWFour
import Derived.Test.YtcnmejahighkfaaDoorWQPut
import Derived.Test.YtcnmejahighkfaaDoorWApart
import Derived.Test.YtcnmejahighkfaaDoorWArr
import Derived.Test.YtcnmejahighkfaaDoorWZeros
import Derived.Test.YtcnmejahighkfaaDoorWFoot
import Derived.Test.YtcnmejahighkfaaDoorWKept
import Derived.Test.YtcnmejahighkfaaDoorWShare
import Derived.Test.YtcnmejahighkfaaDoorWN
import Derived.Test.YtcnmejahighkfaaDoorWFootNe
import Derived.Test.YtcnmejahighkfaaDoorWAt
import Derived.Test.YtcnmejahighkfaaDoorWEqStruct
import Derived.Test.YtcnmejahighkfaaDoorWRepsOne
import Derived.Test.YtcnmejahighkfaaDoorWInv
import Derived.Test.YtcnmejahighkfaaDoorWInvWords
import Derived.Test.YtcnmejahighkfaaDoorWGuard
import Derived.Test.YtcnmejahighkfaaDoorWNEv
import Derived.Test.YtcnmejahighkfaaDoorWMore
import Derived.Test.YtcnmejahighkfaaDoorMgTokenSpaces0
-- Pf26
namespace Go.Proofs.YtcnmejahighkfaaDoor.P
open Go.RowKit Go.Proofs.YtcnmejahighkfaaDoorW.PrintWords Go.Proofs.YtcnmejahighkfaaDoorW.PrintLast Go.Proofs.YtcnmejahighkfaaDoorW.PrintMore
attribute [local go_sem] max2_int min2_int max_two min_two max_three min_three max_four min_four   -- for this text's walks alone
set_option linter.unusedVariables false
set_option linter.unusedSimpArgs false

/-! ### timeboundref02_Same: function 26 -/
def timeboundref02_Same.l0 : Nat → List (S59) → List (S59) → Bool → Int → Option (Bool)
  | 0, _, _, _, _ => none
  | k + 1, x0, x1, x2, x7 => if x7 < (x0.length : Int) then (if 0 ≤ x7 then (if x7 < (x1.length : Int) then (if ((rd_T59 x0 x7).f0) = ((rd_T59 x1 x7).f0) then (if ((rd_T59 x0 x7).f1) = ((rd_T59 x1 x7).f1) then (if ((rd_T59 x0 x7).f3).toList = ((rd_T59 x1 x7).f3).toList then (if x2 = true then (if ((rd_T59 x0 x7).f2) = ((rd_T59 x1 x7).f2) then (timeboundref02_Same.l0 k x0 x1 x2 (wrap64 (x7 + 1))) else (some false)) else (timeboundref02_Same.l0 k x0 x1 x2 (wrap64 (x7 + 1)))) else (some false)) else (some false)) else (some false)) else (none)) else (none)) else (some true)
def timeboundref02_Same.f (k : Nat) (l0 : List (S59)) (l1 : List (S59)) (a2 : Bool) : Option (Bool) := if (l0.length : Int) = (l1.length : Int) then (timeboundref02_Same.l0 k l0 l1 a2 0) else (some false)
theorem timeboundref02_Same.mono_l : ∀ k, (∀ y0 y1 y2 y3, LeO (timeboundref02_Same.l0 k y0 y1 y2 y3) (timeboundref02_Same.l0 (k + 1) y0 y1 y2 y3))
  | 0 => fun _ _ _ _ r h => by simp [timeboundref02_Same.l0] at h
  | k + 1 => by
    have ih0 := timeboundref02_Same.mono_l k
    · intro y0 y1 y2 y3
      unfold timeboundref02_Same.l0
      repeat' first
      | (with_reducible exact ih0 _ _ _ _)
      | (with_reducible exact LeO.refl _)
      | (with_reducible exact LeO.none _)
      | (with_reducible refine LeO.ite ?_ ?_)
      | (with_reducible refine LeO.bind ?_ (fun _ => ?_))
      | exact ih0 _ _ _ _
      | exact LeO.none _
      | refine LeO.ite ?_ ?_
      | refine LeO.bind ?_ (fun _ => ?_)
theorem timeboundref02_Same.mono : ∀ a0 a1 a2 k, LeO (timeboundref02_Same.f k a0 a1 a2) (timeboundref02_Same.f (k + 1) a0 a1 a2) := by
  intro a0 a1 a2 k
  have ih0 := timeboundref02_Same.mono_l k
  unfold timeboundref02_Same.f
  repeat' first
      | (with_reducible exact ih0 _ _ _ _)
      | (with_reducible exact LeO.refl _)
      | (with_reducible exact LeO.none _)
      | (with_reducible refine LeO.ite ?_ ?_)
      | (with_reducible refine LeO.bind ?_ (fun _ => ?_))
      | exact ih0 _ _ _ _
      | exact LeO.none _
      | refine LeO.ite ?_ ?_
      | refine LeO.bind ?_ (fun _ => ?_)
set_option maxHeartbeats 8000000 in
set_option maxRecDepth 100000 in
theorem timeboundref02_Same.calls (k : Nat) (A0 : Option Addr) (c0 : Nat) (l0 : List (S59)) (A1 : Option Addr) (c1 : Nat) (l1 : List (S59)) (a2 : Bool) (r : Bool) (w : World) (hr0 : Kd.C k59 w A0 l0.length l0) (hc0 : l0.length ≤ c0) (hr1 : Kd.C k59 w A1 l1.length l1) (hc1 : l1.length ≤ c1) (h : timeboundref02_Same.f k l0 l1 a2 = some r) :
    Calls Tryd.prog 26 #[.slice A0 l0.length c0, .slice A1 l1.length c1, .bool a2] w fun e w' => e = .returned (.bool r) ∧ Drawn0 w w' := by
  have HR0 := Aside0.mk hr0
  have HC0 := Aside0.mk hc0
  clear hr0 hc0
  have HR1 := Aside0.mk hr1
  have HC1 := Aside0.mk hc1
  clear hr1 hc1
  have H : (if (l0.length : Int) = (l1.length : Int) then (timeboundref02_Same.l0 k l0 l1 a2 0) else (some false)) = some r := h
  clear h
  by_cases c4 : (l0.length : Int) = (l1.length : Int)
  · rw [if_pos c4] at H
    have c4b0 : ((l0.length : Int) == (l1.length : Int)) = true := beq_iff_eq.mpr c4
    have c4b1 : ((l0.length : Int) != (l1.length : Int)) = false := bne_eq_false_iff_eq.mpr c4
    have c4b2 : (l0.length == l1.length) = true := by first | simpa using c4 | (simp at c4 ⊢; omega)
    clear c4
    have H' := Aside0.mk H
    clear H
    go_enter Tryd.func26, Tryd.ntmps26
    go_wp2
    repeat (go_quiet (fail); try go_wp2)
    go_loopg [7] k (fun kq v7 w' => ∃ (x7_1 : Int), v7 = .int .i64 x7_1 ∧ Aside0 (timeboundref02_Same.l0 kq l0 l1 a2 x7_1 = some r) ∧ Aside0 (kq ≤ k) ∧ Drawn0 w w')
    case atStart => exact ⟨(0), (by first | rfl | (simp; done) | (simp [*]; done)), H', ⟨Nat.le_refl _⟩, by repeat (first | exact Drawn0.refl _ | apply Drawn0.step)⟩
    case round =>
      clear H'
      try clear c1
      try clear c2
      try clear p2
      try clear c4
      try clear c4b0
      try clear c4b1
      try clear c4b2
      obtain ⟨x7_1, rfl, HA, HK1, ⟨m1, rfl⟩⟩ := hrel
      cases gk with
      | zero => exact absurd HA.out (by simp [timeboundref02_Same.l0])
      | succ k1 =>
        have H := HA.out
        clear HA
        simp only [timeboundref02_Same.l0] at H
        by_cases c5 : x7_1 < (l0.length : Int)
        · rw [if_pos c5] at H
          have c5b0 : decide (x7_1 < (l0.length : Int)) = true := decide_eq_true c5
          clear c5
          by_cases c6 : 0 ≤ x7_1
          · rw [if_pos c6] at H
            have c6b0 : decide (0 ≤ x7_1) = true := decide_eq_true c6
            clear c6
            by_cases c7 : x7_1 < (l1.length : Int)
            · rw [if_pos c7] at H
              have c7b0 : decide (x7_1 < (l1.length : Int)) = true := decide_eq_true c7
              clear c7
              by_cases c8 : ((rd_T59 l0 x7_1).f0) = ((rd_T59 l1 x7_1).f0)
              · rw [if_pos c8] at H
                have c8b0 : (((rd_T59 l0 x7_1).f0) == ((rd_T59 l1 x7_1).f0)) = true := beq_iff_eq.mpr c8
                have c8b1 : (((rd_T59 l0 x7_1).f0) != ((rd_T59 l1 x7_1).f0)) = false := bne_eq_false_iff_eq.mpr c8
                clear c8
                by_cases c9 : ((rd_T59 l0 x7_1).f1) = ((rd_T59 l1 x7_1).f1)
                · rw [if_pos c9] at H
                  have c9b0 : (((rd_T59 l0 x7_1).f1) == ((rd_T59 l1 x7_1).f1)) = true := beq_iff_eq.mpr c9
                  have c9b1 : (((rd_T59 l0 x7_1).f1) != ((rd_T59 l1 x7_1).f1)) = false := bne_eq_false_iff_eq.mpr c9
                  clear c9
                  by_cases c10 : ((rd_T59 l0 x7_1).f3).toList = ((rd_T59 l1 x7_1).f3).toList
                  · rw [if_pos c10] at H
                    have c10b0 : (((rd_T59 l0 x7_1).f3).toList == ((rd_T59 l1 x7_1).f3).toList) = true := beq_iff_eq.mpr c10
                    have c10b1 : (((rd_T59 l0 x7_1).f3).toList != ((rd_T59 l1 x7_1).f3).toList) = false := bne_eq_false_iff_eq.mpr c10
                    clear c10
                    by_cases c11 : a2 = true
                    · subst c11
                      have H1 : (if ((rd_T59 l0 x7_1).f2) = ((rd_T59 l1 x7_1).f2) then (timeboundref02_Same.l0 k1 l0 l1 true (wrap64 (x7_1 + 1))) else (some false)) = some r := by rw [if_pos rfl] at H; exact H
                      clear H
                      have H := H1
                      clear H1
                      by_cases c12 : ((rd_T59 l0 x7_1).f2) = ((rd_T59 l1 x7_1).f2)
                      · rw [if_pos c12] at H
                        have c12b0 : (((rd_T59 l0 x7_1).f2) == ((rd_T59 l1 x7_1).f2)) = true := beq_iff_eq.mpr c12
                        have c12b1 : (((rd_T59 l0 x7_1).f2) != ((rd_T59 l1 x7_1).f2)) = false := bne_eq_false_iff_eq.mpr c12
                        clear c12
                        have H' := Aside0.mk H
                        clear H
                        have p429 : 0 ≤ (x7_1 : Int) := of_decide_eq_true (by first | (with_reducible assumption) | assumption)
                        have q429 : x7_1 < (l0.length : Int) := of_decide_eq_true (by first | (with_reducible assumption) | assumption)
                        obtain ⟨ad429, e429, hx429_0, hx429_1, hx429_2, hx429_3⟩ := at_T59 HR0.out x7_1 p429 q429
                        cases e429
                        replace p429 := eq_true p429
                        replace q429 := eq_true q429
                        have p430 : 0 ≤ (x7_1 : Int) := of_decide_eq_true (by first | (with_reducible assumption) | assumption)
                        have q430 : x7_1 < (l1.length : Int) := of_decide_eq_true (by first | (with_reducible assumption) | assumption)
                        obtain ⟨ad430, e430, hx430_0, hx430_1, hx430_2, hx430_3⟩ := at_T59 HR1.out x7_1 p430 q430
                        cases e430
                        replace p430 := eq_true p430
                        replace q430 := eq_true q430
                        have p431 : 0 ≤ (x7_1 : Int) := of_decide_eq_true (by first | (with_reducible assumption) | assumption)
                        have q431 : x7_1 < (l0.length : Int) := of_decide_eq_true (by first | (with_reducible assumption) | assumption)
                        obtain ⟨ad431, e431, hx431_0, hx431_1, hx431_2, hx431_3⟩ := at_T59 HR0.out x7_1 p431 q431
                        obtain rfl : ad429 = ad431 := (by injection e431)
                        replace p431 := eq_true p431
                        replace q431 := eq_true q431
                        have p432 : 0 ≤ (x7_1 : Int) := of_decide_eq_true (by first | (with_reducible assumption) | assumption)
                        have q432 : x7_1 < (l1.length : Int) := of_decide_eq_true (by first | (with_reducible assumption) | assumption)
                        obtain ⟨ad432, e432, hx432_0, hx432_1, hx432_2, hx432_3⟩ := at_T59 HR1.out x7_1 p432 q432
                        obtain rfl : ad430 = ad432 := (by injection e432)
                        replace p432 := eq_true p432
                        replace q432 := eq_true q432
                        have p433 : 0 ≤ (x7_1 : Int) := of_decide_eq_true (by first | (with_reducible assumption) | assumption)
                        have q433 : x7_1 < (l0.length : Int) := of_decide_eq_true (by first | (with_reducible assumption) | assumption)
                        obtain ⟨ad433, e433, hx433_0, hx433_1, hx433_2, hx433_3⟩ := at_T59 HR0.out x7_1 p433 q433
                        obtain rfl : ad429 = ad433 := (by injection e433)
                        replace p433 := eq_true p433
                        replace q433 := eq_true q433
                        have p434 : 0 ≤ (x7_1 : Int) := of_decide_eq_true (by first | (with_reducible assumption) | assumption)
                        have q434 : x7_1 < (l1.length : Int) := of_decide_eq_true (by first | (with_reducible assumption) | assumption)
                        obtain ⟨ad434, e434, hx434_0, hx434_1, hx434_2, hx434_3⟩ := at_T59 HR1.out x7_1 p434 q434
                        obtain rfl : ad430 = ad434 := (by injection e434)
                        replace p434 := eq_true p434
                        replace q434 := eq_true q434
                        have p435 : 0 ≤ (x7_1 : Int) := of_decide_eq_true (by first | (with_reducible assumption) | assumption)
                        have q435 : x7_1 < (l0.length : Int) := of_decide_eq_true (by first | (with_reducible assumption) | assumption)
                        obtain ⟨ad435, e435, hx435_0, hx435_1, hx435_2, hx435_3⟩ := at_T59 HR0.out x7_1 p435 q435
                        obtain rfl : ad429 = ad435 := (by injection e435)
                        replace p435 := eq_true p435
                        replace q435 := eq_true q435
                        have p436 : 0 ≤ (x7_1 : Int) := of_decide_eq_true (by first | (with_reducible assumption) | assumption)
                        have q436 : x7_1 < (l1.length : Int) := of_decide_eq_true (by first | (with_reducible assumption) | assumption)
                        obtain ⟨ad436, e436, hx436_0, hx436_1, hx436_2, hx436_3⟩ := at_T59 HR1.out x7_1 p436 q436
                        obtain rfl : ad430 = ad436 := (by injection e436)
                        replace p436 := eq_true p436
                        replace q436 := eq_true q436
                        go_wp2
                        repeat (go_quiet (fail); try go_wp2)
                        go_roundg k1
                        case measure => have := HK1.out; omega
                        case rel => exact ⟨(wrap64 (x7_1 + 1)), (by first | rfl | (simp; done) | (simp [*]; done)), H', ⟨by have := HK1.out; omega⟩, by repeat (first | exact Drawn0.refl _ | apply Drawn0.step)⟩
                      · rw [if_neg c12] at H
                        have c12b0 : (((rd_T59 l0 x7_1).f2) == ((rd_T59 l1 x7_1).f2)) = false := beq_eq_false_iff_ne.mpr c12
                        have c12b1 : (((rd_T59 l0 x7_1).f2) != ((rd_T59 l1 x7_1).f2)) = true := bne_iff_ne.mpr c12
                        obtain rfl := Option.some.inj H
                        have p429 : 0 ≤ (x7_1 : Int) := of_decide_eq_true (by first | (with_reducible assumption) | assumption)
                        have q429 : x7_1 < (l0.length : Int) := of_decide_eq_true (by first | (with_reducible assumption) | assumption)
                        obtain ⟨ad429, e429, hx429_0, hx429_1, hx429_2, hx429_3⟩ := at_T59 HR0.out x7_1 p429 q429
                        cases e429
                        replace p429 := eq_true p429
                        replace q429 := eq_true q429
                        have p430 : 0 ≤ (x7_1 : Int) := of_decide_eq_true (by first | (with_reducible assumption) | assumption)
                        have q430 : x7_1 < (l1.length : Int) := of_decide_eq_true (by first | (with_reducible assumption) | assumption)
                        obtain ⟨ad430, e430, hx430_0, hx430_1, hx430_2, hx430_3⟩ := at_T59 HR1.out x7_1 p430 q430
                        cases e430
                        replace p430 := eq_true p430
                        replace q430 := eq_true q430
                        have p431 : 0 ≤ (x7_1 : Int) := of_decide_eq_true (by first | (with_reducible assumption) | assumption)
                        have q431 : x7_1 < (l0.length : Int) := of_decide_eq_true (by first | (with_reducible assumption) | assumption)
                        obtain ⟨ad431, e431, hx431_0, hx431_1, hx431_2, hx431_3⟩ := at_T59 HR0.out x7_1 p431 q431
                        obtain rfl : ad429 = ad431 := (by injection e431)
                        replace p431 := eq_true p431
                        replace q431 := eq_true q431
                        have p432 : 0 ≤ (x7_1 : Int) := of_decide_eq_true (by first | (with_reducible assumption) | assumption)
                        have q432 : x7_1 < (l1.length : Int) := of_decide_eq_true (by first | (with_reducible assumption) | assumption)
                        obtain ⟨ad432, e432, hx432_0, hx432_1, hx432_2, hx432_3⟩ := at_T59 HR1.out x7_1 p432 q432
                        obtain rfl : ad430 = ad432 := (by injection e432)
                        replace p432 := eq_true p432
                        replace q432 := eq_true q432
                        have p433 : 0 ≤ (x7_1 : Int) := of_decide_eq_true (by first | (with_reducible assumption) | assumption)
                        have q433 : x7_1 < (l0.length : Int) := of_decide_eq_true (by first | (with_reducible assumption) | assumption)
                        obtain ⟨ad433, e433, hx433_0, hx433_1, hx433_2, hx433_3⟩ := at_T59 HR0.out x7_1 p433 q433
                        obtain rfl : ad429 = ad433 := (by injection e433)
                        replace p433 := eq_true p433
                        replace q433 := eq_true q433
                        have p434 : 0 ≤ (x7_1 : Int) := of_decide_eq_true (by first | (with_reducible assumption) | assumption)
                        have q434 : x7_1 < (l1.length : Int) := of_decide_eq_true (by first | (with_reducible assumption) | assumption)
                        obtain ⟨ad434, e434, hx434_0, hx434_1, hx434_2, hx434_3⟩ := at_T59 HR1.out x7_1 p434 q434
                        obtain rfl : ad430 = ad434 := (by injection e434)
                        replace p434 := eq_true p434
                        replace q434 := eq_true q434
                        have p435 : 0 ≤ (x7_1 : Int) := of_decide_eq_true (by first | (with_reducible assumption) | assumption)
                        have q435 : x7_1 < (l0.length : Int) := of_decide_eq_true (by first | (with_reducible assumption) | assumption)
                        obtain ⟨ad435, e435, hx435_0, hx435_1, hx435_2, hx435_3⟩ := at_T59 HR0.out x7_1 p435 q435
                        obtain rfl : ad429 = ad435 := (by injection e435)
                        replace p435 := eq_true p435
                        replace q435 := eq_true q435
                        have p436 : 0 ≤ (x7_1 : Int) := of_decide_eq_true (by first | (with_reducible assumption) | assumption)
                        have q436 : x7_1 < (l1.length : Int) := of_decide_eq_true (by first | (with_reducible assumption) | assumption)
                        obtain ⟨ad436, e436, hx436_0, hx436_1, hx436_2, hx436_3⟩ := at_T59 HR1.out x7_1 p436 q436
                        obtain rfl : ad430 = ad436 := (by injection e436)
                        replace p436 := eq_true p436
                        replace q436 := eq_true q436
                        go_wp2
                        repeat (go_quiet (fail); try go_wp2)
                        go_ret
                        exact ⟨by first | rfl | (simp; done) | (simp [*]; done), by repeat (first | exact Drawn0.refl _ | apply Drawn0.step)⟩
                    · replace c11 := Bool.eq_false_iff.mpr c11
                      subst c11
                      have H1 : (timeboundref02_Same.l0 k1 l0 l1 false (wrap64 (x7_1 + 1))) = some r := by rw [if_neg (show ¬ (false = true) by decide)] at H; exact H
                      clear H
                      have H := H1
                      clear H1
                      have H' := Aside0.mk H
                      clear H
                      have p429 : 0 ≤ (x7_1 : Int) := of_decide_eq_true (by first | (with_reducible assumption) | assumption)
                      have q429 : x7_1 < (l0.length : Int) := of_decide_eq_true (by first | (with_reducible assumption) | assumption)
                      obtain ⟨ad429, e429, hx429_0, hx429_1, hx429_2, hx429_3⟩ := at_T59 HR0.out x7_1 p429 q429
                      cases e429
                      replace p429 := eq_true p429
                      replace q429 := eq_true q429
                      have p430 : 0 ≤ (x7_1 : Int) := of_decide_eq_true (by first | (with_reducible assumption) | assumption)
                      have q430 : x7_1 < (l1.length : Int) := of_decide_eq_true (by first | (with_reducible assumption) | assumption)
                      obtain ⟨ad430, e430, hx430_0, hx430_1, hx430_2, hx430_3⟩ := at_T59 HR1.out x7_1 p430 q430
                      cases e430
                      replace p430 := eq_true p430
                      replace q430 := eq_true q430
                      have p431 : 0 ≤ (x7_1 : Int) := of_decide_eq_true (by first | (with_reducible assumption) | assumption)
                      have q431 : x7_1 < (l0.length : Int) := of_decide_eq_true (by first | (with_reducible assumption) | assumption)
                      obtain ⟨ad431, e431, hx431_0, hx431_1, hx431_2, hx431_3⟩ := at_T59 HR0.out x7_1 p431 q431
                      obtain rfl : ad429 = ad431 := (by injection e431)
                      replace p431 := eq_true p431
                      replace q431 := eq_true q431
                      have p432 : 0 ≤ (x7_1 : Int) := of_decide_eq_true (by first | (with_reducible assumption) | assumption)
                      have q432 : x7_1 < (l1.length : Int) := of_decide_eq_true (by first | (with_reducible assumption) | assumption)
                      obtain ⟨ad432, e432, hx432_0, hx432_1, hx432_2, hx432_3⟩ := at_T59 HR1.out x7_1 p432 q432
                      obtain rfl : ad430 = ad432 := (by injection e432)
                      replace p432 := eq_true p432
                      replace q432 := eq_true q432
                      have p433 : 0 ≤ (x7_1 : Int) := of_decide_eq_true (by first | (with_reducible assumption) | assumption)
                      have q433 : x7_1 < (l0.length : Int) := of_decide_eq_true (by first | (with_reducible assumption) | assumption)
                      obtain ⟨ad433, e433, hx433_0, hx433_1, hx433_2, hx433_3⟩ := at_T59 HR0.out x7_1 p433 q433
                      obtain rfl : ad429 = ad433 := (by injection e433)
                      replace p433 := eq_true p433
                      replace q433 := eq_true q433
                      have p434 : 0 ≤ (x7_1 : Int) := of_decide_eq_true (by first | (with_reducible assumption) | assumption)
                      have q434 : x7_1 < (l1.length : Int) := of_decide_eq_true (by first | (with_reducible assumption) | assumption)
                      obtain ⟨ad434, e434, hx434_0, hx434_1, hx434_2, hx434_3⟩ := at_T59 HR1.out x7_1 p434 q434
                      obtain rfl : ad430 = ad434 := (by injection e434)
                      replace p434 := eq_true p434
                      replace q434 := eq_true q434
                      go_wp2
                      repeat (go_quiet (fail); try go_wp2)
                      go_roundg k1
                      case measure => have := HK1.out; omega
                      case rel => exact ⟨(wrap64 (x7_1 + 1)), (by first | rfl | (simp; done) | (simp [*]; done)), H', ⟨by have := HK1.out; omega⟩, by repeat (first | exact Drawn0.refl _ | apply Drawn0.step)⟩
                  · rw [if_neg c10] at H
                    have c10b0 : (((rd_T59 l0 x7_1).f3).toList == ((rd_T59 l1 x7_1).f3).toList) = false := beq_eq_false_iff_ne.mpr c10
                    have c10b1 : (((rd_T59 l0 x7_1).f3).toList != ((rd_T59 l1 x7_1).f3).toList) = true := bne_iff_ne.mpr c10
                    obtain rfl := Option.some.inj H
                    have p429 : 0 ≤ (x7_1 : Int) := of_decide_eq_true (by first | (with_reducible assumption) | assumption)
                    have q429 : x7_1 < (l0.length : Int) := of_decide_eq_true (by first | (with_reducible assumption) | assumption)
                    obtain ⟨ad429, e429, hx429_0, hx429_1, hx429_2, hx429_3⟩ := at_T59 HR0.out x7_1 p429 q429
                    cases e429
                    replace p429 := eq_true p429
                    replace q429 := eq_true q429
                    have p430 : 0 ≤ (x7_1 : Int) := of_decide_eq_true (by first | (with_reducible assumption) | assumption)
                    have q430 : x7_1 < (l1.length : Int) := of_decide_eq_true (by first | (with_reducible assumption) | assumption)
                    obtain ⟨ad430, e430, hx430_0, hx430_1, hx430_2, hx430_3⟩ := at_T59 HR1.out x7_1 p430 q430
                    cases e430
                    replace p430 := eq_true p430
                    replace q430 := eq_true q430
                    have p431 : 0 ≤ (x7_1 : Int) := of_decide_eq_true (by first | (with_reducible assumption) | assumption)
                    have q431 : x7_1 < (l0.length : Int) := of_decide_eq_true (by first | (with_reducible assumption) | assumption)
                    obtain ⟨ad431, e431, hx431_0, hx431_1, hx431_2, hx431_3⟩ := at_T59 HR0.out x7_1 p431 q431
                    obtain rfl : ad429 = ad431 := (by injection e431)
                    replace p431 := eq_true p431
                    replace q431 := eq_true q431
                    have p432 : 0 ≤ (x7_1 : Int) := of_decide_eq_true (by first | (with_reducible assumption) | assumption)
                    have q432 : x7_1 < (l1.length : Int) := of_decide_eq_true (by first | (with_reducible assumption) | assumption)
                    obtain ⟨ad432, e432, hx432_0, hx432_1, hx432_2, hx432_3⟩ := at_T59 HR1.out x7_1 p432 q432
                    obtain rfl : ad430 = ad432 := (by injection e432)
                    replace p432 := eq_true p432
                    replace q432 := eq_true q432
                    have p433 : 0 ≤ (x7_1 : Int) := of_decide_eq_true (by first | (with_reducible assumption) | assumption)
                    have q433 : x7_1 < (l0.length : Int) := of_decide_eq_true (by first | (with_reducible assumption) | assumption)
                    obtain ⟨ad433, e433, hx433_0, hx433_1, hx433_2, hx433_3⟩ := at_T59 HR0.out x7_1 p433 q433
                    obtain rfl : ad429 = ad433 := (by injection e433)
                    replace p433 := eq_true p433
                    replace q433 := eq_true q433
                    have p434 : 0 ≤ (x7_1 : Int) := of_decide_eq_true (by first | (with_reducible assumption) | assumption)
                    have q434 : x7_1 < (l1.length : Int) := of_decide_eq_true (by first | (with_reducible assumption) | assumption)
                    obtain ⟨ad434, e434, hx434_0, hx434_1, hx434_2, hx434_3⟩ := at_T59 HR1.out x7_1 p434 q434
                    obtain rfl : ad430 = ad434 := (by injection e434)
                    replace p434 := eq_true p434
                    replace q434 := eq_true q434
                    go_wp2
                    repeat (go_quiet (fail); try go_wp2)
                    go_ret
                    exact ⟨by first | rfl | (simp; done) | (simp [*]; done), by repeat (first | exact Drawn0.refl _ | apply Drawn0.step)⟩
                · rw [if_neg c9] at H
                  have c9b0 : (((rd_T59 l0 x7_1).f1) == ((rd_T59 l1 x7_1).f1)) = false := beq_eq_false_iff_ne.mpr c9
                  have c9b1 : (((rd_T59 l0 x7_1).f1) != ((rd_T59 l1 x7_1).f1)) = true := bne_iff_ne.mpr c9
                  obtain rfl := Option.some.inj H
                  have p429 : 0 ≤ (x7_1 : Int) := of_decide_eq_true (by first | (with_reducible assumption) | assumption)
                  have q429 : x7_1 < (l0.length : Int) := of_decide_eq_true (by first | (with_reducible assumption) | assumption)
                  obtain ⟨ad429, e429, hx429_0, hx429_1, hx429_2, hx429_3⟩ := at_T59 HR0.out x7_1 p429 q429
                  cases e429
                  replace p429 := eq_true p429
                  replace q429 := eq_true q429
                  have p430 : 0 ≤ (x7_1 : Int) := of_decide_eq_true (by first | (with_reducible assumption) | assumption)
                  have q430 : x7_1 < (l1.length : Int) := of_decide_eq_true (by first | (with_reducible assumption) | assumption)
                  obtain ⟨ad430, e430, hx430_0, hx430_1, hx430_2, hx430_3⟩ := at_T59 HR1.out x7_1 p430 q430
                  cases e430
                  replace p430 := eq_true p430
                  replace q430 := eq_true q430
                  have p431 : 0 ≤ (x7_1 : Int) := of_decide_eq_true (by first | (with_reducible assumption) | assumption)
                  have q431 : x7_1 < (l0.length : Int) := of_decide_eq_true (by first | (with_reducible assumption) | assumption)
                  obtain ⟨ad431, e431, hx431_0, hx431_1, hx431_2, hx431_3⟩ := at_T59 HR0.out x7_1 p431 q431
                  obtain rfl : ad429 = ad431 := (by injection e431)
                  replace p431 := eq_true p431
                  replace q431 := eq_true q431
                  have p432 : 0 ≤ (x7_1 : Int) := of_decide_eq_true (by first | (with_reducible assumption) | assumption)
                  have q432 : x7_1 < (l1.length : Int) := of_decide_eq_true (by first | (with_reducible assumption) | assumption)
                  obtain ⟨ad432, e432, hx432_0, hx432_1, hx432_2, hx432_3⟩ := at_T59 HR1.out x7_1 p432 q432
                  obtain rfl : ad430 = ad432 := (by injection e432)
                  replace p432 := eq_true p432
                  replace q432 := eq_true q432
                  go_wp2
                  repeat (go_quiet (fail); try go_wp2)
                  go_ret
                  exact ⟨by first | rfl | (simp; done) | (simp [*]; done), by repeat (first | exact Drawn0.refl _ | apply Drawn0.step)⟩
              · rw [if_neg c8] at H
                have c8b0 : (((rd_T59 l0 x7_1).f0) == ((rd_T59 l1 x7_1).f0)) = false := beq_eq_false_iff_ne.mpr c8
                have c8b1 : (((rd_T59 l0 x7_1).f0) != ((rd_T59 l1 x7_1).f0)) = true := bne_iff_ne.mpr c8
                obtain rfl := Option.some.inj H
                have p429 : 0 ≤ (x7_1 : Int) := of_decide_eq_true (by first | (with_reducible assumption) | assumption)
                have q429 : x7_1 < (l0.length : Int) := of_decide_eq_true (by first | (with_reducible assumption) | assumption)
                obtain ⟨ad429, e429, hx429_0, hx429_1, hx429_2, hx429_3⟩ := at_T59 HR0.out x7_1 p429 q429
                cases e429
                replace p429 := eq_true p429
                replace q429 := eq_true q429
                have p430 : 0 ≤ (x7_1 : Int) := of_decide_eq_true (by first | (with_reducible assumption) | assumption)
                have q430 : x7_1 < (l1.length : Int) := of_decide_eq_true (by first | (with_reducible assumption) | assumption)
                obtain ⟨ad430, e430, hx430_0, hx430_1, hx430_2, hx430_3⟩ := at_T59 HR1.out x7_1 p430 q430
                cases e430
                replace p430 := eq_true p430
                replace q430 := eq_true q430
                go_wp2
                repeat (go_quiet (fail); try go_wp2)
                go_ret
                exact ⟨by first | rfl | (simp; done) | (simp [*]; done), by repeat (first | exact Drawn0.refl _ | apply Drawn0.step)⟩
            · rw [if_neg c7] at H
              exact absurd H (by simp)
          · rw [if_neg c6] at H
            exact absurd H (by simp)
        · rw [if_neg c5] at H
          have c5b0 : decide (x7_1 < (l0.length : Int)) = false := decide_eq_false c5
          clear c5
          obtain rfl := Option.some.inj H
          go_wp2
          repeat (go_quiet (fail); try go_wp2)
          go_ret
          exact ⟨by first | rfl | (simp; done) | (simp [*]; done), by repeat (first | exact Drawn0.refl _ | apply Drawn0.step)⟩
  · rw [if_neg c4] at H
    have c4b0 : ((l0.length : Int) == (l1.length : Int)) = false := beq_eq_false_iff_ne.mpr c4
    have c4b1 : ((l0.length : Int) != (l1.length : Int)) = true := bne_iff_ne.mpr c4
    have c4b2 : (l0.length == l1.length) = false := by first | simpa using c4 | (simp at c4 ⊢; omega)
    obtain rfl := Option.some.inj H
    go_enter Tryd.func26, Tryd.ntmps26
    go_wp2
    repeat (go_quiet (fail); try go_wp2)
    go_ret
    exact ⟨by first | rfl | (simp; done) | (simp [*]; done), by repeat (first | exact Drawn0.refl _ | apply Drawn0.step)⟩

end Go.Proofs.YtcnmejahighkfaaDoor.P
-- Pf31
namespace Go.Proofs.YtcnmejahighkfaaDoor.P
open Go.RowKit Go.Proofs.YtcnmejahighkfaaDoorW.PrintWords Go.Proofs.YtcnmejahighkfaaDoorW.PrintLast Go.Proofs.YtcnmejahighkfaaDoorW.PrintMore
attribute [local go_sem] max2_int min2_int max_two min_two max_three min_three max_four min_four   -- for this text's walks alone
set_option linter.unusedVariables false
set_option linter.unusedSimpArgs false

/-! ### timeboundlaw02_pieces: function 31 -/
def timeboundlaw02_pieces.l0 : Nat → List Int → List ByteArray → ByteArray → Int → Option (ByteArray)
  | 0, _, _, _, _ => none
  | k + 1, x0, x3, x4, x5 => if x5 < (x0.length : Int) then (if x5 < 60 then (if 0 ≤ x5 then (if (x3.length : Int) = 0 then (none) else (if 0 ≤ (Int.tmod (wrap64 (rd x0 x5)) (x3.length : Int)) then (if (Int.tmod (wrap64 (rd x0 x5)) (x3.length : Int)) < (x3.length : Int) then (if x4.size + (rdOf ByteArray.empty x3 (Int.tmod (wrap64 (rd x0 x5)) (x3.length : Int))).size ≤ 9223372036854775807 then (timeboundlaw02_pieces.l0 k x0 x3 (x4 ++ (rdOf ByteArray.empty x3 (Int.tmod (wrap64 (rd x0 x5)) (x3.length : Int)))) (wrap64 (x5 + 1))) else (none)) else (none)) else (none))) else (none)) else (some x4)) else (some x4)
def timeboundlaw02_pieces.f (k : Nat) (l0 : List Int) : Option (ByteArray) := timeboundlaw02_pieces.l0 k l0 (([(⟨#[97]⟩ : ByteArray), (⟨#[116, 97, 115, 107]⟩ : ByteArray), (⟨#[120, 57]⟩ : ByteArray), (⟨#[49, 50]⟩ : ByteArray), (⟨#[48]⟩ : ByteArray), (⟨#[48, 48, 55]⟩ : ByteArray), (⟨#[50, 49, 52, 55, 52, 56, 51, 54, 52, 55]⟩ : ByteArray), (⟨#[50, 49, 52, 55, 52, 56, 51, 54, 52, 56]⟩ : ByteArray), (⟨#[60]⟩ : ByteArray), (⟨#[60, 60]⟩ : ByteArray), (⟨#[61]⟩ : ByteArray), (⟨#[61, 61]⟩ : ByteArray), (⟨#[33]⟩ : ByteArray), (⟨#[33, 61]⟩ : ByteArray), (⟨#[62]⟩ : ByteArray), (⟨#[62, 62]⟩ : ByteArray), (⟨#[43]⟩ : ByteArray), (⟨#[45]⟩ : ByteArray), (⟨#[42]⟩ : ByteArray), (⟨#[47]⟩ : ByteArray), (⟨#[37]⟩ : ByteArray), (⟨#[38]⟩ : ByteArray), (⟨#[124]⟩ : ByteArray), (⟨#[94]⟩ : ByteArray), (⟨#[40]⟩ : ByteArray), (⟨#[41]⟩ : ByteArray), (⟨#[91]⟩ : ByteArray), (⟨#[93]⟩ : ByteArray), (⟨#[123]⟩ : ByteArray), (⟨#[125]⟩ : ByteArray), (⟨#[32]⟩ : ByteArray), (⟨#[32, 32]⟩ : ByteArray), (⟨#[9]⟩ : ByteArray), (⟨#[10]⟩ : ByteArray), (⟨#[65]⟩ : ByteArray), (⟨#[95]⟩ : ByteArray), (⟨#[97, 98, 99, 100, 101, 102, 103, 104, 105, 106, 107, 108]⟩ : ByteArray), (⟨#[109]⟩ : ByteArray), (⟨#[13]⟩ : ByteArray), (⟨#[195, 169]⟩ : ByteArray)] : List ByteArray)) (⟨#[]⟩ : ByteArray) 0
theorem timeboundlaw02_pieces.mono_l : ∀ k, (∀ y0 y1 y2 y3, LeO (timeboundlaw02_pieces.l0 k y0 y1 y2 y3) (timeboundlaw02_pieces.l0 (k + 1) y0 y1 y2 y3))
  | 0 => fun _ _ _ _ r h => by simp [timeboundlaw02_pieces.l0] at h
  | k + 1 => by
    have ih0 := timeboundlaw02_pieces.mono_l k
    · intro y0 y1 y2 y3
      unfold timeboundlaw02_pieces.l0
      repeat' first
      | (with_reducible exact ih0 _ _ _ _)
      | (with_reducible exact LeO.refl _)
      | (with_reducible exact LeO.none _)
      | (with_reducible refine LeO.ite ?_ ?_)
      | (with_reducible refine LeO.bind ?_ (fun _ => ?_))
      | exact ih0 _ _ _ _
      | exact LeO.none _
      | refine LeO.ite ?_ ?_
      | refine LeO.bind ?_ (fun _ => ?_)
theorem timeboundlaw02_pieces.mono : ∀ a0 k, LeO (timeboundlaw02_pieces.f k a0) (timeboundlaw02_pieces.f (k + 1) a0) := by
  intro a0 k
  have ih0 := timeboundlaw02_pieces.mono_l k
  unfold timeboundlaw02_pieces.f
  repeat' first
      | (with_reducible exact ih0 _ _ _ _)
      | (with_reducible exact LeO.refl _)
      | (with_reducible exact LeO.none _)
      | (with_reducible refine LeO.ite ?_ ?_)
      | (with_reducible refine LeO.bind ?_ (fun _ => ?_))
      | exact ih0 _ _ _ _
      | exact LeO.none _
      | refine LeO.ite ?_ ?_
      | refine LeO.bind ?_ (fun _ => ?_)
set_option maxHeartbeats 8000000 in
set_option maxRecDepth 100000 in
theorem timeboundlaw02_pieces.calls (k : Nat) (A0 : Option Addr) (c0 : Nat) (l0 : List Int) (r : ByteArray) (w : World) (hr0 : Kd.C (Kd.int .u8) w A0 l0.length l0) (hc0 : l0.length ≤ c0) (h : timeboundlaw02_pieces.f k l0 = some r) :
    Calls Tryd.prog 31 #[.slice A0 l0.length c0] w fun e w' => e = .returned (.string r) ∧ Below w.heap.size w w' := by
  have HR0 := Aside0.mk hr0
  have HC0 := Aside0.mk hc0
  clear hr0 hc0
  have HB := Aside0.mk (Below.refl w.heap.size w)
  have H : (timeboundlaw02_pieces.l0 k l0 (([(⟨#[97]⟩ : ByteArray), (⟨#[116, 97, 115, 107]⟩ : ByteArray), (⟨#[120, 57]⟩ : ByteArray), (⟨#[49, 50]⟩ : ByteArray), (⟨#[48]⟩ : ByteArray), (⟨#[48, 48, 55]⟩ : ByteArray), (⟨#[50, 49, 52, 55, 52, 56, 51, 54, 52, 55]⟩ : ByteArray), (⟨#[50, 49, 52, 55, 52, 56, 51, 54, 52, 56]⟩ : ByteArray), (⟨#[60]⟩ : ByteArray), (⟨#[60, 60]⟩ : ByteArray), (⟨#[61]⟩ : ByteArray), (⟨#[61, 61]⟩ : ByteArray), (⟨#[33]⟩ : ByteArray), (⟨#[33, 61]⟩ : ByteArray), (⟨#[62]⟩ : ByteArray), (⟨#[62, 62]⟩ : ByteArray), (⟨#[43]⟩ : ByteArray), (⟨#[45]⟩ : ByteArray), (⟨#[42]⟩ : ByteArray), (⟨#[47]⟩ : ByteArray), (⟨#[37]⟩ : ByteArray), (⟨#[38]⟩ : ByteArray), (⟨#[124]⟩ : ByteArray), (⟨#[94]⟩ : ByteArray), (⟨#[40]⟩ : ByteArray), (⟨#[41]⟩ : ByteArray), (⟨#[91]⟩ : ByteArray), (⟨#[93]⟩ : ByteArray), (⟨#[123]⟩ : ByteArray), (⟨#[125]⟩ : ByteArray), (⟨#[32]⟩ : ByteArray), (⟨#[32, 32]⟩ : ByteArray), (⟨#[9]⟩ : ByteArray), (⟨#[10]⟩ : ByteArray), (⟨#[65]⟩ : ByteArray), (⟨#[95]⟩ : ByteArray), (⟨#[97, 98, 99, 100, 101, 102, 103, 104, 105, 106, 107, 108]⟩ : ByteArray), (⟨#[109]⟩ : ByteArray), (⟨#[13]⟩ : ByteArray), (⟨#[195, 169]⟩ : ByteArray)] : List ByteArray)) (⟨#[]⟩ : ByteArray) 0) = some r := h
  clear h
  obtain ⟨y459, hy459⟩ : ∃ y_ : List ByteArray, y_ = (([(⟨#[97]⟩ : ByteArray), (⟨#[116, 97, 115, 107]⟩ : ByteArray), (⟨#[120, 57]⟩ : ByteArray), (⟨#[49, 50]⟩ : ByteArray), (⟨#[48]⟩ : ByteArray), (⟨#[48, 48, 55]⟩ : ByteArray), (⟨#[50, 49, 52, 55, 52, 56, 51, 54, 52, 55]⟩ : ByteArray), (⟨#[50, 49, 52, 55, 52, 56, 51, 54, 52, 56]⟩ : ByteArray), (⟨#[60]⟩ : ByteArray), (⟨#[60, 60]⟩ : ByteArray), (⟨#[61]⟩ : ByteArray), (⟨#[61, 61]⟩ : ByteArray), (⟨#[33]⟩ : ByteArray), (⟨#[33, 61]⟩ : ByteArray), (⟨#[62]⟩ : ByteArray), (⟨#[62, 62]⟩ : ByteArray), (⟨#[43]⟩ : ByteArray), (⟨#[45]⟩ : ByteArray), (⟨#[42]⟩ : ByteArray), (⟨#[47]⟩ : ByteArray), (⟨#[37]⟩ : ByteArray), (⟨#[38]⟩ : ByteArray), (⟨#[124]⟩ : ByteArray), (⟨#[94]⟩ : ByteArray), (⟨#[40]⟩ : ByteArray), (⟨#[41]⟩ : ByteArray), (⟨#[91]⟩ : ByteArray), (⟨#[93]⟩ : ByteArray), (⟨#[123]⟩ : ByteArray), (⟨#[125]⟩ : ByteArray), (⟨#[32]⟩ : ByteArray), (⟨#[32, 32]⟩ : ByteArray), (⟨#[9]⟩ : ByteArray), (⟨#[10]⟩ : ByteArray), (⟨#[65]⟩ : ByteArray), (⟨#[95]⟩ : ByteArray), (⟨#[97, 98, 99, 100, 101, 102, 103, 104, 105, 106, 107, 108]⟩ : ByteArray), (⟨#[109]⟩ : ByteArray), (⟨#[13]⟩ : ByteArray), (⟨#[195, 169]⟩ : ByteArray)] : List ByteArray)) := ⟨_, rfl⟩
  replace H : (timeboundlaw02_pieces.l0 k l0 y459 (⟨#[]⟩ : ByteArray) 0) = some r := by first | (rw [hy459]; with_reducible exact H) | (have H2_ := (Option.bind_some _ _).symm.trans H; rw [hy459]; with_reducible exact H2_) | (have H2_ := (Option.bind_some _ _).symm.trans H; with_reducible exact H2_) | with_reducible exact H | (rw [hy459]; exact H) | exact H
  have Ny459 := Aside0.mk hy459
  clear hy459
  have H' := Aside0.mk H
  clear H
  go_enter Tryd.func31, Tryd.ntmps31
  go_wp2_with (first | ((with_reducible refine gate_dst (N := 6) rfl ?_); refine Kd.R_lit Kd.string _ 9 ?hg (N := 6) ?hd (xs := ([(⟨#[97]⟩ : ByteArray), (⟨#[116, 97, 115, 107]⟩ : ByteArray), (⟨#[120, 57]⟩ : ByteArray), (⟨#[49, 50]⟩ : ByteArray), (⟨#[48]⟩ : ByteArray), (⟨#[48, 48, 55]⟩ : ByteArray), (⟨#[50, 49, 52, 55, 52, 56, 51, 54, 52, 55]⟩ : ByteArray), (⟨#[50, 49, 52, 55, 52, 56, 51, 54, 52, 56]⟩ : ByteArray), (⟨#[60]⟩ : ByteArray), (⟨#[60, 60]⟩ : ByteArray), (⟨#[61]⟩ : ByteArray), (⟨#[61, 61]⟩ : ByteArray), (⟨#[33]⟩ : ByteArray), (⟨#[33, 61]⟩ : ByteArray), (⟨#[62]⟩ : ByteArray), (⟨#[62, 62]⟩ : ByteArray), (⟨#[43]⟩ : ByteArray), (⟨#[45]⟩ : ByteArray), (⟨#[42]⟩ : ByteArray), (⟨#[47]⟩ : ByteArray), (⟨#[37]⟩ : ByteArray), (⟨#[38]⟩ : ByteArray), (⟨#[124]⟩ : ByteArray), (⟨#[94]⟩ : ByteArray), (⟨#[40]⟩ : ByteArray), (⟨#[41]⟩ : ByteArray), (⟨#[91]⟩ : ByteArray), (⟨#[93]⟩ : ByteArray), (⟨#[123]⟩ : ByteArray), (⟨#[125]⟩ : ByteArray), (⟨#[32]⟩ : ByteArray), (⟨#[32, 32]⟩ : ByteArray), (⟨#[9]⟩ : ByteArray), (⟨#[10]⟩ : ByteArray), (⟨#[65]⟩ : ByteArray), (⟨#[95]⟩ : ByteArray), (⟨#[97, 98, 99, 100, 101, 102, 103, 104, 105, 106, 107, 108]⟩ : ByteArray), (⟨#[109]⟩ : ByteArray), (⟨#[13]⟩ : ByteArray), (⟨#[195, 169]⟩ : ByteArray)] : List ByteArray)) (inner := [.string (⟨#[97]⟩ : ByteArray), .string (⟨#[116, 97, 115, 107]⟩ : ByteArray), .string (⟨#[120, 57]⟩ : ByteArray), .string (⟨#[49, 50]⟩ : ByteArray), .string (⟨#[48]⟩ : ByteArray), .string (⟨#[48, 48, 55]⟩ : ByteArray), .string (⟨#[50, 49, 52, 55, 52, 56, 51, 54, 52, 55]⟩ : ByteArray), .string (⟨#[50, 49, 52, 55, 52, 56, 51, 54, 52, 56]⟩ : ByteArray), .string (⟨#[60]⟩ : ByteArray), .string (⟨#[60, 60]⟩ : ByteArray), .string (⟨#[61]⟩ : ByteArray), .string (⟨#[61, 61]⟩ : ByteArray), .string (⟨#[33]⟩ : ByteArray), .string (⟨#[33, 61]⟩ : ByteArray), .string (⟨#[62]⟩ : ByteArray), .string (⟨#[62, 62]⟩ : ByteArray), .string (⟨#[43]⟩ : ByteArray), .string (⟨#[45]⟩ : ByteArray), .string (⟨#[42]⟩ : ByteArray), .string (⟨#[47]⟩ : ByteArray), .string (⟨#[37]⟩ : ByteArray), .string (⟨#[38]⟩ : ByteArray), .string (⟨#[124]⟩ : ByteArray), .string (⟨#[94]⟩ : ByteArray), .string (⟨#[40]⟩ : ByteArray), .string (⟨#[41]⟩ : ByteArray), .string (⟨#[91]⟩ : ByteArray), .string (⟨#[93]⟩ : ByteArray), .string (⟨#[123]⟩ : ByteArray), .string (⟨#[125]⟩ : ByteArray), .string (⟨#[32]⟩ : ByteArray), .string (⟨#[32, 32]⟩ : ByteArray), .string (⟨#[9]⟩ : ByteArray), .string (⟨#[10]⟩ : ByteArray), .string (⟨#[65]⟩ : ByteArray), .string (⟨#[95]⟩ : ByteArray), .string (⟨#[97, 98, 99, 100, 101, 102, 103, 104, 105, 106, 107, 108]⟩ : ByteArray), .string (⟨#[109]⟩ : ByteArray), .string (⟨#[13]⟩ : ByteArray), .string (⟨#[195, 169]⟩ : ByteArray)]) (ok := fun _ => True) (okp := fun _ => True) ?hr ?hp (fun _ hk => hk) trivial (Below.refl _ _) (Nat.le_refl _) (by simp) ?_; (case hd => rfl); (case hg => rfl); (case hr => first | (go_simp; done) | (go_simp; rfl)); (case hp => exact (Reps.one (show Kd.M Kd.string _ _ _ (⟨#[97]⟩ : ByteArray) [.string (⟨#[97]⟩ : ByteArray)] from rfl) (Reps.one (show Kd.M Kd.string _ _ _ (⟨#[116, 97, 115, 107]⟩ : ByteArray) [.string (⟨#[116, 97, 115, 107]⟩ : ByteArray)] from rfl) (Reps.one (show Kd.M Kd.string _ _ _ (⟨#[120, 57]⟩ : ByteArray) [.string (⟨#[120, 57]⟩ : ByteArray)] from rfl) (Reps.one (show Kd.M Kd.string _ _ _ (⟨#[49, 50]⟩ : ByteArray) [.string (⟨#[49, 50]⟩ : ByteArray)] from rfl) (Reps.one (show Kd.M Kd.string _ _ _ (⟨#[48]⟩ : ByteArray) [.string (⟨#[48]⟩ : ByteArray)] from rfl) (Reps.one (show Kd.M Kd.string _ _ _ (⟨#[48, 48, 55]⟩ : ByteArray) [.string (⟨#[48, 48, 55]⟩ : ByteArray)] from rfl) (Reps.one (show Kd.M Kd.string _ _ _ (⟨#[50, 49, 52, 55, 52, 56, 51, 54, 52, 55]⟩ : ByteArray) [.string (⟨#[50, 49, 52, 55, 52, 56, 51, 54, 52, 55]⟩ : ByteArray)] from rfl) (Reps.one (show Kd.M Kd.string _ _ _ (⟨#[50, 49, 52, 55, 52, 56, 51, 54, 52, 56]⟩ : ByteArray) [.string (⟨#[50, 49, 52, 55, 52, 56, 51, 54, 52, 56]⟩ : ByteArray)] from rfl) (Reps.one (show Kd.M Kd.string _ _ _ (⟨#[60]⟩ : ByteArray) [.string (⟨#[60]⟩ : ByteArray)] from rfl) (Reps.one (show Kd.M Kd.string _ _ _ (⟨#[60, 60]⟩ : ByteArray) [.string (⟨#[60, 60]⟩ : ByteArray)] from rfl) (Reps.one (show Kd.M Kd.string _ _ _ (⟨#[61]⟩ : ByteArray) [.string (⟨#[61]⟩ : ByteArray)] from rfl) (Reps.one (show Kd.M Kd.string _ _ _ (⟨#[61, 61]⟩ : ByteArray) [.string (⟨#[61, 61]⟩ : ByteArray)] from rfl) (Reps.one (show Kd.M Kd.string _ _ _ (⟨#[33]⟩ : ByteArray) [.string (⟨#[33]⟩ : ByteArray)] from rfl) (Reps.one (show Kd.M Kd.string _ _ _ (⟨#[33, 61]⟩ : ByteArray) [.string (⟨#[33, 61]⟩ : ByteArray)] from rfl) (Reps.one (show Kd.M Kd.string _ _ _ (⟨#[62]⟩ : ByteArray) [.string (⟨#[62]⟩ : ByteArray)] from rfl) (Reps.one (show Kd.M Kd.string _ _ _ (⟨#[62, 62]⟩ : ByteArray) [.string (⟨#[62, 62]⟩ : ByteArray)] from rfl) (Reps.one (show Kd.M Kd.string _ _ _ (⟨#[43]⟩ : ByteArray) [.string (⟨#[43]⟩ : ByteArray)] from rfl) (Reps.one (show Kd.M Kd.string _ _ _ (⟨#[45]⟩ : ByteArray) [.string (⟨#[45]⟩ : ByteArray)] from rfl) (Reps.one (show Kd.M Kd.string _ _ _ (⟨#[42]⟩ : ByteArray) [.string (⟨#[42]⟩ : ByteArray)] from rfl) (Reps.one (show Kd.M Kd.string _ _ _ (⟨#[47]⟩ : ByteArray) [.string (⟨#[47]⟩ : ByteArray)] from rfl) (Reps.one (show Kd.M Kd.string _ _ _ (⟨#[37]⟩ : ByteArray) [.string (⟨#[37]⟩ : ByteArray)] from rfl) (Reps.one (show Kd.M Kd.string _ _ _ (⟨#[38]⟩ : ByteArray) [.string (⟨#[38]⟩ : ByteArray)] from rfl) (Reps.one (show Kd.M Kd.string _ _ _ (⟨#[124]⟩ : ByteArray) [.string (⟨#[124]⟩ : ByteArray)] from rfl) (Reps.one (show Kd.M Kd.string _ _ _ (⟨#[94]⟩ : ByteArray) [.string (⟨#[94]⟩ : ByteArray)] from rfl) (Reps.one (show Kd.M Kd.string _ _ _ (⟨#[40]⟩ : ByteArray) [.string (⟨#[40]⟩ : ByteArray)] from rfl) (Reps.one (show Kd.M Kd.string _ _ _ (⟨#[41]⟩ : ByteArray) [.string (⟨#[41]⟩ : ByteArray)] from rfl) (Reps.one (show Kd.M Kd.string _ _ _ (⟨#[91]⟩ : ByteArray) [.string (⟨#[91]⟩ : ByteArray)] from rfl) (Reps.one (show Kd.M Kd.string _ _ _ (⟨#[93]⟩ : ByteArray) [.string (⟨#[93]⟩ : ByteArray)] from rfl) (Reps.one (show Kd.M Kd.string _ _ _ (⟨#[123]⟩ : ByteArray) [.string (⟨#[123]⟩ : ByteArray)] from rfl) (Reps.one (show Kd.M Kd.string _ _ _ (⟨#[125]⟩ : ByteArray) [.string (⟨#[125]⟩ : ByteArray)] from rfl) (Reps.one (show Kd.M Kd.string _ _ _ (⟨#[32]⟩ : ByteArray) [.string (⟨#[32]⟩ : ByteArray)] from rfl) (Reps.one (show Kd.M Kd.string _ _ _ (⟨#[32, 32]⟩ : ByteArray) [.string (⟨#[32, 32]⟩ : ByteArray)] from rfl) (Reps.one (show Kd.M Kd.string _ _ _ (⟨#[9]⟩ : ByteArray) [.string (⟨#[9]⟩ : ByteArray)] from rfl) (Reps.one (show Kd.M Kd.string _ _ _ (⟨#[10]⟩ : ByteArray) [.string (⟨#[10]⟩ : ByteArray)] from rfl) (Reps.one (show Kd.M Kd.string _ _ _ (⟨#[65]⟩ : ByteArray) [.string (⟨#[65]⟩ : ByteArray)] from rfl) (Reps.one (show Kd.M Kd.string _ _ _ (⟨#[95]⟩ : ByteArray) [.string (⟨#[95]⟩ : ByteArray)] from rfl) (Reps.one (show Kd.M Kd.string _ _ _ (⟨#[97, 98, 99, 100, 101, 102, 103, 104, 105, 106, 107, 108]⟩ : ByteArray) [.string (⟨#[97, 98, 99, 100, 101, 102, 103, 104, 105, 106, 107, 108]⟩ : ByteArray)] from rfl) (Reps.one (show Kd.M Kd.string _ _ _ (⟨#[109]⟩ : ByteArray) [.string (⟨#[109]⟩ : ByteArray)] from rfl) (Reps.one (show Kd.M Kd.string _ _ _ (⟨#[13]⟩ : ByteArray) [.string (⟨#[13]⟩ : ByteArray)] from rfl) (Reps.one (show Kd.M Kd.string _ _ _ (⟨#[195, 169]⟩ : ByteArray) [.string (⟨#[195, 169]⟩ : ByteArray)] from rfl) (Reps.none _ _)))))))))))))))))))))))))))))))))))))))))); intro v460 w2 ho3 hb hg_ hnew_; clear hg_ hnew_; (first | rw [← Ny459.out] at ho3 | (simp only [Int.reduceToNat] at ho3; rw [← Ny459.out] at ho3)); have n0_ := Aside0.mk (Kd.R_lower ho3 (below_size (by repeat (first | (with_reducible first | exact HB.out | apply below_alloc | apply pw_below_drewN | apply below_drew1) | exact HB.out)))); have n1_ := Aside0.mk (below_step (by repeat (first | (with_reducible first | exact HB.out | apply below_alloc | apply pw_below_drewN | apply below_drew1) | exact HB.out)) hb); clear HB; have HO461 := n0_; have HB := n1_; clear n0_ n1_; clear hb ho3))
  go_loopg [4, 5] k (fun kq v4 v5 w' => ∃ (x4_1 : ByteArray) (x5_1 : Int), v4 = .string x4_1 ∧ v5 = .int .i64 x5_1 ∧ Aside0 (timeboundlaw02_pieces.l0 kq l0 y459 x4_1 x5_1 = some r) ∧ Aside0 (kq ≤ k) ∧ Aside0 (Kd.R Kd.string 9 w' w.heap.size (fun _ => True) v460 y459) ∧ Aside0 (Below w.heap.size w w'))
  case atStart => exact ⟨((⟨#[]⟩ : ByteArray)), (0), (by first | rfl | (simp; done) | (simp [*]; done)), (by first | rfl | (simp; done) | (simp [*]; done)), H', ⟨Nat.le_refl _⟩, ⟨by (with_reducible repeat (first | apply Kd.R_alloc | apply Kd.R_drewN | apply Kd.R_drew)); exact HO461.out⟩, ⟨by repeat (first | (with_reducible first | exact HB.out | apply below_alloc | apply pw_below_drewN | apply below_drew1) | exact HB.out)⟩⟩
  case round =>
    clear H'
    try clear p2
    try clear c3
    obtain ⟨x4_1, x5_1, rfl, rfl, HA, HK1, HO_3, HB⟩ := hrel
    cases gk with
    | zero => exact absurd HA.out (by simp [timeboundlaw02_pieces.l0])
    | succ k1 =>
      have H := HA.out
      clear HA
      simp only [timeboundlaw02_pieces.l0] at H
      by_cases c4 : x5_1 < (l0.length : Int)
      · rw [if_pos c4] at H
        have c4b0 : decide (x5_1 < (l0.length : Int)) = true := decide_eq_true c4
        clear c4
        by_cases c5 : x5_1 < 60
        · rw [if_pos c5] at H
          have c5b0 : decide (x5_1 < 60) = true := decide_eq_true c5
          clear c5
          by_cases c6 : 0 ≤ x5_1
          · rw [if_pos c6] at H
            have c6b0 : decide (0 ≤ x5_1) = true := decide_eq_true c6
            clear c6
            by_cases c7 : (y459.length : Int) = 0
            · rw [if_pos c7] at H
              exact absurd H (by simp)
            · rw [if_neg c7] at H
              have c7b0 : ((y459.length : Int) == 0) = false := beq_eq_false_iff_ne.mpr c7
              have c7b1 : ((y459.length : Int) != 0) = true := bne_iff_ne.mpr c7
              have c7b2 : ¬ (y459 = []) := fun h_ => c7 (by rw [h_]; rfl)
              obtain ⟨ji8, hji8⟩ : ∃ j_ : Int, (Int.tmod (wrap64 (rd l0 x5_1)) (y459.length : Int)) = j_ := ⟨_, rfl⟩
              replace H : (if 0 ≤ (ji8) then (if (ji8) < (y459.length : Int) then (if x4_1.size + (rdOf ByteArray.empty y459 (ji8)).size ≤ 9223372036854775807 then (timeboundlaw02_pieces.l0 k1 l0 y459 (x4_1 ++ (rdOf ByteArray.empty y459 (ji8))) (wrap64 (x5_1 + 1))) else (none)) else (none)) else (none)) = some r := by first | (rw [hji8] at H; exact H) | (simp only [hji8] at H ⊢; exact H)
              by_cases c9 : 0 ≤ (ji8)
              · rw [if_pos c9] at H
                have c9b0 : decide (0 ≤ (ji8)) = true := decide_eq_true c9
                clear c9
                by_cases c10 : (ji8) < (y459.length : Int)
                · rw [if_pos c10] at H
                  have c10b0 : decide ((ji8) < (y459.length : Int)) = true := decide_eq_true c10
                  clear c10
                  by_cases c11 : x4_1.size + (rdOf ByteArray.empty y459 (ji8)).size ≤ 9223372036854775807
                  · rw [if_pos c11] at H
                    have c11b0 := eq_true c11
                    have c11b1 : decide (x4_1.size + (rdOf ByteArray.empty y459 (ji8)).size ≤ 9223372036854775807) = true := decide_eq_true c11
                    try have c11b2 : (9223372036854775807 < x4_1.size + (rdOf ByteArray.empty y459 (ji8)).size) = False := eq_false (Nat.not_lt.2 c11)
                    have H' := Aside0.mk H
                    clear H
                    have p462 : 0 ≤ (x5_1 : Int) := of_decide_eq_true (by first | (with_reducible assumption) | assumption)
                    have q462 : x5_1 < (l0.length : Int) := of_decide_eq_true (by first | (with_reducible assumption) | assumption)
                    obtain ⟨ad462, e462, hx462_0⟩ := Kd.at_int HR0.out x5_1 p462 q462
                    cases e462
                    replace hx462_0 := (HB.out.cell (World.block_lt_of_cell? w _ hx462_0)).trans hx462_0
                    replace p462 := eq_true p462
                    replace q462 := eq_true q462
                    obtain ⟨Ao12, co12, eo12⟩ := Kd.R_slice HO_3.out
                    subst eo12
                    have p463 : 0 ≤ ((ji8) : Int) := of_decide_eq_true (by first | (with_reducible assumption) | assumption)
                    have q463 : (ji8) < (y459.length : Int) := of_decide_eq_true (by first | (with_reducible assumption) | assumption)
                    obtain ⟨ad463, e463, hx463_0⟩ := Kd.at_string (Kd.R_reads' HO_3.out).2.2 (ji8) p463 q463
                    cases e463
                    replace p463 := eq_true p463
                    replace q463 := eq_true q463
                    go_wp2
                    go_roundg k1
                    case measure => have := HK1.out; omega
                    case rel => exact ⟨(x4_1 ++ (rdOf ByteArray.empty y459 (ji8))), (wrap64 (x5_1 + 1)), (by first | rfl | (simp; done) | (simp only [← hji8] <;> (first | rfl | simp)) | (simp [*]; done)), (by first | rfl | (simp; done) | (simp [*]; done)), H', ⟨by have := HK1.out; omega⟩, ⟨by (with_reducible repeat (first | apply Kd.R_alloc | apply Kd.R_drewN | apply Kd.R_drew)); exact HO_3.out⟩, ⟨by repeat (first | (with_reducible first | exact HB.out | apply below_alloc | apply pw_below_drewN | apply below_drew1) | exact HB.out)⟩⟩
                  · rw [if_neg c11] at H
                    exact absurd H (by simp)
                · rw [if_neg c10] at H
                  exact absurd H (by simp)
              · rw [if_neg c9] at H
                exact absurd H (by simp)
          · rw [if_neg c6] at H
            exact absurd H (by simp)
        · rw [if_neg c5] at H
          have c5b0 : decide (x5_1 < 60) = false := decide_eq_false c5
          clear c5
          obtain rfl := Option.some.inj H
          go_wp2
          go_ret
          exact ⟨by first | rfl | (simp [errW_none, errW_some] <;> rfl) | (simp [*, errW_none, errW_some] <;> rfl), by repeat (first | (with_reducible first | exact HB.out | apply below_alloc | apply pw_below_drewN | apply below_drew1) | exact HB.out)⟩
      · rw [if_neg c4] at H
        have c4b0 : decide (x5_1 < (l0.length : Int)) = false := decide_eq_false c4
        clear c4
        obtain rfl := Option.some.inj H
        go_wp2
        go_ret
        exact ⟨by first | rfl | (simp [errW_none, errW_some] <;> rfl) | (simp [*, errW_none, errW_some] <;> rfl), by repeat (first | (with_reducible first | exact HB.out | apply below_alloc | apply pw_below_drewN | apply below_drew1) | exact HB.out)⟩

end Go.Proofs.YtcnmejahighkfaaDoor.P
-- Pf9
namespace Go.Proofs.YtcnmejahighkfaaDoor.P
open Go.RowKit Go.Proofs.YtcnmejahighkfaaDoorW.PrintWords Go.Proofs.YtcnmejahighkfaaDoorW.PrintLast Go.Proofs.YtcnmejahighkfaaDoorW.PrintMore
attribute [local go_sem] max2_int min2_int max_two min_two max_three min_three max_four min_four   -- for this text's walks alone
set_option linter.unusedVariables false
set_option linter.unusedSimpArgs false

/-! ### timeboundlaw02_TokenSpaces: function 9 -/
mutual
def timeboundlaw02_TokenSpaces.j0 : Nat → Int → List (S59) → ByteArray → Bool → Option (Bool)
  | 0, _, _, _, _ => none
  | k + 1, x1, x8, x11, x55 => if x55 = true then (some false) else ((timeboundmake_Mod.f x1 (wrap64 ((x8.length : Int) + 1))).bind fun t574 => (timeboundlaw02_TokenSpaces.l0 k x8 x11 (⟨#[]⟩ : ByteArray) t574 0))
def timeboundlaw02_TokenSpaces.l0 : Nat → List (S59) → ByteArray → ByteArray → Int → Int → Option (Bool)
  | 0, _, _, _, _, _ => none
  | k + 1, x8, x11, x15, x16, x17 => if x17 < (x8.length : Int) then (if x17 = x16 then (if x15.size + x11.size ≤ 9223372036854775807 then (if (x15 ++ x11).size + 1 ≤ 9223372036854775807 then (if 0 ≤ x17 then ((token_Word.f k ((rd_T59 x8 x17).f0) ((rd_T59 x8 x17).f1) ((rd_T59 x8 x17).f2) ((rd_T59 x8 x17).f3)).bind fun t576 => (if ((x15 ++ x11) ++ (⟨#[32]⟩ : ByteArray)).size + t576.size ≤ 9223372036854775807 then (timeboundlaw02_TokenSpaces.l0 k x8 x11 (((x15 ++ x11) ++ (⟨#[32]⟩ : ByteArray)) ++ t576) x16 (wrap64 (x17 + 1))) else (none))) else (none)) else (none)) else (none)) else (if x15.size + 1 ≤ 9223372036854775807 then (if 0 ≤ x17 then ((token_Word.f k ((rd_T59 x8 x17).f0) ((rd_T59 x8 x17).f1) ((rd_T59 x8 x17).f2) ((rd_T59 x8 x17).f3)).bind fun t578 => (if (x15 ++ (⟨#[32]⟩ : ByteArray)).size + t578.size ≤ 9223372036854775807 then (timeboundlaw02_TokenSpaces.l0 k x8 x11 ((x15 ++ (⟨#[32]⟩ : ByteArray)) ++ t578) x16 (wrap64 (x17 + 1))) else (none))) else (none)) else (none))) else ((token_Scan.f x15).bind fun bt579 => (if bt579.2.2 = 0 then (if bt579.2.1 = 0 then ((timeboundref02_Same.f k x8 bt579.1 false).bind fun t584 => (if t584 = true then ((timeboundlaw02_awake.f k).bind fun t585 => (some t585)) else (some false))) else (some false)) else (some false)))
end
def timeboundlaw02_TokenSpaces.f (k : Nat) (l0 : List Int) (a1 : Int) (a2 : Int) : Option (Bool) := (timeboundlaw02_pieces.f k l0).bind fun t557 => ((token_Scan.f t557).bind fun bt558 => (if bt558.2.2 = 0 then ((some (([(⟨#[32]⟩ : ByteArray), (⟨#[9]⟩ : ByteArray), (⟨#[10]⟩ : ByteArray), (⟨#[32, 10, 32]⟩ : ByteArray)] : List ByteArray) : List ByteArray)).bind fun y564 => (if 0 ≤ (Int.tmod a2 4) then (if (Int.tmod a2 4) < (y564.length : Int) then (if (rdOf ByteArray.empty y564 (Int.tmod a2 4)).size + t557.size ≤ 9223372036854775807 then (if ((rdOf ByteArray.empty y564 (Int.tmod a2 4)) ++ t557).size + (rdOf ByteArray.empty y564 (Int.tmod a2 4)).size ≤ 9223372036854775807 then ((token_Scan.f (((rdOf ByteArray.empty y564 (Int.tmod a2 4)) ++ t557) ++ (rdOf ByteArray.empty y564 (Int.tmod a2 4)))).bind fun bt568 => (if bt568.2.2 = 0 then (if bt568.2.1 = 0 then ((timeboundref02_Same.f k bt558.1 bt568.1 false).bind fun t573 => (timeboundlaw02_TokenSpaces.j0 k a1 bt558.1 (rdOf ByteArray.empty y564 (Int.tmod a2 4)) (!t573))) else (timeboundlaw02_TokenSpaces.j0 k a1 bt558.1 (rdOf ByteArray.empty y564 (Int.tmod a2 4)) true)) else (timeboundlaw02_TokenSpaces.j0 k a1 bt558.1 (rdOf ByteArray.empty y564 (Int.tmod a2 4)) true))) else (none)) else (none)) else (none)) else (none))) else ((timeboundlaw02_awake.f k).bind fun t563 => (some t563))))
theorem timeboundlaw02_TokenSpaces.mono_l : ∀ k, (∀ y0 y1 y2 y3, LeO (timeboundlaw02_TokenSpaces.j0 k y0 y1 y2 y3) (timeboundlaw02_TokenSpaces.j0 (k + 1) y0 y1 y2 y3)) ∧ (∀ y0 y1 y2 y3 y4, LeO (timeboundlaw02_TokenSpaces.l0 k y0 y1 y2 y3 y4) (timeboundlaw02_TokenSpaces.l0 (k + 1) y0 y1 y2 y3 y4))
  | 0 => ⟨fun _ _ _ _ r h => by simp [timeboundlaw02_TokenSpaces.j0] at h, fun _ _ _ _ _ r h => by simp [timeboundlaw02_TokenSpaces.l0] at h⟩
  | k + 1 => by
    obtain ⟨ih0, ih1⟩ := timeboundlaw02_TokenSpaces.mono_l k
    refine ⟨?_, ?_⟩
    · intro y0 y1 y2 y3
      unfold timeboundlaw02_TokenSpaces.j0
      repeat' first
      | (with_reducible exact ih0 _ _ _ _)
      | (with_reducible exact ih1 _ _ _ _ _)
      | (with_reducible exact timeboundlaw02_awake.mono _)
      | (with_reducible exact timeboundlaw02_pieces.mono _ _)
      | (with_reducible exact timeboundref02_Same.mono _ _ _ _)
      | (with_reducible exact token_Word.mono _ _ _ _ _)
      | (with_reducible exact LeO.refl _)
      | (with_reducible exact LeO.none _)
      | (with_reducible refine LeO.ite ?_ ?_)
      | (with_reducible refine LeO.bind ?_ (fun _ => ?_))
      | exact ih0 _ _ _ _
      | exact ih1 _ _ _ _ _
      | exact timeboundlaw02_awake.mono _
      | exact timeboundlaw02_pieces.mono _ _
      | exact timeboundref02_Same.mono _ _ _ _
      | exact token_Word.mono _ _ _ _ _
      | exact LeO.none _
      | refine LeO.ite ?_ ?_
      | refine LeO.bind ?_ (fun _ => ?_)
    · intro y0 y1 y2 y3 y4
      unfold timeboundlaw02_TokenSpaces.l0
      repeat' first
      | (with_reducible exact ih0 _ _ _ _)
      | (with_reducible exact ih1 _ _ _ _ _)
      | (with_reducible exact timeboundlaw02_awake.mono _)
      | (with_reducible exact timeboundlaw02_pieces.mono _ _)
      | (with_reducible exact timeboundref02_Same.mono _ _ _ _)
      | (with_reducible exact token_Word.mono _ _ _ _ _)
      | (with_reducible exact LeO.refl _)
      | (with_reducible exact LeO.none _)
      | (with_reducible refine LeO.ite ?_ ?_)
      | (with_reducible refine LeO.bind ?_ (fun _ => ?_))
      | exact ih0 _ _ _ _
      | exact ih1 _ _ _ _ _
      | exact timeboundlaw02_awake.mono _
      | exact timeboundlaw02_pieces.mono _ _
      | exact timeboundref02_Same.mono _ _ _ _
      | exact token_Word.mono _ _ _ _ _
      | exact LeO.none _
      | refine LeO.ite ?_ ?_
      | refine LeO.bind ?_ (fun _ => ?_)
theorem timeboundlaw02_TokenSpaces.mono : ∀ a0 a1 a2 k, LeO (timeboundlaw02_TokenSpaces.f k a0 a1 a2) (timeboundlaw02_TokenSpaces.f (k + 1) a0 a1 a2) := by
  intro a0 a1 a2 k
  obtain ⟨ih0, ih1⟩ := timeboundlaw02_TokenSpaces.mono_l k
  unfold timeboundlaw02_TokenSpaces.f
  repeat' first
      | (with_reducible exact ih0 _ _ _ _)
      | (with_reducible exact ih1 _ _ _ _ _)
      | (with_reducible exact timeboundlaw02_awake.mono _)
      | (with_reducible exact timeboundlaw02_pieces.mono _ _)
      | (with_reducible exact timeboundref02_Same.mono _ _ _ _)
      | (with_reducible exact token_Word.mono _ _ _ _ _)
      | (with_reducible exact LeO.refl _)
      | (with_reducible exact LeO.none _)
      | (with_reducible refine LeO.ite ?_ ?_)
      | (with_reducible refine LeO.bind ?_ (fun _ => ?_))
      | exact ih0 _ _ _ _
      | exact ih1 _ _ _ _ _
      | exact timeboundlaw02_awake.mono _
      | exact timeboundlaw02_pieces.mono _ _
      | exact timeboundref02_Same.mono _ _ _ _
      | exact token_Word.mono _ _ _ _ _
      | exact LeO.none _
      | refine LeO.ite ?_ ?_
      | refine LeO.bind ?_ (fun _ => ?_)
set_option maxHeartbeats 8000000 in
set_option maxRecDepth 100000 in
theorem timeboundlaw02_TokenSpaces.calls (k : Nat) (A0 : Option Addr) (c0 : Nat) (l0 : List Int) (a1 : Int) (a2 : Int) (r : Bool) (w : World) (hr0 : Kd.C (Kd.int .u8) w A0 l0.length l0) (hc0 : l0.length ≤ c0) (h : timeboundlaw02_TokenSpaces.f k l0 a1 a2 = some r) (hG_Pow : LaidPow w := by first | assumption | exact LaidPow.via (by assumption) (by repeat (first | exact Aside0.out (by assumption) | (with_reducible first | apply below_alloc | apply pw_below_drewN | apply below_drew1) | exact Below.refl _ _))) :
    Calls Tryd.prog 9 #[.slice A0 l0.length c0, .int .i64 a1, .int .u8 a2] w fun e w' => e = .returned (.bool r) ∧ Below w.heap.size w w' := by
  have hu59 := Tryd.underlying59
  have HR0 := Aside0.mk hr0
  have HC0 := Aside0.mk hc0
  clear hr0 hc0
  have HB := Aside0.mk (Below.refl w.heap.size w)
  have H : ((timeboundlaw02_pieces.f k l0).bind fun t557 => ((token_Scan.f t557).bind fun bt558 => (if bt558.2.2 = 0 then ((some (([(⟨#[32]⟩ : ByteArray), (⟨#[9]⟩ : ByteArray), (⟨#[10]⟩ : ByteArray), (⟨#[32, 10, 32]⟩ : ByteArray)] : List ByteArray) : List ByteArray)).bind fun y564 => (if 0 ≤ (Int.tmod a2 4) then (if (Int.tmod a2 4) < (y564.length : Int) then (if (rdOf ByteArray.empty y564 (Int.tmod a2 4)).size + t557.size ≤ 9223372036854775807 then (if ((rdOf ByteArray.empty y564 (Int.tmod a2 4)) ++ t557).size + (rdOf ByteArray.empty y564 (Int.tmod a2 4)).size ≤ 9223372036854775807 then ((token_Scan.f (((rdOf ByteArray.empty y564 (Int.tmod a2 4)) ++ t557) ++ (rdOf ByteArray.empty y564 (Int.tmod a2 4)))).bind fun bt568 => (if bt568.2.2 = 0 then (if bt568.2.1 = 0 then ((timeboundref02_Same.f k bt558.1 bt568.1 false).bind fun t573 => (timeboundlaw02_TokenSpaces.j0 k a1 bt558.1 (rdOf ByteArray.empty y564 (Int.tmod a2 4)) (!t573))) else (timeboundlaw02_TokenSpaces.j0 k a1 bt558.1 (rdOf ByteArray.empty y564 (Int.tmod a2 4)) true)) else (timeboundlaw02_TokenSpaces.j0 k a1 bt558.1 (rdOf ByteArray.empty y564 (Int.tmod a2 4)) true))) else (none)) else (none)) else (none)) else (none))) else ((timeboundlaw02_awake.f k).bind fun t563 => (some t563))))) = some r := h
  clear h
  replace H := Option.bind_eq_some_iff.mp H
  obtain ⟨t557, A40, H⟩ := H
  replace H : ((token_Scan.f t557).bind fun bt558 => (if bt558.2.2 = 0 then ((some (([(⟨#[32]⟩ : ByteArray), (⟨#[9]⟩ : ByteArray), (⟨#[10]⟩ : ByteArray), (⟨#[32, 10, 32]⟩ : ByteArray)] : List ByteArray) : List ByteArray)).bind fun y564 => (if 0 ≤ (Int.tmod a2 4) then (if (Int.tmod a2 4) < (y564.length : Int) then (if (rdOf ByteArray.empty y564 (Int.tmod a2 4)).size + t557.size ≤ 9223372036854775807 then (if ((rdOf ByteArray.empty y564 (Int.tmod a2 4)) ++ t557).size + (rdOf ByteArray.empty y564 (Int.tmod a2 4)).size ≤ 9223372036854775807 then ((token_Scan.f (((rdOf ByteArray.empty y564 (Int.tmod a2 4)) ++ t557) ++ (rdOf ByteArray.empty y564 (Int.tmod a2 4)))).bind fun bt568 => (if bt568.2.2 = 0 then (if bt568.2.1 = 0 then ((timeboundref02_Same.f k bt558.1 bt568.1 false).bind fun t573 => (timeboundlaw02_TokenSpaces.j0 k a1 bt558.1 (rdOf ByteArray.empty y564 (Int.tmod a2 4)) (!t573))) else (timeboundlaw02_TokenSpaces.j0 k a1 bt558.1 (rdOf ByteArray.empty y564 (Int.tmod a2 4)) true)) else (timeboundlaw02_TokenSpaces.j0 k a1 bt558.1 (rdOf ByteArray.empty y564 (Int.tmod a2 4)) true))) else (none)) else (none)) else (none)) else (none))) else ((timeboundlaw02_awake.f k).bind fun t563 => (some t563)))) = some r := H
  have A4 := Aside0.mk A40
  clear A40
  replace H := Option.bind_eq_some_iff.mp H
  obtain ⟨⟨t558, t559, t560⟩, A50, H⟩ := H
  replace H : (if t560 = 0 then ((some (([(⟨#[32]⟩ : ByteArray), (⟨#[9]⟩ : ByteArray), (⟨#[10]⟩ : ByteArray), (⟨#[32, 10, 32]⟩ : ByteArray)] : List ByteArray) : List ByteArray)).bind fun y564 => (if 0 ≤ (Int.tmod a2 4) then (if (Int.tmod a2 4) < (y564.length : Int) then (if (rdOf ByteArray.empty y564 (Int.tmod a2 4)).size + t557.size ≤ 9223372036854775807 then (if ((rdOf ByteArray.empty y564 (Int.tmod a2 4)) ++ t557).size + (rdOf ByteArray.empty y564 (Int.tmod a2 4)).size ≤ 9223372036854775807 then ((token_Scan.f (((rdOf ByteArray.empty y564 (Int.tmod a2 4)) ++ t557) ++ (rdOf ByteArray.empty y564 (Int.tmod a2 4)))).bind fun bt568 => (if bt568.2.2 = 0 then (if bt568.2.1 = 0 then ((timeboundref02_Same.f k t558 bt568.1 false).bind fun t573 => (timeboundlaw02_TokenSpaces.j0 k a1 t558 (rdOf ByteArray.empty y564 (Int.tmod a2 4)) (!t573))) else (timeboundlaw02_TokenSpaces.j0 k a1 t558 (rdOf ByteArray.empty y564 (Int.tmod a2 4)) true)) else (timeboundlaw02_TokenSpaces.j0 k a1 t558 (rdOf ByteArray.empty y564 (Int.tmod a2 4)) true))) else (none)) else (none)) else (none)) else (none))) else ((timeboundlaw02_awake.f k).bind fun t563 => (some t563))) = some r := H
  have A5 := Aside0.mk A50
  clear A50
  by_cases c6 : t560 = 0
  · rw [if_pos c6] at H
    have c6b0 : (t560 == 0) = true := beq_iff_eq.mpr c6
    have c6b1 : (t560 != 0) = false := bne_eq_false_iff_eq.mpr c6
    clear c6
    obtain ⟨y564, hy564⟩ : ∃ y_ : List ByteArray, y_ = (([(⟨#[32]⟩ : ByteArray), (⟨#[9]⟩ : ByteArray), (⟨#[10]⟩ : ByteArray), (⟨#[32, 10, 32]⟩ : ByteArray)] : List ByteArray)) := ⟨_, rfl⟩
    replace H : (if 0 ≤ (Int.tmod a2 4) then (if (Int.tmod a2 4) < (y564.length : Int) then (if (rdOf ByteArray.empty y564 (Int.tmod a2 4)).size + t557.size ≤ 9223372036854775807 then (if ((rdOf ByteArray.empty y564 (Int.tmod a2 4)) ++ t557).size + (rdOf ByteArray.empty y564 (Int.tmod a2 4)).size ≤ 9223372036854775807 then ((token_Scan.f (((rdOf ByteArray.empty y564 (Int.tmod a2 4)) ++ t557) ++ (rdOf ByteArray.empty y564 (Int.tmod a2 4)))).bind fun bt568 => (if bt568.2.2 = 0 then (if bt568.2.1 = 0 then ((timeboundref02_Same.f k t558 bt568.1 false).bind fun t573 => (timeboundlaw02_TokenSpaces.j0 k a1 t558 (rdOf ByteArray.empty y564 (Int.tmod a2 4)) (!t573))) else (timeboundlaw02_TokenSpaces.j0 k a1 t558 (rdOf ByteArray.empty y564 (Int.tmod a2 4)) true)) else (timeboundlaw02_TokenSpaces.j0 k a1 t558 (rdOf ByteArray.empty y564 (Int.tmod a2 4)) true))) else (none)) else (none)) else (none)) else (none)) = some r := by first | (rw [hy564]; with_reducible exact H) | (have H2_ := (Option.bind_some _ _).symm.trans H; rw [hy564]; with_reducible exact H2_) | (have H2_ := (Option.bind_some _ _).symm.trans H; with_reducible exact H2_) | with_reducible exact H | (rw [hy564]; exact H) | exact H
    have Ny564 := Aside0.mk hy564
    clear hy564
    obtain ⟨ji7, hji7⟩ : ∃ j_ : Int, (Int.tmod a2 4) = j_ := ⟨_, rfl⟩
    replace H : (if 0 ≤ (ji7) then (if (ji7) < (y564.length : Int) then (if (rdOf ByteArray.empty y564 (ji7)).size + t557.size ≤ 9223372036854775807 then (if ((rdOf ByteArray.empty y564 (ji7)) ++ t557).size + (rdOf ByteArray.empty y564 (ji7)).size ≤ 9223372036854775807 then ((token_Scan.f (((rdOf ByteArray.empty y564 (ji7)) ++ t557) ++ (rdOf ByteArray.empty y564 (ji7)))).bind fun bt568 => (if bt568.2.2 = 0 then (if bt568.2.1 = 0 then ((timeboundref02_Same.f k t558 bt568.1 false).bind fun t573 => (timeboundlaw02_TokenSpaces.j0 k a1 t558 (rdOf ByteArray.empty y564 (ji7)) (!t573))) else (timeboundlaw02_TokenSpaces.j0 k a1 t558 (rdOf ByteArray.empty y564 (ji7)) true)) else (timeboundlaw02_TokenSpaces.j0 k a1 t558 (rdOf ByteArray.empty y564 (ji7)) true))) else (none)) else (none)) else (none)) else (none)) = some r := by first | (rw [hji7] at H; exact H) | (simp only [hji7] at H ⊢; exact H)
    (try rw [hji7] at A4)
    (try rw [hji7] at A5)
    by_cases c8 : 0 ≤ (ji7)
    · rw [if_pos c8] at H
      have c8b0 : decide (0 ≤ (ji7)) = true := decide_eq_true c8
      clear c8
      by_cases c9 : (ji7) < (y564.length : Int)
      · rw [if_pos c9] at H
        have c9b0 : decide ((ji7) < (y564.length : Int)) = true := decide_eq_true c9
        clear c9
        by_cases c10 : (rdOf ByteArray.empty y564 (ji7)).size + t557.size ≤ 9223372036854775807
        · rw [if_pos c10] at H
          have c10b0 := eq_true c10
          have c10b1 : decide ((rdOf ByteArray.empty y564 (ji7)).size + t557.size ≤ 9223372036854775807) = true := decide_eq_true c10
          try have c10b2 : (9223372036854775807 < (rdOf ByteArray.empty y564 (ji7)).size + t557.size) = False := eq_false (Nat.not_lt.2 c10)
          by_cases c11 : ((rdOf ByteArray.empty y564 (ji7)) ++ t557).size + (rdOf ByteArray.empty y564 (ji7)).size ≤ 9223372036854775807
          · rw [if_pos c11] at H
            have c11b0 := eq_true c11
            have c11b1 : decide (((rdOf ByteArray.empty y564 (ji7)) ++ t557).size + (rdOf ByteArray.empty y564 (ji7)).size ≤ 9223372036854775807) = true := decide_eq_true c11
            (try (have c11b1s := c11b1; simp only [ByteArray.size_append] at c11b1s))
            try have c11b2 : (9223372036854775807 < ((rdOf ByteArray.empty y564 (ji7)) ++ t557).size + (rdOf ByteArray.empty y564 (ji7)).size) = False := eq_false (Nat.not_lt.2 c11)
            (try (have c11b2s := c11b2; simp only [ByteArray.size_append] at c11b2s))
            replace H := Option.bind_eq_some_iff.mp H
            obtain ⟨⟨t568, t569, t570⟩, A120, H⟩ := H
            replace H : (if t570 = 0 then (if t569 = 0 then ((timeboundref02_Same.f k t558 t568 false).bind fun t573 => (timeboundlaw02_TokenSpaces.j0 k a1 t558 (rdOf ByteArray.empty y564 (ji7)) (!t573))) else (timeboundlaw02_TokenSpaces.j0 k a1 t558 (rdOf ByteArray.empty y564 (ji7)) true)) else (timeboundlaw02_TokenSpaces.j0 k a1 t558 (rdOf ByteArray.empty y564 (ji7)) true)) = some r := H
            have A12 := Aside0.mk A120
            clear A120
            have HC13 := Aside0.mk H
            clear H
            go_enter Tryd.func9, Tryd.ntmps9
            go_upto_region 7 with (first | ((with_reducible refine gate_callee (f := 31) rfl ?_); refine goesL_ (some 19) rfl rfl Tryd.func31 (by kernel_rfl) rfl #[.slice A0 l0.length c0] rfl (by (try simp only [List.map_toArray, List.map_cons, List.map_nil]); first | done | rfl | (simp only [List.length_drop, List.length_take]; rfl)) ?_; (with_reducible refine (timeboundlaw02_pieces.calls k _ _ l0 t557 _ ?side1 ?side2 A4.out).mono ?_); (case side1 => repeat (first | exact HR0.out | (with_reducible refine Kd.C_alloc ?_ _) | (with_reducible refine Kd.C_drewN ?_ _) | (with_reducible refine Kd.C_drew ?_))); (case side2 => exact HC0.out); rintro e w14 ⟨rfl, hb⟩; refine ⟨_, rfl, ?_⟩; have n0_ := Aside0.mk (below_step (by repeat (first | (with_reducible first | exact HB.out | apply below_alloc | apply pw_below_drewN | apply below_drew1) | exact HB.out)) hb); clear HB; have HB := n0_; clear n0_; (try clear hb); (try clear hb2); (try clear hk); (try clear hi)) | ((with_reducible refine gate_callee (f := 25) rfl ?_); refine goesL_ (some 22) rfl rfl Tryd.func25 (by kernel_rfl) rfl #[.string t557] rfl (by (try simp only [List.map_toArray, List.map_cons, List.map_nil]); first | done | rfl | (simp only [List.length_drop, List.length_take]; rfl)) ?_; (with_reducible refine (token_Scan.calls t557 t558 t559 t560 _ A5.out).mono ?_); rintro e w15 ⟨v561, rfl, ho0, hb⟩; refine ⟨_, rfl, ?_⟩; have n0_ := Aside0.mk (Kd.R_lower ho0 (below_size (by repeat (first | (with_reducible first | exact HB.out | apply below_alloc | apply pw_below_drewN | apply below_drew1) | exact HB.out)))); have n1_ := Aside0.mk (below_step (by repeat (first | (with_reducible first | exact HB.out | apply below_alloc | apply pw_below_drewN | apply below_drew1) | exact HB.out)) hb); clear HB; have HO562 := n0_; have HB := n1_; clear n0_ n1_; (try clear hb); (try clear hb2); (try clear hk); (try clear hi); (try clear ho0)) | ((with_reducible refine gate_dst (N := 29) rfl ?_); refine Kd.R_lit Kd.string _ 9 ?hg (N := 29) ?hd (xs := ([(⟨#[32]⟩ : ByteArray), (⟨#[9]⟩ : ByteArray), (⟨#[10]⟩ : ByteArray), (⟨#[32, 10, 32]⟩ : ByteArray)] : List ByteArray)) (inner := [.string (⟨#[32]⟩ : ByteArray), .string (⟨#[9]⟩ : ByteArray), .string (⟨#[10]⟩ : ByteArray), .string (⟨#[32, 10, 32]⟩ : ByteArray)]) (ok := fun _ => True) (okp := fun _ => True) ?hr ?hp (fun _ hk => hk) trivial (Below.refl _ _) (Nat.le_refl _) (by simp) ?_; (case hd => rfl); (case hg => rfl); (case hr => first | (go_simp; done) | (go_simp; rfl)); (case hp => exact (Reps.one (show Kd.M Kd.string _ _ _ (⟨#[32]⟩ : ByteArray) [.string (⟨#[32]⟩ : ByteArray)] from rfl) (Reps.one (show Kd.M Kd.string _ _ _ (⟨#[9]⟩ : ByteArray) [.string (⟨#[9]⟩ : ByteArray)] from rfl) (Reps.one (show Kd.M Kd.string _ _ _ (⟨#[10]⟩ : ByteArray) [.string (⟨#[10]⟩ : ByteArray)] from rfl) (Reps.one (show Kd.M Kd.string _ _ _ (⟨#[32, 10, 32]⟩ : ByteArray) [.string (⟨#[32, 10, 32]⟩ : ByteArray)] from rfl) (Reps.none _ _)))))); intro v565 w16 ho17 hb hg_ hnew_; clear hg_ hnew_; (first | rw [← Ny564.out] at ho17 | (simp only [Int.reduceToNat] at ho17; rw [← Ny564.out] at ho17)); have n0_ := Aside0.mk (Kd.R_below (by (with_reducible repeat (first | apply Kd.R_alloc | apply Kd.R_drewN | apply Kd.R_drew)); exact HO562.out) hb); have n1_ := Aside0.mk (Kd.R_lower ho17 (below_size (by repeat (first | (with_reducible first | exact HB.out | apply below_alloc | apply pw_below_drewN | apply below_drew1) | exact HB.out)))); have n2_ := Aside0.mk (below_step (by repeat (first | (with_reducible first | exact HB.out | apply below_alloc | apply pw_below_drewN | apply below_drew1) | exact HB.out)) hb); clear HO562; clear HB; have HO562 := n0_; have HO566 := n1_; have HB := n2_; clear n0_ n1_ n2_; clear hb ho17; obtain ⟨Ao18, co18, eo18⟩ := Kd.R_slice HO566.out; subst eo18; have p567 : 0 ≤ ((ji7) : Int) := of_decide_eq_true (by first | (with_reducible assumption) | assumption); have q567 : (ji7) < (y564.length : Int) := of_decide_eq_true (by first | (with_reducible assumption) | assumption); obtain ⟨ad567, e567, hx567_0⟩ := Kd.at_string (Kd.R_reads' HO566.out).2.2 (ji7) p567 q567; cases e567; replace p567 := eq_true p567; replace q567 := eq_true q567) | ((with_reducible refine gate_callee (f := 25) rfl ?_); refine goesL_ (some 40) rfl rfl Tryd.func25 (by kernel_rfl) rfl #[.string (((rdOf ByteArray.empty y564 (ji7)) ++ t557) ++ (rdOf ByteArray.empty y564 (ji7)))] rfl (by (try simp only [List.map_toArray, List.map_cons, List.map_nil]); first | done | (simp only [hji7]; rfl) | rfl | (simp only [List.length_drop, List.length_take]; rfl)) ?_; (with_reducible refine (token_Scan.calls (((rdOf ByteArray.empty y564 (ji7)) ++ t557) ++ (rdOf ByteArray.empty y564 (ji7))) t568 t569 t570 _ A12.out).mono ?_); rintro e w19 ⟨v571, rfl, ho0, hb⟩; refine ⟨_, rfl, ?_⟩; have n0_ := Aside0.mk (Kd.R_elder' (by (with_reducible repeat (first | apply Kd.R_alloc | apply Kd.R_drewN | apply Kd.R_drew)); exact HO562.out) (Kd.R_base ho0) hb); have n1_ := Aside0.mk (Kd.R_below (by (with_reducible repeat (first | apply Kd.R_alloc | apply Kd.R_drewN | apply Kd.R_drew)); exact HO566.out) hb); have n2_ := Aside0.mk (Kd.R_lower (Kd.R_new' ho0 (Kd.R_lt (by (with_reducible repeat (first | apply Kd.R_alloc | apply Kd.R_drewN | apply Kd.R_drew)); exact HO562.out))) (below_size (by repeat (first | (with_reducible first | exact HB.out | apply below_alloc | apply pw_below_drewN | apply below_drew1) | exact HB.out)))); have n3_ := Aside0.mk (below_step (by repeat (first | (with_reducible first | exact HB.out | apply below_alloc | apply pw_below_drewN | apply below_drew1) | exact HB.out)) hb); clear HO562; clear HO566; clear HB; have HO562 := n0_; have HO566 := n1_; have HO572 := n2_; have HB := n3_; clear n0_ n1_ n2_ n3_; (try clear hb); (try clear hb2); (try clear hk); (try clear hi); (try clear ho0)))
            (try simp only [Act.put, List.setIfInBounds_toArray, List.set_cons_zero, List.set_cons_succ])
            go_cut [55] (fun v55 wc => ∃ (kq : Nat) (x55_12 : Bool), v55 = .bool x55_12 ∧ Aside0 (timeboundlaw02_TokenSpaces.j0 kq a1 t558 (rdOf ByteArray.empty y564 (ji7)) x55_12 = some r) ∧ Aside0 (kq ≤ k) ∧ Aside0 (Kd.R k59 59 wc w.heap.size (fun _ => True) v561 t558) ∧ Aside0 (Below w.heap.size w wc))
            case first =>
              have H := HC13.out
              clear HC13
              by_cases c20 : t570 = 0
              · rw [if_pos c20] at H
                have c20b0 : (t570 == 0) = true := beq_iff_eq.mpr c20
                have c20b1 : (t570 != 0) = false := bne_eq_false_iff_eq.mpr c20
                clear c20
                (first | rw [c20b0] | (simp only [i64_w, i32_w]; rw [c20b0]) | skip)
                by_cases c21 : t569 = 0
                · rw [if_pos c21] at H
                  have c21b0 : (t569 == 0) = true := beq_iff_eq.mpr c21
                  have c21b1 : (t569 != 0) = false := bne_eq_false_iff_eq.mpr c21
                  clear c21
                  replace H := Option.bind_eq_some_iff.mp H
                  obtain ⟨t573, A220, H⟩ := H
                  replace H : (timeboundlaw02_TokenSpaces.j0 k a1 t558 (rdOf ByteArray.empty y564 (ji7)) (!t573)) = some r := H
                  have A22 := Aside0.mk A220
                  clear A220
                  have H' := Aside0.mk H
                  clear H
                  obtain ⟨Ao23, co23, eo23⟩ := Kd.R_slice HO562.out
                  subst eo23
                  obtain ⟨Ao24, co24, eo24⟩ := Kd.R_slice HO572.out
                  subst eo24
                  go_wp2_with (first | (go_at_call 26; (with_reducible refine (timeboundref02_Same.calls k _ _ t558 _ _ t568 false t573 _ ?side1 ?side2 ?side3 ?side4 A22.out).mono ?_); (case side1 => repeat (first | exact (Kd.R_reads' HO562.out).2.2 | (with_reducible refine Kd.C_alloc ?_ _) | (with_reducible refine Kd.C_drewN ?_ _) | (with_reducible refine Kd.C_drew ?_))); (case side2 => exact (Kd.R_reads' HO562.out).2.1); (case side3 => repeat (first | exact (Kd.R_reads' HO572.out).2.2 | (with_reducible refine Kd.C_alloc ?_ _) | (with_reducible refine Kd.C_drewN ?_ _) | (with_reducible refine Kd.C_drew ?_))); (case side4 => exact (Kd.R_reads' HO572.out).2.1); rintro e w' ⟨rfl, ⟨nd, rfl⟩⟩))
                  go_meet
                  case rel => exact ⟨_, (!t573), (by first | rfl | (simp; done) | (simp [*]; done)), H', ⟨by first | omega | exact Nat.le_refl _⟩, ⟨by (with_reducible repeat (first | apply Kd.R_alloc | apply Kd.R_drewN | apply Kd.R_drew)); exact Kd.R_mono HO562.out (fun _ hk => trivial)⟩, ⟨by repeat (first | (with_reducible first | exact HB.out | apply below_alloc | apply pw_below_drewN | apply below_drew1) | exact HB.out)⟩⟩
                · rw [if_neg c21] at H
                  have c21b0 : (t569 == 0) = false := beq_eq_false_iff_ne.mpr c21
                  have c21b1 : (t569 != 0) = true := bne_iff_ne.mpr c21
                  have H' := Aside0.mk H
                  clear H
                  go_wp2
                  go_meet
                  case rel => exact ⟨_, (true), (by first | rfl | (simp; done) | (simp [*]; done)), H', ⟨by first | omega | exact Nat.le_refl _⟩, ⟨by (with_reducible repeat (first | apply Kd.R_alloc | apply Kd.R_drewN | apply Kd.R_drew)); exact Kd.R_mono HO562.out (fun _ hk => trivial)⟩, ⟨by repeat (first | (with_reducible first | exact HB.out | apply below_alloc | apply pw_below_drewN | apply below_drew1) | exact HB.out)⟩⟩
              · rw [if_neg c20] at H
                have c20b0 : (t570 == 0) = false := beq_eq_false_iff_ne.mpr c20
                have c20b1 : (t570 != 0) = true := bne_iff_ne.mpr c20
                (first | rw [c20b0] | (simp only [i64_w, i32_w]; rw [c20b0]) | skip)
                have H' := Aside0.mk H
                clear H
                go_wp2
                go_meet
                case rel => exact ⟨_, (true), (by first | rfl | (simp; done) | (simp [*]; done)), H', ⟨by first | omega | exact Nat.le_refl _⟩, ⟨by (with_reducible repeat (first | apply Kd.R_alloc | apply Kd.R_drewN | apply Kd.R_drew)); exact Kd.R_mono HO562.out (fun _ hk => trivial)⟩, ⟨by repeat (first | (with_reducible first | exact HB.out | apply below_alloc | apply pw_below_drewN | apply below_drew1) | exact HB.out)⟩⟩
            case rest =>
              clear HC13
              try clear c1
              try clear c2
              try clear p2
              try clear c3
              try clear p5
              try clear q5
              try clear hx5
              try clear c6
              try clear c6b0
              try clear c6b1
              try clear c8
              try clear c8b0
              try clear c9
              try clear c9b0
              try clear c10
              try clear c10b0
              try clear c10b1
              try clear c10b2
              try clear c11
              try clear c11b0
              try clear c11b1
              try clear c11b2
              try clear c20
              try clear c20b0
              try clear c20b1
              try clear c21
              try clear c21b0
              try clear c21b1
              try clear hx567_0
              try clear p567
              try clear q567
              obtain ⟨kq, x55_12, rfl, HA, HJ12, HO_8, HB⟩ := hcut
              cases kq with
              | zero => exact absurd HA.out (by simp [timeboundlaw02_TokenSpaces.j0])
              | succ kj12 =>
                have H := HA.out
                clear HA
                simp only [timeboundlaw02_TokenSpaces.j0] at H
                by_cases c25 : x55_12 = true
                · subst c25
                  have H1 : (some false) = some r := by rw [if_pos rfl] at H; exact H
                  clear H
                  have H := H1
                  clear H1
                  obtain rfl := Option.some.inj H
                  go_wp2
                  go_ret
                  exact ⟨by first | rfl | (simp [errW_none, errW_some] <;> rfl) | (simp only [← hji7]; first | rfl | (simp [errW_none, errW_some] <;> rfl)) | (simp [*, errW_none, errW_some] <;> rfl), by repeat (first | (with_reducible first | exact HB.out | apply below_alloc | apply pw_below_drewN | apply below_drew1) | exact HB.out)⟩
                · replace c25 := Bool.eq_false_iff.mpr c25
                  subst c25
                  have H1 : ((timeboundmake_Mod.f a1 (wrap64 ((t558.length : Int) + 1))).bind fun t574 => (timeboundlaw02_TokenSpaces.l0 kj12 t558 (rdOf ByteArray.empty y564 (ji7)) (⟨#[]⟩ : ByteArray) t574 0)) = some r := by rw [if_neg (show ¬ (false = true) by decide)] at H; exact H
                  clear H
                  have H := H1
                  clear H1
                  replace H := Option.bind_eq_some_iff.mp H
                  obtain ⟨t574, A260, H⟩ := H
                  replace H : (timeboundlaw02_TokenSpaces.l0 kj12 t558 (rdOf ByteArray.empty y564 (ji7)) (⟨#[]⟩ : ByteArray) t574 0) = some r := H
                  have A26 := Aside0.mk A260
                  clear A260
                  have H' := Aside0.mk H
                  clear H
                  obtain ⟨Ao27, co27, eo27⟩ := Kd.R_slice HO_8.out
                  subst eo27
                  go_wp2_with (first | ((with_reducible refine gate_callee (f := 33) rfl ?_); refine goesL_ (some 60) rfl rfl Tryd.func33 (by kernel_rfl) rfl #[.int .i64 a1, .int .i64 (wrap64 ((t558.length : Int) + 1))] rfl (by (try simp only [List.map_toArray, List.map_cons, List.map_nil]); first | done | rfl | (simp only [List.length_drop, List.length_take]; rfl)) ?_; (with_reducible refine (timeboundmake_Mod.calls a1 (wrap64 ((t558.length : Int) + 1)) t574 _ A26.out).mono ?_); rintro e w' ⟨rfl, ⟨nd, rfl⟩⟩; refine ⟨_, rfl, ?_⟩))
                  go_loopg [15, 17] kj12 (fun kq v15 v17 w' => ∃ (x15_2 : ByteArray) (x17_2 : Int), v15 = .string x15_2 ∧ v17 = .int .i64 x17_2 ∧ Aside0 (timeboundlaw02_TokenSpaces.l0 kq t558 (rdOf ByteArray.empty y564 (ji7)) x15_2 t574 x17_2 = some r) ∧ Aside0 (kq ≤ kj12) ∧ Aside0 (Kd.R k59 59 w' w.heap.size (fun _ => True) (.slice Ao27 t558.length co27) t558) ∧ Aside0 (Below w.heap.size w w'))
                  case atStart => exact ⟨((⟨#[]⟩ : ByteArray)), (0), (by first | rfl | (simp; done) | (simp [*]; done)), (by first | rfl | (simp; done) | (simp [*]; done)), H', ⟨Nat.le_refl _⟩, ⟨by (with_reducible repeat (first | apply Kd.R_alloc | apply Kd.R_drewN | apply Kd.R_drew)); exact HO_8.out⟩, ⟨by repeat (first | (with_reducible first | exact HB.out | apply below_alloc | apply pw_below_drewN | apply below_drew1) | exact HB.out)⟩⟩
                  case round =>
                    clear H'
                    try clear c1
                    try clear c2
                    try clear p2
                    try clear c3
                    try clear p5
                    try clear q5
                    try clear hx5
                    try clear c6
                    try clear c6b0
                    try clear c6b1
                    try clear p6
                    try clear c8
                    try clear c8b0
                    try clear c9
                    try clear c9b0
                    try clear c10
                    try clear c10b0
                    try clear c10b1
                    try clear c10b2
                    try clear c11
                    try clear c11b0
                    try clear c11b1
                    try clear c11b2
                    try clear c20
                    try clear c20b0
                    try clear c20b1
                    try clear c21
                    try clear c21b0
                    try clear c21b1
                    try clear c25
                    try clear hx567_0
                    try clear p2
                    try clear p5
                    try clear p567
                    try clear q5
                    try clear q567
                    obtain ⟨x15_2, x17_2, rfl, rfl, HA, HK2, HO_8, HB⟩ := hrel
                    cases gk with
                    | zero => exact absurd HA.out (by simp [timeboundlaw02_TokenSpaces.l0])
                    | succ k2 =>
                      have H := HA.out
                      clear HA
                      simp only [timeboundlaw02_TokenSpaces.l0] at H
                      by_cases c28 : x17_2 < (t558.length : Int)
                      · rw [if_pos c28] at H
                        have c28b0 : decide (x17_2 < (t558.length : Int)) = true := decide_eq_true c28
                        clear c28
                        by_cases c29 : x17_2 = t574
                        · rw [if_pos c29] at H
                          have c29b0 : (x17_2 == t574) = true := beq_iff_eq.mpr c29
                          have c29b1 : (x17_2 != t574) = false := bne_eq_false_iff_eq.mpr c29
                          clear c29
                          by_cases c30 : x15_2.size + (rdOf ByteArray.empty y564 (ji7)).size ≤ 9223372036854775807
                          · rw [if_pos c30] at H
                            have c30b0 := eq_true c30
                            have c30b1 : decide (x15_2.size + (rdOf ByteArray.empty y564 (ji7)).size ≤ 9223372036854775807) = true := decide_eq_true c30
                            try have c30b2 : (9223372036854775807 < x15_2.size + (rdOf ByteArray.empty y564 (ji7)).size) = False := eq_false (Nat.not_lt.2 c30)
                            by_cases c31 : (x15_2 ++ (rdOf ByteArray.empty y564 (ji7))).size + 1 ≤ 9223372036854775807
                            · rw [if_pos c31] at H
                              have c31b0 := eq_true c31
                              have c31b1 : decide ((x15_2 ++ (rdOf ByteArray.empty y564 (ji7))).size + 1 ≤ 9223372036854775807) = true := decide_eq_true c31
                              (try (have c31b1s := c31b1; simp only [ByteArray.size_append] at c31b1s))
                              try have c31b2 : (9223372036854775807 < (x15_2 ++ (rdOf ByteArray.empty y564 (ji7))).size + 1) = False := eq_false (Nat.not_lt.2 c31)
                              (try (have c31b2s := c31b2; simp only [ByteArray.size_append] at c31b2s))
                              by_cases c32 : 0 ≤ x17_2
                              · rw [if_pos c32] at H
                                have c32b0 : decide (0 ≤ x17_2) = true := decide_eq_true c32
                                clear c32
                                replace H := Option.bind_eq_some_iff.mp H
                                obtain ⟨t576, A330, H⟩ := H
                                replace H : (if ((x15_2 ++ (rdOf ByteArray.empty y564 (ji7))) ++ (⟨#[32]⟩ : ByteArray)).size + t576.size ≤ 9223372036854775807 then (timeboundlaw02_TokenSpaces.l0 k2 t558 (rdOf ByteArray.empty y564 (ji7)) (((x15_2 ++ (rdOf ByteArray.empty y564 (ji7))) ++ (⟨#[32]⟩ : ByteArray)) ++ t576) t574 (wrap64 (x17_2 + 1))) else (none)) = some r := H
                                have A33 := Aside0.mk A330
                                clear A330
                                by_cases c34 : ((x15_2 ++ (rdOf ByteArray.empty y564 (ji7))) ++ (⟨#[32]⟩ : ByteArray)).size + t576.size ≤ 9223372036854775807
                                · rw [if_pos c34] at H
                                  have c34b0 := eq_true c34
                                  have c34b1 : decide (((x15_2 ++ (rdOf ByteArray.empty y564 (ji7))) ++ (⟨#[32]⟩ : ByteArray)).size + t576.size ≤ 9223372036854775807) = true := decide_eq_true c34
                                  (try (have c34b1s := c34b1; simp only [ByteArray.size_append, show (⟨#[32]⟩ : ByteArray).size = 1 from rfl] at c34b1s))
                                  try have c34b2 : (9223372036854775807 < ((x15_2 ++ (rdOf ByteArray.empty y564 (ji7))) ++ (⟨#[32]⟩ : ByteArray)).size + t576.size) = False := eq_false (Nat.not_lt.2 c34)
                                  (try (have c34b2s := c34b2; simp only [ByteArray.size_append, show (⟨#[32]⟩ : ByteArray).size = 1 from rfl] at c34b2s))
                                  have H' := Aside0.mk H
                                  clear H
                                  have p575 : 0 ≤ (x17_2 : Int) := of_decide_eq_true (by first | (with_reducible assumption) | assumption)
                                  have q575 : x17_2 < (t558.length : Int) := of_decide_eq_true (by first | (with_reducible assumption) | assumption)
                                  obtain ⟨ad575, e575, hx575_0, hx575_1, hx575_2, hx575_3⟩ := at_T59 (Kd.R_reads' HO_8.out).2.2 x17_2 p575 q575
                                  cases e575
                                  replace p575 := eq_true p575
                                  replace q575 := eq_true q575
                                  go_wp2_with (first | ((with_reducible refine gate_callee (f := 29) rfl ?_); refine goesL_ (some 79) rfl rfl Tryd.func29 (by kernel_rfl) rfl #[.agg #[.int .i64 ((rd_T59 t558 x17_2).f0), .int .i64 ((rd_T59 t558 x17_2).f1), .int .i64 ((rd_T59 t558 x17_2).f2), .string ((rd_T59 t558 x17_2).f3)]] rfl (by (try simp only [List.map_toArray, List.map_cons, List.map_nil]); first | done | rfl | (simp only [List.length_drop, List.length_take]; rfl)) ?_; (with_reducible refine (token_Word.calls k2 ((rd_T59 t558 x17_2).f0) ((rd_T59 t558 x17_2).f1) ((rd_T59 t558 x17_2).f2) ((rd_T59 t558 x17_2).f3) t576 _ A33.out).mono ?_); rintro e w35 ⟨rfl, hb⟩; refine ⟨_, rfl, ?_⟩; have n0_ := Aside0.mk (Kd.R_below (by (with_reducible repeat (first | apply Kd.R_alloc | apply Kd.R_drewN | apply Kd.R_drew)); exact HO_8.out) hb); have n1_ := Aside0.mk (below_step (by repeat (first | (with_reducible first | exact HB.out | apply below_alloc | apply pw_below_drewN | apply below_drew1) | exact HB.out)) hb); clear HO_8; clear HB; have HO_8 := n0_; have HB := n1_; clear n0_ n1_; (try clear hb); (try clear hb2); (try clear hk); (try clear hi)))
                                  go_roundg k2
                                  case measure => have := HJ12.out; have := HK2.out; omega
                                  case rel => exact ⟨(((x15_2 ++ (rdOf ByteArray.empty y564 (ji7))) ++ (⟨#[32]⟩ : ByteArray)) ++ t576), (wrap64 (x17_2 + 1)), (by first | rfl | (simp; done) | (simp only [← hji7] <;> (first | rfl | simp)) | (simp [*]; done)), (by first | rfl | (simp; done) | (simp [*]; done)), H', ⟨by have := HJ12.out; have := HK2.out; omega⟩, ⟨by (with_reducible repeat (first | apply Kd.R_alloc | apply Kd.R_drewN | apply Kd.R_drew)); exact HO_8.out⟩, ⟨by repeat (first | (with_reducible first | exact HB.out | apply below_alloc | apply pw_below_drewN | apply below_drew1) | exact HB.out)⟩⟩
                                · rw [if_neg c34] at H
                                  exact absurd H (by simp)
                              · rw [if_neg c32] at H
                                exact absurd H (by simp)
                            · rw [if_neg c31] at H
                              exact absurd H (by simp)
                          · rw [if_neg c30] at H
                            exact absurd H (by simp)
                        · rw [if_neg c29] at H
                          have c29b0 : (x17_2 == t574) = false := beq_eq_false_iff_ne.mpr c29
                          have c29b1 : (x17_2 != t574) = true := bne_iff_ne.mpr c29
                          by_cases c36 : x15_2.size + 1 ≤ 9223372036854775807
                          · rw [if_pos c36] at H
                            have c36b0 := eq_true c36
                            have c36b1 : decide (x15_2.size + 1 ≤ 9223372036854775807) = true := decide_eq_true c36
                            try have c36b2 : (9223372036854775807 < x15_2.size + 1) = False := eq_false (Nat.not_lt.2 c36)
                            by_cases c37 : 0 ≤ x17_2
                            · rw [if_pos c37] at H
                              have c37b0 : decide (0 ≤ x17_2) = true := decide_eq_true c37
                              clear c37
                              replace H := Option.bind_eq_some_iff.mp H
                              obtain ⟨t578, A380, H⟩ := H
                              replace H : (if (x15_2 ++ (⟨#[32]⟩ : ByteArray)).size + t578.size ≤ 9223372036854775807 then (timeboundlaw02_TokenSpaces.l0 k2 t558 (rdOf ByteArray.empty y564 (ji7)) ((x15_2 ++ (⟨#[32]⟩ : ByteArray)) ++ t578) t574 (wrap64 (x17_2 + 1))) else (none)) = some r := H
                              have A38 := Aside0.mk A380
                              clear A380
                              by_cases c39 : (x15_2 ++ (⟨#[32]⟩ : ByteArray)).size + t578.size ≤ 9223372036854775807
                              · rw [if_pos c39] at H
                                have c39b0 := eq_true c39
                                have c39b1 : decide ((x15_2 ++ (⟨#[32]⟩ : ByteArray)).size + t578.size ≤ 9223372036854775807) = true := decide_eq_true c39
                                (try (have c39b1s := c39b1; simp only [ByteArray.size_append, show (⟨#[32]⟩ : ByteArray).size = 1 from rfl] at c39b1s))
                                try have c39b2 : (9223372036854775807 < (x15_2 ++ (⟨#[32]⟩ : ByteArray)).size + t578.size) = False := eq_false (Nat.not_lt.2 c39)
                                (try (have c39b2s := c39b2; simp only [ByteArray.size_append, show (⟨#[32]⟩ : ByteArray).size = 1 from rfl] at c39b2s))
                                have H' := Aside0.mk H
                                clear H
                                have p577 : 0 ≤ (x17_2 : Int) := of_decide_eq_true (by first | (with_reducible assumption) | assumption)
                                have q577 : x17_2 < (t558.length : Int) := of_decide_eq_true (by first | (with_reducible assumption) | assumption)
                                obtain ⟨ad577, e577, hx577_0, hx577_1, hx577_2, hx577_3⟩ := at_T59 (Kd.R_reads' HO_8.out).2.2 x17_2 p577 q577
                                cases e577
                                replace p577 := eq_true p577
                                replace q577 := eq_true q577
                                go_wp2_with (first | ((with_reducible refine gate_callee (f := 29) rfl ?_); refine goesL_ (some 79) rfl rfl Tryd.func29 (by kernel_rfl) rfl #[.agg #[.int .i64 ((rd_T59 t558 x17_2).f0), .int .i64 ((rd_T59 t558 x17_2).f1), .int .i64 ((rd_T59 t558 x17_2).f2), .string ((rd_T59 t558 x17_2).f3)]] rfl (by (try simp only [List.map_toArray, List.map_cons, List.map_nil]); first | done | rfl | (simp only [List.length_drop, List.length_take]; rfl)) ?_; (with_reducible refine (token_Word.calls k2 ((rd_T59 t558 x17_2).f0) ((rd_T59 t558 x17_2).f1) ((rd_T59 t558 x17_2).f2) ((rd_T59 t558 x17_2).f3) t578 _ A38.out).mono ?_); rintro e w40 ⟨rfl, hb⟩; refine ⟨_, rfl, ?_⟩; have n0_ := Aside0.mk (Kd.R_below (by (with_reducible repeat (first | apply Kd.R_alloc | apply Kd.R_drewN | apply Kd.R_drew)); exact HO_8.out) hb); have n1_ := Aside0.mk (below_step (by repeat (first | (with_reducible first | exact HB.out | apply below_alloc | apply pw_below_drewN | apply below_drew1) | exact HB.out)) hb); clear HO_8; clear HB; have HO_8 := n0_; have HB := n1_; clear n0_ n1_; (try clear hb); (try clear hb2); (try clear hk); (try clear hi)))
                                go_roundg k2
                                case measure => have := HJ12.out; have := HK2.out; omega
                                case rel => exact ⟨((x15_2 ++ (⟨#[32]⟩ : ByteArray)) ++ t578), (wrap64 (x17_2 + 1)), (by first | rfl | (simp; done) | (simp [*]; done)), (by first | rfl | (simp; done) | (simp [*]; done)), H', ⟨by have := HJ12.out; have := HK2.out; omega⟩, ⟨by (with_reducible repeat (first | apply Kd.R_alloc | apply Kd.R_drewN | apply Kd.R_drew)); exact HO_8.out⟩, ⟨by repeat (first | (with_reducible first | exact HB.out | apply below_alloc | apply pw_below_drewN | apply below_drew1) | exact HB.out)⟩⟩
                              · rw [if_neg c39] at H
                                exact absurd H (by simp)
                            · rw [if_neg c37] at H
                              exact absurd H (by simp)
                          · rw [if_neg c36] at H
                            exact absurd H (by simp)
                      · rw [if_neg c28] at H
                        have c28b0 : decide (x17_2 < (t558.length : Int)) = false := decide_eq_false c28
                        clear c28
                        replace H := Option.bind_eq_some_iff.mp H
                        obtain ⟨⟨t579, t580, t581⟩, A410, H⟩ := H
                        replace H : (if t581 = 0 then (if t580 = 0 then ((timeboundref02_Same.f k2 t558 t579 false).bind fun t584 => (if t584 = true then ((timeboundlaw02_awake.f k2).bind fun t585 => (some t585)) else (some false))) else (some false)) else (some false)) = some r := H
                        have A41 := Aside0.mk A410
                        clear A410
                        by_cases c42 : t581 = 0
                        · rw [if_pos c42] at H
                          have c42b0 : (t581 == 0) = true := beq_iff_eq.mpr c42
                          have c42b1 : (t581 != 0) = false := bne_eq_false_iff_eq.mpr c42
                          clear c42
                          by_cases c43 : t580 = 0
                          · rw [if_pos c43] at H
                            have c43b0 : (t580 == 0) = true := beq_iff_eq.mpr c43
                            have c43b1 : (t580 != 0) = false := bne_eq_false_iff_eq.mpr c43
                            clear c43
                            replace H := Option.bind_eq_some_iff.mp H
                            obtain ⟨t584, A440, H⟩ := H
                            replace H : (if t584 = true then ((timeboundlaw02_awake.f k2).bind fun t585 => (some t585)) else (some false)) = some r := H
                            have A44 := Aside0.mk A440
                            clear A440
                            by_cases c45 : t584 = true
                            · subst c45
                              have H1 : ((timeboundlaw02_awake.f k2).bind fun t585 => (some t585)) = some r := by rw [if_pos rfl] at H; exact H
                              clear H
                              have H := H1
                              clear H1
                              replace H := Option.bind_eq_some_iff.mp H
                              obtain ⟨t585, A460, H⟩ := H
                              replace H : (some t585) = some r := H
                              have A46 := Aside0.mk A460
                              clear A460
                              obtain rfl := Option.some.inj H
                              go_wp2_with (first | ((with_reducible refine gate_callee (f := 25) rfl ?_); refine goesL_ (some 83) rfl rfl Tryd.func25 (by kernel_rfl) rfl #[.string x15_2] rfl (by (try simp only [List.map_toArray, List.map_cons, List.map_nil]); first | done | rfl | (simp only [List.length_drop, List.length_take]; rfl)) ?_; (with_reducible refine (token_Scan.calls x15_2 t579 t580 t581 _ A41.out).mono ?_); rintro e w47 ⟨v582, rfl, ho0, hb⟩; refine ⟨_, rfl, ?_⟩; have n0_ := Aside0.mk (Kd.R_elder' (by (with_reducible repeat (first | apply Kd.R_alloc | apply Kd.R_drewN | apply Kd.R_drew)); exact HO_8.out) (Kd.R_base ho0) hb); have n1_ := Aside0.mk (Kd.R_lower (Kd.R_new' ho0 (Kd.R_lt (by (with_reducible repeat (first | apply Kd.R_alloc | apply Kd.R_drewN | apply Kd.R_drew)); exact HO_8.out))) (below_size (by repeat (first | (with_reducible first | exact HB.out | apply below_alloc | apply pw_below_drewN | apply below_drew1) | exact HB.out)))); have n2_ := Aside0.mk (below_step (by repeat (first | (with_reducible first | exact HB.out | apply below_alloc | apply pw_below_drewN | apply below_drew1) | exact HB.out)) hb); clear HO_8; clear HB; have HO_8 := n0_; have HO583 := n1_; have HB := n2_; clear n0_ n1_ n2_; (try clear hb); (try clear hb2); (try clear hk); (try clear hi); (try clear ho0); obtain ⟨Ao48, co48, eo48⟩ := Kd.R_slice HO583.out; subst eo48) | (go_at_call 26; (with_reducible refine (timeboundref02_Same.calls k2 _ _ t558 _ _ t579 false true _ ?side1 ?side2 ?side3 ?side4 A44.out).mono ?_); (case side1 => repeat (first | exact (Kd.R_reads' HO_8.out).2.2 | (with_reducible refine Kd.C_alloc ?_ _) | (with_reducible refine Kd.C_drewN ?_ _) | (with_reducible refine Kd.C_drew ?_))); (case side2 => exact (Kd.R_reads' HO_8.out).2.1); (case side3 => repeat (first | exact (Kd.R_reads' HO583.out).2.2 | (with_reducible refine Kd.C_alloc ?_ _) | (with_reducible refine Kd.C_drewN ?_ _) | (with_reducible refine Kd.C_drew ?_))); (case side4 => exact (Kd.R_reads' HO583.out).2.1); rintro e w' ⟨rfl, ⟨nd, rfl⟩⟩) | (go_at_call 24; (with_reducible refine (timeboundlaw02_awake.calls k2  t585 _ A46.out).mono ?_); rintro e w49 ⟨rfl, hb⟩; have n0_ := Aside0.mk (Kd.R_below (by (with_reducible repeat (first | apply Kd.R_alloc | apply Kd.R_drewN | apply Kd.R_drew)); exact HO_8.out) hb); have n1_ := Aside0.mk (Kd.R_below (by (with_reducible repeat (first | apply Kd.R_alloc | apply Kd.R_drewN | apply Kd.R_drew)); exact HO583.out) hb); have n2_ := Aside0.mk (below_step (by repeat (first | (with_reducible first | exact HB.out | apply below_alloc | apply pw_below_drewN | apply below_drew1) | exact HB.out)) hb); clear HO_8; clear HO583; clear HB; have HO_8 := n0_; have HO583 := n1_; have HB := n2_; clear n0_ n1_ n2_; (try clear hb); (try clear hb2); (try clear hk); (try clear hi)))
                              go_ret
                              exact ⟨by first | rfl | (simp [errW_none, errW_some] <;> rfl) | (simp only [← hji7]; first | rfl | (simp [errW_none, errW_some] <;> rfl)) | (simp [*, errW_none, errW_some] <;> rfl), by repeat (first | (with_reducible first | exact HB.out | apply below_alloc | apply pw_below_drewN | apply below_drew1) | exact HB.out)⟩
                            · replace c45 := Bool.eq_false_iff.mpr c45
                              subst c45
                              have H1 : (some false) = some r := by rw [if_neg (show ¬ (false = true) by decide)] at H; exact H
                              clear H
                              have H := H1
                              clear H1
                              obtain rfl := Option.some.inj H
                              go_wp2_with (first | ((with_reducible refine gate_callee (f := 25) rfl ?_); refine goesL_ (some 83) rfl rfl Tryd.func25 (by kernel_rfl) rfl #[.string x15_2] rfl (by (try simp only [List.map_toArray, List.map_cons, List.map_nil]); first | done | rfl | (simp only [List.length_drop, List.length_take]; rfl)) ?_; (with_reducible refine (token_Scan.calls x15_2 t579 t580 t581 _ A41.out).mono ?_); rintro e w50 ⟨v582, rfl, ho0, hb⟩; refine ⟨_, rfl, ?_⟩; have n0_ := Aside0.mk (Kd.R_elder' (by (with_reducible repeat (first | apply Kd.R_alloc | apply Kd.R_drewN | apply Kd.R_drew)); exact HO_8.out) (Kd.R_base ho0) hb); have n1_ := Aside0.mk (Kd.R_lower (Kd.R_new' ho0 (Kd.R_lt (by (with_reducible repeat (first | apply Kd.R_alloc | apply Kd.R_drewN | apply Kd.R_drew)); exact HO_8.out))) (below_size (by repeat (first | (with_reducible first | exact HB.out | apply below_alloc | apply pw_below_drewN | apply below_drew1) | exact HB.out)))); have n2_ := Aside0.mk (below_step (by repeat (first | (with_reducible first | exact HB.out | apply below_alloc | apply pw_below_drewN | apply below_drew1) | exact HB.out)) hb); clear HO_8; clear HB; have HO_8 := n0_; have HO583 := n1_; have HB := n2_; clear n0_ n1_ n2_; (try clear hb); (try clear hb2); (try clear hk); (try clear hi); (try clear ho0); obtain ⟨Ao51, co51, eo51⟩ := Kd.R_slice HO583.out; subst eo51) | (go_at_call 26; (with_reducible refine (timeboundref02_Same.calls k2 _ _ t558 _ _ t579 false false _ ?side1 ?side2 ?side3 ?side4 A44.out).mono ?_); (case side1 => repeat (first | exact (Kd.R_reads' HO_8.out).2.2 | (with_reducible refine Kd.C_alloc ?_ _) | (with_reducible refine Kd.C_drewN ?_ _) | (with_reducible refine Kd.C_drew ?_))); (case side2 => exact (Kd.R_reads' HO_8.out).2.1); (case side3 => repeat (first | exact (Kd.R_reads' HO583.out).2.2 | (with_reducible refine Kd.C_alloc ?_ _) | (with_reducible refine Kd.C_drewN ?_ _) | (with_reducible refine Kd.C_drew ?_))); (case side4 => exact (Kd.R_reads' HO583.out).2.1); rintro e w' ⟨rfl, ⟨nd, rfl⟩⟩))
                              go_ret
                              exact ⟨by first | rfl | (simp [errW_none, errW_some] <;> rfl) | (simp only [← hji7]; first | rfl | (simp [errW_none, errW_some] <;> rfl)) | (simp [*, errW_none, errW_some] <;> rfl), by repeat (first | (with_reducible first | exact HB.out | apply below_alloc | apply pw_below_drewN | apply below_drew1) | exact HB.out)⟩
                          · rw [if_neg c43] at H
                            have c43b0 : (t580 == 0) = false := beq_eq_false_iff_ne.mpr c43
                            have c43b1 : (t580 != 0) = true := bne_iff_ne.mpr c43
                            obtain rfl := Option.some.inj H
                            go_wp2_with (first | ((with_reducible refine gate_callee (f := 25) rfl ?_); refine goesL_ (some 83) rfl rfl Tryd.func25 (by kernel_rfl) rfl #[.string x15_2] rfl (by (try simp only [List.map_toArray, List.map_cons, List.map_nil]); first | done | rfl | (simp only [List.length_drop, List.length_take]; rfl)) ?_; (with_reducible refine (token_Scan.calls x15_2 t579 t580 t581 _ A41.out).mono ?_); rintro e w52 ⟨v582, rfl, ho0, hb⟩; refine ⟨_, rfl, ?_⟩; have n0_ := Aside0.mk (Kd.R_elder' (by (with_reducible repeat (first | apply Kd.R_alloc | apply Kd.R_drewN | apply Kd.R_drew)); exact HO_8.out) (Kd.R_base ho0) hb); have n1_ := Aside0.mk (Kd.R_lower (Kd.R_new' ho0 (Kd.R_lt (by (with_reducible repeat (first | apply Kd.R_alloc | apply Kd.R_drewN | apply Kd.R_drew)); exact HO_8.out))) (below_size (by repeat (first | (with_reducible first | exact HB.out | apply below_alloc | apply pw_below_drewN | apply below_drew1) | exact HB.out)))); have n2_ := Aside0.mk (below_step (by repeat (first | (with_reducible first | exact HB.out | apply below_alloc | apply pw_below_drewN | apply below_drew1) | exact HB.out)) hb); clear HO_8; clear HB; have HO_8 := n0_; have HO583 := n1_; have HB := n2_; clear n0_ n1_ n2_; (try clear hb); (try clear hb2); (try clear hk); (try clear hi); (try clear ho0)))
                            go_ret
                            exact ⟨by first | rfl | (simp [errW_none, errW_some] <;> rfl) | (simp only [← hji7]; first | rfl | (simp [errW_none, errW_some] <;> rfl)) | (simp [*, errW_none, errW_some] <;> rfl), by repeat (first | (with_reducible first | exact HB.out | apply below_alloc | apply pw_below_drewN | apply below_drew1) | exact HB.out)⟩
                        · rw [if_neg c42] at H
                          have c42b0 : (t581 == 0) = false := beq_eq_false_iff_ne.mpr c42
                          have c42b1 : (t581 != 0) = true := bne_iff_ne.mpr c42
                          obtain rfl := Option.some.inj H
                          go_wp2_with (first | ((with_reducible refine gate_callee (f := 25) rfl ?_); refine goesL_ (some 83) rfl rfl Tryd.func25 (by kernel_rfl) rfl #[.string x15_2] rfl (by (try simp only [List.map_toArray, List.map_cons, List.map_nil]); first | done | rfl | (simp only [List.length_drop, List.length_take]; rfl)) ?_; (with_reducible refine (token_Scan.calls x15_2 t579 t580 t581 _ A41.out).mono ?_); rintro e w53 ⟨v582, rfl, ho0, hb⟩; refine ⟨_, rfl, ?_⟩; have n0_ := Aside0.mk (Kd.R_elder' (by (with_reducible repeat (first | apply Kd.R_alloc | apply Kd.R_drewN | apply Kd.R_drew)); exact HO_8.out) (Kd.R_base ho0) hb); have n1_ := Aside0.mk (Kd.R_lower (Kd.R_new' ho0 (Kd.R_lt (by (with_reducible repeat (first | apply Kd.R_alloc | apply Kd.R_drewN | apply Kd.R_drew)); exact HO_8.out))) (below_size (by repeat (first | (with_reducible first | exact HB.out | apply below_alloc | apply pw_below_drewN | apply below_drew1) | exact HB.out)))); have n2_ := Aside0.mk (below_step (by repeat (first | (with_reducible first | exact HB.out | apply below_alloc | apply pw_below_drewN | apply below_drew1) | exact HB.out)) hb); clear HO_8; clear HB; have HO_8 := n0_; have HO583 := n1_; have HB := n2_; clear n0_ n1_ n2_; (try clear hb); (try clear hb2); (try clear hk); (try clear hi); (try clear ho0)))
                          go_ret
                          exact ⟨by first | rfl | (simp [errW_none, errW_some] <;> rfl) | (simp only [← hji7]; first | rfl | (simp [errW_none, errW_some] <;> rfl)) | (simp [*, errW_none, errW_some] <;> rfl), by repeat (first | (with_reducible first | exact HB.out | apply below_alloc | apply pw_below_drewN | apply below_drew1) | exact HB.out)⟩
          · rw [if_neg c11] at H
            exact absurd H (by simp)
        · rw [if_neg c10] at H
          exact absurd H (by simp)
      · rw [if_neg c9] at H
        exact absurd H (by simp)
    · rw [if_neg c8] at H
      exact absurd H (by simp)
  · rw [if_neg c6] at H
    have c6b0 : (t560 == 0) = false := beq_eq_false_iff_ne.mpr c6
    have c6b1 : (t560 != 0) = true := bne_iff_ne.mpr c6
    replace H := Option.bind_eq_some_iff.mp H
    obtain ⟨t563, A540, H⟩ := H
    replace H : (some t563) = some r := H
    have A54 := Aside0.mk A540
    clear A540
    obtain rfl := Option.some.inj H
    go_enter Tryd.func9, Tryd.ntmps9
    go_wp2_with (first | ((with_reducible refine gate_callee (f := 31) rfl ?_); refine goesL_ (some 19) rfl rfl Tryd.func31 (by kernel_rfl) rfl #[.slice A0 l0.length c0] rfl (by (try simp only [List.map_toArray, List.map_cons, List.map_nil]); first | done | rfl | (simp only [List.length_drop, List.length_take]; rfl)) ?_; (with_reducible refine (timeboundlaw02_pieces.calls k _ _ l0 t557 _ ?side1 ?side2 A4.out).mono ?_); (case side1 => repeat (first | exact HR0.out | (with_reducible refine Kd.C_alloc ?_ _) | (with_reducible refine Kd.C_drewN ?_ _) | (with_reducible refine Kd.C_drew ?_))); (case side2 => exact HC0.out); rintro e w55 ⟨rfl, hb⟩; refine ⟨_, rfl, ?_⟩; have n0_ := Aside0.mk (below_step (by repeat (first | (with_reducible first | exact HB.out | apply below_alloc | apply pw_below_drewN | apply below_drew1) | exact HB.out)) hb); clear HB; have HB := n0_; clear n0_; (try clear hb); (try clear hb2); (try clear hk); (try clear hi)) | ((with_reducible refine gate_callee (f := 25) rfl ?_); refine goesL_ (some 22) rfl rfl Tryd.func25 (by kernel_rfl) rfl #[.string t557] rfl (by (try simp only [List.map_toArray, List.map_cons, List.map_nil]); first | done | rfl | (simp only [List.length_drop, List.length_take]; rfl)) ?_; (with_reducible refine (token_Scan.calls t557 t558 t559 t560 _ A5.out).mono ?_); rintro e w56 ⟨v561, rfl, ho0, hb⟩; refine ⟨_, rfl, ?_⟩; have n0_ := Aside0.mk (Kd.R_lower ho0 (below_size (by repeat (first | (with_reducible first | exact HB.out | apply below_alloc | apply pw_below_drewN | apply below_drew1) | exact HB.out)))); have n1_ := Aside0.mk (below_step (by repeat (first | (with_reducible first | exact HB.out | apply below_alloc | apply pw_below_drewN | apply below_drew1) | exact HB.out)) hb); clear HB; have HO562 := n0_; have HB := n1_; clear n0_ n1_; (try clear hb); (try clear hb2); (try clear hk); (try clear hi); (try clear ho0)) | ((with_reducible refine gate_callee (f := 24) rfl ?_); refine goesL_ (some 28) rfl rfl Tryd.func24 (by kernel_rfl) rfl #[] rfl (by (try simp only [List.map_toArray, List.map_cons, List.map_nil]); first | done | rfl | (simp only [List.length_drop, List.length_take]; rfl)) ?_; (with_reducible refine (timeboundlaw02_awake.calls k  t563 _ A54.out).mono ?_); rintro e w57 ⟨rfl, hb⟩; refine ⟨_, rfl, ?_⟩; have n0_ := Aside0.mk (Kd.R_below (by (with_reducible repeat (first | apply Kd.R_alloc | apply Kd.R_drewN | apply Kd.R_drew)); exact HO562.out) hb); have n1_ := Aside0.mk (below_step (by repeat (first | (with_reducible first | exact HB.out | apply below_alloc | apply pw_below_drewN | apply below_drew1) | exact HB.out)) hb); clear HO562; clear HB; have HO562 := n0_; have HB := n1_; clear n0_ n1_; (try clear hb); (try clear hb2); (try clear hk); (try clear hi)))
    go_ret
    exact ⟨by first | rfl | (simp [errW_none, errW_some] <;> rfl) | (simp [*, errW_none, errW_some] <;> rfl), by repeat (first | (with_reducible first | exact HB.out | apply below_alloc | apply pw_below_drewN | apply below_drew1) | exact HB.out)⟩

/-- THE ONE PURE STATEMENT of timeboundlaw02_TokenSpaces: yours. -/
def timeboundlaw02_TokenSpaces.Pure : Prop := ∀ (l0 : List Int) (a1 : Int) (a2 : Int), l0.length ≤ maxLen → l0.length * 1 ≤ 140737488351232 → (∀ x ∈ l0, (Lit.int .u8 x).wf = true) → (Lit.int .i64 a1).wf = true → (Lit.int .u8 a2).wf = true → ∃ k, timeboundlaw02_TokenSpaces.f k l0 a1 a2 = some true
theorem timeboundlaw02_TokenSpaces.walk (P : timeboundlaw02_TokenSpaces.Pure) (a0 : Option Addr) (len0 cap0 : Nat) (z0 : List Int) (a1 : Int) (a2 : Int) (w : World) (w0 : (a0 = none ∧ len0 = 0 ∧ cap0 = 0 ∧ z0 = []) ∨ ∃ x, a0 = some x ∧ len0 ≤ cap0 ∧ cap0 ≤ maxLen ∧ z0.length = cap0 ∧ (∀ i, i < z0.length → w.cell? (x.add i) = some (.int .u8 (z0.getD i 0))) ∧ ∀ n ∈ z0, (Lit.int .u8 n).wf = true) (y0 : len0 * 1 ≤ 140737488351232) (w1 : (Lit.int .i64 a1).wf = true) (w2 : (Lit.int .u8 a2).wf = true) (hG_Pow : LaidPow w) :
    Calls Tryd.prog 9 #[.slice a0 len0 cap0, .int .i64 a1, .int .u8 a2] w fun e w' => e = .returned (.bool true) ∧ Below w.heap.size w w' := by
  obtain ⟨l0, rfl, hr0, hm0, hw0, hc0⟩ := ReadsInt.ofRowC w0
  obtain ⟨k, h⟩ := P l0 a1 a2 hm0 y0 hw0 w1 w2
  refine (timeboundlaw02_TokenSpaces.calls k _ _ l0 a1 a2 true w (Kd.C_of_reads (d := (0 : Int)) (h1 := fun _ => rfl) hr0) hc0 h).mono ?_
  rintro e w' ⟨rfl, hd⟩
  exact ⟨rfl, hd⟩

end Go.Proofs.YtcnmejahighkfaaDoor.P
-- TokA
/- The tokens of a text as a plain function of its bytes, and that both scanners compute it. -/
namespace Go.Proofs.YtcnmejahighkfaaDoor.Tok
open Go.RowKit Go.Proofs.YtcnmejahighkfaaDoor.P Go.Proofs.YtcnmejahighkfaaDoorW.PrintWords Go.Proofs.YtcnmejahighkfaaDoorW.PrintLast Go.Proofs.YtcnmejahighkfaaDoorW.PrintMore
set_option linter.unusedVariables false
set_option linter.unusedSimpArgs false

/-! ### bytes as numbers -/
theorem toList_data (s : ByteArray) : s.toList = s.data.toList := ByteArray.toList_eq s
theorem bytes_lt (s : ByteArray) : ∀ c ∈ bytesOf s, 0 ≤ c ∧ c ≤ 255 := by
  intro c hc
  simp only [bytesOf, List.mem_map] at hc
  obtain ⟨b, _, rfl⟩ := hc
  have := b.toNat_lt
  omega
theorem bytesOf_inj {a b : ByteArray} (h : bytesOf a = bytesOf b) : a = b := by
  have h2 : a.data.toList = b.data.toList := by
    unfold bytesOf at h
    refine List.map_inj_right ?_ |>.1 h
    intro x y hxy
    have : x.toNat = y.toNat := by omega
    exact UInt8.toNat_inj.1 this
  cases a; cases b
  simp at h2
  simp [h2]
theorem bytes_ext (s : ByteArray) (a b : Nat) : bytesOf (s.extract a b) = ((bytesOf s).drop a).take (b - a) := by
  unfold bytesOf
  rw [Lib.extract_data]
  simp [List.map_take, List.map_drop]
theorem bytes_strOfNums (l : List Int) (h : ∀ c ∈ l, 0 ≤ c ∧ c ≤ 255) : bytesOf (strOfNums l) = l := by
  unfold bytesOf strOfNums
  simp only [List.map_map]
  conv => rhs; rw [← List.map_id l]
  refine List.map_congr_left fun c hc => ?_
  have := h c hc
  simp [Function.comp]
  omega
theorem strOfNums_bytes (s : ByteArray) : strOfNums (bytesOf s) = s := bytesOf_inj (bytes_strOfNums _ (bytes_lt s))
theorem bt_get (s : ByteArray) (i : Nat) : bt s i = (bytesOf s).getD i 0 := by rw [← rd_bytesOf]; simp [rd]
theorem bt_cons {s : ByteArray} {i : Nat} {c : Int} {r : List Int} (h : (bytesOf s).drop i = c :: r) : i < s.size ∧ bt s i = c ∧ (bytesOf s).drop (i + 1) = r := by
  have hl : i < (bytesOf s).length := by
    rcases Nat.lt_or_ge i (bytesOf s).length with h1 | h1
    · exact h1
    · rw [List.drop_eq_nil_of_le h1] at h; cases h
  have e := List.drop_eq_getElem_cons hl
  rw [e] at h
  injection h with h1 h2
  refine ⟨by rw [bytesOf_length] at hl; exact hl, ?_, h2⟩
  rw [bt_get, List.getD_eq_getElem?_getD, List.getElem?_eq_getElem hl]
  exact h1
theorem bt_nil {s : ByteArray} {i : Nat} (h : (bytesOf s).drop i = []) : s.size ≤ i := by
  have := List.drop_eq_nil_iff.1 h
  rwa [bytesOf_length] at this
theorem wrap_small {i : Int} (h0 : -9000000000000000000 ≤ i) (h : i ≤ 9000000000000000000) : wrap64 i = i := by unfold wrap64; omega

/-! ### the model -/
def isL (c : Int) : Bool := decide (97 ≤ c) && decide (c ≤ 122)
def isD (c : Int) : Bool := decide (48 ≤ c) && decide (c ≤ 57)
def isA (c : Int) : Bool := isL c || isD c
def numv (l : List Int) (n : Int) : Int := l.foldl (fun n c => if 10 * n + (c - 48) ≤ 2147483648 then 10 * n + (c - 48) else 2147483648) n
def signC : List (List Int) := signList.map bytesOf
def signM (l : List Int) : Nat := if 2 ≤ l.length ∧ l.take 2 ∈ signC then 2 else if 1 ≤ l.length ∧ l.take 1 ∈ signC then 1 else 0
/-- The token that a text begins with: kind, number, text, and how many bytes it has. -/
def nextM (l : List Int) : Option (Int × Int × List Int × Nat) :=
  match l with
  | [] => none
  | c :: r =>
    if isL c then (if 12 < ((c :: r).takeWhile isA).length then none else some (1, 0, (c :: r).takeWhile isA, ((c :: r).takeWhile isA).length))
    else if isD c then (if 2147483647 < numv ((c :: r).takeWhile isD) 0 then none else some (2, numv ((c :: r).takeWhile isD) 0, [], ((c :: r).takeWhile isD).length))
    else if signM (c :: r) = 0 then none else some (3, 0, (c :: r).take (signM (c :: r)), signM (c :: r))
abbrev TS := S59
def scanM : Nat → List Int → List TS → Int → List TS × Int × Int
  | 0, _, out, _ => (out, 0, 0)
  | _ + 1, [], out, _ => (out, 0, 0)
  | f + 1, c :: r, out, line =>
    if c = 10 then scanM f r out (line + 1) else if c = 32 ∨ c = 9 then scanM f r out line else
      match nextM (c :: r) with
      | none => ([], line, 1)
      | some (k, v, t, n) => scanM f ((c :: r).drop n) (out ++ [⟨k, v, line, strOfNums t⟩]) line

/-! ### the inner loops -/
theorem letter_eq (c : Int) : token_letter.f c = some (isL c) := by
  unfold token_letter.f isL; split <;> simp_all <;> omega
theorem digit_eq (c : Int) : token_digit.f c = some (isD c) := by
  unfold token_digit.f isD; split <;> simp_all <;> omega
theorem name1_eq (c : Int) : token_name_1.f c = some (isA c) := by
  unfold token_name_1.f isA
  rw [letter_eq, digit_eq]
  cases isL c <;> simp
theorem run_digit (s : ByteArray) (hs : s.size ≤ 1000000) : ∀ (l : List Int) (i k : Nat), (bytesOf s).drop i = l → i ≤ s.size → l.length < k → token_run_at_token_digit.l0 k s i = some ((i + (l.takeWhile isD).length : Nat) : Int) := by
  intro l
  induction l with
  | nil =>
    intro i k h hi hk
    obtain ⟨k, rfl⟩ : ∃ m, k = m + 1 := ⟨k - 1, by omega⟩
    have := bt_nil h
    simp only [token_run_at_token_digit.l0]
    rw [if_neg (by omega)]
    simp
  | cons c r ih =>
    intro i k h hi hk
    obtain ⟨k, rfl⟩ : ∃ m, k = m + 1 := ⟨k - 1, by simp at hk; omega⟩
    obtain ⟨h1, h2, h3⟩ := bt_cons h
    simp only [token_run_at_token_digit.l0]
    rw [if_pos (by omega), if_pos (by omega), h2, digit_eq, wrap_small (by omega) (by omega)]
    simp only [Option.bind_some]
    cases hd : isD c with
    | true =>
      simp only [if_true]
      have := ih (i + 1) k h3 (by omega) (by simp at hk; omega)
      rw [show ((i : Int) + 1) = ((i + 1 : Nat) : Int) by omega, this]
      simp [List.takeWhile_cons, hd]
      omega
    | false => simp [List.takeWhile_cons, hd]
theorem run_name (s : ByteArray) (hs : s.size ≤ 1000000) : ∀ (l : List Int) (i k : Nat), (bytesOf s).drop i = l → i ≤ s.size → l.length < k → token_run_at_token_name_1.l0 k s i = some ((i + (l.takeWhile isA).length : Nat) : Int) := by
  intro l
  induction l with
  | nil =>
    intro i k h hi hk
    obtain ⟨k, rfl⟩ : ∃ m, k = m + 1 := ⟨k - 1, by omega⟩
    have := bt_nil h
    simp only [token_run_at_token_name_1.l0]
    rw [if_neg (by omega)]
    simp
  | cons c r ih =>
    intro i k h hi hk
    obtain ⟨k, rfl⟩ : ∃ m, k = m + 1 := ⟨k - 1, by simp at hk; omega⟩
    obtain ⟨h1, h2, h3⟩ := bt_cons h
    simp only [token_run_at_token_name_1.l0]
    rw [if_pos (by omega), if_pos (by omega), h2, name1_eq, wrap_small (by omega) (by omega)]
    simp only [Option.bind_some]
    cases hd : isA c with
    | true =>
      simp only [if_true]
      have := ih (i + 1) k h3 (by omega) (by simp at hk; omega)
      rw [show ((i : Int) + 1) = ((i + 1 : Nat) : Int) by omega, this]
      simp [List.takeWhile_cons, hd]
      omega
    | false => simp [List.takeWhile_cons, hd]
theorem numv_range (l : List Int) : ∀ n, 0 ≤ n → n ≤ 2147483648 → (∀ c ∈ l, 48 ≤ c ∧ c ≤ 57) → 0 ≤ numv l n ∧ numv l n ≤ 2147483648 := by
  induction l with
  | nil => intro n h0 h1 _; exact ⟨h0, h1⟩
  | cons c r ih =>
    intro n h0 h1 h
    have hc := h c (.head _)
    simp only [numv, List.foldl_cons]
    refine ih _ ?_ ?_ fun x hx => h x (.tail _ hx)
    · split <;> omega
    · split <;> omega
theorem number_eq (s : ByteArray) (hs : s.size ≤ 1000000) : ∀ (l : List Int) (i k : Nat) (n : Int), (bytesOf s).drop i = l → i ≤ s.size → l.length < k → (∀ c ∈ l, 48 ≤ c ∧ c ≤ 57) → 0 ≤ n → n ≤ 2147483648 → token_number.l0 k s n i = some (numv l n) := by
  intro l
  induction l with
  | nil =>
    intro i k n h hi hk _ _ _
    obtain ⟨k, rfl⟩ : ∃ m, k = m + 1 := ⟨k - 1, by omega⟩
    have := bt_nil h
    simp only [token_number.l0]
    rw [if_neg (by omega)]
    rfl
  | cons c r ih =>
    intro i k n h hi hk hd h0 hn
    obtain ⟨k, rfl⟩ : ∃ m, k = m + 1 := ⟨k - 1, by simp at hk; omega⟩
    obtain ⟨h1, h2, h3⟩ := bt_cons h
    have hc := hd c (.head _)
    simp only [token_number.l0]
    rw [if_pos (by omega), if_pos (by omega), h2, wrap_small (i := 10 * n) (by omega) (by omega), wrap_small (i := (i : Int) + 1) (by omega) (by omega), Int.emod_eq_of_lt (by omega) (by omega), wrap_small (by omega) (by omega)]
    have hm : mn (10 * n + (c - 48)) 2147483648 = if 10 * n + (c - 48) ≤ 2147483648 then 10 * n + (c - 48) else 2147483648 := by unfold mn; split <;> split <;> omega
    rw [show ((i : Int) + 1) = ((i + 1 : Nat) : Int) by omega, hm]
    have := ih (i + 1) k (if 10 * n + (c - 48) ≤ 2147483648 then 10 * n + (c - 48) else 2147483648) h3 (by omega) (by simp at hk; omega) (fun x hx => hd x (.tail _ hx)) (by split <;> omega) (by split <;> omega)
    rw [this]
    rfl

/-! ### name, sign, next -/
theorem take_tw {α : Type} (p : α → Bool) (l : List α) : l.take (l.takeWhile p).length = l.takeWhile p := by
  induction l with
  | nil => rfl
  | cons c r ih => simp only [List.takeWhile_cons]; split <;> simp [ih]
theorem tw_le {α : Type} (p : α → Bool) (l : List α) : (l.takeWhile p).length ≤ l.length := (List.takeWhile_sublist _).length_le
theorem tw_all {α : Type} (p : α → Bool) (l : List α) : ∀ c ∈ l.takeWhile p, p c = true := by
  induction l with
  | nil => intro c hc; cases hc
  | cons x r ih =>
    intro c hc
    simp only [List.takeWhile_cons] at hc
    split at hc
    · rename_i hx
      cases hc with
      | head => exact hx
      | tail _ h => exact ih c h
    · cases hc
theorem isD_range {c : Int} (h : isD c = true) : 48 ≤ c ∧ c ≤ 57 := by simpa [isD] using h
theorem isD_not_isL {c : Int} (h : isL c = true) : isD c = false := by
  simp only [isL, isD, Bool.and_eq_true, decide_eq_true_eq, Bool.and_eq_false_iff, decide_eq_false_iff_not] at *
  omega
theorem isL_isA {c : Int} (h : isL c = true) : isA c = true := by simp [isA, h]
theorem ext_text {s : ByteArray} {n : Nat} {t : List Int} (h : (bytesOf s).take n = t) : s.extract 0 n = strOfNums t := by
  refine bytesOf_inj ?_
  rw [bytes_ext, List.drop_zero, Nat.sub_zero, h, bytes_strOfNums]
  intro c hc
  rw [← h] at hc
  exact bytes_lt s c (List.mem_of_mem_take hc)
def nameM (l : List Int) : Nat := match l with | [] => 0 | c :: r => if isL c then ((c :: r).takeWhile isA).length else 0
theorem nil_iff (s : ByteArray) : s.toList = ([] : List UInt8) ↔ bytesOf s = [] := by
  rw [toList_data]; simp [bytesOf]
theorem name_eq (s : ByteArray) (hs : s.size ≤ 1000000) (k : Nat) (hk : s.size < k) : token_name.f k s = some (nameM (bytesOf s) : Int) := by
  unfold token_name.f
  cases h : bytesOf s with
  | nil => rw [if_pos ((nil_iff s).2 h)]; rfl
  | cons c r =>
    rw [if_neg (fun q => by rw [(nil_iff s).1 q] at h; cases h)]
    obtain ⟨h1, h2, h3⟩ := bt_cons (s := s) (i := 0) (by simpa using h)
    have h2' : bt s 0 = c := h2
    rw [if_pos (by omega), h2', letter_eq]
    simp only [Option.bind_some, nameM]
    cases hl : isL c with
    | false => simp
    | true =>
      simp only [if_true, token_run_at_token_name_1.f]
      have := run_name s hs (c :: r) 0 k (by simpa using h) (by omega) (by have := bytesOf_length s; rw [h] at this; omega)
      have e : token_run_at_token_name_1.l0 k s 0 = token_run_at_token_name_1.l0 k s ((0 : Nat) : Int) := rfl
      rw [e, this]
      simp
theorem mem_signC (s : ByteArray) (n : Nat) : isSign (s.extract 0 n) = decide ((bytesOf s).take n ∈ signC) := by
  unfold isSign signC
  have e : bytesOf (s.extract 0 n) = (bytesOf s).take n := by rw [bytes_ext]; simp
  rw [← e]
  have : s.extract 0 n ∈ signList ↔ bytesOf (s.extract 0 n) ∈ signList.map bytesOf := by
    rw [List.mem_map]
    exact ⟨fun h => ⟨_, h, rfl⟩, fun ⟨a, h, q⟩ => bytesOf_inj q ▸ h⟩
  by_cases h : s.extract 0 n ∈ signList
  · simp [h, this.1 h]
  · have h' := fun q => h (this.2 q)
    simp only [h, decide_false]
    exact (decide_eq_false h').symm
theorem sign_one (s : ByteArray) (k : Nat) (hk : 2 ≤ k) (h : 1 ≤ s.size) : token_sign.l0 k s 1 = some (if (bytesOf s).take 1 ∈ signC then 1 else 0 : Int) := by
  obtain ⟨k, rfl⟩ : ∃ m, k = m + 1 + 1 := ⟨k - 2, by omega⟩
  simp only [token_sign.l0]
  rw [if_pos (by omega), if_pos (by omega)]
  have e : (1 : Int).toNat = 1 := rfl
  rw [e, mem_signC]
  by_cases h1 : (bytesOf s).take 1 ∈ signC
  · simp [h1]
  · simp [h1]
theorem sign_eq (s : ByteArray) (k : Nat) (hk : 3 ≤ k) : token_sign.f k s = some (signM (bytesOf s) : Int) := by
  obtain ⟨k, rfl⟩ : ∃ m, k = m + 1 := ⟨k - 1, by omega⟩
  unfold token_sign.f signM
  have hl := bytesOf_length s
  rcases Nat.lt_or_ge s.size 2 with h2 | h2
  · rw [if_neg (by omega), if_neg (by omega)]
    rcases Nat.lt_or_ge s.size 1 with h1 | h1
    · have h0 : (s.size : Int) = 0 := by omega
      rw [h0, if_neg (by omega)]
      simp [token_sign.l0]
    · have h0 : (s.size : Int) = 1 := by omega
      rw [h0, sign_one s (k + 1) (by omega) h1]
      by_cases h : (bytesOf s).take 1 ∈ signC
      · rw [if_pos h, if_pos ⟨by omega, h⟩]; rfl
      · rw [if_neg h, if_neg (fun q => h q.2)]; rfl
  · rw [if_pos (by omega)]
    simp only [token_sign.l0]
    rw [if_pos (by omega), if_pos (by omega)]
    have e : (2 : Int).toNat = 2 := rfl
    rw [e, mem_signC]
    by_cases h : (bytesOf s).take 2 ∈ signC
    · rw [if_pos (by simpa using h), if_pos ⟨by omega, h⟩]; rfl
    · rw [if_neg (by simpa using h), if_neg (fun q => h q.2)]
      have e2 : (2 : Int) - 1 = 1 := rfl
      rw [e2, sign_one s k (by omega) (by omega)]
      by_cases h1 : (bytesOf s).take 1 ∈ signC
      · rw [if_pos h1, if_pos ⟨by omega, h1⟩]; rfl
      · rw [if_neg h1, if_neg (fun q => h1 q.2)]; rfl
theorem signM_le (l : List Int) : signM l ≤ l.length ∧ signM l ≤ 2 := by
  unfold signM
  split
  · omega
  · split <;> omega
theorem nextM_len {l : List Int} {x : Int × Int × List Int × Nat} (h : nextM l = some x) : 1 ≤ x.2.2.2 ∧ x.2.2.2 ≤ l.length := by
  unfold nextM at h
  cases l with
  | nil => cases h
  | cons c r =>
    simp only at h
    split at h
    · rename_i hc
      split at h
      · cases h
      · obtain rfl := Option.some.inj h
        have := tw_le isA (c :: r)
        simp only [List.takeWhile_cons, isL_isA hc, if_true] at *
        simp at *
        omega
    · split at h
      · rename_i hc
        split at h
        · cases h
        · obtain rfl := Option.some.inj h
          have := tw_le isD (c :: r)
          simp only [List.takeWhile_cons, hc, if_true] at *
          simp at *
          omega
      · split at h
        · cases h
        · obtain rfl := Option.some.inj h
          have := signM_le (c :: r)
          simp only
          omega
theorem next_eq (s : ByteArray) (hs : s.size ≤ 1000000) (k : Nat) (hk : s.size + 3 < k) (hne : bytesOf s ≠ []) :
    (∀ a b t n, nextM (bytesOf s) = some (a, b, t, n) → token_next.f k s = some (⟨a, b, 0, strOfNums t⟩, (n : Int))) ∧ (nextM (bytesOf s) = none → ∃ x, token_next.f k s = some (x, 0)) := by
  have hl := bytesOf_length s
  unfold token_next.f
  rw [name_eq s hs k (by omega)]
  simp only [Option.bind_some]
  cases hb : bytesOf s with
  | nil => exact absurd hb hne
  | cons c r =>
    have hrd := run_digit s hs (c :: r) 0 k (by simpa using hb) (by omega) (by rw [hb] at hl; omega)
    have hrd' : token_run_at_token_digit.f k s = some (((c :: r).takeWhile isD).length : Int) := by
      unfold token_run_at_token_digit.f
      have e : token_run_at_token_digit.l0 k s 0 = token_run_at_token_digit.l0 k s ((0 : Nat) : Int) := rfl
      rw [e, hrd]; simp
    by_cases hc : isL c = true
    · have htw : 1 ≤ ((c :: r).takeWhile isA).length := by simp [List.takeWhile_cons, isL_isA hc]
      have hnm : nameM (c :: r) = ((c :: r).takeWhile isA).length := by simp only [nameM, if_pos hc]
      rw [hnm]
      by_cases h12 : 12 < ((c :: r).takeWhile isA).length
      · have hm : nextM (c :: r) = none := by simp only [nextM, if_pos hc, if_pos h12]
        rw [hm, if_pos (by omega), if_pos (by omega)]
        exact ⟨fun a b t n h => (by cases h), fun _ => ⟨_, rfl⟩⟩
      · have hm : nextM (c :: r) = some (1, 0, (c :: r).takeWhile isA, ((c :: r).takeWhile isA).length) := by simp only [nextM, if_pos hc, if_neg h12]
        rw [hm, if_pos (by omega), if_neg (by omega), if_pos (by have := tw_le isA (c :: r); rw [hb] at hl; omega)]
        refine ⟨fun a b t n h => ?_, fun h => (by cases h)⟩
        simp only [Option.some.injEq, Prod.mk.injEq] at h
        obtain ⟨rfl, rfl, rfl, rfl⟩ := h
        rw [Int.toNat_natCast, ext_text (t := (c :: r).takeWhile isA) (by rw [hb]; exact take_tw _ _)]
    · have hnm : nameM (c :: r) = 0 := by simp only [nameM, if_neg hc]
      rw [hnm, if_neg (by omega), hrd']
      simp only [Option.bind_some]
      by_cases hd : isD c = true
      · have htw : 1 ≤ ((c :: r).takeWhile isD).length := by simp [List.takeWhile_cons, hd]
        have hle := tw_le isD (c :: r)
        have hle' : ((c :: r).takeWhile isD).length ≤ s.size := by rw [hb] at hl; omega
        rw [if_pos (by omega), if_pos (by omega), Int.toNat_natCast]
        have hx : bytesOf (s.extract 0 ((c :: r).takeWhile isD).length) = (c :: r).takeWhile isD := by rw [bytes_ext, hb]; simp [take_tw]
        have hnum : token_number.f k (s.extract 0 ((c :: r).takeWhile isD).length) = some (numv ((c :: r).takeWhile isD) 0) := by
          unfold token_number.f
          have := number_eq (s.extract 0 ((c :: r).takeWhile isD).length) (by simp; omega) ((c :: r).takeWhile isD) 0 k 0 (by rw [hx]; rfl) (by omega) (by omega) (fun x hx => isD_range (tw_all isD _ x hx)) (by omega) (by omega)
          exact this
        rw [hnum]
        simp only [Option.bind_some]
        by_cases hv : 2147483647 < numv ((c :: r).takeWhile isD) 0
        · have hm : nextM (c :: r) = none := by simp only [nextM, if_neg hc, if_pos hd, if_pos hv]
          rw [hm, if_pos (by omega)]
          exact ⟨fun a b t n h => (by cases h), fun _ => ⟨_, rfl⟩⟩
        · have hm : nextM (c :: r) = some (2, numv ((c :: r).takeWhile isD) 0, [], ((c :: r).takeWhile isD).length) := by simp only [nextM, if_neg hc, if_pos hd, if_neg hv]
          rw [hm, if_neg (by omega)]
          refine ⟨fun a b t n h => ?_, fun h => (by cases h)⟩
          simp only [Option.some.injEq, Prod.mk.injEq] at h
          obtain ⟨rfl, rfl, rfl, rfl⟩ := h
          rfl
      · have htw : ((c :: r).takeWhile isD).length = 0 := by simp [List.takeWhile_cons, hd]
        rw [if_neg (by omega), sign_eq s k (by omega)]
        simp only [Option.bind_some]
        have hsl := signM_le (bytesOf s)
        rw [if_pos (by omega), if_pos (by omega), Int.toNat_natCast]
        rw [hb] at hsl ⊢
        by_cases h0 : signM (c :: r) = 0
        · have hm : nextM (c :: r) = none := by simp only [nextM, if_neg hc, if_neg hd, if_pos h0]
          rw [hm, h0]
          exact ⟨fun a b t n h => (by cases h), fun _ => ⟨_, rfl⟩⟩
        · have hm : nextM (c :: r) = some (3, 0, (c :: r).take (signM (c :: r)), signM (c :: r)) := by simp only [nextM, if_neg hc, if_neg hd, if_neg h0]
          rw [hm]
          refine ⟨fun a b t n h => ?_, fun h => (by cases h)⟩
          simp only [Option.some.injEq, Prod.mk.injEq] at h
          obtain ⟨rfl, rfl, rfl, rfl⟩ := h
          rw [ext_text (by rw [hb])]

/-! ### Scan -/
theorem scan_eq (s : ByteArray) (hs : s.size ≤ 8192) : ∀ (f : Nat) (l : List Int) (i k : Nat) (out : List TS) (line : Int), (bytesOf s).drop i = l → i ≤ s.size → l.length ≤ f → l.length + 20 ≤ k → out.length ≤ i → 0 ≤ line → line ≤ i + 1 →
    token_Scan.l0 k s out line i = some (scanM f l out line) := by
  intro f
  induction f with
  | zero =>
    intro l i k out line h hi hf hk ho h0 h1
    obtain rfl := List.eq_nil_of_length_eq_zero (Nat.le_zero.1 hf)
    obtain ⟨k, rfl⟩ : ∃ m, k = m + 1 := ⟨k - 1, by omega⟩
    have := bt_nil h
    simp only [token_Scan.l0, scanM]
    rw [if_neg (by omega)]
  | succ f ih =>
    intro l i k out line h hi hf hk ho h0 h1
    obtain ⟨k, rfl⟩ : ∃ m, k = m + 1 := ⟨k - 1, by omega⟩
    cases l with
    | nil =>
      have := bt_nil h
      simp only [token_Scan.l0, scanM]
      rw [if_neg (by omega)]
    | cons c r =>
      obtain ⟨h2, h3, h4⟩ := bt_cons h
      simp only [List.length_cons] at hf hk
      simp only [token_Scan.l0, scanM]
      rw [if_pos (by omega), h3]
      have e1 : (i : Int) + 1 = ((i + 1 : Nat) : Int) := by omega
      by_cases c10 : c = 10
      · rw [if_pos c10, if_pos c10, wrap_small (by omega) (by omega), e1]
        exact ih r (i + 1) k out (line + 1) h4 (by omega) (by omega) (by omega) (by omega) (by omega) (by omega)
      · rw [if_neg c10, if_neg c10]
        by_cases c32 : c = 32
        · rw [if_pos c32, if_pos (.inl c32), e1]
          exact ih r (i + 1) k out line h4 (by omega) (by omega) (by omega) (by omega) (by omega) (by omega)
        · rw [if_neg c32]
          by_cases c9 : c = 9
          · rw [if_pos c9, if_pos (.inr c9), e1]
            exact ih r (i + 1) k out line h4 (by omega) (by omega) (by omega) (by omega) (by omega) (by omega)
          · rw [if_neg c9, if_neg (by omega), Int.toNat_natCast]
            have hx : bytesOf (s.extract i s.size) = c :: r := by rw [bytes_ext, h, List.take_of_length_le]; have := congrArg List.length h; simp only [List.length_drop, bytesOf_length] at this; omega
            have hz : (s.extract i s.size).size ≤ r.length + 1 := by have := bytesOf_length (s.extract i s.size); rw [hx, List.length_cons] at this; omega
            have hn := next_eq (s.extract i s.size) (by simp; omega) k (by omega) (by rw [hx]; simp)
            rw [hx] at hn
            cases hm : nextM (c :: r) with
            | none =>
              obtain ⟨x, hx2⟩ := hn.2 hm
              rw [hx2]
              simp
            | some y =>
              obtain ⟨a, b, t, n⟩ := y
              rw [hn.1 a b t n hm]
              have hlen := nextM_len hm
              simp only [List.length_cons] at hlen
              simp only [Option.bind_some]
              have hr : r.length + 1 = s.size - i := by have := congrArg List.length h; simp [bytesOf_length] at this; omega
              rw [if_neg (by omega), if_pos (by omega), if_pos (by omega), if_pos (by omega)]
              have e2 : (i : Int) + (n : Int) = ((i + n : Nat) : Int) := by omega
              rw [e2]
              exact ih ((c :: r).drop n) (i + n) k _ line (by rw [← h, List.drop_drop]) (by omega) (by simp; omega) (by simp; omega) (by simp; omega) (by omega) (by omega)
/-- What the scanner answers. -/
def scanA (s : ByteArray) : List TS × Int × Int := if 8192 < s.size then ([], 0, 4) else scanM s.size (bytesOf s) [] 1
theorem Scan_eq (s : ByteArray) : token_Scan.f s = some (scanA s) := by
  unfold token_Scan.f scanA
  by_cases h : 8192 < s.size
  · rw [if_pos (by omega), if_pos h]
  · rw [if_neg (by omega), if_neg h]
    have hl := bytesOf_length s
    have := scan_eq s (by omega) s.size (bytesOf s) 0 (s.size + 20) [] 1 rfl (by omega) (by omega) (by omega) (by simp) (by omega) (by omega)
    exact this

end Go.Proofs.YtcnmejahighkfaaDoor.Tok
-- Pf48
namespace Go.Proofs.YtcnmejahighkfaaDoor.P
open Go.RowKit Go.Proofs.YtcnmejahighkfaaDoorW.PrintWords Go.Proofs.YtcnmejahighkfaaDoorW.PrintLast Go.Proofs.YtcnmejahighkfaaDoorW.PrintMore
attribute [local go_sem] max2_int min2_int max_two min_two max_three min_three max_four min_four   -- for this text's walks alone
set_option linter.unusedVariables false
set_option linter.unusedSimpArgs false

/-! ### timeboundref02_letter: function 48 -/
def timeboundref02_letter.f (a0 : Int) : Option (Bool) := if a0 ≥ 97 then (some (decide (a0 ≤ 122))) else (some false)
set_option maxHeartbeats 8000000 in
set_option maxRecDepth 100000 in
theorem timeboundref02_letter.calls (a0 : Int) (r : Bool) (w : World) (h : timeboundref02_letter.f a0 = some r) :
    Calls Tryd.prog 48 #[.int .u8 a0] w fun e w' => e = .returned (.bool r) ∧ Drawn0 w w' := by
  have H : (if a0 ≥ 97 then (some (decide (a0 ≤ 122))) else (some false)) = some r := h
  clear h
  by_cases c2 : a0 ≥ 97
  · rw [if_pos c2] at H
    have c2b0 : decide (97 ≤ a0) = true := decide_eq_true c2
    clear c2
    obtain rfl := Option.some.inj H
    go_enter Tryd.func48, Tryd.ntmps48
    go_wp2
    go_ret
    exact ⟨by first | rfl | (simp; done) | (simp [*]; done), by repeat (first | exact Drawn0.refl _ | apply Drawn0.step)⟩
  · rw [if_neg c2] at H
    have c2b0 : decide (97 ≤ a0) = false := decide_eq_false c2
    clear c2
    obtain rfl := Option.some.inj H
    go_enter Tryd.func48, Tryd.ntmps48
    go_wp2
    go_ret
    exact ⟨by first | rfl | (simp; done) | (simp [*]; done), by repeat (first | exact Drawn0.refl _ | apply Drawn0.step)⟩

end Go.Proofs.YtcnmejahighkfaaDoor.P
-- Pf49
namespace Go.Proofs.YtcnmejahighkfaaDoor.P
open Go.RowKit Go.Proofs.YtcnmejahighkfaaDoorW.PrintWords Go.Proofs.YtcnmejahighkfaaDoorW.PrintLast Go.Proofs.YtcnmejahighkfaaDoorW.PrintMore
attribute [local go_sem] max2_int min2_int max_two min_two max_three min_three max_four min_four   -- for this text's walks alone
set_option linter.unusedVariables false
set_option linter.unusedSimpArgs false

/-! ### timeboundref02_digit: function 49 -/
def timeboundref02_digit.f (a0 : Int) : Option (Bool) := if a0 ≥ 48 then (some (decide (a0 ≤ 57))) else (some false)
set_option maxHeartbeats 8000000 in
set_option maxRecDepth 100000 in
theorem timeboundref02_digit.calls (a0 : Int) (r : Bool) (w : World) (h : timeboundref02_digit.f a0 = some r) :
    Calls Tryd.prog 49 #[.int .u8 a0] w fun e w' => e = .returned (.bool r) ∧ Drawn0 w w' := by
  have H : (if a0 ≥ 48 then (some (decide (a0 ≤ 57))) else (some false)) = some r := h
  clear h
  by_cases c2 : a0 ≥ 48
  · rw [if_pos c2] at H
    have c2b0 : decide (48 ≤ a0) = true := decide_eq_true c2
    clear c2
    obtain rfl := Option.some.inj H
    go_enter Tryd.func49, Tryd.ntmps49
    go_wp2
    go_ret
    exact ⟨by first | rfl | (simp; done) | (simp [*]; done), by repeat (first | exact Drawn0.refl _ | apply Drawn0.step)⟩
  · rw [if_neg c2] at H
    have c2b0 : decide (48 ≤ a0) = false := decide_eq_false c2
    clear c2
    obtain rfl := Option.some.inj H
    go_enter Tryd.func49, Tryd.ntmps49
    go_wp2
    go_ret
    exact ⟨by first | rfl | (simp; done) | (simp [*]; done), by repeat (first | exact Drawn0.refl _ | apply Drawn0.step)⟩

end Go.Proofs.YtcnmejahighkfaaDoor.P
-- Pf50
namespace Go.Proofs.YtcnmejahighkfaaDoor.P
open Go.RowKit Go.Proofs.YtcnmejahighkfaaDoorW.PrintWords Go.Proofs.YtcnmejahighkfaaDoorW.PrintLast Go.Proofs.YtcnmejahighkfaaDoorW.PrintMore
attribute [local go_sem] max2_int min2_int max_two min_two max_three min_three max_four min_four   -- for this text's walks alone
set_option linter.unusedVariables false
set_option linter.unusedSimpArgs false

/-! ### timeboundref02_value: function 50 -/
def timeboundref02_value.l0 : Nat → ByteArray → Int → Int → Option (Int)
  | 0, _, _, _ => none
  | k + 1, x0, x3, x4 => if x4 < (x0.size : Int) then (if 0 ≤ x4 then (if (wrap64 ((wrap64 (x3 * 10)) + (((bt x0 x4) - 48) % 256))) ≥ 2147483648 then (some (-1)) else (timeboundref02_value.l0 k x0 (wrap64 ((wrap64 (x3 * 10)) + (((bt x0 x4) - 48) % 256))) (wrap64 (x4 + 1)))) else (none)) else (some x3)
def timeboundref02_value.f (k : Nat) (a0 : ByteArray) : Option (Int) := timeboundref02_value.l0 k a0 0 0
theorem timeboundref02_value.mono_l : ∀ k, (∀ y0 y1 y2, LeO (timeboundref02_value.l0 k y0 y1 y2) (timeboundref02_value.l0 (k + 1) y0 y1 y2))
  | 0 => fun _ _ _ r h => by simp [timeboundref02_value.l0] at h
  | k + 1 => by
    have ih0 := timeboundref02_value.mono_l k
    · intro y0 y1 y2
      unfold timeboundref02_value.l0
      repeat' first
      | (with_reducible exact ih0 _ _ _)
      | (with_reducible exact LeO.refl _)
      | (with_reducible exact LeO.none _)
      | (with_reducible refine LeO.ite ?_ ?_)
      | (with_reducible refine LeO.bind ?_ (fun _ => ?_))
      | exact ih0 _ _ _
      | exact LeO.none _
      | refine LeO.ite ?_ ?_
      | refine LeO.bind ?_ (fun _ => ?_)
theorem timeboundref02_value.mono : ∀ a0 k, LeO (timeboundref02_value.f k a0) (timeboundref02_value.f (k + 1) a0) := by
  intro a0 k
  have ih0 := timeboundref02_value.mono_l k
  unfold timeboundref02_value.f
  repeat' first
      | (with_reducible exact ih0 _ _ _)
      | (with_reducible exact LeO.refl _)
      | (with_reducible exact LeO.none _)
      | (with_reducible refine LeO.ite ?_ ?_)
      | (with_reducible refine LeO.bind ?_ (fun _ => ?_))
      | exact ih0 _ _ _
      | exact LeO.none _
      | refine LeO.ite ?_ ?_
      | refine LeO.bind ?_ (fun _ => ?_)
set_option maxHeartbeats 8000000 in
set_option maxRecDepth 100000 in
theorem timeboundref02_value.calls (k : Nat) (a0 : ByteArray) (r : Int) (w : World) (h : timeboundref02_value.f k a0 = some r) :
    Calls Tryd.prog 50 #[.string a0] w fun e w' => e = .returned (.int .i64 r) ∧ Drawn0 w w' := by
  have H : (timeboundref02_value.l0 k a0 0 0) = some r := h
  clear h
  have H' := Aside0.mk H
  clear H
  go_enter Tryd.func50, Tryd.ntmps50
  go_wp2
  go_loopg [3, 4] k (fun kq v3 v4 w' => ∃ (x3_1 : Int) (x4_1 : Int), v3 = .int .i64 x3_1 ∧ v4 = .int .i64 x4_1 ∧ Aside0 (timeboundref02_value.l0 kq a0 x3_1 x4_1 = some r) ∧ Aside0 (kq ≤ k) ∧ Drawn0 w w')
  case atStart => exact ⟨(0), (0), (by first | rfl | (simp; done) | (simp [*]; done)), (by first | rfl | (simp; done) | (simp [*]; done)), H', ⟨Nat.le_refl _⟩, by repeat (first | exact Drawn0.refl _ | apply Drawn0.step)⟩
  case round =>
    clear H'
    obtain ⟨x3_1, x4_1, rfl, rfl, HA, HK1, ⟨m1, rfl⟩⟩ := hrel
    cases gk with
    | zero => exact absurd HA.out (by simp [timeboundref02_value.l0])
    | succ k1 =>
      have H := HA.out
      clear HA
      simp only [timeboundref02_value.l0] at H
      by_cases c2 : x4_1 < (a0.size : Int)
      · rw [if_pos c2] at H
        have c2b0 : decide (x4_1 < (a0.size : Int)) = true := decide_eq_true c2
        clear c2
        by_cases c3 : 0 ≤ x4_1
        · rw [if_pos c3] at H
          have c3b0 : decide (0 ≤ x4_1) = true := decide_eq_true c3
          clear c3
          by_cases c5 : (wrap64 ((wrap64 (x3_1 * 10)) + (((bt a0 x4_1) - 48) % 256))) ≥ 2147483648
          · rw [if_pos c5] at H
            have c5b0 : decide (2147483648 ≤ (wrap64 ((wrap64 (x3_1 * 10)) + (((bt a0 x4_1) - 48) % 256)))) = true := decide_eq_true c5
            clear c5
            obtain rfl := Option.some.inj H
            have p4 : 0 ≤ (x4_1 : Int) := of_decide_eq_true (by first | (with_reducible assumption) | assumption)
            have q4 : x4_1 < (a0.size : Int) := of_decide_eq_true (by first | (with_reducible assumption) | assumption)
            have hx4 := bt_at a0 x4_1
            replace p4 := eq_true p4
            replace q4 := eq_true q4
            go_wp2
            go_ret
            exact ⟨by first | rfl | (simp; done) | (simp [*]; done), by repeat (first | exact Drawn0.refl _ | apply Drawn0.step)⟩
          · rw [if_neg c5] at H
            have c5b0 : decide (2147483648 ≤ (wrap64 ((wrap64 (x3_1 * 10)) + (((bt a0 x4_1) - 48) % 256)))) = false := decide_eq_false c5
            clear c5
            have H' := Aside0.mk H
            clear H
            have p4 : 0 ≤ (x4_1 : Int) := of_decide_eq_true (by first | (with_reducible assumption) | assumption)
            have q4 : x4_1 < (a0.size : Int) := of_decide_eq_true (by first | (with_reducible assumption) | assumption)
            have hx4 := bt_at a0 x4_1
            replace p4 := eq_true p4
            replace q4 := eq_true q4
            go_wp2
            go_roundg k1
            case measure => have := HK1.out; omega
            case rel => exact ⟨(wrap64 ((wrap64 (x3_1 * 10)) + (((bt a0 x4_1) - 48) % 256))), (wrap64 (x4_1 + 1)), (by first | rfl | (simp; done) | (simp [*]; done)), (by first | rfl | (simp; done) | (simp [*]; done)), H', ⟨by have := HK1.out; omega⟩, by repeat (first | exact Drawn0.refl _ | apply Drawn0.step)⟩
        · rw [if_neg c3] at H
          exact absurd H (by simp)
      · rw [if_neg c2] at H
        have c2b0 : decide (x4_1 < (a0.size : Int)) = false := decide_eq_false c2
        clear c2
        obtain rfl := Option.some.inj H
        go_wp2
        go_ret
        exact ⟨by first | rfl | (simp; done) | (simp [*]; done), by repeat (first | exact Drawn0.refl _ | apply Drawn0.step)⟩

end Go.Proofs.YtcnmejahighkfaaDoor.P
-- Pf74
namespace Go.Proofs.YtcnmejahighkfaaDoor.P
open Go.RowKit Go.Proofs.YtcnmejahighkfaaDoorW.PrintWords Go.Proofs.YtcnmejahighkfaaDoorW.PrintLast Go.Proofs.YtcnmejahighkfaaDoorW.PrintMore
attribute [local go_sem] max2_int min2_int max_two min_two max_three min_three max_four min_four   -- for this text's walks alone
set_option linter.unusedVariables false
set_option linter.unusedSimpArgs false

/-! ### timeboundref02_Signs: function 74 -/
def timeboundref02_Signs.f  : Option (List ByteArray) := some (([(⟨#[60, 60]⟩ : ByteArray), (⟨#[62, 62]⟩ : ByteArray), (⟨#[60, 61]⟩ : ByteArray), (⟨#[61, 61]⟩ : ByteArray), (⟨#[33, 61]⟩ : ByteArray), (⟨#[43]⟩ : ByteArray), (⟨#[45]⟩ : ByteArray), (⟨#[42]⟩ : ByteArray), (⟨#[47]⟩ : ByteArray), (⟨#[37]⟩ : ByteArray), (⟨#[38]⟩ : ByteArray), (⟨#[124]⟩ : ByteArray), (⟨#[94]⟩ : ByteArray), (⟨#[60]⟩ : ByteArray), (⟨#[61]⟩ : ByteArray), (⟨#[40]⟩ : ByteArray), (⟨#[41]⟩ : ByteArray), (⟨#[91]⟩ : ByteArray), (⟨#[93]⟩ : ByteArray), (⟨#[123]⟩ : ByteArray), (⟨#[125]⟩ : ByteArray)] : List ByteArray))
set_option maxHeartbeats 8000000 in
set_option maxRecDepth 100000 in
theorem timeboundref02_Signs.calls  (r : List ByteArray) (w : World) (h : timeboundref02_Signs.f  = some r) :
    Calls Tryd.prog 74 #[] w fun e w' => ∃ v0_ : Value, e = .returned (v0_) ∧ Kd.R Kd.string 9 w' w.heap.size (fun _ => True) v0_ r ∧ Below w.heap.size w w' := by
  have HB := Aside0.mk (Below.refl w.heap.size w)
  have H : (some (([(⟨#[60, 60]⟩ : ByteArray), (⟨#[62, 62]⟩ : ByteArray), (⟨#[60, 61]⟩ : ByteArray), (⟨#[61, 61]⟩ : ByteArray), (⟨#[33, 61]⟩ : ByteArray), (⟨#[43]⟩ : ByteArray), (⟨#[45]⟩ : ByteArray), (⟨#[42]⟩ : ByteArray), (⟨#[47]⟩ : ByteArray), (⟨#[37]⟩ : ByteArray), (⟨#[38]⟩ : ByteArray), (⟨#[124]⟩ : ByteArray), (⟨#[94]⟩ : ByteArray), (⟨#[60]⟩ : ByteArray), (⟨#[61]⟩ : ByteArray), (⟨#[40]⟩ : ByteArray), (⟨#[41]⟩ : ByteArray), (⟨#[91]⟩ : ByteArray), (⟨#[93]⟩ : ByteArray), (⟨#[123]⟩ : ByteArray), (⟨#[125]⟩ : ByteArray)] : List ByteArray))) = some r := h
  clear h
  obtain ⟨y130, hy130⟩ : ∃ y_ : List ByteArray, y_ = (([(⟨#[60, 60]⟩ : ByteArray), (⟨#[62, 62]⟩ : ByteArray), (⟨#[60, 61]⟩ : ByteArray), (⟨#[61, 61]⟩ : ByteArray), (⟨#[33, 61]⟩ : ByteArray), (⟨#[43]⟩ : ByteArray), (⟨#[45]⟩ : ByteArray), (⟨#[42]⟩ : ByteArray), (⟨#[47]⟩ : ByteArray), (⟨#[37]⟩ : ByteArray), (⟨#[38]⟩ : ByteArray), (⟨#[124]⟩ : ByteArray), (⟨#[94]⟩ : ByteArray), (⟨#[60]⟩ : ByteArray), (⟨#[61]⟩ : ByteArray), (⟨#[40]⟩ : ByteArray), (⟨#[41]⟩ : ByteArray), (⟨#[91]⟩ : ByteArray), (⟨#[93]⟩ : ByteArray), (⟨#[123]⟩ : ByteArray), (⟨#[125]⟩ : ByteArray)] : List ByteArray)) := ⟨_, rfl⟩
  replace H : (some y130) = some r := by first | (rw [hy130]; with_reducible exact H) | (have H2_ := (Option.bind_some _ _).symm.trans H; rw [hy130]; with_reducible exact H2_) | (have H2_ := (Option.bind_some _ _).symm.trans H; with_reducible exact H2_) | with_reducible exact H | (rw [hy130]; exact H) | exact H
  have Ny130 := Aside0.mk hy130
  clear hy130
  obtain rfl := Option.some.inj H
  go_enter Tryd.func74, Tryd.ntmps74
  go_wp2_with (first | ((with_reducible refine gate_dst (N := 1) rfl ?_); refine Kd.R_lit Kd.string _ 9 ?hg (N := 1) ?hd (xs := ([(⟨#[60, 60]⟩ : ByteArray), (⟨#[62, 62]⟩ : ByteArray), (⟨#[60, 61]⟩ : ByteArray), (⟨#[61, 61]⟩ : ByteArray), (⟨#[33, 61]⟩ : ByteArray), (⟨#[43]⟩ : ByteArray), (⟨#[45]⟩ : ByteArray), (⟨#[42]⟩ : ByteArray), (⟨#[47]⟩ : ByteArray), (⟨#[37]⟩ : ByteArray), (⟨#[38]⟩ : ByteArray), (⟨#[124]⟩ : ByteArray), (⟨#[94]⟩ : ByteArray), (⟨#[60]⟩ : ByteArray), (⟨#[61]⟩ : ByteArray), (⟨#[40]⟩ : ByteArray), (⟨#[41]⟩ : ByteArray), (⟨#[91]⟩ : ByteArray), (⟨#[93]⟩ : ByteArray), (⟨#[123]⟩ : ByteArray), (⟨#[125]⟩ : ByteArray)] : List ByteArray)) (inner := [.string (⟨#[60, 60]⟩ : ByteArray), .string (⟨#[62, 62]⟩ : ByteArray), .string (⟨#[60, 61]⟩ : ByteArray), .string (⟨#[61, 61]⟩ : ByteArray), .string (⟨#[33, 61]⟩ : ByteArray), .string (⟨#[43]⟩ : ByteArray), .string (⟨#[45]⟩ : ByteArray), .string (⟨#[42]⟩ : ByteArray), .string (⟨#[47]⟩ : ByteArray), .string (⟨#[37]⟩ : ByteArray), .string (⟨#[38]⟩ : ByteArray), .string (⟨#[124]⟩ : ByteArray), .string (⟨#[94]⟩ : ByteArray), .string (⟨#[60]⟩ : ByteArray), .string (⟨#[61]⟩ : ByteArray), .string (⟨#[40]⟩ : ByteArray), .string (⟨#[41]⟩ : ByteArray), .string (⟨#[91]⟩ : ByteArray), .string (⟨#[93]⟩ : ByteArray), .string (⟨#[123]⟩ : ByteArray), .string (⟨#[125]⟩ : ByteArray)]) (ok := fun _ => True) (okp := fun _ => True) ?hr ?hp (fun _ hk => hk) trivial (Below.refl _ _) (Nat.le_refl _) (by simp) ?_; (case hd => rfl); (case hg => rfl); (case hr => first | (go_simp; done) | (go_simp; rfl)); (case hp => exact (Reps.one (show Kd.M Kd.string _ _ _ (⟨#[60, 60]⟩ : ByteArray) [.string (⟨#[60, 60]⟩ : ByteArray)] from rfl) (Reps.one (show Kd.M Kd.string _ _ _ (⟨#[62, 62]⟩ : ByteArray) [.string (⟨#[62, 62]⟩ : ByteArray)] from rfl) (Reps.one (show Kd.M Kd.string _ _ _ (⟨#[60, 61]⟩ : ByteArray) [.string (⟨#[60, 61]⟩ : ByteArray)] from rfl) (Reps.one (show Kd.M Kd.string _ _ _ (⟨#[61, 61]⟩ : ByteArray) [.string (⟨#[61, 61]⟩ : ByteArray)] from rfl) (Reps.one (show Kd.M Kd.string _ _ _ (⟨#[33, 61]⟩ : ByteArray) [.string (⟨#[33, 61]⟩ : ByteArray)] from rfl) (Reps.one (show Kd.M Kd.string _ _ _ (⟨#[43]⟩ : ByteArray) [.string (⟨#[43]⟩ : ByteArray)] from rfl) (Reps.one (show Kd.M Kd.string _ _ _ (⟨#[45]⟩ : ByteArray) [.string (⟨#[45]⟩ : ByteArray)] from rfl) (Reps.one (show Kd.M Kd.string _ _ _ (⟨#[42]⟩ : ByteArray) [.string (⟨#[42]⟩ : ByteArray)] from rfl) (Reps.one (show Kd.M Kd.string _ _ _ (⟨#[47]⟩ : ByteArray) [.string (⟨#[47]⟩ : ByteArray)] from rfl) (Reps.one (show Kd.M Kd.string _ _ _ (⟨#[37]⟩ : ByteArray) [.string (⟨#[37]⟩ : ByteArray)] from rfl) (Reps.one (show Kd.M Kd.string _ _ _ (⟨#[38]⟩ : ByteArray) [.string (⟨#[38]⟩ : ByteArray)] from rfl) (Reps.one (show Kd.M Kd.string _ _ _ (⟨#[124]⟩ : ByteArray) [.string (⟨#[124]⟩ : ByteArray)] from rfl) (Reps.one (show Kd.M Kd.string _ _ _ (⟨#[94]⟩ : ByteArray) [.string (⟨#[94]⟩ : ByteArray)] from rfl) (Reps.one (show Kd.M Kd.string _ _ _ (⟨#[60]⟩ : ByteArray) [.string (⟨#[60]⟩ : ByteArray)] from rfl) (Reps.one (show Kd.M Kd.string _ _ _ (⟨#[61]⟩ : ByteArray) [.string (⟨#[61]⟩ : ByteArray)] from rfl) (Reps.one (show Kd.M Kd.string _ _ _ (⟨#[40]⟩ : ByteArray) [.string (⟨#[40]⟩ : ByteArray)] from rfl) (Reps.one (show Kd.M Kd.string _ _ _ (⟨#[41]⟩ : ByteArray) [.string (⟨#[41]⟩ : ByteArray)] from rfl) (Reps.one (show Kd.M Kd.string _ _ _ (⟨#[91]⟩ : ByteArray) [.string (⟨#[91]⟩ : ByteArray)] from rfl) (Reps.one (show Kd.M Kd.string _ _ _ (⟨#[93]⟩ : ByteArray) [.string (⟨#[93]⟩ : ByteArray)] from rfl) (Reps.one (show Kd.M Kd.string _ _ _ (⟨#[123]⟩ : ByteArray) [.string (⟨#[123]⟩ : ByteArray)] from rfl) (Reps.one (show Kd.M Kd.string _ _ _ (⟨#[125]⟩ : ByteArray) [.string (⟨#[125]⟩ : ByteArray)] from rfl) (Reps.none _ _))))))))))))))))))))))); intro v131 w1 ho2 hb hg_ hnew_; clear hg_ hnew_; (first | rw [← Ny130.out] at ho2 | (simp only [Int.reduceToNat] at ho2; rw [← Ny130.out] at ho2)); have n0_ := Aside0.mk (Kd.R_lower ho2 (below_size (by repeat (first | (with_reducible first | exact HB.out | apply below_alloc | apply pw_below_drewN | apply below_drew1) | exact HB.out)))); have n1_ := Aside0.mk (below_step (by repeat (first | (with_reducible first | exact HB.out | apply below_alloc | apply pw_below_drewN | apply below_drew1) | exact HB.out)) hb); clear HB; have HO132 := n0_; have HB := n1_; clear n0_ n1_; clear hb ho2))
  go_ret
  exact ⟨_, by first | rfl | (simp [errW_none, errW_some] <;> rfl) | (simp [*, errW_none, errW_some] <;> rfl), by (with_reducible repeat (first | apply Kd.R_alloc | apply Kd.R_drewN | apply Kd.R_drew)); exact HO132.out, by repeat (first | (with_reducible first | exact HB.out | apply below_alloc | apply pw_below_drewN | apply below_drew1) | exact HB.out)⟩

end Go.Proofs.YtcnmejahighkfaaDoor.P
-- Pf51
namespace Go.Proofs.YtcnmejahighkfaaDoor.P
open Go.RowKit Go.Proofs.YtcnmejahighkfaaDoorW.PrintWords Go.Proofs.YtcnmejahighkfaaDoorW.PrintLast Go.Proofs.YtcnmejahighkfaaDoorW.PrintMore
attribute [local go_sem] max2_int min2_int max_two min_two max_three min_three max_four min_four   -- for this text's walks alone
set_option linter.unusedVariables false
set_option linter.unusedSimpArgs false

/-! ### timeboundref02_sign: function 51 -/
def timeboundref02_sign.l0 : Nat → ByteArray → List ByteArray → Int → Option (ByteArray)
  | 0, _, _, _ => none
  | k + 1, x0, x3, x4 => if x4 < (x3.length : Int) then (if 0 ≤ x4 then (if (x0.size : Int) ≥ ((rdOf ByteArray.empty x3 x4).size : Int) then (if 0 ≤ ((rdOf ByteArray.empty x3 x4).size : Int) then (if ((rdOf ByteArray.empty x3 x4).size : Int) ≤ (x0.size : Int) then (if (x0.extract 0 (((rdOf ByteArray.empty x3 x4).size : Int) : Int).toNat).toList = (rdOf ByteArray.empty x3 x4).toList then (some (rdOf ByteArray.empty x3 x4)) else (timeboundref02_sign.l0 k x0 x3 (wrap64 (x4 + 1)))) else (none)) else (none)) else (timeboundref02_sign.l0 k x0 x3 (wrap64 (x4 + 1)))) else (none)) else (some (⟨#[]⟩ : ByteArray))
def timeboundref02_sign.f (k : Nat) (a0 : ByteArray) : Option (ByteArray) := (timeboundref02_Signs.f).bind fun t133 => (timeboundref02_sign.l0 k a0 t133 0)
theorem timeboundref02_sign.mono_l : ∀ k, (∀ y0 y1 y2, LeO (timeboundref02_sign.l0 k y0 y1 y2) (timeboundref02_sign.l0 (k + 1) y0 y1 y2))
  | 0 => fun _ _ _ r h => by simp [timeboundref02_sign.l0] at h
  | k + 1 => by
    have ih0 := timeboundref02_sign.mono_l k
    · intro y0 y1 y2
      unfold timeboundref02_sign.l0
      repeat' first
      | (with_reducible exact ih0 _ _ _)
      | (with_reducible exact LeO.refl _)
      | (with_reducible exact LeO.none _)
      | (with_reducible refine LeO.ite ?_ ?_)
      | (with_reducible refine LeO.bind ?_ (fun _ => ?_))
      | exact ih0 _ _ _
      | exact LeO.none _
      | refine LeO.ite ?_ ?_
      | refine LeO.bind ?_ (fun _ => ?_)
theorem timeboundref02_sign.mono : ∀ a0 k, LeO (timeboundref02_sign.f k a0) (timeboundref02_sign.f (k + 1) a0) := by
  intro a0 k
  have ih0 := timeboundref02_sign.mono_l k
  unfold timeboundref02_sign.f
  repeat' first
      | (with_reducible exact ih0 _ _ _)
      | (with_reducible exact LeO.refl _)
      | (with_reducible exact LeO.none _)
      | (with_reducible refine LeO.ite ?_ ?_)
      | (with_reducible refine LeO.bind ?_ (fun _ => ?_))
      | exact ih0 _ _ _
      | exact LeO.none _
      | refine LeO.ite ?_ ?_
      | refine LeO.bind ?_ (fun _ => ?_)
set_option maxHeartbeats 8000000 in
set_option maxRecDepth 100000 in
theorem timeboundref02_sign.calls (k : Nat) (a0 : ByteArray) (r : ByteArray) (w : World) (h : timeboundref02_sign.f k a0 = some r) :
    Calls Tryd.prog 51 #[.string a0] w fun e w' => e = .returned (.string r) ∧ Below w.heap.size w w' := by
  have HB := Aside0.mk (Below.refl w.heap.size w)
  have H : ((timeboundref02_Signs.f).bind fun t133 => (timeboundref02_sign.l0 k a0 t133 0)) = some r := h
  clear h
  replace H := Option.bind_eq_some_iff.mp H
  obtain ⟨t133, A20, H⟩ := H
  replace H : (timeboundref02_sign.l0 k a0 t133 0) = some r := H
  have A2 := Aside0.mk A20
  clear A20
  have H' := Aside0.mk H
  clear H
  go_enter Tryd.func51, Tryd.ntmps51
  go_wp2_with (first | (go_at_call 74; (with_reducible refine (timeboundref02_Signs.calls  t133 _ A2.out).mono ?_); rintro e w3 ⟨v134, rfl, ho0, hb⟩; have n0_ := Aside0.mk (Kd.R_lower ho0 (below_size (by repeat (first | (with_reducible first | exact HB.out | apply below_alloc | apply pw_below_drewN | apply below_drew1) | exact HB.out)))); have n1_ := Aside0.mk (below_step (by repeat (first | (with_reducible first | exact HB.out | apply below_alloc | apply pw_below_drewN | apply below_drew1) | exact HB.out)) hb); clear HB; have HO135 := n0_; have HB := n1_; clear n0_ n1_; (try clear hb); (try clear hb2); (try clear hk); (try clear hi); (try clear ho0)))
  repeat (go_quiet (first | (go_at_call 74; (with_reducible refine (timeboundref02_Signs.calls  t133 _ A2.out).mono ?_); rintro e w3 ⟨v134, rfl, ho0, hb⟩; have n0_ := Aside0.mk (Kd.R_lower ho0 (below_size (by repeat (first | (with_reducible first | exact HB.out | apply below_alloc | apply pw_below_drewN | apply below_drew1) | exact HB.out)))); have n1_ := Aside0.mk (below_step (by repeat (first | (with_reducible first | exact HB.out | apply below_alloc | apply pw_below_drewN | apply below_drew1) | exact HB.out)) hb); clear HB; have HO135 := n0_; have HB := n1_; clear n0_ n1_; (try clear hb); (try clear hb2); (try clear hk); (try clear hi); (try clear ho0))); try go_wp2_with (first | (go_at_call 74; (with_reducible refine (timeboundref02_Signs.calls  t133 _ A2.out).mono ?_); rintro e w3 ⟨v134, rfl, ho0, hb⟩; have n0_ := Aside0.mk (Kd.R_lower ho0 (below_size (by repeat (first | (with_reducible first | exact HB.out | apply below_alloc | apply pw_below_drewN | apply below_drew1) | exact HB.out)))); have n1_ := Aside0.mk (below_step (by repeat (first | (with_reducible first | exact HB.out | apply below_alloc | apply pw_below_drewN | apply below_drew1) | exact HB.out)) hb); clear HB; have HO135 := n0_; have HB := n1_; clear n0_ n1_; (try clear hb); (try clear hb2); (try clear hk); (try clear hi); (try clear ho0))))
  go_loopg [4] k (fun kq v4 w' => ∃ (x4_1 : Int), v4 = .int .i64 x4_1 ∧ Aside0 (timeboundref02_sign.l0 kq a0 t133 x4_1 = some r) ∧ Aside0 (kq ≤ k) ∧ Aside0 (Kd.R Kd.string 9 w' w.heap.size (fun _ => True) v134 t133) ∧ Aside0 (Below w.heap.size w w'))
  case atStart => exact ⟨(0), (by first | rfl | (simp; done) | (simp [*]; done)), H', ⟨Nat.le_refl _⟩, ⟨by (with_reducible repeat (first | apply Kd.R_alloc | apply Kd.R_drewN | apply Kd.R_drew)); exact HO135.out⟩, ⟨by repeat (first | (with_reducible first | exact HB.out | apply below_alloc | apply pw_below_drewN | apply below_drew1) | exact HB.out)⟩⟩
  case round =>
    clear H'
    try clear p2
    obtain ⟨x4_1, rfl, HA, HK1, HO_3, HB⟩ := hrel
    cases gk with
    | zero => exact absurd HA.out (by simp [timeboundref02_sign.l0])
    | succ k1 =>
      have H := HA.out
      clear HA
      simp only [timeboundref02_sign.l0] at H
      by_cases c4 : x4_1 < (t133.length : Int)
      · rw [if_pos c4] at H
        have c4b0 : decide (x4_1 < (t133.length : Int)) = true := decide_eq_true c4
        clear c4
        by_cases c5 : 0 ≤ x4_1
        · rw [if_pos c5] at H
          have c5b0 : decide (0 ≤ x4_1) = true := decide_eq_true c5
          clear c5
          by_cases c6 : (a0.size : Int) ≥ ((rdOf ByteArray.empty t133 x4_1).size : Int)
          · rw [if_pos c6] at H
            have c6b0 : decide (((rdOf ByteArray.empty t133 x4_1).size : Int) ≤ (a0.size : Int)) = true := decide_eq_true c6
            have c6b1 : decide ((rdOf ByteArray.empty t133 x4_1).size ≤ a0.size) = true := decide_eq_true (Int.ofNat_le.mp c6)
            clear c6
            by_cases c7 : 0 ≤ ((rdOf ByteArray.empty t133 x4_1).size : Int)
            · rw [if_pos c7] at H
              have c7b0 := eq_true c7
              have c7b1 : decide (0 ≤ ((rdOf ByteArray.empty t133 x4_1).size : Int)) = true := decide_eq_true c7
              clear c7
              by_cases c8 : ((rdOf ByteArray.empty t133 x4_1).size : Int) ≤ (a0.size : Int)
              · rw [if_pos c8] at H
                have c8b0 := eq_true c8
                have c8b1 : decide (((rdOf ByteArray.empty t133 x4_1).size : Int) ≤ (a0.size : Int)) = true := decide_eq_true c8
                clear c8
                by_cases c9 : (a0.extract 0 (((rdOf ByteArray.empty t133 x4_1).size : Int) : Int).toNat).toList = (rdOf ByteArray.empty t133 x4_1).toList
                · rw [if_pos c9] at H
                  have c9b0 : ((a0.extract 0 (((rdOf ByteArray.empty t133 x4_1).size : Int) : Int).toNat).toList == (rdOf ByteArray.empty t133 x4_1).toList) = true := beq_iff_eq.mpr c9
                  have c9b0s := c9b0
                  (try simp only [Int.toNat_natCast] at c9b0s)
                  have c9b1 : ((a0.extract 0 (((rdOf ByteArray.empty t133 x4_1).size : Int) : Int).toNat).toList != (rdOf ByteArray.empty t133 x4_1).toList) = false := bne_eq_false_iff_eq.mpr c9
                  have c9b1s := c9b1
                  (try simp only [Int.toNat_natCast] at c9b1s)
                  clear c9
                  obtain rfl := Option.some.inj H
                  obtain ⟨Ao10, co10, eo10⟩ := Kd.R_slice HO_3.out
                  subst eo10
                  have p136 : 0 ≤ (x4_1 : Int) := of_decide_eq_true (by first | (with_reducible assumption) | assumption)
                  have q136 : x4_1 < (t133.length : Int) := of_decide_eq_true (by first | (with_reducible assumption) | assumption)
                  obtain ⟨ad136, e136, hx136_0⟩ := Kd.at_string (Kd.R_reads' HO_3.out).2.2 x4_1 p136 q136
                  cases e136
                  replace p136 := eq_true p136
                  replace q136 := eq_true q136
                  have p137 : 0 ≤ (x4_1 : Int) := of_decide_eq_true (by first | (with_reducible assumption) | assumption)
                  have q137 : x4_1 < (t133.length : Int) := of_decide_eq_true (by first | (with_reducible assumption) | assumption)
                  obtain ⟨ad137, e137, hx137_0⟩ := Kd.at_string (Kd.R_reads' HO_3.out).2.2 x4_1 p137 q137
                  obtain rfl : ad136 = ad137 := (by injection e137)
                  replace p137 := eq_true p137
                  replace q137 := eq_true q137
                  have p138 : 0 ≤ (x4_1 : Int) := of_decide_eq_true (by first | (with_reducible assumption) | assumption)
                  have q138 : x4_1 < (t133.length : Int) := of_decide_eq_true (by first | (with_reducible assumption) | assumption)
                  obtain ⟨ad138, e138, hx138_0⟩ := Kd.at_string (Kd.R_reads' HO_3.out).2.2 x4_1 p138 q138
                  obtain rfl : ad136 = ad138 := (by injection e138)
                  replace p138 := eq_true p138
                  replace q138 := eq_true q138
                  have p139 : 0 ≤ (x4_1 : Int) := of_decide_eq_true (by first | (with_reducible assumption) | assumption)
                  have q139 : x4_1 < (t133.length : Int) := of_decide_eq_true (by first | (with_reducible assumption) | assumption)
                  obtain ⟨ad139, e139, hx139_0⟩ := Kd.at_string (Kd.R_reads' HO_3.out).2.2 x4_1 p139 q139
                  obtain rfl : ad136 = ad139 := (by injection e139)
                  replace p139 := eq_true p139
                  replace q139 := eq_true q139
                  go_wp2
                  repeat (go_quiet (fail); try go_wp2)
                  go_ret
                  exact ⟨by first | rfl | (simp [errW_none, errW_some] <;> rfl) | (simp [*, errW_none, errW_some] <;> rfl), by repeat (first | (with_reducible first | exact HB.out | apply below_alloc | apply pw_below_drewN | apply below_drew1) | exact HB.out)⟩
                · rw [if_neg c9] at H
                  have c9b0 : ((a0.extract 0 (((rdOf ByteArray.empty t133 x4_1).size : Int) : Int).toNat).toList == (rdOf ByteArray.empty t133 x4_1).toList) = false := beq_eq_false_iff_ne.mpr c9
                  have c9b0s := c9b0
                  (try simp only [Int.toNat_natCast] at c9b0s)
                  have c9b1 : ((a0.extract 0 (((rdOf ByteArray.empty t133 x4_1).size : Int) : Int).toNat).toList != (rdOf ByteArray.empty t133 x4_1).toList) = true := bne_iff_ne.mpr c9
                  have c9b1s := c9b1
                  (try simp only [Int.toNat_natCast] at c9b1s)
                  have H' := Aside0.mk H
                  clear H
                  obtain ⟨Ao11, co11, eo11⟩ := Kd.R_slice HO_3.out
                  subst eo11
                  have p136 : 0 ≤ (x4_1 : Int) := of_decide_eq_true (by first | (with_reducible assumption) | assumption)
                  have q136 : x4_1 < (t133.length : Int) := of_decide_eq_true (by first | (with_reducible assumption) | assumption)
                  obtain ⟨ad136, e136, hx136_0⟩ := Kd.at_string (Kd.R_reads' HO_3.out).2.2 x4_1 p136 q136
                  cases e136
                  replace p136 := eq_true p136
                  replace q136 := eq_true q136
                  have p137 : 0 ≤ (x4_1 : Int) := of_decide_eq_true (by first | (with_reducible assumption) | assumption)
                  have q137 : x4_1 < (t133.length : Int) := of_decide_eq_true (by first | (with_reducible assumption) | assumption)
                  obtain ⟨ad137, e137, hx137_0⟩ := Kd.at_string (Kd.R_reads' HO_3.out).2.2 x4_1 p137 q137
                  obtain rfl : ad136 = ad137 := (by injection e137)
                  replace p137 := eq_true p137
                  replace q137 := eq_true q137
                  have p138 : 0 ≤ (x4_1 : Int) := of_decide_eq_true (by first | (with_reducible assumption) | assumption)
                  have q138 : x4_1 < (t133.length : Int) := of_decide_eq_true (by first | (with_reducible assumption) | assumption)
                  obtain ⟨ad138, e138, hx138_0⟩ := Kd.at_string (Kd.R_reads' HO_3.out).2.2 x4_1 p138 q138
                  obtain rfl : ad136 = ad138 := (by injection e138)
                  replace p138 := eq_true p138
                  replace q138 := eq_true q138
                  go_wp2
                  repeat (go_quiet (fail); try go_wp2)
                  go_roundg k1
                  case measure => have := HK1.out; omega
                  case rel => exact ⟨(wrap64 (x4_1 + 1)), (by first | rfl | (simp; done) | (simp [*]; done)), H', ⟨by have := HK1.out; omega⟩, ⟨by (with_reducible repeat (first | apply Kd.R_alloc | apply Kd.R_drewN | apply Kd.R_drew)); exact HO_3.out⟩, ⟨by repeat (first | (with_reducible first | exact HB.out | apply below_alloc | apply pw_below_drewN | apply below_drew1) | exact HB.out)⟩⟩
              · rw [if_neg c8] at H
                exact absurd H (by simp)
            · rw [if_neg c7] at H
              exact absurd H (by simp)
          · rw [if_neg c6] at H
            have c6b0 : decide (((rdOf ByteArray.empty t133 x4_1).size : Int) ≤ (a0.size : Int)) = false := decide_eq_false c6
            have c6b1 : decide ((rdOf ByteArray.empty t133 x4_1).size ≤ a0.size) = false := decide_eq_false (fun h => c6 (Int.ofNat_le.mpr h))
            clear c6
            have H' := Aside0.mk H
            clear H
            obtain ⟨Ao12, co12, eo12⟩ := Kd.R_slice HO_3.out
            subst eo12
            have p136 : 0 ≤ (x4_1 : Int) := of_decide_eq_true (by first | (with_reducible assumption) | assumption)
            have q136 : x4_1 < (t133.length : Int) := of_decide_eq_true (by first | (with_reducible assumption) | assumption)
            obtain ⟨ad136, e136, hx136_0⟩ := Kd.at_string (Kd.R_reads' HO_3.out).2.2 x4_1 p136 q136
            cases e136
            replace p136 := eq_true p136
            replace q136 := eq_true q136
            go_wp2
            repeat (go_quiet (fail); try go_wp2)
            go_roundg k1
            case measure => have := HK1.out; omega
            case rel => exact ⟨(wrap64 (x4_1 + 1)), (by first | rfl | (simp; done) | (simp [*]; done)), H', ⟨by have := HK1.out; omega⟩, ⟨by (with_reducible repeat (first | apply Kd.R_alloc | apply Kd.R_drewN | apply Kd.R_drew)); exact HO_3.out⟩, ⟨by repeat (first | (with_reducible first | exact HB.out | apply below_alloc | apply pw_below_drewN | apply below_drew1) | exact HB.out)⟩⟩
        · rw [if_neg c5] at H
          exact absurd H (by simp)
      · rw [if_neg c4] at H
        have c4b0 : decide (x4_1 < (t133.length : Int)) = false := decide_eq_false c4
        clear c4
        obtain rfl := Option.some.inj H
        obtain ⟨Ao13, co13, eo13⟩ := Kd.R_slice HO_3.out
        subst eo13
        go_wp2
        repeat (go_quiet (fail); try go_wp2)
        go_ret
        exact ⟨by first | rfl | (simp [errW_none, errW_some] <;> rfl) | (simp [*, errW_none, errW_some] <;> rfl), by repeat (first | (with_reducible first | exact HB.out | apply below_alloc | apply pw_below_drewN | apply below_drew1) | exact HB.out)⟩

end Go.Proofs.YtcnmejahighkfaaDoor.P
