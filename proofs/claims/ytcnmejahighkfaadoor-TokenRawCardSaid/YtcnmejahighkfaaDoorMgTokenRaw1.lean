/- Part 1 of the texts for: At every text and every token, the program's scanner, its test for names and its words agree with the law's own, so TokenRaw answers true. No condition. -/
import Derived.Shelf.Strconv.Itoa0
import Derived.Shelf.Strconv.Itoa1
import Derived.Shelf.LaysM
import Derived.Shelf.Strconv.Itoa2
import Derived.Shelf.Strconv.Itoa3
import Derived.Shelf.Slices.Turned
import Derived.Test.YtcnmejahighkfaaDoorProg
import Derived.WalkKit
import Derived.WalkSmall
import Derived.Lib.AppendIntMem
import Derived.Lib.LaidTab
import Derived.MapKept
import Derived.Carry
import Derived.KernelRfl
import Derived.Below
import Derived.Deep.Draws
import Derived.Deep.AppendLies
import Derived.Maps.AppendAt
import Derived.OwnWalk
import Derived.Laws.BytesArg
import Derived.Laws.MakeOwn
import Derived.Laws.OwnMore
import Derived.Deep.OwnRows
import Derived.Tactics
import Derived.Lib.ConvBytes
import Derived.Laws.Slices
import Derived.RowKit3
import Derived.Deep.LoopGhost
import Derived.Deep.QuietTactic
import Derived.BigQuiet
import Derived.WideLaws
import Derived.Deep.DeepCutAuto
import Derived.Deep.CutBlock
import Derived.Deep.RegionHeld3
import Derived.Laws.Rows
import Derived.Lib.AppendStr
import Derived.ArgAppend
import Derived.Laws.IdiomCopy
import Derived.OrdersHeld
import Derived.Laws.BitsLemmas
import Derived.RowKit
import Derived.Test.YtcnmejahighkfaaDoorWWords
import Derived.Test.YtcnmejahighkfaaDoorWLast
import Derived.Test.YtcnmejahighkfaaDoorWTab
import Derived.Test.YtcnmejahighkfaaDoorWFour
import Derived.Test.YtcnmejahighkfaaDoorWQPut
import Derived.Test.YtcnmejahighkfaaDoorWApart
import Derived.Test.YtcnmejahighkfaaDoorWArr
import Derived.Test.YtcnmejahighkfaaDoorWZeros
import Derived.Test.YtcnmejahighkfaaDoorWFoot
import Derived.Test.YtcnmejahighkfaaDoorWKept
import Derived.Test.YtcnmejahighkfaaDoorWShare
import Derived.Test.YtcnmejahighkfaaDoorWN
import Derived.Test.YtcnmejahighkfaaDoorWFootNe
import Derived.Test.YtcnmejahighkfaaDoorWAt
import Derived.Test.YtcnmejahighkfaaDoorWEqStruct
import Derived.Test.YtcnmejahighkfaaDoorWRepsOne
import Derived.Test.YtcnmejahighkfaaDoorWInv
import Derived.Test.YtcnmejahighkfaaDoorWInvWords
import Derived.Test.YtcnmejahighkfaaDoorWGuard
import Derived.Test.YtcnmejahighkfaaDoorWNEv
import Derived.Test.YtcnmejahighkfaaDoorWMore
import Derived.Test.YtcnmejahighkfaaDoorMgTokenRaw0
-- Pf28
namespace Go.Proofs.YtcnmejahighkfaaDoor.P
open Go.RowKit Go.Proofs.YtcnmejahighkfaaDoorW.PrintWords Go.Proofs.YtcnmejahighkfaaDoorW.PrintLast Go.Proofs.YtcnmejahighkfaaDoorW.PrintMore
attribute [local go_sem] max2_int min2_int max_two min_two max_three min_three max_four min_four   -- for this text's walks alone
set_option linter.unusedVariables false
set_option linter.unusedSimpArgs false

/-! ### timeboundref02_Name: function 28 -/
mutual
def timeboundref02_Name.j0 : Nat → ByteArray → Bool → Option (Bool)
  | 0, _, _ => none
  | k + 1, x0, x17 => if x17 = true then (some false) else (timeboundref02_Name.l0 k x0 0)
def timeboundref02_Name.l0 : Nat → ByteArray → Int → Option (Bool)
  | 0, _, _ => none
  | k + 1, x0, x3 => if x3 < (x0.size : Int) then (if 0 ≤ x3 then ((timeboundref02_letter.f (bt x0 x3)).bind fun t355 => (if t355 = true then (timeboundref02_Name.l0 k x0 (wrap64 (x3 + 1))) else ((timeboundref02_digit.f (bt x0 x3)).bind fun t356 => (if t356 = true then (timeboundref02_Name.l0 k x0 (wrap64 (x3 + 1))) else (some false))))) else (none)) else (some true)
end
def timeboundref02_Name.f (k : Nat) (a0 : ByteArray) : Option (Bool) := if (a0.size : Int) < 1 then (timeboundref02_Name.j0 k a0 true) else (if (a0.size : Int) > 12 then (timeboundref02_Name.j0 k a0 true) else (if 0 < (a0.size : Int) then ((timeboundref02_letter.f (bt a0 0)).bind fun t354 => (timeboundref02_Name.j0 k a0 (!t354))) else (none)))
theorem timeboundref02_Name.mono_l : ∀ k, (∀ y0 y1, LeO (timeboundref02_Name.j0 k y0 y1) (timeboundref02_Name.j0 (k + 1) y0 y1)) ∧ (∀ y0 y1, LeO (timeboundref02_Name.l0 k y0 y1) (timeboundref02_Name.l0 (k + 1) y0 y1))
  | 0 => ⟨fun _ _ r h => by simp [timeboundref02_Name.j0] at h, fun _ _ r h => by simp [timeboundref02_Name.l0] at h⟩
  | k + 1 => by
    obtain ⟨ih0, ih1⟩ := timeboundref02_Name.mono_l k
    refine ⟨?_, ?_⟩
    · intro y0 y1
      unfold timeboundref02_Name.j0
      repeat' first
      | (with_reducible exact ih0 _ _)
      | (with_reducible exact ih1 _ _)
      | (with_reducible exact LeO.refl _)
      | (with_reducible exact LeO.none _)
      | (with_reducible refine LeO.ite ?_ ?_)
      | (with_reducible refine LeO.bind ?_ (fun _ => ?_))
      | exact ih0 _ _
      | exact ih1 _ _
      | exact LeO.none _
      | refine LeO.ite ?_ ?_
      | refine LeO.bind ?_ (fun _ => ?_)
    · intro y0 y1
      unfold timeboundref02_Name.l0
      repeat' first
      | (with_reducible exact ih0 _ _)
      | (with_reducible exact ih1 _ _)
      | (with_reducible exact LeO.refl _)
      | (with_reducible exact LeO.none _)
      | (with_reducible refine LeO.ite ?_ ?_)
      | (with_reducible refine LeO.bind ?_ (fun _ => ?_))
      | exact ih0 _ _
      | exact ih1 _ _
      | exact LeO.none _
      | refine LeO.ite ?_ ?_
      | refine LeO.bind ?_ (fun _ => ?_)
theorem timeboundref02_Name.mono : ∀ a0 k, LeO (timeboundref02_Name.f k a0) (timeboundref02_Name.f (k + 1) a0) := by
  intro a0 k
  obtain ⟨ih0, ih1⟩ := timeboundref02_Name.mono_l k
  unfold timeboundref02_Name.f
  repeat' first
      | (with_reducible exact ih0 _ _)
      | (with_reducible exact ih1 _ _)
      | (with_reducible exact LeO.refl _)
      | (with_reducible exact LeO.none _)
      | (with_reducible refine LeO.ite ?_ ?_)
      | (with_reducible refine LeO.bind ?_ (fun _ => ?_))
      | exact ih0 _ _
      | exact ih1 _ _
      | exact LeO.none _
      | refine LeO.ite ?_ ?_
      | refine LeO.bind ?_ (fun _ => ?_)
set_option maxHeartbeats 8000000 in
set_option maxRecDepth 100000 in
theorem timeboundref02_Name.calls (k : Nat) (a0 : ByteArray) (r : Bool) (w : World) (h : timeboundref02_Name.f k a0 = some r) :
    Calls Tryd.prog 28 #[.string a0] w fun e w' => e = .returned (.bool r) ∧ Drawn0 w w' := by
  have H : (if (a0.size : Int) < 1 then (timeboundref02_Name.j0 k a0 true) else (if (a0.size : Int) > 12 then (timeboundref02_Name.j0 k a0 true) else (if 0 < (a0.size : Int) then ((timeboundref02_letter.f (bt a0 0)).bind fun t354 => (timeboundref02_Name.j0 k a0 (!t354))) else (none)))) = some r := h
  clear h
  have HC2 := Aside0.mk H
  clear H
  go_enter Tryd.func28, Tryd.ntmps28
  go_upto_region 1 with (fail)
  go_cut [17] (fun v17 wc => ∃ (kq : Nat) (x17_1 : Bool), v17 = .bool x17_1 ∧ Aside0 (timeboundref02_Name.j0 kq a0 x17_1 = some r) ∧ Aside0 (kq ≤ k) ∧ Drawn0 w wc)
  case first =>
    have H := HC2.out
    clear HC2
    by_cases c3 : (a0.size : Int) < 1
    · rw [if_pos c3] at H
      have c3b0 : decide ((a0.size : Int) < 1) = true := decide_eq_true c3
      have c3b1 : decide (a0.size < 1) = true := decide_eq_true (by omega)
      clear c3
      (first | rw [c3b0] | (simp only [i64_w, i32_w]; rw [c3b0]) | skip)
      have H' := Aside0.mk H
      clear H
      go_wp2
      go_meet
      case rel => exact ⟨_, (true), (by first | rfl | (simp; done) | (simp [*]; done)), H', ⟨by first | omega | exact Nat.le_refl _⟩, by repeat (first | exact Drawn0.refl _ | apply Drawn0.step)⟩
    · rw [if_neg c3] at H
      have c3b0 : decide ((a0.size : Int) < 1) = false := decide_eq_false c3
      have c3b1 : decide (a0.size < 1) = false := decide_eq_false (by omega)
      clear c3
      (first | rw [c3b0] | (simp only [i64_w, i32_w]; rw [c3b0]) | skip)
      by_cases c4 : (a0.size : Int) > 12
      · rw [if_pos c4] at H
        have c4b0 : decide (12 < (a0.size : Int)) = true := decide_eq_true c4
        have c4b1 : decide (12 < a0.size) = true := decide_eq_true (by omega)
        clear c4
        have H' := Aside0.mk H
        clear H
        go_wp2
        go_meet
        case rel => exact ⟨_, (true), (by first | rfl | (simp; done) | (simp [*]; done)), H', ⟨by first | omega | exact Nat.le_refl _⟩, by repeat (first | exact Drawn0.refl _ | apply Drawn0.step)⟩
      · rw [if_neg c4] at H
        have c4b0 : decide (12 < (a0.size : Int)) = false := decide_eq_false c4
        have c4b1 : decide (12 < a0.size) = false := decide_eq_false (by omega)
        clear c4
        by_cases c5 : 0 < (a0.size : Int)
        · rw [if_pos c5] at H
          have c5b0 : decide (0 < (a0.size : Int)) = true := decide_eq_true c5
          have c5b1 : decide (0 < a0.size) = true := decide_eq_true (by omega)
          clear c5
          replace H := Option.bind_eq_some_iff.mp H
          obtain ⟨t354, A70, H⟩ := H
          replace H : (timeboundref02_Name.j0 k a0 (!t354)) = some r := H
          have A7 := Aside0.mk A70
          clear A70
          have H' := Aside0.mk H
          clear H
          have p6 : 0 ≤ (0 : Int) := (by omega)
          have q6 : 0 < a0.size := (by have : (0 : Int) < (a0.size : Int) := of_decide_eq_true (by first | (with_reducible assumption) | assumption); omega)
          have hx6 : ∀ h : 0 < a0.size, ((a0[0]'h).toNat : Int) = bt a0 0 := bt_at a0 0
          clear p6
          have qi6 : (0 < (a0.size : Int)) = True := eq_true (of_decide_eq_true (by first | (with_reducible assumption) | assumption))
          replace q6 := eq_true q6
          go_wp2_with (first | (go_at_call 48; (with_reducible refine (timeboundref02_letter.calls (bt a0 0) t354 _ A7.out).mono ?_); rintro e w' ⟨rfl, ⟨nd, rfl⟩⟩))
          go_meet
          case rel => exact ⟨_, (!t354), (by first | rfl | (simp; done) | (simp [*]; done)), H', ⟨by first | omega | exact Nat.le_refl _⟩, by repeat (first | exact Drawn0.refl _ | apply Drawn0.step)⟩
        · rw [if_neg c5] at H
          exact absurd H (by simp)
  case rest =>
    clear HC2
    try clear c2
    try clear p2
    try clear c3
    try clear c3b0
    try clear c3b1
    try clear c4
    try clear c4b0
    try clear c4b1
    try clear c5
    try clear c5b0
    try clear c5b1
    try clear p6
    try clear q6
    try clear hx6
    try clear qi6
    try clear p6
    try clear q6
    obtain ⟨kq, x17_1, rfl, HA, HJ1, ⟨mc1, rfl⟩⟩ := hcut
    cases kq with
    | zero => exact absurd HA.out (by simp [timeboundref02_Name.j0])
    | succ kj1 =>
      have H := HA.out
      clear HA
      simp only [timeboundref02_Name.j0] at H
      by_cases c8 : x17_1 = true
      · subst c8
        have H1 : (some false) = some r := by rw [if_pos rfl] at H; exact H
        clear H
        have H := H1
        clear H1
        obtain rfl := Option.some.inj H
        go_wp2
        go_ret
        exact ⟨by first | rfl | (simp; done) | (simp [*]; done), by repeat (first | exact Drawn0.refl _ | apply Drawn0.step)⟩
      · replace c8 := Bool.eq_false_iff.mpr c8
        subst c8
        have H1 : (timeboundref02_Name.l0 kj1 a0 0) = some r := by rw [if_neg (show ¬ (false = true) by decide)] at H; exact H
        clear H
        have H := H1
        clear H1
        have H' := Aside0.mk H
        clear H
        go_wp2
        go_loopg [3] kj1 (fun kq v3 w' => ∃ (x3_2 : Int), v3 = .int .i64 x3_2 ∧ Aside0 (timeboundref02_Name.l0 kq a0 x3_2 = some r) ∧ Aside0 (kq ≤ kj1) ∧ Drawn0 w w')
        case atStart => exact ⟨(0), (by first | rfl | (simp; done) | (simp [*]; done)), H', ⟨Nat.le_refl _⟩, by repeat (first | exact Drawn0.refl _ | apply Drawn0.step)⟩
        case round =>
          clear H'
          try clear c1
          try clear c2
          try clear p2
          try clear c3
          try clear c3b0
          try clear c3b1
          try clear c4
          try clear c4b0
          try clear c4b1
          try clear c5
          try clear c5b0
          try clear c5b1
          try clear p6
          try clear q6
          try clear hx6
          try clear qi6
          try clear c8
          try clear p2
          try clear p6
          try clear q6
          obtain ⟨x3_2, rfl, HA, HK2, ⟨m2, rfl⟩⟩ := hrel
          cases gk with
          | zero => exact absurd HA.out (by simp [timeboundref02_Name.l0])
          | succ k2 =>
            have H := HA.out
            clear HA
            simp only [timeboundref02_Name.l0] at H
            by_cases c9 : x3_2 < (a0.size : Int)
            · rw [if_pos c9] at H
              have c9b0 : decide (x3_2 < (a0.size : Int)) = true := decide_eq_true c9
              clear c9
              by_cases c10 : 0 ≤ x3_2
              · rw [if_pos c10] at H
                have c10b0 : decide (0 ≤ x3_2) = true := decide_eq_true c10
                clear c10
                replace H := Option.bind_eq_some_iff.mp H
                obtain ⟨t355, A120, H⟩ := H
                replace H : (if t355 = true then (timeboundref02_Name.l0 k2 a0 (wrap64 (x3_2 + 1))) else ((timeboundref02_digit.f (bt a0 x3_2)).bind fun t356 => (if t356 = true then (timeboundref02_Name.l0 k2 a0 (wrap64 (x3_2 + 1))) else (some false)))) = some r := H
                have A12 := Aside0.mk A120
                clear A120
                by_cases c13 : t355 = true
                · subst c13
                  have H1 : (timeboundref02_Name.l0 k2 a0 (wrap64 (x3_2 + 1))) = some r := by rw [if_pos rfl] at H; exact H
                  clear H
                  have H := H1
                  clear H1
                  have H' := Aside0.mk H
                  clear H
                  have p11 : 0 ≤ (x3_2 : Int) := of_decide_eq_true (by first | (with_reducible assumption) | assumption)
                  have q11 : x3_2 < (a0.size : Int) := of_decide_eq_true (by first | (with_reducible assumption) | assumption)
                  have hx11 := bt_at a0 x3_2
                  replace p11 := eq_true p11
                  replace q11 := eq_true q11
                  go_wp2_with (first | ((with_reducible refine gate_callee (f := 48) rfl ?_); refine goesL_ (some 27) rfl rfl Tryd.func48 (by kernel_rfl) rfl #[.int .u8 (bt a0 x3_2)] rfl (by (try simp only [List.map_toArray, List.map_cons, List.map_nil]); first | done | rfl | (simp only [List.length_drop, List.length_take]; rfl)) ?_; (with_reducible refine (timeboundref02_letter.calls (bt a0 x3_2) true _ A12.out).mono ?_); rintro e w' ⟨rfl, ⟨nd, rfl⟩⟩; refine ⟨_, rfl, ?_⟩))
                  go_roundg k2
                  case measure => have := HJ1.out; have := HK2.out; omega
                  case rel => exact ⟨(wrap64 (x3_2 + 1)), (by first | rfl | (simp; done) | (simp [*]; done)), H', ⟨by have := HJ1.out; have := HK2.out; omega⟩, by repeat (first | exact Drawn0.refl _ | apply Drawn0.step)⟩
                · replace c13 := Bool.eq_false_iff.mpr c13
                  subst c13
                  have H1 : ((timeboundref02_digit.f (bt a0 x3_2)).bind fun t356 => (if t356 = true then (timeboundref02_Name.l0 k2 a0 (wrap64 (x3_2 + 1))) else (some false))) = some r := by rw [if_neg (show ¬ (false = true) by decide)] at H; exact H
                  clear H
                  have H := H1
                  clear H1
                  replace H := Option.bind_eq_some_iff.mp H
                  obtain ⟨t356, A150, H⟩ := H
                  replace H : (if t356 = true then (timeboundref02_Name.l0 k2 a0 (wrap64 (x3_2 + 1))) else (some false)) = some r := H
                  have A15 := Aside0.mk A150
                  clear A150
                  by_cases c16 : t356 = true
                  · subst c16
                    have H1 : (timeboundref02_Name.l0 k2 a0 (wrap64 (x3_2 + 1))) = some r := by rw [if_pos rfl] at H; exact H
                    clear H
                    have H := H1
                    clear H1
                    have H' := Aside0.mk H
                    clear H
                    have p11 : 0 ≤ (x3_2 : Int) := of_decide_eq_true (by first | (with_reducible assumption) | assumption)
                    have q11 : x3_2 < (a0.size : Int) := of_decide_eq_true (by first | (with_reducible assumption) | assumption)
                    have hx11 := bt_at a0 x3_2
                    replace p11 := eq_true p11
                    replace q11 := eq_true q11
                    go_wp2_with (first | ((with_reducible refine gate_callee (f := 48) rfl ?_); refine goesL_ (some 27) rfl rfl Tryd.func48 (by kernel_rfl) rfl #[.int .u8 (bt a0 x3_2)] rfl (by (try simp only [List.map_toArray, List.map_cons, List.map_nil]); first | done | rfl | (simp only [List.length_drop, List.length_take]; rfl)) ?_; (with_reducible refine (timeboundref02_letter.calls (bt a0 x3_2) false _ A12.out).mono ?_); rintro e w' ⟨rfl, ⟨nd, rfl⟩⟩; refine ⟨_, rfl, ?_⟩; have p14 : 0 ≤ (x3_2 : Int) := of_decide_eq_true (by first | (with_reducible assumption) | assumption); have q14 : x3_2 < (a0.size : Int) := of_decide_eq_true (by first | (with_reducible assumption) | assumption); have hx14 := bt_at a0 x3_2; replace p14 := eq_true p14; replace q14 := eq_true q14) | (go_at_call 49; (with_reducible refine (timeboundref02_digit.calls (bt a0 x3_2) true _ A15.out).mono ?_); rintro e w' ⟨rfl, ⟨nd, rfl⟩⟩))
                    go_roundg k2
                    case measure => have := HJ1.out; have := HK2.out; omega
                    case rel => exact ⟨(wrap64 (x3_2 + 1)), (by first | rfl | (simp; done) | (simp [*]; done)), H', ⟨by have := HJ1.out; have := HK2.out; omega⟩, by repeat (first | exact Drawn0.refl _ | apply Drawn0.step)⟩
                  · replace c16 := Bool.eq_false_iff.mpr c16
                    subst c16
                    have H1 : (some false) = some r := by rw [if_neg (show ¬ (false = true) by decide)] at H; exact H
                    clear H
                    have H := H1
                    clear H1
                    obtain rfl := Option.some.inj H
                    have p11 : 0 ≤ (x3_2 : Int) := of_decide_eq_true (by first | (with_reducible assumption) | assumption)
                    have q11 : x3_2 < (a0.size : Int) := of_decide_eq_true (by first | (with_reducible assumption) | assumption)
                    have hx11 := bt_at a0 x3_2
                    replace p11 := eq_true p11
                    replace q11 := eq_true q11
                    go_wp2_with (first | ((with_reducible refine gate_callee (f := 48) rfl ?_); refine goesL_ (some 27) rfl rfl Tryd.func48 (by kernel_rfl) rfl #[.int .u8 (bt a0 x3_2)] rfl (by (try simp only [List.map_toArray, List.map_cons, List.map_nil]); first | done | rfl | (simp only [List.length_drop, List.length_take]; rfl)) ?_; (with_reducible refine (timeboundref02_letter.calls (bt a0 x3_2) false _ A12.out).mono ?_); rintro e w' ⟨rfl, ⟨nd, rfl⟩⟩; refine ⟨_, rfl, ?_⟩; have p14 : 0 ≤ (x3_2 : Int) := of_decide_eq_true (by first | (with_reducible assumption) | assumption); have q14 : x3_2 < (a0.size : Int) := of_decide_eq_true (by first | (with_reducible assumption) | assumption); have hx14 := bt_at a0 x3_2; replace p14 := eq_true p14; replace q14 := eq_true q14) | (go_at_call 49; (with_reducible refine (timeboundref02_digit.calls (bt a0 x3_2) false _ A15.out).mono ?_); rintro e w' ⟨rfl, ⟨nd, rfl⟩⟩))
                    go_ret
                    exact ⟨by first | rfl | (simp; done) | (simp [*]; done), by repeat (first | exact Drawn0.refl _ | apply Drawn0.step)⟩
              · rw [if_neg c10] at H
                exact absurd H (by simp)
            · rw [if_neg c9] at H
              have c9b0 : decide (x3_2 < (a0.size : Int)) = false := decide_eq_false c9
              clear c9
              obtain rfl := Option.some.inj H
              go_wp2
              go_ret
              exact ⟨by first | rfl | (simp; done) | (simp [*]; done), by repeat (first | exact Drawn0.refl _ | apply Drawn0.step)⟩

end Go.Proofs.YtcnmejahighkfaaDoor.P
-- Pf52
namespace Go.Proofs.YtcnmejahighkfaaDoor.P
open Go.RowKit Go.Proofs.YtcnmejahighkfaaDoorW.PrintWords Go.Proofs.YtcnmejahighkfaaDoorW.PrintLast Go.Proofs.YtcnmejahighkfaaDoorW.PrintMore
attribute [local go_sem] max2_int min2_int max_two min_two max_three min_three max_four min_four   -- for this text's walks alone
set_option linter.unusedVariables false
set_option linter.unusedSimpArgs false

/-! ### token_signs: function 52 -/
/-- The signs. -/
def signList : List ByteArray := [⟨#[43]⟩, ⟨#[45]⟩, ⟨#[42]⟩, ⟨#[47]⟩, ⟨#[37]⟩, ⟨#[38]⟩, ⟨#[124]⟩, ⟨#[94]⟩, ⟨#[60, 60]⟩, ⟨#[62, 62]⟩, ⟨#[60]⟩, ⟨#[60, 61]⟩, ⟨#[61, 61]⟩, ⟨#[33, 61]⟩, ⟨#[61]⟩, ⟨#[40]⟩, ⟨#[41]⟩, ⟨#[91]⟩, ⟨#[93]⟩, ⟨#[123]⟩, ⟨#[125]⟩]
def isSign (s : ByteArray) : Bool := decide (s ∈ signList)
/-- A map that holds the signs. -/
def SignsAt (w : World) (b : Nat) : Prop := MapOf (fun s : ByteArray => Value.string s) w b (signList.map fun s => (s, Value.bool true))
theorem mlook_all (l : List ByteArray) (s : ByteArray) : (mlook (l.map fun s => (s, Value.bool true)) s).getD (.bool false) = .bool (decide (s ∈ l)) := by
  induction l with
  | nil => simp [mlook]
  | cons a r ih =>
    simp only [List.map_cons, mlook]
    by_cases h : a = s
    · subst h; simp
    · rw [if_neg h, ih]
      have : ¬ s = a := fun q => h q.symm
      simp [this]
theorem SignsAt.below {w w' : World} {b : Nat} (h : SignsAt w b) (hb : Below w.heap.size w w') : SignsAt w' b := MapOf.below h hb
theorem SignsAt.keep {w w' : World} {b : Nat} (h : SignsAt w b) (hb : w'.heap[b]? = w.heap[b]?) : SignsAt w' b := MapOf.keep h hb
theorem SignsAt.lt {w : World} {b : Nat} (h : SignsAt w b) : b < w.heap.size := MapOf.lt h
theorem SignsAt.look {w : World} {b : Nat} (h : SignsAt w b) (s : ByteArray) : (Instr.lookup 98 (.map (some b)) (.string s) false).run Tryd.prog w = .ok (.bool (isSign s)) w := by
  have := run_lookup_map (P := Tryd.prog) keyEnc_string h Tryd.underlying98 Tryd.underlying9 Tryd.zeroValue4 s false
  rw [this]
  simp only [Bool.false_eq_true, if_false]
  rw [mlook_all]
  rfl
theorem step_insert {P : Program} {ops : Array Oper} {rest : List Oper} {o : Oper} {a : Act} {Q : Exit → Act → World → Prop} {w0 W : World} {b : Nat} {l : List ByteArray} (s : ByteArray)
    (hg : o.guard = none) (T K E : TypeId) (m : Operand) (ho : o.op = .insert T m (.const (.string s)) (.const (.bool true))) (hd : o.dst = none) (ht : P.underlying T = some (.map K E)) (hk : P.underlying K = some .string) (hm : a.eval m = .map (some b))
    (hM : MapOf (fun s : ByteArray => Value.string s) W b (l.map fun s => (s, Value.bool true))) (hn : s ∉ l) (hB : Below w0.heap.size w0 W) (hb : w0.heap.size ≤ b)
    (h : ∀ W', MapOf (fun s : ByteArray => Value.string s) W' b ((l ++ [s]).map fun s => (s, Value.bool true)) → Below w0.heap.size w0 W' → wpList P ops Q rest a W') : wpList P ops Q (o :: rest) a W := by
  obtain ⟨ob, hr, hM'⟩ := run_mapUpdate_map (P := P) keyEnc_string hM ht hk s (.bool true)
  refine wpList_plain hg fun K' hK' => ?_
  unfold Oper.wp execOp
  simp only [ho, show a.eval (.const (.string s)) = .string s from rfl, show a.eval (.const (.bool true)) = .bool true from rfl, hm, Sem.run_bind, hr, Result.andThen, Sem.run_pure]
  refine hK' _ _ ?_
  have hp : a.put o.dst undef = a := by rw [hd]; rfl
  rw [hp]
  refine h _ ?_ (Below.setMap hB hb ob)
  have hput : mput (l.map fun s => (s, Value.bool true)) s (.bool true) = (l ++ [s]).map fun s => (s, Value.bool true) := by
    rw [mput_new]
    · simp
    · clear hM hM' hr h
      induction l with
      | nil => rfl
      | cons x r ih =>
        have hx : ¬ x = s := fun q => hn (by simp [q])
        simp only [List.map_cons, midx, if_neg hx]
        rw [ih (fun q => hn (by simp [q]))]
        rfl
  rwa [hput] at hM'
set_option maxHeartbeats 4000000 in
set_option maxRecDepth 100000 in
theorem token_signs_calls (w : World) : Calls Tryd.prog 52 #[] w fun e w' => ∃ b, e = .returned (.map (some b)) ∧ SignsAt w' b ∧ Below w.heap.size w w' := by
  have hmm := @run_makeMap Tryd.prog
  have hM0 : MapOf (fun s : ByteArray => Value.string s) (w.alloc (.map #[] 0)) w.heap.size (([] : List ByteArray).map fun s => (s, Value.bool true)) := MapOf.new _ w 0
  have hB0 : Below w.heap.size w (w.alloc (.map #[] 0)) := (Below.refl _ _).alloc (Nat.le_refl _) _
  go_enter Tryd.func52, Tryd.ntmps52
  go_wp2_with (first | ((with_reducible refine step_insert (w0 := w) (b := w.heap.size) _ rfl _ _ _ _ rfl rfl Tryd.underlying98 Tryd.underlying9 ?_ (by assumption) ?_ (by assumption) (Nat.le_refl _) ?_); rotate_right; (rintro W' hM' hB'); rotate_left; exact rfl; decide +kernel))
  go_ret
  exact ⟨_, rfl, hM', hB'⟩
/-- How many bytes the sign has that a text begins with. -/
def token_sign.l0 : Nat → ByteArray → Int → Option Int
  | 0, _, _ => none
  | k + 1, s, n => if n > 0 then (if n ≤ (s.size : Int) then (if isSign (s.extract 0 n.toNat) = true then some n else token_sign.l0 k s (n - 1)) else none) else some 0
def token_sign.f (k : Nat) (a0 : ByteArray) : Option Int := token_sign.l0 k a0 (if 2 ≤ (a0.size : Int) then 2 else (a0.size : Int))
set_option maxHeartbeats 4000000 in
set_option maxRecDepth 100000 in
theorem token_sign.calls (k : Nat) (a0 : ByteArray) (b : Nat) (r : Int) (w : World) (hs : a0.size ≤ 140737488351232) (hM : SignsAt w b) (h : token_sign.f k a0 = some r) :
    Calls Tryd.prog 78 #[.string a0, .map (some b)] w fun e w' => e = .returned (.int .i64 r) ∧ Drawn0 w w' := by
  have hlk : ∀ s : ByteArray, (Instr.lookup 98 (.map (some b)) (.string s) false).run Tryd.prog w = .ok (.bool (isSign s)) w := fun s => SignsAt.look hM s
  unfold token_sign.f at h
  by_cases c : 2 ≤ (a0.size : Int)
  all_goals
    first | rw [if_pos c] at h | rw [if_neg c] at h
    have H' := Aside0.mk h
    clear h
    have hs' : (a0.size : Int) ≤ 140737488351232 := by omega
    go_enter Tryd.func78, Tryd.ntmps78
    go_wp2
    go_loop [5] (fun v => ∃ (kq : Nat) (x : Int), v = .int .i64 x ∧ Aside0 (token_sign.l0 kq a0 x = some r) ∧ x ≤ 2) (fun v => (intOf v).toNat)
    case atStart => exact ⟨k, _, rfl, H', by omega⟩
    case round =>
      clear H'
      obtain ⟨kq, x, rfl, HA, hx⟩ := hrel
      cases kq with
      | zero => exact absurd HA.out (by simp [token_sign.l0])
      | succ kq =>
        have H := HA.out
        clear HA
        simp only [token_sign.l0] at H
        by_cases c2 : x > 0
        · rw [if_pos c2] at H
          by_cases c3 : x ≤ (a0.size : Int)
          · rw [if_pos c3] at H
            obtain ⟨n, rfl⟩ := Int.eq_ofNat_of_zero_le (show 0 ≤ x by omega)
            simp only [Int.toNat_natCast] at H
            by_cases c4 : isSign (a0.extract 0 n) = true
            · rw [if_pos c4] at H
              obtain rfl := Option.some.inj H
              go_wp2
              go_ret
              exact ⟨rfl, Drawn0.refl _⟩
            · rw [if_neg c4] at H
              have c4' : isSign (a0.extract 0 n) = false := by simpa using c4
              clear c4
              have H' := Aside0.mk H
              clear H
              go_wp2
              go_round
              case rel => exact ⟨kq, _, rfl, H', by omega⟩
              case measure => simp [intOf]; omega
          · rw [if_neg c3] at H
            cases H
        · rw [if_neg c2] at H
          obtain rfl := Option.some.inj H
          go_wp2
          go_ret
          exact ⟨rfl, Drawn0.refl _⟩

/-- The value of digits. -/
def token_number.l0 : Nat → ByteArray → Int → Int → Option Int
  | 0, _, _, _ => none
  | k + 1, s, n, i => if i < (s.size : Int) then (if 0 ≤ i then token_number.l0 k s (mn (wrap64 (wrap64 (10 * n) + (bt s i - 48) % 256)) 2147483648) (wrap64 (i + 1)) else none) else some n
def token_number.f (k : Nat) (a0 : ByteArray) : Option Int := token_number.l0 k a0 0 0
set_option maxHeartbeats 4000000 in
set_option maxRecDepth 100000 in
theorem token_number.calls (k : Nat) (a0 : ByteArray) (r : Int) (w : World) (hs : a0.size ≤ 140737488351232) (h : token_number.f k a0 = some r) :
    Calls Tryd.prog 77 #[.string a0] w fun e w' => e = .returned (.int .i64 r) ∧ Below w.heap.size w w' := by
  have kb := fun W => print_bytes (P := Tryd.prog) 9 22 5 Tryd.underlying9 Tryd.underlying22 Tryd.underlying5 a0 W
  have hR := bytes_reads w 5 a0 (by omega)
  have hB := bytes_below (Below.refl w.heap.size w) (Nat.le_refl _) 5 a0
  unfold token_number.f at h
  have H' := Aside0.mk h
  clear h
  go_enter Tryd.func77, Tryd.ntmps77
  go_wp2
  generalize Lib.bytesWorld w 5 a0 = W at hR hB ⊢
  clear kb
  generalize grownCap w a0.size 0 5 = cp
  go_loop [3, 9] (fun v u => ∃ (kq : Nat) (n i : Int), v = .int .i64 n ∧ u = .int .i64 i ∧ Aside0 (token_number.l0 kq a0 n i = some r) ∧ 0 ≤ i) (fun _ u => (a0.size - intOf u).toNat)
  case atStart => exact ⟨k, 0, 0, rfl, rfl, H', by omega⟩
  case round =>
    clear H'
    obtain ⟨kq, n, i, rfl, rfl, HA, hi0⟩ := hrel
    cases kq with
    | zero => exact absurd HA.out (by simp [token_number.l0])
    | succ kq =>
      have H := HA.out
      clear HA
      simp only [token_number.l0] at H
      by_cases c2 : i < (a0.size : Int)
      · rw [if_pos c2, if_pos hi0] at H
        have H' := Aside0.mk H
        clear H
        obtain ⟨ad, e, hc⟩ := hR.at_ i hi0 c2
        obtain rfl := Option.some.inj e
        rw [rd_bytesOf, add_plain] at hc
        have hw : wrap64 (i + 1) = i + 1 := by unfold wrap64; omega
        have HW := Lib.hid hw
        clear hw hR
        go_wp2
        go_round
        case rel => exact ⟨kq, _, _, rfl, rfl, by rw [HW.out] at H'; exact H', by omega⟩
        case measure => simp [intOf]; omega
      · rw [if_neg c2] at H
        obtain rfl := Option.some.inj H
        go_wp2
        go_ret
        exact ⟨rfl, hB⟩

end Go.Proofs.YtcnmejahighkfaaDoor.P
-- Pf79
namespace Go.Proofs.YtcnmejahighkfaaDoor.P
open Go.RowKit Go.Proofs.YtcnmejahighkfaaDoorW.PrintWords Go.Proofs.YtcnmejahighkfaaDoorW.PrintLast Go.Proofs.YtcnmejahighkfaaDoorW.PrintMore
attribute [local go_sem] max2_int min2_int max_two min_two max_three min_three max_four min_four   -- for this text's walks alone
set_option linter.unusedVariables false
set_option linter.unusedSimpArgs false

/-! ### token_letter: function 79 -/
def token_letter.f (a0 : Int) : Option (Bool) := if a0 ≥ 97 then (some (decide (a0 ≤ 122))) else (some false)
set_option maxHeartbeats 8000000 in
set_option maxRecDepth 100000 in
theorem token_letter.calls (a0 : Int) (r : Bool) (w : World) (h : token_letter.f a0 = some r) :
    Calls Tryd.prog 79 #[.int .u8 a0] w fun e w' => e = .returned (.bool r) ∧ Drawn0 w w' := by
  have H : (if a0 ≥ 97 then (some (decide (a0 ≤ 122))) else (some false)) = some r := h
  clear h
  by_cases c2 : a0 ≥ 97
  · rw [if_pos c2] at H
    have c2b0 : decide (97 ≤ a0) = true := decide_eq_true c2
    clear c2
    obtain rfl := Option.some.inj H
    go_enter Tryd.func79, Tryd.ntmps79
    go_wp2
    go_ret
    exact ⟨by first | rfl | (simp; done) | (simp [*]; done), by repeat (first | exact Drawn0.refl _ | apply Drawn0.step)⟩
  · rw [if_neg c2] at H
    have c2b0 : decide (97 ≤ a0) = false := decide_eq_false c2
    clear c2
    obtain rfl := Option.some.inj H
    go_enter Tryd.func79, Tryd.ntmps79
    go_wp2
    go_ret
    exact ⟨by first | rfl | (simp; done) | (simp [*]; done), by repeat (first | exact Drawn0.refl _ | apply Drawn0.step)⟩

end Go.Proofs.YtcnmejahighkfaaDoor.P
-- Pf76
namespace Go.Proofs.YtcnmejahighkfaaDoor.P
open Go.RowKit Go.Proofs.YtcnmejahighkfaaDoorW.PrintWords Go.Proofs.YtcnmejahighkfaaDoorW.PrintLast Go.Proofs.YtcnmejahighkfaaDoorW.PrintMore
attribute [local go_sem] max2_int min2_int max_two min_two max_three min_three max_four min_four   -- for this text's walks alone
set_option linter.unusedVariables false
set_option linter.unusedSimpArgs false

/-! ### token_digit: function 76 -/
def token_digit.f (a0 : Int) : Option (Bool) := if a0 ≥ 48 then (some (decide (a0 ≤ 57))) else (some false)
set_option maxHeartbeats 8000000 in
set_option maxRecDepth 100000 in
theorem token_digit.calls (a0 : Int) (r : Bool) (w : World) (h : token_digit.f a0 = some r) :
    Calls Tryd.prog 76 #[.int .u8 a0] w fun e w' => e = .returned (.bool r) ∧ Drawn0 w w' := by
  have H : (if a0 ≥ 48 then (some (decide (a0 ≤ 57))) else (some false)) = some r := h
  clear h
  by_cases c2 : a0 ≥ 48
  · rw [if_pos c2] at H
    have c2b0 : decide (48 ≤ a0) = true := decide_eq_true c2
    clear c2
    obtain rfl := Option.some.inj H
    go_enter Tryd.func76, Tryd.ntmps76
    go_wp2
    go_ret
    exact ⟨by first | rfl | (simp; done) | (simp [*]; done), by repeat (first | exact Drawn0.refl _ | apply Drawn0.step)⟩
  · rw [if_neg c2] at H
    have c2b0 : decide (48 ≤ a0) = false := decide_eq_false c2
    clear c2
    obtain rfl := Option.some.inj H
    go_enter Tryd.func76, Tryd.ntmps76
    go_wp2
    go_ret
    exact ⟨by first | rfl | (simp; done) | (simp [*]; done), by repeat (first | exact Drawn0.refl _ | apply Drawn0.step)⟩

end Go.Proofs.YtcnmejahighkfaaDoor.P
-- Pf80
namespace Go.Proofs.YtcnmejahighkfaaDoor.P
open Go.RowKit Go.Proofs.YtcnmejahighkfaaDoorW.PrintWords Go.Proofs.YtcnmejahighkfaaDoorW.PrintLast Go.Proofs.YtcnmejahighkfaaDoorW.PrintMore
attribute [local go_sem] max2_int min2_int max_two min_two max_three min_three max_four min_four   -- for this text's walks alone
set_option linter.unusedVariables false
set_option linter.unusedSimpArgs false

/-! ### token_name_1: function 80 -/
def token_name_1.f (a0 : Int) : Option (Bool) := (token_letter.f a0).bind fun t390 => (if t390 = true then (some true) else ((token_digit.f a0).bind fun t391 => (some t391)))
set_option maxHeartbeats 8000000 in
set_option maxRecDepth 100000 in
theorem token_name_1.calls (a0 : Int) (r : Bool) (w : World) (h : token_name_1.f a0 = some r) :
    Calls Tryd.prog 80 #[.int .u8 a0] w fun e w' => e = .returned (.bool r) ∧ Drawn0 w w' := by
  have H : ((token_letter.f a0).bind fun t390 => (if t390 = true then (some true) else ((token_digit.f a0).bind fun t391 => (some t391)))) = some r := h
  clear h
  replace H := Option.bind_eq_some_iff.mp H
  obtain ⟨t390, A20, H⟩ := H
  replace H : (if t390 = true then (some true) else ((token_digit.f a0).bind fun t391 => (some t391))) = some r := H
  have A2 := Aside0.mk A20
  clear A20
  by_cases c3 : t390 = true
  · subst c3
    have H1 : (some true) = some r := by rw [if_pos rfl] at H; exact H
    clear H
    have H := H1
    clear H1
    obtain rfl := Option.some.inj H
    go_enter Tryd.func80, Tryd.ntmps80
    go_wp2_with (first | ((with_reducible refine gate_callee (f := 79) rfl ?_); refine goesL_ (some 4) rfl rfl Tryd.func79 (by kernel_rfl) rfl #[.int .u8 a0] rfl (by (try simp only [List.map_toArray, List.map_cons, List.map_nil]); first | done | rfl | (simp only [List.length_drop, List.length_take]; rfl)) ?_; (with_reducible refine (token_letter.calls a0 true _ A2.out).mono ?_); rintro e w' ⟨rfl, ⟨nd, rfl⟩⟩; refine ⟨_, rfl, ?_⟩))
    go_ret
    exact ⟨by first | rfl | (simp; done) | (simp [*]; done), by repeat (first | exact Drawn0.refl _ | apply Drawn0.step)⟩
  · replace c3 := Bool.eq_false_iff.mpr c3
    subst c3
    have H1 : ((token_digit.f a0).bind fun t391 => (some t391)) = some r := by rw [if_neg (show ¬ (false = true) by decide)] at H; exact H
    clear H
    have H := H1
    clear H1
    replace H := Option.bind_eq_some_iff.mp H
    obtain ⟨t391, A40, H⟩ := H
    replace H : (some t391) = some r := H
    have A4 := Aside0.mk A40
    clear A40
    obtain rfl := Option.some.inj H
    go_enter Tryd.func80, Tryd.ntmps80
    go_wp2_with (first | ((with_reducible refine gate_callee (f := 79) rfl ?_); refine goesL_ (some 4) rfl rfl Tryd.func79 (by kernel_rfl) rfl #[.int .u8 a0] rfl (by (try simp only [List.map_toArray, List.map_cons, List.map_nil]); first | done | rfl | (simp only [List.length_drop, List.length_take]; rfl)) ?_; (with_reducible refine (token_letter.calls a0 false _ A2.out).mono ?_); rintro e w' ⟨rfl, ⟨nd, rfl⟩⟩; refine ⟨_, rfl, ?_⟩) | (go_at_call 76; (with_reducible refine (token_digit.calls a0 t391 _ A4.out).mono ?_); rintro e w' ⟨rfl, ⟨nd, rfl⟩⟩))
    go_ret
    exact ⟨by first | rfl | (simp; done) | (simp [*]; done), by repeat (first | exact Drawn0.refl _ | apply Drawn0.step)⟩

end Go.Proofs.YtcnmejahighkfaaDoor.P
-- Pf90000
namespace Go.Proofs.YtcnmejahighkfaaDoor.P
open Go.RowKit Go.Proofs.YtcnmejahighkfaaDoorW.PrintWords Go.Proofs.YtcnmejahighkfaaDoorW.PrintLast Go.Proofs.YtcnmejahighkfaaDoorW.PrintMore
attribute [local go_sem] max2_int min2_int max_two min_two max_three min_three max_four min_four   -- for this text's walks alone
set_option linter.unusedVariables false
set_option linter.unusedSimpArgs false

/-! ### token_run_at_token_name_1: function 90000 -/
def token_run_at_token_name_1.l0 : Nat → ByteArray → Int → Option (Int)
  | 0, _, _ => none
  | k + 1, x0, x5 => if x5 < (x0.size : Int) then (if 0 ≤ x5 then ((token_name_1.f (bt x0 x5)).bind fun t392 => (if t392 = true then (token_run_at_token_name_1.l0 k x0 (wrap64 (x5 + 1))) else (some x5))) else (none)) else (some x5)
def token_run_at_token_name_1.f (k : Nat) (a0 : ByteArray) : Option (Int) := token_run_at_token_name_1.l0 k a0 0
theorem token_run_at_token_name_1.mono_l : ∀ k, (∀ y0 y1, LeO (token_run_at_token_name_1.l0 k y0 y1) (token_run_at_token_name_1.l0 (k + 1) y0 y1))
  | 0 => fun _ _ r h => by simp [token_run_at_token_name_1.l0] at h
  | k + 1 => by
    have ih0 := token_run_at_token_name_1.mono_l k
    · intro y0 y1
      unfold token_run_at_token_name_1.l0
      repeat' first
      | (with_reducible exact ih0 _ _)
      | (with_reducible exact LeO.refl _)
      | (with_reducible exact LeO.none _)
      | (with_reducible refine LeO.ite ?_ ?_)
      | (with_reducible refine LeO.bind ?_ (fun _ => ?_))
      | exact ih0 _ _
      | exact LeO.none _
      | refine LeO.ite ?_ ?_
      | refine LeO.bind ?_ (fun _ => ?_)
theorem token_run_at_token_name_1.mono : ∀ a0 k, LeO (token_run_at_token_name_1.f k a0) (token_run_at_token_name_1.f (k + 1) a0) := by
  intro a0 k
  have ih0 := token_run_at_token_name_1.mono_l k
  unfold token_run_at_token_name_1.f
  repeat' first
      | (with_reducible exact ih0 _ _)
      | (with_reducible exact LeO.refl _)
      | (with_reducible exact LeO.none _)
      | (with_reducible refine LeO.ite ?_ ?_)
      | (with_reducible refine LeO.bind ?_ (fun _ => ?_))
      | exact ih0 _ _
      | exact LeO.none _
      | refine LeO.ite ?_ ?_
      | refine LeO.bind ?_ (fun _ => ?_)
set_option maxHeartbeats 8000000 in
set_option maxRecDepth 100000 in
theorem token_run_at_token_name_1.calls (k : Nat) (a0 : ByteArray) (r : Int) (w : World) (h : token_run_at_token_name_1.f k a0 = some r) :
    Calls Tryd.prog 75 #[.string a0, .func (.func 80) #[] #[]] w fun e w' => e = .returned (.int .i64 r) ∧ Drawn0 w w' := by
  have H : (token_run_at_token_name_1.l0 k a0 0) = some r := h
  clear h
  have H' := Aside0.mk H
  clear H
  go_enter Tryd.func75, Tryd.ntmps75
  go_wp2
  go_loopg [5] k (fun kq v5 w' => ∃ (x5_1 : Int), v5 = .int .i64 x5_1 ∧ Aside0 (token_run_at_token_name_1.l0 kq a0 x5_1 = some r) ∧ Aside0 (kq ≤ k) ∧ Drawn0 w w')
  case atStart => exact ⟨(0), (by first | rfl | (simp; done) | (simp [*]; done)), H', ⟨Nat.le_refl _⟩, by repeat (first | exact Drawn0.refl _ | apply Drawn0.step)⟩
  case round =>
    clear H'
    obtain ⟨x5_1, rfl, HA, HK1, ⟨m1, rfl⟩⟩ := hrel
    cases gk with
    | zero => exact absurd HA.out (by simp [token_run_at_token_name_1.l0])
    | succ k1 =>
      have H := HA.out
      clear HA
      simp only [token_run_at_token_name_1.l0] at H
      by_cases c2 : x5_1 < (a0.size : Int)
      · rw [if_pos c2] at H
        have c2b0 : decide (x5_1 < (a0.size : Int)) = true := decide_eq_true c2
        clear c2
        by_cases c3 : 0 ≤ x5_1
        · rw [if_pos c3] at H
          have c3b0 : decide (0 ≤ x5_1) = true := decide_eq_true c3
          clear c3
          replace H := Option.bind_eq_some_iff.mp H
          obtain ⟨t392, A50, H⟩ := H
          replace H : (if t392 = true then (token_run_at_token_name_1.l0 k1 a0 (wrap64 (x5_1 + 1))) else (some x5_1)) = some r := H
          have A5 := Aside0.mk A50
          clear A50
          by_cases c6 : t392 = true
          · subst c6
            have H1 : (token_run_at_token_name_1.l0 k1 a0 (wrap64 (x5_1 + 1))) = some r := by rw [if_pos rfl] at H; exact H
            clear H
            have H := H1
            clear H1
            have H' := Aside0.mk H
            clear H
            have p4 : 0 ≤ (x5_1 : Int) := of_decide_eq_true (by first | (with_reducible assumption) | assumption)
            have q4 : x5_1 < (a0.size : Int) := of_decide_eq_true (by first | (with_reducible assumption) | assumption)
            have hx4 := bt_at a0 x5_1
            replace p4 := eq_true p4
            replace q4 := eq_true q4
            go_wp2_with (first | (go_at_call 80; (with_reducible refine (token_name_1.calls (bt a0 x5_1) true _ A5.out).mono ?_); rintro e w' ⟨rfl, ⟨nd, rfl⟩⟩))
            go_roundg k1
            case measure => have := HK1.out; omega
            case rel => exact ⟨(wrap64 (x5_1 + 1)), (by first | rfl | (simp; done) | (simp [*]; done)), H', ⟨by have := HK1.out; omega⟩, by repeat (first | exact Drawn0.refl _ | apply Drawn0.step)⟩
          · replace c6 := Bool.eq_false_iff.mpr c6
            subst c6
            have H1 : (some x5_1) = some r := by rw [if_neg (show ¬ (false = true) by decide)] at H; exact H
            clear H
            have H := H1
            clear H1
            obtain rfl := Option.some.inj H
            have p4 : 0 ≤ (x5_1 : Int) := of_decide_eq_true (by first | (with_reducible assumption) | assumption)
            have q4 : x5_1 < (a0.size : Int) := of_decide_eq_true (by first | (with_reducible assumption) | assumption)
            have hx4 := bt_at a0 x5_1
            replace p4 := eq_true p4
            replace q4 := eq_true q4
            go_wp2_with (first | (go_at_call 80; (with_reducible refine (token_name_1.calls (bt a0 x5_1) false _ A5.out).mono ?_); rintro e w' ⟨rfl, ⟨nd, rfl⟩⟩))
            go_ret
            exact ⟨by first | rfl | (simp; done) | (simp [*]; done), by repeat (first | exact Drawn0.refl _ | apply Drawn0.step)⟩
        · rw [if_neg c3] at H
          exact absurd H (by simp)
      · rw [if_neg c2] at H
        have c2b0 : decide (x5_1 < (a0.size : Int)) = false := decide_eq_false c2
        clear c2
        obtain rfl := Option.some.inj H
        go_wp2
        go_ret
        exact ⟨by first | rfl | (simp; done) | (simp [*]; done), by repeat (first | exact Drawn0.refl _ | apply Drawn0.step)⟩

end Go.Proofs.YtcnmejahighkfaaDoor.P
-- Pf54
namespace Go.Proofs.YtcnmejahighkfaaDoor.P
open Go.RowKit Go.Proofs.YtcnmejahighkfaaDoorW.PrintWords Go.Proofs.YtcnmejahighkfaaDoorW.PrintLast Go.Proofs.YtcnmejahighkfaaDoorW.PrintMore
attribute [local go_sem] max2_int min2_int max_two min_two max_three min_three max_four min_four   -- for this text's walks alone
set_option linter.unusedVariables false
set_option linter.unusedSimpArgs false

/-! ### token_name: function 54 -/
def token_name.f (k : Nat) (a0 : ByteArray) : Option (Int) := if a0.toList = ([] : List UInt8) then (some 0) else (if 0 < (a0.size : Int) then ((token_letter.f (bt a0 0)).bind fun t393 => (if t393 = true then ((token_run_at_token_name_1.f k a0).bind fun t394 => (some t394)) else (some 0))) else (none))
theorem token_name.mono : ∀ a0 k, LeO (token_name.f k a0) (token_name.f (k + 1) a0) := by
  intro a0 k
  unfold token_name.f
  repeat' first
      | (with_reducible exact token_run_at_token_name_1.mono _ _)
      | (with_reducible exact LeO.refl _)
      | (with_reducible exact LeO.none _)
      | (with_reducible refine LeO.ite ?_ ?_)
      | (with_reducible refine LeO.bind ?_ (fun _ => ?_))
      | exact token_run_at_token_name_1.mono _ _
      | exact LeO.none _
      | refine LeO.ite ?_ ?_
      | refine LeO.bind ?_ (fun _ => ?_)
set_option maxHeartbeats 8000000 in
set_option maxRecDepth 100000 in
theorem token_name.calls (k : Nat) (a0 : ByteArray) (r : Int) (w : World) (h : token_name.f k a0 = some r) :
    Calls Tryd.prog 54 #[.string a0] w fun e w' => e = .returned (.int .i64 r) ∧ Drawn0 w w' := by
  have H : (if a0.toList = ([] : List UInt8) then (some 0) else (if 0 < (a0.size : Int) then ((token_letter.f (bt a0 0)).bind fun t393 => (if t393 = true then ((token_run_at_token_name_1.f k a0).bind fun t394 => (some t394)) else (some 0))) else (none))) = some r := h
  clear h
  by_cases c2 : a0.toList = ([] : List UInt8)
  · rw [if_pos c2] at H
    have c2b0 : (a0.toList == ([] : List UInt8)) = true := beq_iff_eq.mpr c2
    have c2b1 : (a0.toList != ([] : List UInt8)) = false := bne_eq_false_iff_eq.mpr c2
    clear c2
    obtain rfl := Option.some.inj H
    go_enter Tryd.func54, Tryd.ntmps54
    go_wp2
    go_ret
    exact ⟨by first | rfl | (simp; done) | (simp [*]; done), by repeat (first | exact Drawn0.refl _ | apply Drawn0.step)⟩
  · rw [if_neg c2] at H
    have c2b0 : (a0.toList == ([] : List UInt8)) = false := beq_eq_false_iff_ne.mpr c2
    have c2b1 : (a0.toList != ([] : List UInt8)) = true := bne_iff_ne.mpr c2
    by_cases c3 : 0 < (a0.size : Int)
    · rw [if_pos c3] at H
      have c3b0 : decide (0 < (a0.size : Int)) = true := decide_eq_true c3
      have c3b1 : decide (0 < a0.size) = true := decide_eq_true (by omega)
      clear c3
      replace H := Option.bind_eq_some_iff.mp H
      obtain ⟨t393, A50, H⟩ := H
      replace H : (if t393 = true then ((token_run_at_token_name_1.f k a0).bind fun t394 => (some t394)) else (some 0)) = some r := H
      have A5 := Aside0.mk A50
      clear A50
      by_cases c6 : t393 = true
      · subst c6
        have H1 : ((token_run_at_token_name_1.f k a0).bind fun t394 => (some t394)) = some r := by rw [if_pos rfl] at H; exact H
        clear H
        have H := H1
        clear H1
        replace H := Option.bind_eq_some_iff.mp H
        obtain ⟨t394, A70, H⟩ := H
        replace H : (some t394) = some r := H
        have A7 := Aside0.mk A70
        clear A70
        obtain rfl := Option.some.inj H
        have p4 : 0 ≤ (0 : Int) := (by omega)
        have q4 : 0 < a0.size := (by have : (0 : Int) < (a0.size : Int) := of_decide_eq_true (by first | (with_reducible assumption) | assumption); omega)
        have hx4 : ∀ h : 0 < a0.size, ((a0[0]'h).toNat : Int) = bt a0 0 := bt_at a0 0
        clear p4
        have qi4 : (0 < (a0.size : Int)) = True := eq_true (of_decide_eq_true (by first | (with_reducible assumption) | assumption))
        replace q4 := eq_true q4
        go_enter Tryd.func54, Tryd.ntmps54
        go_wp2_with (first | (go_at_call 79; (with_reducible refine (token_letter.calls (bt a0 0) true _ A5.out).mono ?_); rintro e w' ⟨rfl, ⟨nd, rfl⟩⟩) | ((with_reducible refine gate_callee (f := 75) rfl ?_); refine goesL_ (some 12) rfl rfl Tryd.func75 (by kernel_rfl) rfl #[.string a0, .func (.func 80) #[] #[]] rfl (by (try simp only [List.map_toArray, List.map_cons, List.map_nil]); first | done | rfl | (simp only [List.length_drop, List.length_take]; rfl)) ?_; (with_reducible refine (token_run_at_token_name_1.calls k a0 t394 _ A7.out).mono ?_); rintro e w' ⟨rfl, ⟨nd, rfl⟩⟩; refine ⟨_, rfl, ?_⟩))
        go_ret
        exact ⟨by first | rfl | (simp; done) | (simp [*]; done), by repeat (first | exact Drawn0.refl _ | apply Drawn0.step)⟩
      · replace c6 := Bool.eq_false_iff.mpr c6
        subst c6
        have H1 : (some 0) = some r := by rw [if_neg (show ¬ (false = true) by decide)] at H; exact H
        clear H
        have H := H1
        clear H1
        obtain rfl := Option.some.inj H
        have p4 : 0 ≤ (0 : Int) := (by omega)
        have q4 : 0 < a0.size := (by have : (0 : Int) < (a0.size : Int) := of_decide_eq_true (by first | (with_reducible assumption) | assumption); omega)
        have hx4 : ∀ h : 0 < a0.size, ((a0[0]'h).toNat : Int) = bt a0 0 := bt_at a0 0
        clear p4
        have qi4 : (0 < (a0.size : Int)) = True := eq_true (of_decide_eq_true (by first | (with_reducible assumption) | assumption))
        replace q4 := eq_true q4
        go_enter Tryd.func54, Tryd.ntmps54
        go_wp2_with (first | (go_at_call 79; (with_reducible refine (token_letter.calls (bt a0 0) false _ A5.out).mono ?_); rintro e w' ⟨rfl, ⟨nd, rfl⟩⟩))
        go_ret
        exact ⟨by first | rfl | (simp; done) | (simp [*]; done), by repeat (first | exact Drawn0.refl _ | apply Drawn0.step)⟩
    · rw [if_neg c3] at H
      exact absurd H (by simp)

end Go.Proofs.YtcnmejahighkfaaDoor.P
-- Pf90001
namespace Go.Proofs.YtcnmejahighkfaaDoor.P
open Go.RowKit Go.Proofs.YtcnmejahighkfaaDoorW.PrintWords Go.Proofs.YtcnmejahighkfaaDoorW.PrintLast Go.Proofs.YtcnmejahighkfaaDoorW.PrintMore
attribute [local go_sem] max2_int min2_int max_two min_two max_three min_three max_four min_four   -- for this text's walks alone
set_option linter.unusedVariables false
set_option linter.unusedSimpArgs false

/-! ### token_run_at_token_digit: function 90001 -/
def token_run_at_token_digit.l0 : Nat → ByteArray → Int → Option (Int)
  | 0, _, _ => none
  | k + 1, x0, x5 => if x5 < (x0.size : Int) then (if 0 ≤ x5 then ((token_digit.f (bt x0 x5)).bind fun t395 => (if t395 = true then (token_run_at_token_digit.l0 k x0 (wrap64 (x5 + 1))) else (some x5))) else (none)) else (some x5)
def token_run_at_token_digit.f (k : Nat) (a0 : ByteArray) : Option (Int) := token_run_at_token_digit.l0 k a0 0
theorem token_run_at_token_digit.mono_l : ∀ k, (∀ y0 y1, LeO (token_run_at_token_digit.l0 k y0 y1) (token_run_at_token_digit.l0 (k + 1) y0 y1))
  | 0 => fun _ _ r h => by simp [token_run_at_token_digit.l0] at h
  | k + 1 => by
    have ih0 := token_run_at_token_digit.mono_l k
    · intro y0 y1
      unfold token_run_at_token_digit.l0
      repeat' first
      | (with_reducible exact ih0 _ _)
      | (with_reducible exact LeO.refl _)
      | (with_reducible exact LeO.none _)
      | (with_reducible refine LeO.ite ?_ ?_)
      | (with_reducible refine LeO.bind ?_ (fun _ => ?_))
      | exact ih0 _ _
      | exact LeO.none _
      | refine LeO.ite ?_ ?_
      | refine LeO.bind ?_ (fun _ => ?_)
theorem token_run_at_token_digit.mono : ∀ a0 k, LeO (token_run_at_token_digit.f k a0) (token_run_at_token_digit.f (k + 1) a0) := by
  intro a0 k
  have ih0 := token_run_at_token_digit.mono_l k
  unfold token_run_at_token_digit.f
  repeat' first
      | (with_reducible exact ih0 _ _)
      | (with_reducible exact LeO.refl _)
      | (with_reducible exact LeO.none _)
      | (with_reducible refine LeO.ite ?_ ?_)
      | (with_reducible refine LeO.bind ?_ (fun _ => ?_))
      | exact ih0 _ _
      | exact LeO.none _
      | refine LeO.ite ?_ ?_
      | refine LeO.bind ?_ (fun _ => ?_)
set_option maxHeartbeats 8000000 in
set_option maxRecDepth 100000 in
theorem token_run_at_token_digit.calls (k : Nat) (a0 : ByteArray) (r : Int) (w : World) (h : token_run_at_token_digit.f k a0 = some r) :
    Calls Tryd.prog 75 #[.string a0, .func (.func 76) #[] #[]] w fun e w' => e = .returned (.int .i64 r) ∧ Drawn0 w w' := by
  have H : (token_run_at_token_digit.l0 k a0 0) = some r := h
  clear h
  have H' := Aside0.mk H
  clear H
  go_enter Tryd.func75, Tryd.ntmps75
  go_wp2
  go_loopg [5] k (fun kq v5 w' => ∃ (x5_1 : Int), v5 = .int .i64 x5_1 ∧ Aside0 (token_run_at_token_digit.l0 kq a0 x5_1 = some r) ∧ Aside0 (kq ≤ k) ∧ Drawn0 w w')
  case atStart => exact ⟨(0), (by first | rfl | (simp; done) | (simp [*]; done)), H', ⟨Nat.le_refl _⟩, by repeat (first | exact Drawn0.refl _ | apply Drawn0.step)⟩
  case round =>
    clear H'
    obtain ⟨x5_1, rfl, HA, HK1, ⟨m1, rfl⟩⟩ := hrel
    cases gk with
    | zero => exact absurd HA.out (by simp [token_run_at_token_digit.l0])
    | succ k1 =>
      have H := HA.out
      clear HA
      simp only [token_run_at_token_digit.l0] at H
      by_cases c2 : x5_1 < (a0.size : Int)
      · rw [if_pos c2] at H
        have c2b0 : decide (x5_1 < (a0.size : Int)) = true := decide_eq_true c2
        clear c2
        by_cases c3 : 0 ≤ x5_1
        · rw [if_pos c3] at H
          have c3b0 : decide (0 ≤ x5_1) = true := decide_eq_true c3
          clear c3
          replace H := Option.bind_eq_some_iff.mp H
          obtain ⟨t395, A50, H⟩ := H
          replace H : (if t395 = true then (token_run_at_token_digit.l0 k1 a0 (wrap64 (x5_1 + 1))) else (some x5_1)) = some r := H
          have A5 := Aside0.mk A50
          clear A50
          by_cases c6 : t395 = true
          · subst c6
            have H1 : (token_run_at_token_digit.l0 k1 a0 (wrap64 (x5_1 + 1))) = some r := by rw [if_pos rfl] at H; exact H
            clear H
            have H := H1
            clear H1
            have H' := Aside0.mk H
            clear H
            have p4 : 0 ≤ (x5_1 : Int) := of_decide_eq_true (by first | (with_reducible assumption) | assumption)
            have q4 : x5_1 < (a0.size : Int) := of_decide_eq_true (by first | (with_reducible assumption) | assumption)
            have hx4 := bt_at a0 x5_1
            replace p4 := eq_true p4
            replace q4 := eq_true q4
            go_wp2_with (first | (go_at_call 76; (with_reducible refine (token_digit.calls (bt a0 x5_1) true _ A5.out).mono ?_); rintro e w' ⟨rfl, ⟨nd, rfl⟩⟩))
            go_roundg k1
            case measure => have := HK1.out; omega
            case rel => exact ⟨(wrap64 (x5_1 + 1)), (by first | rfl | (simp; done) | (simp [*]; done)), H', ⟨by have := HK1.out; omega⟩, by repeat (first | exact Drawn0.refl _ | apply Drawn0.step)⟩
          · replace c6 := Bool.eq_false_iff.mpr c6
            subst c6
            have H1 : (some x5_1) = some r := by rw [if_neg (show ¬ (false = true) by decide)] at H; exact H
            clear H
            have H := H1
            clear H1
            obtain rfl := Option.some.inj H
            have p4 : 0 ≤ (x5_1 : Int) := of_decide_eq_true (by first | (with_reducible assumption) | assumption)
            have q4 : x5_1 < (a0.size : Int) := of_decide_eq_true (by first | (with_reducible assumption) | assumption)
            have hx4 := bt_at a0 x5_1
            replace p4 := eq_true p4
            replace q4 := eq_true q4
            go_wp2_with (first | (go_at_call 76; (with_reducible refine (token_digit.calls (bt a0 x5_1) false _ A5.out).mono ?_); rintro e w' ⟨rfl, ⟨nd, rfl⟩⟩))
            go_ret
            exact ⟨by first | rfl | (simp; done) | (simp [*]; done), by repeat (first | exact Drawn0.refl _ | apply Drawn0.step)⟩
        · rw [if_neg c3] at H
          exact absurd H (by simp)
      · rw [if_neg c2] at H
        have c2b0 : decide (x5_1 < (a0.size : Int)) = false := decide_eq_false c2
        clear c2
        obtain rfl := Option.some.inj H
        go_wp2
        go_ret
        exact ⟨by first | rfl | (simp; done) | (simp [*]; done), by repeat (first | exact Drawn0.refl _ | apply Drawn0.step)⟩

end Go.Proofs.YtcnmejahighkfaaDoor.P
-- Pf53
namespace Go.Proofs.YtcnmejahighkfaaDoor.P
open Go.RowKit Go.Proofs.YtcnmejahighkfaaDoorW.PrintWords Go.Proofs.YtcnmejahighkfaaDoorW.PrintLast Go.Proofs.YtcnmejahighkfaaDoorW.PrintMore
attribute [local go_sem] max2_int min2_int max_two min_two max_three min_three max_four min_four   -- for this text's walks alone
set_option linter.unusedVariables false
set_option linter.unusedSimpArgs false

/-! ### token_next: function 53 -/
/-- The token that a text begins with, and how many bytes it has. -/
def token_next.f (k : Nat) (s : ByteArray) : Option (S59 × Int) :=
  (token_name.f k s).bind fun n =>
    if n > 0 then (if n > 12 then some (⟨0, 0, 0, ⟨#[]⟩⟩, 0) else if n ≤ (s.size : Int) then some (⟨1, 0, 0, s.extract 0 n.toNat⟩, n) else none) else
      (token_run_at_token_digit.f k s).bind fun m =>
        if m > 0 then (if m ≤ (s.size : Int) then (token_number.f k (s.extract 0 m.toNat)).bind fun v => if v > 2147483647 then some (⟨0, 0, 0, ⟨#[]⟩⟩, 0) else some (⟨2, v, 0, ⟨#[]⟩⟩, m) else none) else
          (token_sign.f k s).bind fun q => if 0 ≤ q then (if q ≤ (s.size : Int) then some (⟨3, 0, 0, s.extract 0 q.toNat⟩, q) else none) else none
def NextPost (w : World) (r1 : S59) (r2 : Int) (e : Ending) (w' : World) : Prop := e = .returned (.tuple #[.agg #[.int .i64 r1.f0, .int .i64 r1.f1, .int .i64 r1.f2, .string r1.f3], .int .i64 r2]) ∧ Below w.heap.size w w'
set_option maxHeartbeats 8000000 in
set_option maxRecDepth 100000 in
theorem token_next.calls (k : Nat) (s : ByteArray) (b : Nat) (r1 : S59) (r2 : Int) (w : World) (hs : s.size ≤ 140737488351232) (hM : SignsAt w b) (h : token_next.f k s = some (r1, r2)) :
    Calls Tryd.prog 53 #[.string s, .map (some b)] w (NextPost w r1 r2) := by
  have hu := Tryd.underlying59
  have hs' : (s.size : Int) ≤ 140737488351232 := by omega
  unfold token_next.f at h
  replace h := Option.bind_eq_some_iff.1 h
  obtain ⟨n, hn, h⟩ := h
  have HN := Aside0.mk hn
  clear hn
  by_cases c1 : n > 0
  · rw [if_pos c1] at h
    by_cases c2 : n > 12
    · rw [if_pos c2] at h
      obtain ⟨rfl, rfl⟩ := Prod.mk.inj (Option.some.inj h)
      clear h
      go_enter Tryd.func53, Tryd.ntmps53
      go_wp2_with (first | (go_at_call 54; (with_reducible refine (token_name.calls k s _ _ HN.out).mono ?_); rintro e w' ⟨rfl, ⟨nd, rfl⟩⟩) | (go_at_call 75; (with_reducible refine (token_run_at_token_digit.calls k s _ _ HR.out).mono ?_); rintro e w' ⟨rfl, ⟨nd2, rfl⟩⟩))
      exact bodyPost_ret (v := .tuple #[.agg #[.int .i64 0, .int .i64 0, .int .i64 0, .string ⟨#[]⟩], .int .i64 0]) (by simp [results, Tryd.results53, go_sem]) rfl ⟨rfl, by repeat (first | exact Below.refl _ _ | apply below_alloc | apply pw_below_drewN | apply below_drew1 | refine below_set ?_ (Nat.le_refl _) | (refine below_step ?_ (by assumption)))⟩
    · rw [if_neg c2] at h
      by_cases c3 : n ≤ (s.size : Int)
      · rw [if_pos c3] at h
        obtain ⟨rfl, rfl⟩ := Prod.mk.inj (Option.some.inj h)
        clear h
        obtain ⟨m, rfl⟩ := Int.eq_ofNat_of_zero_le (show 0 ≤ n by omega)
        go_enter Tryd.func53, Tryd.ntmps53
        go_wp2_with (first | (go_at_call 54; (with_reducible refine (token_name.calls k s _ _ HN.out).mono ?_); rintro e w' ⟨rfl, ⟨nd, rfl⟩⟩) | (go_at_call 75; (with_reducible refine (token_run_at_token_digit.calls k s _ _ HR.out).mono ?_); rintro e w' ⟨rfl, ⟨nd2, rfl⟩⟩))
        exact bodyPost_ret (v := .tuple #[.agg #[.int .i64 1, .int .i64 0, .int .i64 0, .string (s.extract 0 m)], .int .i64 m]) (by simp [results, Tryd.results53, go_sem]) rfl ⟨rfl, by repeat (first | exact Below.refl _ _ | apply below_alloc | apply pw_below_drewN | apply below_drew1 | refine below_set ?_ (Nat.le_refl _) | (refine below_step ?_ (by assumption)))⟩
      · rw [if_neg c3] at h
        cases h
  · rw [if_neg c1] at h
    replace h := Option.bind_eq_some_iff.1 h
    obtain ⟨m, hm, h⟩ := h
    have HR := Aside0.mk hm
    clear hm
    by_cases c2 : m > 0
    · rw [if_pos c2] at h
      by_cases c3 : m ≤ (s.size : Int)
      · rw [if_pos c3] at h
        obtain ⟨m, rfl⟩ := Int.eq_ofNat_of_zero_le (show 0 ≤ m by omega)
        replace h := Option.bind_eq_some_iff.1 h
        obtain ⟨v, hv, h⟩ := h
        have HV := Aside0.mk hv
        clear hv
        simp only [Int.toNat_natCast] at HV
        have hz : (s.extract 0 m).size ≤ 140737488351232 := by simp; omega
        have HZ := Lib.hid hz
        clear hz
        by_cases c4 : v > 2147483647
        · rw [if_pos c4] at h
          obtain ⟨rfl, rfl⟩ := Prod.mk.inj (Option.some.inj h)
          clear h
          go_enter Tryd.func53, Tryd.ntmps53
          go_wp2_with (first | (go_at_call 54; (with_reducible refine (token_name.calls k s _ _ HN.out).mono ?_); rintro e w' ⟨rfl, ⟨nd, rfl⟩⟩) | (go_at_call 75; (with_reducible refine (token_run_at_token_digit.calls k s _ _ HR.out).mono ?_); rintro e w' ⟨rfl, ⟨nd2, rfl⟩⟩) | (go_at_call 77; (with_reducible refine (token_number.calls k _ v _ HZ.out HV.out).mono ?_); rintro e w5 ⟨rfl, hb⟩; obtain ⟨hc, hf⟩ := bcell hb))
          exact bodyPost_ret (v := .tuple #[.agg #[.int .i64 0, .int .i64 0, .int .i64 0, .string ⟨#[]⟩], .int .i64 0]) (by simp [results, Tryd.results53, go_sem, hc]) rfl ⟨rfl, by repeat (first | exact Below.refl _ _ | apply below_alloc | apply pw_below_drewN | apply below_drew1 | refine below_set ?_ (Nat.le_refl _) | (refine below_step ?_ (by assumption)))⟩
        · rw [if_neg c4] at h
          obtain ⟨rfl, rfl⟩ := Prod.mk.inj (Option.some.inj h)
          clear h
          go_enter Tryd.func53, Tryd.ntmps53
          go_wp2_with (first | (go_at_call 54; (with_reducible refine (token_name.calls k s _ _ HN.out).mono ?_); rintro e w' ⟨rfl, ⟨nd, rfl⟩⟩) | (go_at_call 75; (with_reducible refine (token_run_at_token_digit.calls k s _ _ HR.out).mono ?_); rintro e w' ⟨rfl, ⟨nd2, rfl⟩⟩) | (go_at_call 77; (with_reducible refine (token_number.calls k _ v _ HZ.out HV.out).mono ?_); rintro e w5 ⟨rfl, hb⟩; obtain ⟨hc, hf⟩ := bcell hb))
          exact bodyPost_ret (v := .tuple #[.agg #[.int .i64 2, .int .i64 v, .int .i64 0, .string ⟨#[]⟩], .int .i64 m]) (by simp [results, Tryd.results53, go_sem, hc]) rfl ⟨rfl, by repeat (first | exact Below.refl _ _ | apply below_alloc | apply pw_below_drewN | apply below_drew1 | refine below_set ?_ (Nat.le_refl _) | (refine below_step ?_ (by assumption)))⟩
      · rw [if_neg c3] at h
        cases h
    · rw [if_neg c2] at h
      replace h := Option.bind_eq_some_iff.1 h
      obtain ⟨q, hq, h⟩ := h
      have HQ := Aside0.mk hq
      clear hq
      by_cases c3 : 0 ≤ q
      · rw [if_pos c3] at h
        by_cases c4 : q ≤ (s.size : Int)
        · rw [if_pos c4] at h
          obtain ⟨rfl, rfl⟩ := Prod.mk.inj (Option.some.inj h)
          clear h
          obtain ⟨m', rfl⟩ := Int.eq_ofNat_of_zero_le c3
          go_enter Tryd.func53, Tryd.ntmps53
          go_wp2_with (first | (go_at_call 54; (with_reducible refine (token_name.calls k s _ _ HN.out).mono ?_); rintro e w' ⟨rfl, ⟨nd, rfl⟩⟩) | (go_at_call 75; (with_reducible refine (token_run_at_token_digit.calls k s _ _ HR.out).mono ?_); rintro e w' ⟨rfl, ⟨nd2, rfl⟩⟩) | (go_at_call 78; (with_reducible refine (token_sign.calls k s b _ _ hs (SignsAt.below hM (by repeat (first | exact Below.refl _ _ | apply below_alloc | apply pw_below_drewN | apply below_drew1 | refine below_set ?_ (Nat.le_refl _) | (refine below_step ?_ (by assumption))))) HQ.out).mono ?_); rintro e w' ⟨rfl, ⟨nd3, rfl⟩⟩))
          exact bodyPost_ret (v := .tuple #[.agg #[.int .i64 3, .int .i64 0, .int .i64 0, .string (s.extract 0 m')], .int .i64 m']) (by simp [results, Tryd.results53, go_sem]) rfl ⟨rfl, by repeat (first | exact Below.refl _ _ | apply below_alloc | apply pw_below_drewN | apply below_drew1 | refine below_set ?_ (Nat.le_refl _) | (refine below_step ?_ (by assumption)))⟩
        · rw [if_neg c4] at h
          cases h
      · rw [if_neg c3] at h
        cases h

end Go.Proofs.YtcnmejahighkfaaDoor.P
-- Pf25
namespace Go.Proofs.YtcnmejahighkfaaDoor.P
open Go.RowKit Go.Proofs.YtcnmejahighkfaaDoorW.PrintWords Go.Proofs.YtcnmejahighkfaaDoorW.PrintLast Go.Proofs.YtcnmejahighkfaaDoorW.PrintMore
attribute [local go_sem] max2_int min2_int max_two min_two max_three min_three max_four min_four   -- for this text's walks alone
set_option linter.unusedVariables false
set_option linter.unusedSimpArgs false

/-! ### token_Scan: function 25 -/
/-- The tokens of a text. -/
def token_Scan.l0 : Nat → ByteArray → List S59 → Int → Int → Option (List S59 × Int × Int)
  | 0, _, _, _, _ => none
  | k + 1, s, out, line, i => if i < (s.size : Int) then (if bt s i = 10 then token_Scan.l0 k s out (wrap64 (line + 1)) (i + 1) else if bt s i = 32 then token_Scan.l0 k s out line (i + 1) else if bt s i = 9 then token_Scan.l0 k s out line (i + 1) else
      (token_next.f k (s.extract i.toNat s.size)).bind fun x => if x.2 = 0 then some ([], line, 1) else if 0 < x.2 then (if x.2 ≤ (s.size : Int) then (if out.length < 1000000000 then token_Scan.l0 k s (out ++ [(⟨x.1.f0, x.1.f1, line, x.1.f3⟩ : S59)]) line (i + x.2) else none) else none) else none) else some (out, 0, 0)
def token_Scan.f (a0 : ByteArray) : Option (List S59 × Int × Int) := if (a0.size : Int) > 8192 then some ([], 0, 4) else token_Scan.l0 (a0.size + 20) a0 [] 1 0
set_option maxHeartbeats 8000000 in
set_option maxRecDepth 100000 in
theorem token_Scan.calls (a0 : ByteArray) (r1 : List (S59)) (r2 : Int) (r3 : Int) (w : World) (h : token_Scan.f a0 = some (r1, r2, r3)) :
    Calls Tryd.prog 25 #[.string a0] w fun e w' => ∃ v0_ : Value, e = .returned (.tuple #[v0_, .int .i64 r2, .int .i64 r3]) ∧ Kd.R k59 59 w' w.heap.size (fun _ => True) v0_ r1 ∧ Below w.heap.size w w' := by
  have hu := Tryd.underlying59
  unfold token_Scan.f at h
  by_cases c1 : (a0.size : Int) > 8192
  · rw [if_pos c1] at h
    simp only [Option.some.injEq, Prod.mk.injEq] at h
    obtain ⟨rfl, rfl, rfl⟩ := h
    go_enter Tryd.func25, Tryd.ntmps25
    go_wp2
    go_ret3
    exact ⟨_, rfl, Kd.R_nil _ _ _ _ _, Below.refl _ _⟩
  · rw [if_neg c1] at h
    have hs : (a0.size : Int) ≤ 8192 := by omega
    clear c1
    have H0 := Aside0.mk h
    clear h
    go_enter Tryd.func25, Tryd.ntmps25
    go_wp2_with (first | (go_at_call 52; (with_reducible refine (token_signs_calls _).mono ?_); rintro e w1 ⟨b, rfl, hM, hB⟩))
    have HM := Aside0.mk hM
    have HB := Aside0.mk hB
    clear hM hB
    generalize a0.size + 20 = k at H0
    go_loopw [5, 7, 8] (fun v5 v7 v8 wr => ∃ (kq : Nat) (out : List S59) (line i : Int), v7 = .int .i64 line ∧ v8 = .int .i64 i ∧ Aside0 (token_Scan.l0 kq a0 out line i = some (r1, r2, r3)) ∧ Aside0 (Kd.R k59 59 wr w.heap.size (fun k_ => k_ ≠ b) v5 out) ∧ Aside0 (Below w.heap.size w wr) ∧ Aside0 (SignsAt wr b) ∧ 0 ≤ i) (fun _ _ v8 _ => (a0.size - intOf v8).toNat)
    case atStart => exact ⟨k, [], 1, 0, rfl, rfl, H0, ⟨Kd.R_nil _ _ _ _ _⟩, HB, HM, by omega⟩
    case round =>
      clear H0 HM HB
      obtain ⟨kq, out, line, i, rfl, rfl, HA, HO, HB, HM, hi⟩ := hrel
      cases kq with
      | zero => exact absurd HA.out (by simp [token_Scan.l0])
      | succ kq =>
        have H := HA.out
        clear HA
        simp only [token_Scan.l0] at H
        by_cases c2 : i < (a0.size : Int)
        · rw [if_pos c2] at H
          have c2b : decide (i < (a0.size : Int)) = true := decide_eq_true c2
          have p4 := eq_true hi
          have q4 := eq_true c2
          have hx4 := bt_at a0 i
          by_cases c3 : bt a0 i = 10
          · rw [if_pos c3] at H
            have H' := Aside0.mk H
            clear H
            have c3b : (bt a0 i == 10) = true := beq_iff_eq.mpr c3
            clear c3
            go_wp2
            go_roundw
            case rel => exact ⟨kq, _, _, _, rfl, rfl, H', HO, HB, HM, by omega⟩
            case measure => simp [intOf]; omega
          · rw [if_neg c3] at H
            have c3b : (bt a0 i == 10) = false := beq_eq_false_iff_ne.mpr c3
            clear c3
            by_cases c4 : bt a0 i = 32
            · rw [if_pos c4] at H
              have H' := Aside0.mk H
              clear H
              have c4b : (bt a0 i == 32) = true := beq_iff_eq.mpr c4
              clear c4
              go_wp2
              go_roundw
              case rel => exact ⟨kq, _, _, _, rfl, rfl, H', HO, HB, HM, by omega⟩
              case measure => simp [intOf]; omega
            · rw [if_neg c4] at H
              have c4b : (bt a0 i == 32) = false := beq_eq_false_iff_ne.mpr c4
              clear c4
              by_cases c5 : bt a0 i = 9
              · rw [if_pos c5] at H
                have H' := Aside0.mk H
                clear H
                have c5b : (bt a0 i == 9) = true := beq_iff_eq.mpr c5
                clear c5
                go_wp2
                go_roundw
                case rel => exact ⟨kq, _, _, _, rfl, rfl, H', HO, HB, HM, by omega⟩
                case measure => simp [intOf]; omega
              · rw [if_neg c5] at H
                have c5b : (bt a0 i == 9) = false := beq_eq_false_iff_ne.mpr c5
                clear c5
                replace H := Option.bind_eq_some_iff.1 H
                obtain ⟨⟨x, n⟩, hn, H⟩ := H
                have HN := Aside0.mk hn
                clear hn
                have hz : (a0.extract i.toNat a0.size).size ≤ 140737488351232 := by simp; omega
                have HZ := Lib.hid hz
                clear hz
                simp only at H
                by_cases c6 : n = 0
                · rw [if_pos c6] at H
                  subst c6
                  simp only [Option.some.injEq, Prod.mk.injEq] at H
                  obtain ⟨rfl, rfl, rfl⟩ := H
                  go_wp2_with (first | (go_at_call 53; (with_reducible refine (token_next.calls kq _ b x 0 _ HZ.out HM.out HN.out).mono ?_); rintro e w4 ⟨rfl, hb⟩))
                  go_ret3
                  exact ⟨_, rfl, Kd.R_nil _ _ _ _ _, by repeat (first | exact Below.refl _ _ | exact HB.out | apply below_alloc | apply pw_below_drewN | apply below_drew1 | refine below_set ?_ (Nat.le_trans HB.out.size (Nat.le_trans hb.size (by simp))) | (refine below_step ?_ (by assumption)))⟩
                · rw [if_neg c6] at H
                  by_cases c7 : 0 < n
                  · rw [if_pos c7] at H
                    by_cases c8 : n ≤ (a0.size : Int)
                    · rw [if_pos c8] at H
                      by_cases c9 : out.length < 1000000000
                      · rw [if_pos c9] at H
                        have H' := Aside0.mk H
                        clear H
                        have c6b : (n == 0) = false := beq_eq_false_iff_ne.mpr c6
                        clear c6
                        have HL := Aside0.mk c9
                        clear c9
                        go_wp2_with (first | (go_at_call 53; (with_reducible refine (token_next.calls kq _ b x n _ HZ.out HM.out HN.out).mono ?_); rintro e w4 ⟨rfl, hb⟩; have HO1 := Aside0.mk (Kd.R_below HO.out hb); have HB1 := Aside0.mk (below_step HB.out hb); have HM1 := Aside0.mk (SignsAt.below HM.out hb); clear HO HB HM hb) | ((with_reducible refine gate_builtin (b := .append) (xs := #[.tmp 46, .tmp 48]) rfl ?_); at_builtin; (refine Kd.R_append k59 (w0 := w) w.heap.size rfl (.tmp 46) (.tmp 48) 23 59 (.agg #[(.int .i64 0), (.int .i64 0), (.int .i64 0), (.string ⟨#[]⟩)]) 40 rfl Tryd.underlying23 info59 rfl (by decide) (by omega) u5 out (⟨x.f0, x.f1, line, x.f3⟩ : S59) [.int .i64 x.f0, .int .i64 x.f1, .int .i64 line, .string x.f3] (fun k_ => k_ ≠ b) (fun _ => False) rfl ?aX ?aP (fun _ hk => hk.elim) ?aF ?aO ?aB ?aS ?aL ?_); (case aX => simp [Act.eval]); (case aP => exact k59_mkM _ _ _ (⟨x.f0, x.f1, line, x.f3⟩ : S59)); (case aF => exact fun k_ hk e_ => by have := HM1.out.lt; simp at hk; omega); (case aO => exact Kd.R_alloc HO1.out _); (case aB => exact below_alloc HB1.out _); (case aS => exact below_size (below_alloc HB1.out _)); (case aL => have := HL.out; omega); intro v6 w6 ho hb hg hat))
                        have HM2 : SignsAt (w4.alloc (.cells #[.int .i64 x.f0, .int .i64 x.f1, .int .i64 line, .string x.f3] 59)) b := SignsAt.below HM1.out (below_alloc (Below.refl _ _) _)
                        have HM3 := SignsAt.keep HM2 (hg.block b HM2.lt (fun q => HO1.out.1 b q.symm rfl))
                        go_roundw
                        case rel => exact ⟨kq, _, _, _, rfl, rfl, H', ⟨ho⟩, ⟨hb⟩, ⟨HM3⟩, by omega⟩
                        case measure => simp [intOf]; omega
                      · rw [if_neg c9] at H
                        cases H
                    · rw [if_neg c8] at H
                      cases H
                  · rw [if_neg c7] at H
                    cases H
        · rw [if_neg c2] at H
          simp only [Option.some.injEq, Prod.mk.injEq] at H
          obtain ⟨rfl, rfl, rfl⟩ := H
          go_wp2
          go_ret3
          exact ⟨_, rfl, Kd.R_mono HO.out (fun _ _ => trivial), HB.out⟩

end Go.Proofs.YtcnmejahighkfaaDoor.P
-- Pf27
namespace Go.Proofs.YtcnmejahighkfaaDoor.P
open Go.RowKit Go.Proofs.YtcnmejahighkfaaDoorW.PrintWords Go.Proofs.YtcnmejahighkfaaDoorW.PrintLast Go.Proofs.YtcnmejahighkfaaDoorW.PrintMore
attribute [local go_sem] max2_int min2_int max_two min_two max_three min_three max_four min_four   -- for this text's walks alone
set_option linter.unusedVariables false
set_option linter.unusedSimpArgs false

/-! ### token_Name: function 27 -/
def token_Name.f (k : Nat) (a0 : ByteArray) : Option (Bool) := if a0.toList = ([] : List UInt8) then (some false) else (if (a0.size : Int) ≤ 12 then ((token_name.f k a0).bind fun t396 => (some (t396 == (a0.size : Int)))) else (some false))
theorem token_Name.mono : ∀ a0 k, LeO (token_Name.f k a0) (token_Name.f (k + 1) a0) := by
  intro a0 k
  unfold token_Name.f
  repeat' first
      | (with_reducible exact token_name.mono _ _)
      | (with_reducible exact LeO.refl _)
      | (with_reducible exact LeO.none _)
      | (with_reducible refine LeO.ite ?_ ?_)
      | (with_reducible refine LeO.bind ?_ (fun _ => ?_))
      | exact token_name.mono _ _
      | exact LeO.none _
      | refine LeO.ite ?_ ?_
      | refine LeO.bind ?_ (fun _ => ?_)
set_option maxHeartbeats 8000000 in
set_option maxRecDepth 100000 in
theorem token_Name.calls (k : Nat) (a0 : ByteArray) (r : Bool) (w : World) (h : token_Name.f k a0 = some r) :
    Calls Tryd.prog 27 #[.string a0] w fun e w' => e = .returned (.bool r) ∧ Drawn0 w w' := by
  have H : (if a0.toList = ([] : List UInt8) then (some false) else (if (a0.size : Int) ≤ 12 then ((token_name.f k a0).bind fun t396 => (some (t396 == (a0.size : Int)))) else (some false))) = some r := h
  clear h
  by_cases c2 : a0.toList = ([] : List UInt8)
  · rw [if_pos c2] at H
    have c2b0 : (a0.toList == ([] : List UInt8)) = true := beq_iff_eq.mpr c2
    have c2b1 : (a0.toList != ([] : List UInt8)) = false := bne_eq_false_iff_eq.mpr c2
    clear c2
    obtain rfl := Option.some.inj H
    go_enter Tryd.func27, Tryd.ntmps27
    go_wp2
    go_ret
    exact ⟨by first | rfl | (simp; done) | (simp [*]; done), by repeat (first | exact Drawn0.refl _ | apply Drawn0.step)⟩
  · rw [if_neg c2] at H
    have c2b0 : (a0.toList == ([] : List UInt8)) = false := beq_eq_false_iff_ne.mpr c2
    have c2b1 : (a0.toList != ([] : List UInt8)) = true := bne_iff_ne.mpr c2
    by_cases c3 : (a0.size : Int) ≤ 12
    · rw [if_pos c3] at H
      have c3b0 : decide ((a0.size : Int) ≤ 12) = true := decide_eq_true c3
      have c3b1 : decide (a0.size ≤ 12) = true := decide_eq_true (by omega)
      clear c3
      replace H := Option.bind_eq_some_iff.mp H
      obtain ⟨t396, A40, H⟩ := H
      replace H : (some (t396 == (a0.size : Int))) = some r := H
      have A4 := Aside0.mk A40
      clear A40
      obtain rfl := Option.some.inj H
      go_enter Tryd.func27, Tryd.ntmps27
      go_wp2_with (first | (go_at_call 54; (with_reducible refine (token_name.calls k a0 t396 _ A4.out).mono ?_); rintro e w' ⟨rfl, ⟨nd, rfl⟩⟩))
      go_ret
      exact ⟨by first | rfl | (simp; done) | (simp [*]; done), by repeat (first | exact Drawn0.refl _ | apply Drawn0.step)⟩
    · rw [if_neg c3] at H
      have c3b0 : decide ((a0.size : Int) ≤ 12) = false := decide_eq_false c3
      have c3b1 : decide (a0.size ≤ 12) = false := decide_eq_false (by omega)
      clear c3
      obtain rfl := Option.some.inj H
      go_enter Tryd.func27, Tryd.ntmps27
      go_wp2
      go_ret
      exact ⟨by first | rfl | (simp; done) | (simp [*]; done), by repeat (first | exact Drawn0.refl _ | apply Drawn0.step)⟩

end Go.Proofs.YtcnmejahighkfaaDoor.P
-- Pf55
namespace Go.Proofs.YtcnmejahighkfaaDoor.P
open Go.RowKit Go.Proofs.YtcnmejahighkfaaDoorW.PrintWords Go.Proofs.YtcnmejahighkfaaDoorW.PrintLast Go.Proofs.YtcnmejahighkfaaDoorW.PrintMore
attribute [local go_sem] max2_int min2_int max_two min_two max_three min_three max_four min_four   -- for this text's walks alone
set_option linter.unusedVariables false
set_option linter.unusedSimpArgs false

/-! ### strconv_Itoa: function 55 -/
/-- The decimal numeral. -/
def strconv_Itoa.f (a0 : Int) : Option ByteArray := if -9223372036854775808 ≤ a0 then (if a0 ≤ 9223372036854775807 then some ⟨(Lib.itoa a0).toArray⟩ else none) else none
theorem strconv_Itoa.calls (a0 : Int) (r : ByteArray) (w : World) (h : strconv_Itoa.f a0 = some r) (hG_Pow : LaidPow w := by first | assumption | exact LaidPow.via (by assumption) (by repeat (first | exact Aside0.out (by assumption) | (with_reducible first | apply below_alloc | apply pw_below_drewN | apply below_drew1) | exact Below.refl _ _))) :
    Calls Tryd.prog 55 #[.int .i64 a0] w fun e w' => e = .returned (.string r) ∧ Below w.heap.size w w' := by
  unfold strconv_Itoa.f at h
  split at h
  · rename_i h0
    split at h
    · rename_i h1
      obtain rfl := Option.some.inj h
      refine (Tryd.strconv_Itoa a0 h0 h1 w hG_Pow.tab).mono ?_
      rintro e w' ⟨he, k, os, rfl⟩
      exact ⟨he, Lib.below_grow _ _ (Nat.le_refl _) _ _⟩
    · cases h
  · cases h

end Go.Proofs.YtcnmejahighkfaaDoor.P
-- Pf29
namespace Go.Proofs.YtcnmejahighkfaaDoor.P
open Go.RowKit Go.Proofs.YtcnmejahighkfaaDoorW.PrintWords Go.Proofs.YtcnmejahighkfaaDoorW.PrintLast Go.Proofs.YtcnmejahighkfaaDoorW.PrintMore
attribute [local go_sem] max2_int min2_int max_two min_two max_three min_three max_four min_four   -- for this text's walks alone
set_option linter.unusedVariables false
set_option linter.unusedSimpArgs false

/-! ### token_Word: function 29 -/
def token_Word.j0 : Nat → Int → Bool → Int → Int → Int → ByteArray → Option (ByteArray)
  | 0, _, _, _, _, _, _ => none
  | k + 1, x4, x5, x417000, x417001, x417002, x417003 => if x5 = true then (some x417003) else (if x4 = 2 then (if x417001 < 0 then (some (⟨#[48]⟩ : ByteArray)) else (if x417001 > 2147483647 then (some (⟨#[48]⟩ : ByteArray)) else ((strconv_Itoa.f x417001).bind fun t417 => (some t417)))) else (some (⟨#[]⟩ : ByteArray)))
def token_Word.f (k : Nat) (a0_0 : Int) (a0_1 : Int) (a0_2 : Int) (a0_3 : ByteArray) : Option (ByteArray) := if a0_0 = 1 then (token_Word.j0 k a0_0 (a0_0 == 1) a0_0 a0_1 a0_2 a0_3) else (token_Word.j0 k a0_0 (a0_0 == 3) a0_0 a0_1 a0_2 a0_3)
theorem token_Word.mono_l : ∀ k, (∀ y0 y1 y2 y3 y4 y5, LeO (token_Word.j0 k y0 y1 y2 y3 y4 y5) (token_Word.j0 (k + 1) y0 y1 y2 y3 y4 y5))
  | 0 => fun _ _ _ _ _ _ r h => by simp [token_Word.j0] at h
  | k + 1 => by
    have ih0 := token_Word.mono_l k
    · intro y0 y1 y2 y3 y4 y5
      unfold token_Word.j0
      repeat' first
      | (with_reducible exact ih0 _ _ _ _ _ _)
      | (with_reducible exact LeO.refl _)
      | (with_reducible exact LeO.none _)
      | (with_reducible refine LeO.ite ?_ ?_)
      | (with_reducible refine LeO.bind ?_ (fun _ => ?_))
      | exact ih0 _ _ _ _ _ _
      | exact LeO.none _
      | refine LeO.ite ?_ ?_
      | refine LeO.bind ?_ (fun _ => ?_)
theorem token_Word.mono : ∀ a0 a1 a2 a3 k, LeO (token_Word.f k a0 a1 a2 a3) (token_Word.f (k + 1) a0 a1 a2 a3) := by
  intro a0 a1 a2 a3 k
  have ih0 := token_Word.mono_l k
  unfold token_Word.f
  repeat' first
      | (with_reducible exact ih0 _ _ _ _ _ _)
      | (with_reducible exact LeO.refl _)
      | (with_reducible exact LeO.none _)
      | (with_reducible refine LeO.ite ?_ ?_)
      | (with_reducible refine LeO.bind ?_ (fun _ => ?_))
      | exact ih0 _ _ _ _ _ _
      | exact LeO.none _
      | refine LeO.ite ?_ ?_
      | refine LeO.bind ?_ (fun _ => ?_)
set_option maxHeartbeats 8000000 in
set_option maxRecDepth 100000 in
theorem token_Word.calls (k : Nat) (a0_0 : Int) (a0_1 : Int) (a0_2 : Int) (a0_3 : ByteArray) (r : ByteArray) (w : World) (h : token_Word.f k a0_0 a0_1 a0_2 a0_3 = some r) (hG_Pow : LaidPow w := by first | assumption | exact LaidPow.via (by assumption) (by repeat (first | exact Aside0.out (by assumption) | (with_reducible first | apply below_alloc | apply pw_below_drewN | apply below_drew1) | exact Below.refl _ _))) :
    Calls Tryd.prog 29 #[.agg #[.int .i64 a0_0, .int .i64 a0_1, .int .i64 a0_2, .string a0_3]] w fun e w' => e = .returned (.string r) ∧ Below w.heap.size w w' := by
  have hu59 := Tryd.underlying59
  have HB := Aside0.mk (Below.refl w.heap.size w)
  have H : (if a0_0 = 1 then (token_Word.j0 k a0_0 (a0_0 == 1) a0_0 a0_1 a0_2 a0_3) else (token_Word.j0 k a0_0 (a0_0 == 3) a0_0 a0_1 a0_2 a0_3)) = some r := h
  clear h
  have HC2 := Aside0.mk H
  clear H
  go_enter Tryd.func29, Tryd.ntmps29
  go_upto_if 5 with (first | ((with_reducible refine gate_dst (N := 1) rfl ?_); refine box_event ?hg (N := 1) ?hd (cs := #[.int .i64 a0_0, .int .i64 a0_1, .int .i64 a0_2, .string a0_3]) (t := 59) ?hr ?_; (case hd => rfl); (case hg => rfl); (case hr => first | (go_simp; done) | (go_simp; rfl)); intro gb416 hg w3 hbox hb; have n0_ := Aside0.mk (below_step (by repeat (first | (with_reducible first | exact HB.out | apply below_alloc | apply pw_below_drewN | apply below_drew1) | exact HB.out)) hb); have n1_ := Aside0.mk (hbox); have n2_ := Aside0.mk ((by rw [hg]; exact (below_size (by repeat (first | (with_reducible first | exact HB.out | apply below_alloc | apply pw_below_drewN | apply below_drew1) | exact HB.out))) : w.heap.size ≤ gb416)); have n3_ := Aside0.mk ((by rw [hg]; exact (below_size (by repeat (first | (with_reducible first | exact HB.out | apply below_alloc | apply pw_below_drewN | apply below_drew1) | exact HB.out))) : w.heap.size ≤ gb416)); clear HB; have HB := n0_; have BK416 := n1_; have GW416 := n2_; have GE416 := n3_; clear n0_ n1_ n2_ n3_; clear hb hbox hg; have hcz4_0 : w3.cell? ⟨gb416, 0, none⟩ = some (.int .i64 a0_0) := (blk_cell BK416.out 0).trans rfl; have hcz4_1 : w3.cell? ⟨gb416, 1, none⟩ = some (.int .i64 a0_1) := (blk_cell BK416.out 1).trans rfl; have hcz4_2 : w3.cell? ⟨gb416, 2, none⟩ = some (.int .i64 a0_2) := (blk_cell BK416.out 2).trans rfl; have hcz4_3 : w3.cell? ⟨gb416, 3, none⟩ = some (.string a0_3) := (blk_cell BK416.out 3).trans rfl; have hfz4_0 := blk_frozen BK416.out 0; have hfz4_1 := blk_frozen BK416.out 1; have hfz4_2 := blk_frozen BK416.out 2; have hfz4_3 := blk_frozen BK416.out 3))
  (try simp only [Act.put, List.setIfInBounds_toArray, List.set_cons_zero, List.set_cons_succ])
  go_cut [5] (fun v5 wc => ∃ (kq : Nat) (x5_1 : Bool), v5 = .bool x5_1 ∧ Aside0 (token_Word.j0 kq a0_0 x5_1 a0_0 a0_1 a0_2 a0_3 = some r) ∧ Aside0 (kq ≤ k) ∧ Aside0 (wc.heap[gb416]? = some (.cells #[.int .i64 a0_0, .int .i64 a0_1, .int .i64 a0_2, .string a0_3] 59 (0, 0))) ∧ Aside0 (Below w.heap.size w wc))
  case first =>
    have H := HC2.out
    clear HC2
    by_cases c5 : a0_0 = 1
    · rw [if_pos c5] at H
      have c5b0 : (a0_0 == 1) = true := beq_iff_eq.mpr c5
      have c5b1 : (a0_0 != 1) = false := bne_eq_false_iff_eq.mpr c5
      clear c5
      (first | rw [c5b0] | (simp only [i64_w, i32_w]; rw [c5b0]) | skip)
      have H' := Aside0.mk H
      clear H
      go_wp2
      go_meet
      case rel => exact ⟨_, ((a0_0 == 1)), (by first | rfl | (simp; done) | (simp [*]; done)), H', ⟨by first | omega | exact Nat.le_refl _⟩, ⟨by (with_reducible repeat (first | refine blk_drewN ?_ _ | refine blk_drew ?_ | refine blk_alloc ?_ _)); exact BK416.out⟩, ⟨by repeat (first | (with_reducible first | exact HB.out | apply below_alloc | apply pw_below_drewN | apply below_drew1 | refine below_set ?_ GE416.out) | exact HB.out)⟩⟩
    · rw [if_neg c5] at H
      have c5b0 : (a0_0 == 1) = false := beq_eq_false_iff_ne.mpr c5
      have c5b1 : (a0_0 != 1) = true := bne_iff_ne.mpr c5
      (first | rw [c5b0] | (simp only [i64_w, i32_w]; rw [c5b0]) | skip)
      have H' := Aside0.mk H
      clear H
      go_wp2
      go_meet
      case rel => exact ⟨_, ((a0_0 == 3)), (by first | rfl | (simp; done) | (simp [*]; done)), H', ⟨by first | omega | exact Nat.le_refl _⟩, ⟨by (with_reducible repeat (first | refine blk_drewN ?_ _ | refine blk_drew ?_ | refine blk_alloc ?_ _)); exact BK416.out⟩, ⟨by repeat (first | (with_reducible first | exact HB.out | apply below_alloc | apply pw_below_drewN | apply below_drew1 | refine below_set ?_ GE416.out) | exact HB.out)⟩⟩
  case rest =>
    clear HC2
    try clear c2
    try clear p2
    try clear c5
    try clear c5b0
    try clear c5b1
    try clear hcz4_0
    try clear hcz4_1
    try clear hcz4_2
    try clear hcz4_3
    try clear hfz4_0
    try clear hfz4_1
    try clear hfz4_2
    try clear hfz4_3
    obtain ⟨kq, x5_1, rfl, HA, HJ1, BK416, HB⟩ := hcut
    cases kq with
    | zero => exact absurd HA.out (by simp [token_Word.j0])
    | succ kj1 =>
      have H := HA.out
      clear HA
      simp only [token_Word.j0] at H
      by_cases c6 : x5_1 = true
      · subst c6
        have H1 : (some a0_3) = some r := by rw [if_pos rfl] at H; exact H
        clear H
        have H := H1
        clear H1
        obtain rfl := Option.some.inj H
        have hcz7_0 : wc.cell? ⟨gb416, 0, none⟩ = some (.int .i64 a0_0) := (blk_cell BK416.out 0).trans rfl
        have hcz7_1 : wc.cell? ⟨gb416, 1, none⟩ = some (.int .i64 a0_1) := (blk_cell BK416.out 1).trans rfl
        have hcz7_2 : wc.cell? ⟨gb416, 2, none⟩ = some (.int .i64 a0_2) := (blk_cell BK416.out 2).trans rfl
        have hcz7_3 : wc.cell? ⟨gb416, 3, none⟩ = some (.string a0_3) := (blk_cell BK416.out 3).trans rfl
        have hfz7_0 := blk_frozen BK416.out 0
        have hfz7_1 := blk_frozen BK416.out 1
        have hfz7_2 := blk_frozen BK416.out 2
        have hfz7_3 := blk_frozen BK416.out 3
        go_wp2
        go_ret
        exact ⟨by first | rfl | (simp [errW_none, errW_some] <;> rfl) | (simp [*, errW_none, errW_some] <;> rfl), by repeat (first | (with_reducible first | exact HB.out | apply below_alloc | apply pw_below_drewN | apply below_drew1 | refine below_set ?_ GE416.out) | exact HB.out)⟩
      · replace c6 := Bool.eq_false_iff.mpr c6
        subst c6
        have H1 : (if a0_0 = 2 then (if a0_1 < 0 then (some (⟨#[48]⟩ : ByteArray)) else (if a0_1 > 2147483647 then (some (⟨#[48]⟩ : ByteArray)) else ((strconv_Itoa.f a0_1).bind fun t417 => (some t417)))) else (some (⟨#[]⟩ : ByteArray))) = some r := by rw [if_neg (show ¬ (false = true) by decide)] at H; exact H
        clear H
        have H := H1
        clear H1
        by_cases c8 : a0_0 = 2
        · rw [if_pos c8] at H
          have c8b0 : (a0_0 == 2) = true := beq_iff_eq.mpr c8
          have c8b1 : (a0_0 != 2) = false := bne_eq_false_iff_eq.mpr c8
          clear c8
          by_cases c9 : a0_1 < 0
          · rw [if_pos c9] at H
            have c9b0 : decide (a0_1 < 0) = true := decide_eq_true c9
            clear c9
            obtain rfl := Option.some.inj H
            have hcz10_0 : wc.cell? ⟨gb416, 0, none⟩ = some (.int .i64 a0_0) := (blk_cell BK416.out 0).trans rfl
            have hcz10_1 : wc.cell? ⟨gb416, 1, none⟩ = some (.int .i64 a0_1) := (blk_cell BK416.out 1).trans rfl
            have hcz10_2 : wc.cell? ⟨gb416, 2, none⟩ = some (.int .i64 a0_2) := (blk_cell BK416.out 2).trans rfl
            have hcz10_3 : wc.cell? ⟨gb416, 3, none⟩ = some (.string a0_3) := (blk_cell BK416.out 3).trans rfl
            have hfz10_0 := blk_frozen BK416.out 0
            have hfz10_1 := blk_frozen BK416.out 1
            have hfz10_2 := blk_frozen BK416.out 2
            have hfz10_3 := blk_frozen BK416.out 3
            go_wp2
            go_ret
            exact ⟨by first | rfl | (simp [errW_none, errW_some] <;> rfl) | (simp [*, errW_none, errW_some] <;> rfl), by repeat (first | (with_reducible first | exact HB.out | apply below_alloc | apply pw_below_drewN | apply below_drew1 | refine below_set ?_ GE416.out) | exact HB.out)⟩
          · rw [if_neg c9] at H
            have c9b0 : decide (a0_1 < 0) = false := decide_eq_false c9
            clear c9
            by_cases c11 : a0_1 > 2147483647
            · rw [if_pos c11] at H
              have c11b0 : decide (2147483647 < a0_1) = true := decide_eq_true c11
              clear c11
              obtain rfl := Option.some.inj H
              have hcz12_0 : wc.cell? ⟨gb416, 0, none⟩ = some (.int .i64 a0_0) := (blk_cell BK416.out 0).trans rfl
              have hcz12_1 : wc.cell? ⟨gb416, 1, none⟩ = some (.int .i64 a0_1) := (blk_cell BK416.out 1).trans rfl
              have hcz12_2 : wc.cell? ⟨gb416, 2, none⟩ = some (.int .i64 a0_2) := (blk_cell BK416.out 2).trans rfl
              have hcz12_3 : wc.cell? ⟨gb416, 3, none⟩ = some (.string a0_3) := (blk_cell BK416.out 3).trans rfl
              have hfz12_0 := blk_frozen BK416.out 0
              have hfz12_1 := blk_frozen BK416.out 1
              have hfz12_2 := blk_frozen BK416.out 2
              have hfz12_3 := blk_frozen BK416.out 3
              go_wp2
              go_ret
              exact ⟨by first | rfl | (simp [errW_none, errW_some] <;> rfl) | (simp [*, errW_none, errW_some] <;> rfl), by repeat (first | (with_reducible first | exact HB.out | apply below_alloc | apply pw_below_drewN | apply below_drew1 | refine below_set ?_ GE416.out) | exact HB.out)⟩
            · rw [if_neg c11] at H
              have c11b0 : decide (2147483647 < a0_1) = false := decide_eq_false c11
              clear c11
              replace H := Option.bind_eq_some_iff.mp H
              obtain ⟨t417, A130, H⟩ := H
              replace H : (some t417) = some r := H
              have A13 := Aside0.mk A130
              clear A130
              obtain rfl := Option.some.inj H
              have hcz14_0 : wc.cell? ⟨gb416, 0, none⟩ = some (.int .i64 a0_0) := (blk_cell BK416.out 0).trans rfl
              have hcz14_1 : wc.cell? ⟨gb416, 1, none⟩ = some (.int .i64 a0_1) := (blk_cell BK416.out 1).trans rfl
              have hcz14_2 : wc.cell? ⟨gb416, 2, none⟩ = some (.int .i64 a0_2) := (blk_cell BK416.out 2).trans rfl
              have hcz14_3 : wc.cell? ⟨gb416, 3, none⟩ = some (.string a0_3) := (blk_cell BK416.out 3).trans rfl
              have hfz14_0 := blk_frozen BK416.out 0
              have hfz14_1 := blk_frozen BK416.out 1
              have hfz14_2 := blk_frozen BK416.out 2
              have hfz14_3 := blk_frozen BK416.out 3
              go_wp2_with (first | ((with_reducible refine gate_callee (f := 55) rfl ?_); refine goesL_ (some 22) rfl rfl Tryd.func55 (by kernel_rfl) rfl #[.int .i64 a0_1] rfl (by (try simp only [List.map_toArray, List.map_cons, List.map_nil]); first | done | rfl | (simp only [List.length_drop, List.length_take]; rfl)) ?_; (with_reducible refine (strconv_Itoa.calls a0_1 t417 _ A13.out).mono ?_); rintro e w15 ⟨rfl, hb⟩; refine ⟨_, rfl, ?_⟩; have n0_ := Aside0.mk (blk_below (g := gb416) (o := .cells #[.int .i64 a0_0, .int .i64 a0_1, .int .i64 a0_2, .string a0_3] 59 (0, 0)) (by (with_reducible repeat (first | refine blk_drewN ?_ _ | refine blk_drew ?_ | refine blk_alloc ?_ _)); exact BK416.out) hb); have n1_ := Aside0.mk (below_step (by repeat (first | (with_reducible first | exact HB.out | apply below_alloc | apply pw_below_drewN | apply below_drew1 | refine below_set ?_ GE416.out) | exact HB.out)) hb); clear BK416; clear HB; have BK416 := n0_; have HB := n1_; clear n0_ n1_; (try clear hb); (try clear hb2); (try clear hk); (try clear hi)))
              go_ret
              exact ⟨by first | rfl | (simp [errW_none, errW_some] <;> rfl) | (simp [*, errW_none, errW_some] <;> rfl), by repeat (first | (with_reducible first | exact HB.out | apply below_alloc | apply pw_below_drewN | apply below_drew1 | refine below_set ?_ GE416.out) | exact HB.out)⟩
        · rw [if_neg c8] at H
          have c8b0 : (a0_0 == 2) = false := beq_eq_false_iff_ne.mpr c8
          have c8b1 : (a0_0 != 2) = true := bne_iff_ne.mpr c8
          obtain rfl := Option.some.inj H
          go_wp2
          go_ret
          exact ⟨by first | rfl | (simp [errW_none, errW_some] <;> rfl) | (simp [*, errW_none, errW_some] <;> rfl), by repeat (first | (with_reducible first | exact HB.out | apply below_alloc | apply pw_below_drewN | apply below_drew1 | refine below_set ?_ GE416.out) | exact HB.out)⟩

end Go.Proofs.YtcnmejahighkfaaDoor.P
-- Pf24
namespace Go.Proofs.YtcnmejahighkfaaDoor.P
open Go.RowKit Go.Proofs.YtcnmejahighkfaaDoorW.PrintWords Go.Proofs.YtcnmejahighkfaaDoorW.PrintLast Go.Proofs.YtcnmejahighkfaaDoorW.PrintMore
attribute [local go_sem] max2_int min2_int max_two min_two max_three min_three max_four min_four   -- for this text's walks alone
set_option linter.unusedVariables false
set_option linter.unusedSimpArgs false

/-! ### timeboundlaw02_awake: function 24 -/
def timeboundlaw02_awake.f (k : Nat)  : Option (Bool) := (token_Scan.f (⟨#[105, 60, 61, 49, 48]⟩ : ByteArray)).bind fun bt418 => (if bt418.2.2 = 0 then (if bt418.2.1 = 0 then (if (bt418.1.length : Int) = 3 then (if 0 < (bt418.1.length : Int) then (if ((rd_T59 bt418.1 0).f3).toList = ([105] : List UInt8) then (if 1 < (bt418.1.length : Int) then (if ((rd_T59 bt418.1 1).f3).toList = ([60, 61] : List UInt8) then (if 2 < (bt418.1.length : Int) then (if ((rd_T59 bt418.1 2).f1) = 10 then ((token_Name.f k (⟨#[97, 49]⟩ : ByteArray)).bind fun t426 => (if t426 = true then ((token_Word.f k ((rd_T59 bt418.1 2).f0) ((rd_T59 bt418.1 2).f1) ((rd_T59 bt418.1 2).f2) ((rd_T59 bt418.1 2).f3)).bind fun t428 => (some (t428.toList == ([49, 48] : List UInt8)))) else (some false))) else (some false)) else (none)) else (some false)) else (none)) else (some false)) else (none)) else (some false)) else (some false)) else (some false))
theorem timeboundlaw02_awake.mono : ∀ k, LeO (timeboundlaw02_awake.f k ) (timeboundlaw02_awake.f (k + 1) ) := by
  intro  k
  unfold timeboundlaw02_awake.f
  repeat' first
      | (with_reducible exact token_Name.mono _ _)
      | (with_reducible exact token_Word.mono _ _ _ _ _)
      | (with_reducible exact LeO.refl _)
      | (with_reducible exact LeO.none _)
      | (with_reducible refine LeO.ite ?_ ?_)
      | (with_reducible refine LeO.bind ?_ (fun _ => ?_))
      | exact token_Name.mono _ _
      | exact token_Word.mono _ _ _ _ _
      | exact LeO.none _
      | refine LeO.ite ?_ ?_
      | refine LeO.bind ?_ (fun _ => ?_)
set_option maxHeartbeats 8000000 in
set_option maxRecDepth 100000 in
theorem timeboundlaw02_awake.calls (k : Nat)  (r : Bool) (w : World) (h : timeboundlaw02_awake.f k  = some r) (hG_Pow : LaidPow w := by first | assumption | exact LaidPow.via (by assumption) (by repeat (first | exact Aside0.out (by assumption) | (with_reducible first | apply below_alloc | apply pw_below_drewN | apply below_drew1) | exact Below.refl _ _))) :
    Calls Tryd.prog 24 #[] w fun e w' => e = .returned (.bool r) ∧ Below w.heap.size w w' := by
  have hu59 := Tryd.underlying59
  have HB := Aside0.mk (Below.refl w.heap.size w)
  have H : ((token_Scan.f (⟨#[105, 60, 61, 49, 48]⟩ : ByteArray)).bind fun bt418 => (if bt418.2.2 = 0 then (if bt418.2.1 = 0 then (if (bt418.1.length : Int) = 3 then (if 0 < (bt418.1.length : Int) then (if ((rd_T59 bt418.1 0).f3).toList = ([105] : List UInt8) then (if 1 < (bt418.1.length : Int) then (if ((rd_T59 bt418.1 1).f3).toList = ([60, 61] : List UInt8) then (if 2 < (bt418.1.length : Int) then (if ((rd_T59 bt418.1 2).f1) = 10 then ((token_Name.f k (⟨#[97, 49]⟩ : ByteArray)).bind fun t426 => (if t426 = true then ((token_Word.f k ((rd_T59 bt418.1 2).f0) ((rd_T59 bt418.1 2).f1) ((rd_T59 bt418.1 2).f2) ((rd_T59 bt418.1 2).f3)).bind fun t428 => (some (t428.toList == ([49, 48] : List UInt8)))) else (some false))) else (some false)) else (none)) else (some false)) else (none)) else (some false)) else (none)) else (some false)) else (some false)) else (some false))) = some r := h
  clear h
  replace H := Option.bind_eq_some_iff.mp H
  obtain ⟨⟨t418, t419, t420⟩, A10, H⟩ := H
  replace H : (if t420 = 0 then (if t419 = 0 then (if (t418.length : Int) = 3 then (if 0 < (t418.length : Int) then (if ((rd_T59 t418 0).f3).toList = ([105] : List UInt8) then (if 1 < (t418.length : Int) then (if ((rd_T59 t418 1).f3).toList = ([60, 61] : List UInt8) then (if 2 < (t418.length : Int) then (if ((rd_T59 t418 2).f1) = 10 then ((token_Name.f k (⟨#[97, 49]⟩ : ByteArray)).bind fun t426 => (if t426 = true then ((token_Word.f k ((rd_T59 t418 2).f0) ((rd_T59 t418 2).f1) ((rd_T59 t418 2).f2) ((rd_T59 t418 2).f3)).bind fun t428 => (some (t428.toList == ([49, 48] : List UInt8)))) else (some false))) else (some false)) else (none)) else (some false)) else (none)) else (some false)) else (none)) else (some false)) else (some false)) else (some false)) = some r := H
  have A1 := Aside0.mk A10
  clear A10
  by_cases c2 : t420 = 0
  · rw [if_pos c2] at H
    have c2b0 : (t420 == 0) = true := beq_iff_eq.mpr c2
    have c2b1 : (t420 != 0) = false := bne_eq_false_iff_eq.mpr c2
    clear c2
    by_cases c3 : t419 = 0
    · rw [if_pos c3] at H
      have c3b0 : (t419 == 0) = true := beq_iff_eq.mpr c3
      have c3b1 : (t419 != 0) = false := bne_eq_false_iff_eq.mpr c3
      clear c3
      by_cases c4 : (t418.length : Int) = 3
      · rw [if_pos c4] at H
        have c4b0 : ((t418.length : Int) == 3) = true := beq_iff_eq.mpr c4
        have c4b1 : ((t418.length : Int) != 3) = false := bne_eq_false_iff_eq.mpr c4
        clear c4
        by_cases c5 : 0 < (t418.length : Int)
        · rw [if_pos c5] at H
          have c5b0 : decide (0 < (t418.length : Int)) = true := decide_eq_true c5
          have c5b1 : decide (0 < t418.length) = true := decide_eq_true (by omega)
          clear c5
          by_cases c6 : ((rd_T59 t418 0).f3).toList = ([105] : List UInt8)
          · rw [if_pos c6] at H
            have c6b0 : (((rd_T59 t418 0).f3).toList == ([105] : List UInt8)) = true := beq_iff_eq.mpr c6
            have c6b1 : (((rd_T59 t418 0).f3).toList != ([105] : List UInt8)) = false := bne_eq_false_iff_eq.mpr c6
            clear c6
            by_cases c7 : 1 < (t418.length : Int)
            · rw [if_pos c7] at H
              have c7b0 : decide (1 < (t418.length : Int)) = true := decide_eq_true c7
              have c7b1 : decide (1 < t418.length) = true := decide_eq_true (by omega)
              clear c7
              by_cases c8 : ((rd_T59 t418 1).f3).toList = ([60, 61] : List UInt8)
              · rw [if_pos c8] at H
                have c8b0 : (((rd_T59 t418 1).f3).toList == ([60, 61] : List UInt8)) = true := beq_iff_eq.mpr c8
                have c8b1 : (((rd_T59 t418 1).f3).toList != ([60, 61] : List UInt8)) = false := bne_eq_false_iff_eq.mpr c8
                clear c8
                by_cases c9 : 2 < (t418.length : Int)
                · rw [if_pos c9] at H
                  have c9b0 : decide (2 < (t418.length : Int)) = true := decide_eq_true c9
                  have c9b1 : decide (2 < t418.length) = true := decide_eq_true (by omega)
                  clear c9
                  by_cases c10 : ((rd_T59 t418 2).f1) = 10
                  · rw [if_pos c10] at H
                    have c10b0 : (((rd_T59 t418 2).f1) == 10) = true := beq_iff_eq.mpr c10
                    have c10b1 : (((rd_T59 t418 2).f1) != 10) = false := bne_eq_false_iff_eq.mpr c10
                    clear c10
                    replace H := Option.bind_eq_some_iff.mp H
                    obtain ⟨t426, A110, H⟩ := H
                    replace H : (if t426 = true then ((token_Word.f k ((rd_T59 t418 2).f0) ((rd_T59 t418 2).f1) ((rd_T59 t418 2).f2) ((rd_T59 t418 2).f3)).bind fun t428 => (some (t428.toList == ([49, 48] : List UInt8)))) else (some false)) = some r := H
                    have A11 := Aside0.mk A110
                    clear A110
                    by_cases c12 : t426 = true
                    · subst c12
                      have H1 : ((token_Word.f k ((rd_T59 t418 2).f0) ((rd_T59 t418 2).f1) ((rd_T59 t418 2).f2) ((rd_T59 t418 2).f3)).bind fun t428 => (some (t428.toList == ([49, 48] : List UInt8)))) = some r := by rw [if_pos rfl] at H; exact H
                      clear H
                      have H := H1
                      clear H1
                      replace H := Option.bind_eq_some_iff.mp H
                      obtain ⟨t428, A130, H⟩ := H
                      replace H : (some (t428.toList == ([49, 48] : List UInt8))) = some r := H
                      have A13 := Aside0.mk A130
                      clear A130
                      obtain rfl := Option.some.inj H
                      go_enter Tryd.func24, Tryd.ntmps24
                      go_wp2_with (first | ((with_reducible refine gate_callee (f := 25) rfl ?_); refine goesL_ (some 5) rfl rfl Tryd.func25 (by kernel_rfl) rfl #[.string (⟨#[105, 60, 61, 49, 48]⟩ : ByteArray)] rfl (by (try simp only [List.map_toArray, List.map_cons, List.map_nil]); first | done | rfl | (simp only [List.length_drop, List.length_take]; rfl)) ?_; (with_reducible refine (token_Scan.calls (⟨#[105, 60, 61, 49, 48]⟩ : ByteArray) t418 t419 t420 _ A1.out).mono ?_); rintro e w14 ⟨v421, rfl, ho0, hb⟩; refine ⟨_, rfl, ?_⟩; have n0_ := Aside0.mk (Kd.R_lower ho0 (below_size (by repeat (first | (with_reducible first | exact HB.out | apply below_alloc | apply pw_below_drewN | apply below_drew1) | exact HB.out)))); have n1_ := Aside0.mk (below_step (by repeat (first | (with_reducible first | exact HB.out | apply below_alloc | apply pw_below_drewN | apply below_drew1) | exact HB.out)) hb); clear HB; have HO422 := n0_; have HB := n1_; clear n0_ n1_; (try clear hb); (try clear hb2); (try clear hk); (try clear hi); (try clear ho0); obtain ⟨Ao15, co15, eo15⟩ := Kd.R_slice HO422.out; subst eo15; have p423 : 0 ≤ (0 : Int) := (by omega); have q423 : 0 < (t418.length : Int) := of_decide_eq_true (by first | (with_reducible assumption) | assumption); obtain ⟨ad423, e423, hx423_0, hx423_1, hx423_2, hx423_3⟩ := at_T59 (Kd.R_reads' HO422.out).2.2 0 p423 q423; cases e423; have qi423 : (0 < t418.length) = True := eq_true (by omega); (try rw [show ((0 : Int)).toNat = 0 from rfl] at hx423_0); (try rw [show 0 * 4 = 0 from rfl] at hx423_0); (try rw [Addr.add_zero'] at hx423_0); (try rw [show ((0 : Int)).toNat = 0 from rfl] at hx423_1); (try rw [show 0 * 4 = 0 from rfl] at hx423_1); (try rw [Addr.add_zero'] at hx423_1); (try rw [show ((0 : Int)).toNat = 0 from rfl] at hx423_2); (try rw [show 0 * 4 = 0 from rfl] at hx423_2); (try rw [Addr.add_zero'] at hx423_2); (try rw [show ((0 : Int)).toNat = 0 from rfl] at hx423_3); (try rw [show 0 * 4 = 0 from rfl] at hx423_3); (try rw [Addr.add_zero'] at hx423_3); replace p423 := eq_true p423; replace q423 := eq_true q423; have p424 : 0 ≤ (1 : Int) := (by omega); have q424 : 1 < (t418.length : Int) := of_decide_eq_true (by first | (with_reducible assumption) | assumption); obtain ⟨ad424, e424, hx424_0, hx424_1, hx424_2, hx424_3⟩ := at_T59 (Kd.R_reads' HO422.out).2.2 1 p424 q424; obtain rfl : ad423 = ad424 := (by injection e424); (try simp only [show (1 : Int).toNat = 1 from rfl, Nat.reduceMul, Nat.reduceEqDiff, Go.Addr.add, ↓reduceIte] at hx424_0); (try simp only [show (1 : Int).toNat = 1 from rfl, Nat.reduceMul, Nat.reduceEqDiff, Go.Addr.add, ↓reduceIte] at hx424_1); (try simp only [show (1 : Int).toNat = 1 from rfl, Nat.reduceMul, Nat.reduceEqDiff, Go.Addr.add, ↓reduceIte] at hx424_2); (try simp only [show (1 : Int).toNat = 1 from rfl, Nat.reduceMul, Nat.reduceEqDiff, Go.Addr.add, ↓reduceIte] at hx424_3); have qi424 : (1 < t418.length) = True := eq_true (by omega); (try rw [show ((1 : Int)).toNat = 1 from rfl] at hx424_0); (try rw [show 1 * 4 = 4 from rfl] at hx424_0); (try rw [show ((1 : Int)).toNat = 1 from rfl] at hx424_1); (try rw [show 1 * 4 = 4 from rfl] at hx424_1); (try rw [show ((1 : Int)).toNat = 1 from rfl] at hx424_2); (try rw [show 1 * 4 = 4 from rfl] at hx424_2); (try rw [show ((1 : Int)).toNat = 1 from rfl] at hx424_3); (try rw [show 1 * 4 = 4 from rfl] at hx424_3); replace p424 := eq_true p424; replace q424 := eq_true q424; have p425 : 0 ≤ (2 : Int) := (by omega); have q425 : 2 < (t418.length : Int) := of_decide_eq_true (by first | (with_reducible assumption) | assumption); obtain ⟨ad425, e425, hx425_0, hx425_1, hx425_2, hx425_3⟩ := at_T59 (Kd.R_reads' HO422.out).2.2 2 p425 q425; obtain rfl : ad423 = ad425 := (by injection e425); (try simp only [show (2 : Int).toNat = 2 from rfl, Nat.reduceMul, Nat.reduceEqDiff, Go.Addr.add, ↓reduceIte] at hx425_0); (try simp only [show (2 : Int).toNat = 2 from rfl, Nat.reduceMul, Nat.reduceEqDiff, Go.Addr.add, ↓reduceIte] at hx425_1); (try simp only [show (2 : Int).toNat = 2 from rfl, Nat.reduceMul, Nat.reduceEqDiff, Go.Addr.add, ↓reduceIte] at hx425_2); (try simp only [show (2 : Int).toNat = 2 from rfl, Nat.reduceMul, Nat.reduceEqDiff, Go.Addr.add, ↓reduceIte] at hx425_3); have qi425 : (2 < t418.length) = True := eq_true (by omega); (try rw [show ((2 : Int)).toNat = 2 from rfl] at hx425_0); (try rw [show 2 * 4 = 8 from rfl] at hx425_0); (try rw [show ((2 : Int)).toNat = 2 from rfl] at hx425_1); (try rw [show 2 * 4 = 8 from rfl] at hx425_1); (try rw [show ((2 : Int)).toNat = 2 from rfl] at hx425_2); (try rw [show 2 * 4 = 8 from rfl] at hx425_2); (try rw [show ((2 : Int)).toNat = 2 from rfl] at hx425_3); (try rw [show 2 * 4 = 8 from rfl] at hx425_3); replace p425 := eq_true p425; replace q425 := eq_true q425) | (go_at_call 27; (with_reducible refine (token_Name.calls k (⟨#[97, 49]⟩ : ByteArray) true _ A11.out).mono ?_); rintro e w' ⟨rfl, ⟨nd, rfl⟩⟩; have p427 : 0 ≤ (2 : Int) := (by omega); have q427 : 2 < (t418.length : Int) := of_decide_eq_true (by first | (with_reducible assumption) | assumption); obtain ⟨ad427, e427, hx427_0, hx427_1, hx427_2, hx427_3⟩ := at_T59 (Kd.R_reads' HO422.out).2.2 2 p427 q427; obtain rfl : ad423 = ad427 := (by injection e427); (try simp only [show (2 : Int).toNat = 2 from rfl, Nat.reduceMul, Nat.reduceEqDiff, Go.Addr.add, ↓reduceIte] at hx427_0); (try simp only [show (2 : Int).toNat = 2 from rfl, Nat.reduceMul, Nat.reduceEqDiff, Go.Addr.add, ↓reduceIte] at hx427_1); (try simp only [show (2 : Int).toNat = 2 from rfl, Nat.reduceMul, Nat.reduceEqDiff, Go.Addr.add, ↓reduceIte] at hx427_2); (try simp only [show (2 : Int).toNat = 2 from rfl, Nat.reduceMul, Nat.reduceEqDiff, Go.Addr.add, ↓reduceIte] at hx427_3); have qi427 : (2 < t418.length) = True := eq_true (by omega); (try rw [show ((2 : Int)).toNat = 2 from rfl] at hx427_0); (try rw [show 2 * 4 = 8 from rfl] at hx427_0); (try rw [show ((2 : Int)).toNat = 2 from rfl] at hx427_1); (try rw [show 2 * 4 = 8 from rfl] at hx427_1); (try rw [show ((2 : Int)).toNat = 2 from rfl] at hx427_2); (try rw [show 2 * 4 = 8 from rfl] at hx427_2); (try rw [show ((2 : Int)).toNat = 2 from rfl] at hx427_3); (try rw [show 2 * 4 = 8 from rfl] at hx427_3); replace p427 := eq_true p427; replace q427 := eq_true q427) | (go_at_call 29; (with_reducible refine (token_Word.calls k ((rd_T59 t418 2).f0) ((rd_T59 t418 2).f1) ((rd_T59 t418 2).f2) ((rd_T59 t418 2).f3) t428 _ A13.out).mono ?_); rintro e w16 ⟨rfl, hb⟩; have n0_ := Aside0.mk (Kd.R_below (by (with_reducible repeat (first | apply Kd.R_alloc | apply Kd.R_drewN | apply Kd.R_drew)); exact HO422.out) hb); have n1_ := Aside0.mk (below_step (by repeat (first | (with_reducible first | exact HB.out | apply below_alloc | apply pw_below_drewN | apply below_drew1) | exact HB.out)) hb); clear HO422; clear HB; have HO422 := n0_; have HB := n1_; clear n0_ n1_; (try clear hb); (try clear hb2); (try clear hk); (try clear hi)))
                      go_ret
                      exact ⟨by first | rfl | (simp [errW_none, errW_some] <;> rfl) | (simp [*, errW_none, errW_some] <;> rfl), by repeat (first | (with_reducible first | exact HB.out | apply below_alloc | apply pw_below_drewN | apply below_drew1) | exact HB.out)⟩
                    · replace c12 := Bool.eq_false_iff.mpr c12
                      subst c12
                      have H1 : (some false) = some r := by rw [if_neg (show ¬ (false = true) by decide)] at H; exact H
                      clear H
                      have H := H1
                      clear H1
                      obtain rfl := Option.some.inj H
                      go_enter Tryd.func24, Tryd.ntmps24
                      go_wp2_with (first | ((with_reducible refine gate_callee (f := 25) rfl ?_); refine goesL_ (some 5) rfl rfl Tryd.func25 (by kernel_rfl) rfl #[.string (⟨#[105, 60, 61, 49, 48]⟩ : ByteArray)] rfl (by (try simp only [List.map_toArray, List.map_cons, List.map_nil]); first | done | rfl | (simp only [List.length_drop, List.length_take]; rfl)) ?_; (with_reducible refine (token_Scan.calls (⟨#[105, 60, 61, 49, 48]⟩ : ByteArray) t418 t419 t420 _ A1.out).mono ?_); rintro e w17 ⟨v421, rfl, ho0, hb⟩; refine ⟨_, rfl, ?_⟩; have n0_ := Aside0.mk (Kd.R_lower ho0 (below_size (by repeat (first | (with_reducible first | exact HB.out | apply below_alloc | apply pw_below_drewN | apply below_drew1) | exact HB.out)))); have n1_ := Aside0.mk (below_step (by repeat (first | (with_reducible first | exact HB.out | apply below_alloc | apply pw_below_drewN | apply below_drew1) | exact HB.out)) hb); clear HB; have HO422 := n0_; have HB := n1_; clear n0_ n1_; (try clear hb); (try clear hb2); (try clear hk); (try clear hi); (try clear ho0); obtain ⟨Ao18, co18, eo18⟩ := Kd.R_slice HO422.out; subst eo18; have p423 : 0 ≤ (0 : Int) := (by omega); have q423 : 0 < (t418.length : Int) := of_decide_eq_true (by first | (with_reducible assumption) | assumption); obtain ⟨ad423, e423, hx423_0, hx423_1, hx423_2, hx423_3⟩ := at_T59 (Kd.R_reads' HO422.out).2.2 0 p423 q423; cases e423; have qi423 : (0 < t418.length) = True := eq_true (by omega); (try rw [show ((0 : Int)).toNat = 0 from rfl] at hx423_0); (try rw [show 0 * 4 = 0 from rfl] at hx423_0); (try rw [Addr.add_zero'] at hx423_0); (try rw [show ((0 : Int)).toNat = 0 from rfl] at hx423_1); (try rw [show 0 * 4 = 0 from rfl] at hx423_1); (try rw [Addr.add_zero'] at hx423_1); (try rw [show ((0 : Int)).toNat = 0 from rfl] at hx423_2); (try rw [show 0 * 4 = 0 from rfl] at hx423_2); (try rw [Addr.add_zero'] at hx423_2); (try rw [show ((0 : Int)).toNat = 0 from rfl] at hx423_3); (try rw [show 0 * 4 = 0 from rfl] at hx423_3); (try rw [Addr.add_zero'] at hx423_3); replace p423 := eq_true p423; replace q423 := eq_true q423; have p424 : 0 ≤ (1 : Int) := (by omega); have q424 : 1 < (t418.length : Int) := of_decide_eq_true (by first | (with_reducible assumption) | assumption); obtain ⟨ad424, e424, hx424_0, hx424_1, hx424_2, hx424_3⟩ := at_T59 (Kd.R_reads' HO422.out).2.2 1 p424 q424; obtain rfl : ad423 = ad424 := (by injection e424); (try simp only [show (1 : Int).toNat = 1 from rfl, Nat.reduceMul, Nat.reduceEqDiff, Go.Addr.add, ↓reduceIte] at hx424_0); (try simp only [show (1 : Int).toNat = 1 from rfl, Nat.reduceMul, Nat.reduceEqDiff, Go.Addr.add, ↓reduceIte] at hx424_1); (try simp only [show (1 : Int).toNat = 1 from rfl, Nat.reduceMul, Nat.reduceEqDiff, Go.Addr.add, ↓reduceIte] at hx424_2); (try simp only [show (1 : Int).toNat = 1 from rfl, Nat.reduceMul, Nat.reduceEqDiff, Go.Addr.add, ↓reduceIte] at hx424_3); have qi424 : (1 < t418.length) = True := eq_true (by omega); (try rw [show ((1 : Int)).toNat = 1 from rfl] at hx424_0); (try rw [show 1 * 4 = 4 from rfl] at hx424_0); (try rw [show ((1 : Int)).toNat = 1 from rfl] at hx424_1); (try rw [show 1 * 4 = 4 from rfl] at hx424_1); (try rw [show ((1 : Int)).toNat = 1 from rfl] at hx424_2); (try rw [show 1 * 4 = 4 from rfl] at hx424_2); (try rw [show ((1 : Int)).toNat = 1 from rfl] at hx424_3); (try rw [show 1 * 4 = 4 from rfl] at hx424_3); replace p424 := eq_true p424; replace q424 := eq_true q424; have p425 : 0 ≤ (2 : Int) := (by omega); have q425 : 2 < (t418.length : Int) := of_decide_eq_true (by first | (with_reducible assumption) | assumption); obtain ⟨ad425, e425, hx425_0, hx425_1, hx425_2, hx425_3⟩ := at_T59 (Kd.R_reads' HO422.out).2.2 2 p425 q425; obtain rfl : ad423 = ad425 := (by injection e425); (try simp only [show (2 : Int).toNat = 2 from rfl, Nat.reduceMul, Nat.reduceEqDiff, Go.Addr.add, ↓reduceIte] at hx425_0); (try simp only [show (2 : Int).toNat = 2 from rfl, Nat.reduceMul, Nat.reduceEqDiff, Go.Addr.add, ↓reduceIte] at hx425_1); (try simp only [show (2 : Int).toNat = 2 from rfl, Nat.reduceMul, Nat.reduceEqDiff, Go.Addr.add, ↓reduceIte] at hx425_2); (try simp only [show (2 : Int).toNat = 2 from rfl, Nat.reduceMul, Nat.reduceEqDiff, Go.Addr.add, ↓reduceIte] at hx425_3); have qi425 : (2 < t418.length) = True := eq_true (by omega); (try rw [show ((2 : Int)).toNat = 2 from rfl] at hx425_0); (try rw [show 2 * 4 = 8 from rfl] at hx425_0); (try rw [show ((2 : Int)).toNat = 2 from rfl] at hx425_1); (try rw [show 2 * 4 = 8 from rfl] at hx425_1); (try rw [show ((2 : Int)).toNat = 2 from rfl] at hx425_2); (try rw [show 2 * 4 = 8 from rfl] at hx425_2); (try rw [show ((2 : Int)).toNat = 2 from rfl] at hx425_3); (try rw [show 2 * 4 = 8 from rfl] at hx425_3); replace p425 := eq_true p425; replace q425 := eq_true q425) | (go_at_call 27; (with_reducible refine (token_Name.calls k (⟨#[97, 49]⟩ : ByteArray) false _ A11.out).mono ?_); rintro e w' ⟨rfl, ⟨nd, rfl⟩⟩))
                      go_ret
                      exact ⟨by first | rfl | (simp [errW_none, errW_some] <;> rfl) | (simp [*, errW_none, errW_some] <;> rfl), by repeat (first | (with_reducible first | exact HB.out | apply below_alloc | apply pw_below_drewN | apply below_drew1) | exact HB.out)⟩
                  · rw [if_neg c10] at H
                    have c10b0 : (((rd_T59 t418 2).f1) == 10) = false := beq_eq_false_iff_ne.mpr c10
                    have c10b1 : (((rd_T59 t418 2).f1) != 10) = true := bne_iff_ne.mpr c10
                    obtain rfl := Option.some.inj H
                    go_enter Tryd.func24, Tryd.ntmps24
                    go_wp2_with (first | ((with_reducible refine gate_callee (f := 25) rfl ?_); refine goesL_ (some 5) rfl rfl Tryd.func25 (by kernel_rfl) rfl #[.string (⟨#[105, 60, 61, 49, 48]⟩ : ByteArray)] rfl (by (try simp only [List.map_toArray, List.map_cons, List.map_nil]); first | done | rfl | (simp only [List.length_drop, List.length_take]; rfl)) ?_; (with_reducible refine (token_Scan.calls (⟨#[105, 60, 61, 49, 48]⟩ : ByteArray) t418 t419 t420 _ A1.out).mono ?_); rintro e w19 ⟨v421, rfl, ho0, hb⟩; refine ⟨_, rfl, ?_⟩; have n0_ := Aside0.mk (Kd.R_lower ho0 (below_size (by repeat (first | (with_reducible first | exact HB.out | apply below_alloc | apply pw_below_drewN | apply below_drew1) | exact HB.out)))); have n1_ := Aside0.mk (below_step (by repeat (first | (with_reducible first | exact HB.out | apply below_alloc | apply pw_below_drewN | apply below_drew1) | exact HB.out)) hb); clear HB; have HO422 := n0_; have HB := n1_; clear n0_ n1_; (try clear hb); (try clear hb2); (try clear hk); (try clear hi); (try clear ho0); obtain ⟨Ao20, co20, eo20⟩ := Kd.R_slice HO422.out; subst eo20; have p423 : 0 ≤ (0 : Int) := (by omega); have q423 : 0 < (t418.length : Int) := of_decide_eq_true (by first | (with_reducible assumption) | assumption); obtain ⟨ad423, e423, hx423_0, hx423_1, hx423_2, hx423_3⟩ := at_T59 (Kd.R_reads' HO422.out).2.2 0 p423 q423; cases e423; have qi423 : (0 < t418.length) = True := eq_true (by omega); (try rw [show ((0 : Int)).toNat = 0 from rfl] at hx423_0); (try rw [show 0 * 4 = 0 from rfl] at hx423_0); (try rw [Addr.add_zero'] at hx423_0); (try rw [show ((0 : Int)).toNat = 0 from rfl] at hx423_1); (try rw [show 0 * 4 = 0 from rfl] at hx423_1); (try rw [Addr.add_zero'] at hx423_1); (try rw [show ((0 : Int)).toNat = 0 from rfl] at hx423_2); (try rw [show 0 * 4 = 0 from rfl] at hx423_2); (try rw [Addr.add_zero'] at hx423_2); (try rw [show ((0 : Int)).toNat = 0 from rfl] at hx423_3); (try rw [show 0 * 4 = 0 from rfl] at hx423_3); (try rw [Addr.add_zero'] at hx423_3); replace p423 := eq_true p423; replace q423 := eq_true q423; have p424 : 0 ≤ (1 : Int) := (by omega); have q424 : 1 < (t418.length : Int) := of_decide_eq_true (by first | (with_reducible assumption) | assumption); obtain ⟨ad424, e424, hx424_0, hx424_1, hx424_2, hx424_3⟩ := at_T59 (Kd.R_reads' HO422.out).2.2 1 p424 q424; obtain rfl : ad423 = ad424 := (by injection e424); (try simp only [show (1 : Int).toNat = 1 from rfl, Nat.reduceMul, Nat.reduceEqDiff, Go.Addr.add, ↓reduceIte] at hx424_0); (try simp only [show (1 : Int).toNat = 1 from rfl, Nat.reduceMul, Nat.reduceEqDiff, Go.Addr.add, ↓reduceIte] at hx424_1); (try simp only [show (1 : Int).toNat = 1 from rfl, Nat.reduceMul, Nat.reduceEqDiff, Go.Addr.add, ↓reduceIte] at hx424_2); (try simp only [show (1 : Int).toNat = 1 from rfl, Nat.reduceMul, Nat.reduceEqDiff, Go.Addr.add, ↓reduceIte] at hx424_3); have qi424 : (1 < t418.length) = True := eq_true (by omega); (try rw [show ((1 : Int)).toNat = 1 from rfl] at hx424_0); (try rw [show 1 * 4 = 4 from rfl] at hx424_0); (try rw [show ((1 : Int)).toNat = 1 from rfl] at hx424_1); (try rw [show 1 * 4 = 4 from rfl] at hx424_1); (try rw [show ((1 : Int)).toNat = 1 from rfl] at hx424_2); (try rw [show 1 * 4 = 4 from rfl] at hx424_2); (try rw [show ((1 : Int)).toNat = 1 from rfl] at hx424_3); (try rw [show 1 * 4 = 4 from rfl] at hx424_3); replace p424 := eq_true p424; replace q424 := eq_true q424; have p425 : 0 ≤ (2 : Int) := (by omega); have q425 : 2 < (t418.length : Int) := of_decide_eq_true (by first | (with_reducible assumption) | assumption); obtain ⟨ad425, e425, hx425_0, hx425_1, hx425_2, hx425_3⟩ := at_T59 (Kd.R_reads' HO422.out).2.2 2 p425 q425; obtain rfl : ad423 = ad425 := (by injection e425); (try simp only [show (2 : Int).toNat = 2 from rfl, Nat.reduceMul, Nat.reduceEqDiff, Go.Addr.add, ↓reduceIte] at hx425_0); (try simp only [show (2 : Int).toNat = 2 from rfl, Nat.reduceMul, Nat.reduceEqDiff, Go.Addr.add, ↓reduceIte] at hx425_1); (try simp only [show (2 : Int).toNat = 2 from rfl, Nat.reduceMul, Nat.reduceEqDiff, Go.Addr.add, ↓reduceIte] at hx425_2); (try simp only [show (2 : Int).toNat = 2 from rfl, Nat.reduceMul, Nat.reduceEqDiff, Go.Addr.add, ↓reduceIte] at hx425_3); have qi425 : (2 < t418.length) = True := eq_true (by omega); (try rw [show ((2 : Int)).toNat = 2 from rfl] at hx425_0); (try rw [show 2 * 4 = 8 from rfl] at hx425_0); (try rw [show ((2 : Int)).toNat = 2 from rfl] at hx425_1); (try rw [show 2 * 4 = 8 from rfl] at hx425_1); (try rw [show ((2 : Int)).toNat = 2 from rfl] at hx425_2); (try rw [show 2 * 4 = 8 from rfl] at hx425_2); (try rw [show ((2 : Int)).toNat = 2 from rfl] at hx425_3); (try rw [show 2 * 4 = 8 from rfl] at hx425_3); replace p425 := eq_true p425; replace q425 := eq_true q425))
                    go_ret
                    exact ⟨by first | rfl | (simp [errW_none, errW_some] <;> rfl) | (simp [*, errW_none, errW_some] <;> rfl), by repeat (first | (with_reducible first | exact HB.out | apply below_alloc | apply pw_below_drewN | apply below_drew1) | exact HB.out)⟩
                · rw [if_neg c9] at H
                  exact absurd H (by simp)
              · rw [if_neg c8] at H
                have c8b0 : (((rd_T59 t418 1).f3).toList == ([60, 61] : List UInt8)) = false := beq_eq_false_iff_ne.mpr c8
                have c8b1 : (((rd_T59 t418 1).f3).toList != ([60, 61] : List UInt8)) = true := bne_iff_ne.mpr c8
                obtain rfl := Option.some.inj H
                go_enter Tryd.func24, Tryd.ntmps24
                go_wp2_with (first | ((with_reducible refine gate_callee (f := 25) rfl ?_); refine goesL_ (some 5) rfl rfl Tryd.func25 (by kernel_rfl) rfl #[.string (⟨#[105, 60, 61, 49, 48]⟩ : ByteArray)] rfl (by (try simp only [List.map_toArray, List.map_cons, List.map_nil]); first | done | rfl | (simp only [List.length_drop, List.length_take]; rfl)) ?_; (with_reducible refine (token_Scan.calls (⟨#[105, 60, 61, 49, 48]⟩ : ByteArray) t418 t419 t420 _ A1.out).mono ?_); rintro e w21 ⟨v421, rfl, ho0, hb⟩; refine ⟨_, rfl, ?_⟩; have n0_ := Aside0.mk (Kd.R_lower ho0 (below_size (by repeat (first | (with_reducible first | exact HB.out | apply below_alloc | apply pw_below_drewN | apply below_drew1) | exact HB.out)))); have n1_ := Aside0.mk (below_step (by repeat (first | (with_reducible first | exact HB.out | apply below_alloc | apply pw_below_drewN | apply below_drew1) | exact HB.out)) hb); clear HB; have HO422 := n0_; have HB := n1_; clear n0_ n1_; (try clear hb); (try clear hb2); (try clear hk); (try clear hi); (try clear ho0); obtain ⟨Ao22, co22, eo22⟩ := Kd.R_slice HO422.out; subst eo22; have p423 : 0 ≤ (0 : Int) := (by omega); have q423 : 0 < (t418.length : Int) := of_decide_eq_true (by first | (with_reducible assumption) | assumption); obtain ⟨ad423, e423, hx423_0, hx423_1, hx423_2, hx423_3⟩ := at_T59 (Kd.R_reads' HO422.out).2.2 0 p423 q423; cases e423; have qi423 : (0 < t418.length) = True := eq_true (by omega); (try rw [show ((0 : Int)).toNat = 0 from rfl] at hx423_0); (try rw [show 0 * 4 = 0 from rfl] at hx423_0); (try rw [Addr.add_zero'] at hx423_0); (try rw [show ((0 : Int)).toNat = 0 from rfl] at hx423_1); (try rw [show 0 * 4 = 0 from rfl] at hx423_1); (try rw [Addr.add_zero'] at hx423_1); (try rw [show ((0 : Int)).toNat = 0 from rfl] at hx423_2); (try rw [show 0 * 4 = 0 from rfl] at hx423_2); (try rw [Addr.add_zero'] at hx423_2); (try rw [show ((0 : Int)).toNat = 0 from rfl] at hx423_3); (try rw [show 0 * 4 = 0 from rfl] at hx423_3); (try rw [Addr.add_zero'] at hx423_3); replace p423 := eq_true p423; replace q423 := eq_true q423; have p424 : 0 ≤ (1 : Int) := (by omega); have q424 : 1 < (t418.length : Int) := of_decide_eq_true (by first | (with_reducible assumption) | assumption); obtain ⟨ad424, e424, hx424_0, hx424_1, hx424_2, hx424_3⟩ := at_T59 (Kd.R_reads' HO422.out).2.2 1 p424 q424; obtain rfl : ad423 = ad424 := (by injection e424); (try simp only [show (1 : Int).toNat = 1 from rfl, Nat.reduceMul, Nat.reduceEqDiff, Go.Addr.add, ↓reduceIte] at hx424_0); (try simp only [show (1 : Int).toNat = 1 from rfl, Nat.reduceMul, Nat.reduceEqDiff, Go.Addr.add, ↓reduceIte] at hx424_1); (try simp only [show (1 : Int).toNat = 1 from rfl, Nat.reduceMul, Nat.reduceEqDiff, Go.Addr.add, ↓reduceIte] at hx424_2); (try simp only [show (1 : Int).toNat = 1 from rfl, Nat.reduceMul, Nat.reduceEqDiff, Go.Addr.add, ↓reduceIte] at hx424_3); have qi424 : (1 < t418.length) = True := eq_true (by omega); (try rw [show ((1 : Int)).toNat = 1 from rfl] at hx424_0); (try rw [show 1 * 4 = 4 from rfl] at hx424_0); (try rw [show ((1 : Int)).toNat = 1 from rfl] at hx424_1); (try rw [show 1 * 4 = 4 from rfl] at hx424_1); (try rw [show ((1 : Int)).toNat = 1 from rfl] at hx424_2); (try rw [show 1 * 4 = 4 from rfl] at hx424_2); (try rw [show ((1 : Int)).toNat = 1 from rfl] at hx424_3); (try rw [show 1 * 4 = 4 from rfl] at hx424_3); replace p424 := eq_true p424; replace q424 := eq_true q424))
                go_ret
                exact ⟨by first | rfl | (simp [errW_none, errW_some] <;> rfl) | (simp [*, errW_none, errW_some] <;> rfl), by repeat (first | (with_reducible first | exact HB.out | apply below_alloc | apply pw_below_drewN | apply below_drew1) | exact HB.out)⟩
            · rw [if_neg c7] at H
              exact absurd H (by simp)
          · rw [if_neg c6] at H
            have c6b0 : (((rd_T59 t418 0).f3).toList == ([105] : List UInt8)) = false := beq_eq_false_iff_ne.mpr c6
            have c6b1 : (((rd_T59 t418 0).f3).toList != ([105] : List UInt8)) = true := bne_iff_ne.mpr c6
            obtain rfl := Option.some.inj H
            go_enter Tryd.func24, Tryd.ntmps24
            go_wp2_with (first | ((with_reducible refine gate_callee (f := 25) rfl ?_); refine goesL_ (some 5) rfl rfl Tryd.func25 (by kernel_rfl) rfl #[.string (⟨#[105, 60, 61, 49, 48]⟩ : ByteArray)] rfl (by (try simp only [List.map_toArray, List.map_cons, List.map_nil]); first | done | rfl | (simp only [List.length_drop, List.length_take]; rfl)) ?_; (with_reducible refine (token_Scan.calls (⟨#[105, 60, 61, 49, 48]⟩ : ByteArray) t418 t419 t420 _ A1.out).mono ?_); rintro e w23 ⟨v421, rfl, ho0, hb⟩; refine ⟨_, rfl, ?_⟩; have n0_ := Aside0.mk (Kd.R_lower ho0 (below_size (by repeat (first | (with_reducible first | exact HB.out | apply below_alloc | apply pw_below_drewN | apply below_drew1) | exact HB.out)))); have n1_ := Aside0.mk (below_step (by repeat (first | (with_reducible first | exact HB.out | apply below_alloc | apply pw_below_drewN | apply below_drew1) | exact HB.out)) hb); clear HB; have HO422 := n0_; have HB := n1_; clear n0_ n1_; (try clear hb); (try clear hb2); (try clear hk); (try clear hi); (try clear ho0); obtain ⟨Ao24, co24, eo24⟩ := Kd.R_slice HO422.out; subst eo24; have p423 : 0 ≤ (0 : Int) := (by omega); have q423 : 0 < (t418.length : Int) := of_decide_eq_true (by first | (with_reducible assumption) | assumption); obtain ⟨ad423, e423, hx423_0, hx423_1, hx423_2, hx423_3⟩ := at_T59 (Kd.R_reads' HO422.out).2.2 0 p423 q423; cases e423; have qi423 : (0 < t418.length) = True := eq_true (by omega); (try rw [show ((0 : Int)).toNat = 0 from rfl] at hx423_0); (try rw [show 0 * 4 = 0 from rfl] at hx423_0); (try rw [Addr.add_zero'] at hx423_0); (try rw [show ((0 : Int)).toNat = 0 from rfl] at hx423_1); (try rw [show 0 * 4 = 0 from rfl] at hx423_1); (try rw [Addr.add_zero'] at hx423_1); (try rw [show ((0 : Int)).toNat = 0 from rfl] at hx423_2); (try rw [show 0 * 4 = 0 from rfl] at hx423_2); (try rw [Addr.add_zero'] at hx423_2); (try rw [show ((0 : Int)).toNat = 0 from rfl] at hx423_3); (try rw [show 0 * 4 = 0 from rfl] at hx423_3); (try rw [Addr.add_zero'] at hx423_3); replace p423 := eq_true p423; replace q423 := eq_true q423))
            go_ret
            exact ⟨by first | rfl | (simp [errW_none, errW_some] <;> rfl) | (simp [*, errW_none, errW_some] <;> rfl), by repeat (first | (with_reducible first | exact HB.out | apply below_alloc | apply pw_below_drewN | apply below_drew1) | exact HB.out)⟩
        · rw [if_neg c5] at H
          exact absurd H (by simp)
      · rw [if_neg c4] at H
        have c4b0 : ((t418.length : Int) == 3) = false := beq_eq_false_iff_ne.mpr c4
        have c4b1 : ((t418.length : Int) != 3) = true := bne_iff_ne.mpr c4
        obtain rfl := Option.some.inj H
        go_enter Tryd.func24, Tryd.ntmps24
        go_wp2_with (first | ((with_reducible refine gate_callee (f := 25) rfl ?_); refine goesL_ (some 5) rfl rfl Tryd.func25 (by kernel_rfl) rfl #[.string (⟨#[105, 60, 61, 49, 48]⟩ : ByteArray)] rfl (by (try simp only [List.map_toArray, List.map_cons, List.map_nil]); first | done | rfl | (simp only [List.length_drop, List.length_take]; rfl)) ?_; (with_reducible refine (token_Scan.calls (⟨#[105, 60, 61, 49, 48]⟩ : ByteArray) t418 t419 t420 _ A1.out).mono ?_); rintro e w25 ⟨v421, rfl, ho0, hb⟩; refine ⟨_, rfl, ?_⟩; have n0_ := Aside0.mk (Kd.R_lower ho0 (below_size (by repeat (first | (with_reducible first | exact HB.out | apply below_alloc | apply pw_below_drewN | apply below_drew1) | exact HB.out)))); have n1_ := Aside0.mk (below_step (by repeat (first | (with_reducible first | exact HB.out | apply below_alloc | apply pw_below_drewN | apply below_drew1) | exact HB.out)) hb); clear HB; have HO422 := n0_; have HB := n1_; clear n0_ n1_; (try clear hb); (try clear hb2); (try clear hk); (try clear hi); (try clear ho0); obtain ⟨Ao26, co26, eo26⟩ := Kd.R_slice HO422.out; subst eo26))
        go_ret
        exact ⟨by first | rfl | (simp [errW_none, errW_some] <;> rfl) | (simp [*, errW_none, errW_some] <;> rfl), by repeat (first | (with_reducible first | exact HB.out | apply below_alloc | apply pw_below_drewN | apply below_drew1) | exact HB.out)⟩
    · rw [if_neg c3] at H
      have c3b0 : (t419 == 0) = false := beq_eq_false_iff_ne.mpr c3
      have c3b1 : (t419 != 0) = true := bne_iff_ne.mpr c3
      obtain rfl := Option.some.inj H
      go_enter Tryd.func24, Tryd.ntmps24
      go_wp2_with (first | ((with_reducible refine gate_callee (f := 25) rfl ?_); refine goesL_ (some 5) rfl rfl Tryd.func25 (by kernel_rfl) rfl #[.string (⟨#[105, 60, 61, 49, 48]⟩ : ByteArray)] rfl (by (try simp only [List.map_toArray, List.map_cons, List.map_nil]); first | done | rfl | (simp only [List.length_drop, List.length_take]; rfl)) ?_; (with_reducible refine (token_Scan.calls (⟨#[105, 60, 61, 49, 48]⟩ : ByteArray) t418 t419 t420 _ A1.out).mono ?_); rintro e w27 ⟨v421, rfl, ho0, hb⟩; refine ⟨_, rfl, ?_⟩; have n0_ := Aside0.mk (Kd.R_lower ho0 (below_size (by repeat (first | (with_reducible first | exact HB.out | apply below_alloc | apply pw_below_drewN | apply below_drew1) | exact HB.out)))); have n1_ := Aside0.mk (below_step (by repeat (first | (with_reducible first | exact HB.out | apply below_alloc | apply pw_below_drewN | apply below_drew1) | exact HB.out)) hb); clear HB; have HO422 := n0_; have HB := n1_; clear n0_ n1_; (try clear hb); (try clear hb2); (try clear hk); (try clear hi); (try clear ho0)))
      go_ret
      exact ⟨by first | rfl | (simp [errW_none, errW_some] <;> rfl) | (simp [*, errW_none, errW_some] <;> rfl), by repeat (first | (with_reducible first | exact HB.out | apply below_alloc | apply pw_below_drewN | apply below_drew1) | exact HB.out)⟩
  · rw [if_neg c2] at H
    have c2b0 : (t420 == 0) = false := beq_eq_false_iff_ne.mpr c2
    have c2b1 : (t420 != 0) = true := bne_iff_ne.mpr c2
    obtain rfl := Option.some.inj H
    go_enter Tryd.func24, Tryd.ntmps24
    go_wp2_with (first | ((with_reducible refine gate_callee (f := 25) rfl ?_); refine goesL_ (some 5) rfl rfl Tryd.func25 (by kernel_rfl) rfl #[.string (⟨#[105, 60, 61, 49, 48]⟩ : ByteArray)] rfl (by (try simp only [List.map_toArray, List.map_cons, List.map_nil]); first | done | rfl | (simp only [List.length_drop, List.length_take]; rfl)) ?_; (with_reducible refine (token_Scan.calls (⟨#[105, 60, 61, 49, 48]⟩ : ByteArray) t418 t419 t420 _ A1.out).mono ?_); rintro e w28 ⟨v421, rfl, ho0, hb⟩; refine ⟨_, rfl, ?_⟩; have n0_ := Aside0.mk (Kd.R_lower ho0 (below_size (by repeat (first | (with_reducible first | exact HB.out | apply below_alloc | apply pw_below_drewN | apply below_drew1) | exact HB.out)))); have n1_ := Aside0.mk (below_step (by repeat (first | (with_reducible first | exact HB.out | apply below_alloc | apply pw_below_drewN | apply below_drew1) | exact HB.out)) hb); clear HB; have HO422 := n0_; have HB := n1_; clear n0_ n1_; (try clear hb); (try clear hb2); (try clear hk); (try clear hi); (try clear ho0)))
    go_ret
    exact ⟨by first | rfl | (simp [errW_none, errW_some] <;> rfl) | (simp [*, errW_none, errW_some] <;> rfl), by repeat (first | (with_reducible first | exact HB.out | apply below_alloc | apply pw_below_drewN | apply below_drew1) | exact HB.out)⟩

end Go.Proofs.YtcnmejahighkfaaDoor.P
-- Pf26
namespace Go.Proofs.YtcnmejahighkfaaDoor.P
open Go.RowKit Go.Proofs.YtcnmejahighkfaaDoorW.PrintWords Go.Proofs.YtcnmejahighkfaaDoorW.PrintLast Go.Proofs.YtcnmejahighkfaaDoorW.PrintMore
attribute [local go_sem] max2_int min2_int max_two min_two max_three min_three max_four min_four   -- for this text's walks alone
set_option linter.unusedVariables false
set_option linter.unusedSimpArgs false

/-! ### timeboundref02_Same: function 26 -/
def timeboundref02_Same.l0 : Nat → List (S59) → List (S59) → Bool → Int → Option (Bool)
  | 0, _, _, _, _ => none
  | k + 1, x0, x1, x2, x7 => if x7 < (x0.length : Int) then (if 0 ≤ x7 then (if x7 < (x1.length : Int) then (if ((rd_T59 x0 x7).f0) = ((rd_T59 x1 x7).f0) then (if ((rd_T59 x0 x7).f1) = ((rd_T59 x1 x7).f1) then (if ((rd_T59 x0 x7).f3).toList = ((rd_T59 x1 x7).f3).toList then (if x2 = true then (if ((rd_T59 x0 x7).f2) = ((rd_T59 x1 x7).f2) then (timeboundref02_Same.l0 k x0 x1 x2 (wrap64 (x7 + 1))) else (some false)) else (timeboundref02_Same.l0 k x0 x1 x2 (wrap64 (x7 + 1)))) else (some false)) else (some false)) else (some false)) else (none)) else (none)) else (some true)
def timeboundref02_Same.f (k : Nat) (l0 : List (S59)) (l1 : List (S59)) (a2 : Bool) : Option (Bool) := if (l0.length : Int) = (l1.length : Int) then (timeboundref02_Same.l0 k l0 l1 a2 0) else (some false)
theorem timeboundref02_Same.mono_l : ∀ k, (∀ y0 y1 y2 y3, LeO (timeboundref02_Same.l0 k y0 y1 y2 y3) (timeboundref02_Same.l0 (k + 1) y0 y1 y2 y3))
  | 0 => fun _ _ _ _ r h => by simp [timeboundref02_Same.l0] at h
  | k + 1 => by
    have ih0 := timeboundref02_Same.mono_l k
    · intro y0 y1 y2 y3
      unfold timeboundref02_Same.l0
      repeat' first
      | (with_reducible exact ih0 _ _ _ _)
      | (with_reducible exact LeO.refl _)
      | (with_reducible exact LeO.none _)
      | (with_reducible refine LeO.ite ?_ ?_)
      | (with_reducible refine LeO.bind ?_ (fun _ => ?_))
      | exact ih0 _ _ _ _
      | exact LeO.none _
      | refine LeO.ite ?_ ?_
      | refine LeO.bind ?_ (fun _ => ?_)
theorem timeboundref02_Same.mono : ∀ a0 a1 a2 k, LeO (timeboundref02_Same.f k a0 a1 a2) (timeboundref02_Same.f (k + 1) a0 a1 a2) := by
  intro a0 a1 a2 k
  have ih0 := timeboundref02_Same.mono_l k
  unfold timeboundref02_Same.f
  repeat' first
      | (with_reducible exact ih0 _ _ _ _)
      | (with_reducible exact LeO.refl _)
      | (with_reducible exact LeO.none _)
      | (with_reducible refine LeO.ite ?_ ?_)
      | (with_reducible refine LeO.bind ?_ (fun _ => ?_))
      | exact ih0 _ _ _ _
      | exact LeO.none _
      | refine LeO.ite ?_ ?_
      | refine LeO.bind ?_ (fun _ => ?_)
set_option maxHeartbeats 8000000 in
set_option maxRecDepth 100000 in
theorem timeboundref02_Same.calls (k : Nat) (A0 : Option Addr) (c0 : Nat) (l0 : List (S59)) (A1 : Option Addr) (c1 : Nat) (l1 : List (S59)) (a2 : Bool) (r : Bool) (w : World) (hr0 : Kd.C k59 w A0 l0.length l0) (hc0 : l0.length ≤ c0) (hr1 : Kd.C k59 w A1 l1.length l1) (hc1 : l1.length ≤ c1) (h : timeboundref02_Same.f k l0 l1 a2 = some r) :
    Calls Tryd.prog 26 #[.slice A0 l0.length c0, .slice A1 l1.length c1, .bool a2] w fun e w' => e = .returned (.bool r) ∧ Drawn0 w w' := by
  have HR0 := Aside0.mk hr0
  have HC0 := Aside0.mk hc0
  clear hr0 hc0
  have HR1 := Aside0.mk hr1
  have HC1 := Aside0.mk hc1
  clear hr1 hc1
  have H : (if (l0.length : Int) = (l1.length : Int) then (timeboundref02_Same.l0 k l0 l1 a2 0) else (some false)) = some r := h
  clear h
  by_cases c4 : (l0.length : Int) = (l1.length : Int)
  · rw [if_pos c4] at H
    have c4b0 : ((l0.length : Int) == (l1.length : Int)) = true := beq_iff_eq.mpr c4
    have c4b1 : ((l0.length : Int) != (l1.length : Int)) = false := bne_eq_false_iff_eq.mpr c4
    have c4b2 : (l0.length == l1.length) = true := by first | simpa using c4 | (simp at c4 ⊢; omega)
    clear c4
    have H' := Aside0.mk H
    clear H
    go_enter Tryd.func26, Tryd.ntmps26
    go_wp2
    repeat (go_quiet (fail); try go_wp2)
    go_loopg [7] k (fun kq v7 w' => ∃ (x7_1 : Int), v7 = .int .i64 x7_1 ∧ Aside0 (timeboundref02_Same.l0 kq l0 l1 a2 x7_1 = some r) ∧ Aside0 (kq ≤ k) ∧ Drawn0 w w')
    case atStart => exact ⟨(0), (by first | rfl | (simp; done) | (simp [*]; done)), H', ⟨Nat.le_refl _⟩, by repeat (first | exact Drawn0.refl _ | apply Drawn0.step)⟩
    case round =>
      clear H'
      try clear c1
      try clear c2
      try clear p2
      try clear c4
      try clear c4b0
      try clear c4b1
      try clear c4b2
      obtain ⟨x7_1, rfl, HA, HK1, ⟨m1, rfl⟩⟩ := hrel
      cases gk with
      | zero => exact absurd HA.out (by simp [timeboundref02_Same.l0])
      | succ k1 =>
        have H := HA.out
        clear HA
        simp only [timeboundref02_Same.l0] at H
        by_cases c5 : x7_1 < (l0.length : Int)
        · rw [if_pos c5] at H
          have c5b0 : decide (x7_1 < (l0.length : Int)) = true := decide_eq_true c5
          clear c5
          by_cases c6 : 0 ≤ x7_1
          · rw [if_pos c6] at H
            have c6b0 : decide (0 ≤ x7_1) = true := decide_eq_true c6
            clear c6
            by_cases c7 : x7_1 < (l1.length : Int)
            · rw [if_pos c7] at H
              have c7b0 : decide (x7_1 < (l1.length : Int)) = true := decide_eq_true c7
              clear c7
              by_cases c8 : ((rd_T59 l0 x7_1).f0) = ((rd_T59 l1 x7_1).f0)
              · rw [if_pos c8] at H
                have c8b0 : (((rd_T59 l0 x7_1).f0) == ((rd_T59 l1 x7_1).f0)) = true := beq_iff_eq.mpr c8
                have c8b1 : (((rd_T59 l0 x7_1).f0) != ((rd_T59 l1 x7_1).f0)) = false := bne_eq_false_iff_eq.mpr c8
                clear c8
                by_cases c9 : ((rd_T59 l0 x7_1).f1) = ((rd_T59 l1 x7_1).f1)
                · rw [if_pos c9] at H
                  have c9b0 : (((rd_T59 l0 x7_1).f1) == ((rd_T59 l1 x7_1).f1)) = true := beq_iff_eq.mpr c9
                  have c9b1 : (((rd_T59 l0 x7_1).f1) != ((rd_T59 l1 x7_1).f1)) = false := bne_eq_false_iff_eq.mpr c9
                  clear c9
                  by_cases c10 : ((rd_T59 l0 x7_1).f3).toList = ((rd_T59 l1 x7_1).f3).toList
                  · rw [if_pos c10] at H
                    have c10b0 : (((rd_T59 l0 x7_1).f3).toList == ((rd_T59 l1 x7_1).f3).toList) = true := beq_iff_eq.mpr c10
                    have c10b1 : (((rd_T59 l0 x7_1).f3).toList != ((rd_T59 l1 x7_1).f3).toList) = false := bne_eq_false_iff_eq.mpr c10
                    clear c10
                    by_cases c11 : a2 = true
                    · subst c11
                      have H1 : (if ((rd_T59 l0 x7_1).f2) = ((rd_T59 l1 x7_1).f2) then (timeboundref02_Same.l0 k1 l0 l1 true (wrap64 (x7_1 + 1))) else (some false)) = some r := by rw [if_pos rfl] at H; exact H
                      clear H
                      have H := H1
                      clear H1
                      by_cases c12 : ((rd_T59 l0 x7_1).f2) = ((rd_T59 l1 x7_1).f2)
                      · rw [if_pos c12] at H
                        have c12b0 : (((rd_T59 l0 x7_1).f2) == ((rd_T59 l1 x7_1).f2)) = true := beq_iff_eq.mpr c12
                        have c12b1 : (((rd_T59 l0 x7_1).f2) != ((rd_T59 l1 x7_1).f2)) = false := bne_eq_false_iff_eq.mpr c12
                        clear c12
                        have H' := Aside0.mk H
                        clear H
                        have p429 : 0 ≤ (x7_1 : Int) := of_decide_eq_true (by first | (with_reducible assumption) | assumption)
                        have q429 : x7_1 < (l0.length : Int) := of_decide_eq_true (by first | (with_reducible assumption) | assumption)
                        obtain ⟨ad429, e429, hx429_0, hx429_1, hx429_2, hx429_3⟩ := at_T59 HR0.out x7_1 p429 q429
                        cases e429
                        replace p429 := eq_true p429
                        replace q429 := eq_true q429
                        have p430 : 0 ≤ (x7_1 : Int) := of_decide_eq_true (by first | (with_reducible assumption) | assumption)
                        have q430 : x7_1 < (l1.length : Int) := of_decide_eq_true (by first | (with_reducible assumption) | assumption)
                        obtain ⟨ad430, e430, hx430_0, hx430_1, hx430_2, hx430_3⟩ := at_T59 HR1.out x7_1 p430 q430
                        cases e430
                        replace p430 := eq_true p430
                        replace q430 := eq_true q430
                        have p431 : 0 ≤ (x7_1 : Int) := of_decide_eq_true (by first | (with_reducible assumption) | assumption)
                        have q431 : x7_1 < (l0.length : Int) := of_decide_eq_true (by first | (with_reducible assumption) | assumption)
                        obtain ⟨ad431, e431, hx431_0, hx431_1, hx431_2, hx431_3⟩ := at_T59 HR0.out x7_1 p431 q431
                        obtain rfl : ad429 = ad431 := (by injection e431)
                        replace p431 := eq_true p431
                        replace q431 := eq_true q431
                        have p432 : 0 ≤ (x7_1 : Int) := of_decide_eq_true (by first | (with_reducible assumption) | assumption)
                        have q432 : x7_1 < (l1.length : Int) := of_decide_eq_true (by first | (with_reducible assumption) | assumption)
                        obtain ⟨ad432, e432, hx432_0, hx432_1, hx432_2, hx432_3⟩ := at_T59 HR1.out x7_1 p432 q432
                        obtain rfl : ad430 = ad432 := (by injection e432)
                        replace p432 := eq_true p432
                        replace q432 := eq_true q432
                        have p433 : 0 ≤ (x7_1 : Int) := of_decide_eq_true (by first | (with_reducible assumption) | assumption)
                        have q433 : x7_1 < (l0.length : Int) := of_decide_eq_true (by first | (with_reducible assumption) | assumption)
                        obtain ⟨ad433, e433, hx433_0, hx433_1, hx433_2, hx433_3⟩ := at_T59 HR0.out x7_1 p433 q433
                        obtain rfl : ad429 = ad433 := (by injection e433)
                        replace p433 := eq_true p433
                        replace q433 := eq_true q433
                        have p434 : 0 ≤ (x7_1 : Int) := of_decide_eq_true (by first | (with_reducible assumption) | assumption)
                        have q434 : x7_1 < (l1.length : Int) := of_decide_eq_true (by first | (with_reducible assumption) | assumption)
                        obtain ⟨ad434, e434, hx434_0, hx434_1, hx434_2, hx434_3⟩ := at_T59 HR1.out x7_1 p434 q434
                        obtain rfl : ad430 = ad434 := (by injection e434)
                        replace p434 := eq_true p434
                        replace q434 := eq_true q434
                        have p435 : 0 ≤ (x7_1 : Int) := of_decide_eq_true (by first | (with_reducible assumption) | assumption)
                        have q435 : x7_1 < (l0.length : Int) := of_decide_eq_true (by first | (with_reducible assumption) | assumption)
                        obtain ⟨ad435, e435, hx435_0, hx435_1, hx435_2, hx435_3⟩ := at_T59 HR0.out x7_1 p435 q435
                        obtain rfl : ad429 = ad435 := (by injection e435)
                        replace p435 := eq_true p435
                        replace q435 := eq_true q435
                        have p436 : 0 ≤ (x7_1 : Int) := of_decide_eq_true (by first | (with_reducible assumption) | assumption)
                        have q436 : x7_1 < (l1.length : Int) := of_decide_eq_true (by first | (with_reducible assumption) | assumption)
                        obtain ⟨ad436, e436, hx436_0, hx436_1, hx436_2, hx436_3⟩ := at_T59 HR1.out x7_1 p436 q436
                        obtain rfl : ad430 = ad436 := (by injection e436)
                        replace p436 := eq_true p436
                        replace q436 := eq_true q436
                        go_wp2
                        repeat (go_quiet (fail); try go_wp2)
                        go_roundg k1
                        case measure => have := HK1.out; omega
                        case rel => exact ⟨(wrap64 (x7_1 + 1)), (by first | rfl | (simp; done) | (simp [*]; done)), H', ⟨by have := HK1.out; omega⟩, by repeat (first | exact Drawn0.refl _ | apply Drawn0.step)⟩
                      · rw [if_neg c12] at H
                        have c12b0 : (((rd_T59 l0 x7_1).f2) == ((rd_T59 l1 x7_1).f2)) = false := beq_eq_false_iff_ne.mpr c12
                        have c12b1 : (((rd_T59 l0 x7_1).f2) != ((rd_T59 l1 x7_1).f2)) = true := bne_iff_ne.mpr c12
                        obtain rfl := Option.some.inj H
                        have p429 : 0 ≤ (x7_1 : Int) := of_decide_eq_true (by first | (with_reducible assumption) | assumption)
                        have q429 : x7_1 < (l0.length : Int) := of_decide_eq_true (by first | (with_reducible assumption) | assumption)
                        obtain ⟨ad429, e429, hx429_0, hx429_1, hx429_2, hx429_3⟩ := at_T59 HR0.out x7_1 p429 q429
                        cases e429
                        replace p429 := eq_true p429
                        replace q429 := eq_true q429
                        have p430 : 0 ≤ (x7_1 : Int) := of_decide_eq_true (by first | (with_reducible assumption) | assumption)
                        have q430 : x7_1 < (l1.length : Int) := of_decide_eq_true (by first | (with_reducible assumption) | assumption)
                        obtain ⟨ad430, e430, hx430_0, hx430_1, hx430_2, hx430_3⟩ := at_T59 HR1.out x7_1 p430 q430
                        cases e430
                        replace p430 := eq_true p430
                        replace q430 := eq_true q430
                        have p431 : 0 ≤ (x7_1 : Int) := of_decide_eq_true (by first | (with_reducible assumption) | assumption)
                        have q431 : x7_1 < (l0.length : Int) := of_decide_eq_true (by first | (with_reducible assumption) | assumption)
                        obtain ⟨ad431, e431, hx431_0, hx431_1, hx431_2, hx431_3⟩ := at_T59 HR0.out x7_1 p431 q431
                        obtain rfl : ad429 = ad431 := (by injection e431)
                        replace p431 := eq_true p431
                        replace q431 := eq_true q431
                        have p432 : 0 ≤ (x7_1 : Int) := of_decide_eq_true (by first | (with_reducible assumption) | assumption)
                        have q432 : x7_1 < (l1.length : Int) := of_decide_eq_true (by first | (with_reducible assumption) | assumption)
                        obtain ⟨ad432, e432, hx432_0, hx432_1, hx432_2, hx432_3⟩ := at_T59 HR1.out x7_1 p432 q432
                        obtain rfl : ad430 = ad432 := (by injection e432)
                        replace p432 := eq_true p432
                        replace q432 := eq_true q432
                        have p433 : 0 ≤ (x7_1 : Int) := of_decide_eq_true (by first | (with_reducible assumption) | assumption)
                        have q433 : x7_1 < (l0.length : Int) := of_decide_eq_true (by first | (with_reducible assumption) | assumption)
                        obtain ⟨ad433, e433, hx433_0, hx433_1, hx433_2, hx433_3⟩ := at_T59 HR0.out x7_1 p433 q433
                        obtain rfl : ad429 = ad433 := (by injection e433)
                        replace p433 := eq_true p433
                        replace q433 := eq_true q433
                        have p434 : 0 ≤ (x7_1 : Int) := of_decide_eq_true (by first | (with_reducible assumption) | assumption)
                        have q434 : x7_1 < (l1.length : Int) := of_decide_eq_true (by first | (with_reducible assumption) | assumption)
                        obtain ⟨ad434, e434, hx434_0, hx434_1, hx434_2, hx434_3⟩ := at_T59 HR1.out x7_1 p434 q434
                        obtain rfl : ad430 = ad434 := (by injection e434)
                        replace p434 := eq_true p434
                        replace q434 := eq_true q434
                        have p435 : 0 ≤ (x7_1 : Int) := of_decide_eq_true (by first | (with_reducible assumption) | assumption)
                        have q435 : x7_1 < (l0.length : Int) := of_decide_eq_true (by first | (with_reducible assumption) | assumption)
                        obtain ⟨ad435, e435, hx435_0, hx435_1, hx435_2, hx435_3⟩ := at_T59 HR0.out x7_1 p435 q435
                        obtain rfl : ad429 = ad435 := (by injection e435)
                        replace p435 := eq_true p435
                        replace q435 := eq_true q435
                        have p436 : 0 ≤ (x7_1 : Int) := of_decide_eq_true (by first | (with_reducible assumption) | assumption)
                        have q436 : x7_1 < (l1.length : Int) := of_decide_eq_true (by first | (with_reducible assumption) | assumption)
                        obtain ⟨ad436, e436, hx436_0, hx436_1, hx436_2, hx436_3⟩ := at_T59 HR1.out x7_1 p436 q436
                        obtain rfl : ad430 = ad436 := (by injection e436)
                        replace p436 := eq_true p436
                        replace q436 := eq_true q436
                        go_wp2
                        repeat (go_quiet (fail); try go_wp2)
                        go_ret
                        exact ⟨by first | rfl | (simp; done) | (simp [*]; done), by repeat (first | exact Drawn0.refl _ | apply Drawn0.step)⟩
                    · replace c11 := Bool.eq_false_iff.mpr c11
                      subst c11
                      have H1 : (timeboundref02_Same.l0 k1 l0 l1 false (wrap64 (x7_1 + 1))) = some r := by rw [if_neg (show ¬ (false = true) by decide)] at H; exact H
                      clear H
                      have H := H1
                      clear H1
                      have H' := Aside0.mk H
                      clear H
                      have p429 : 0 ≤ (x7_1 : Int) := of_decide_eq_true (by first | (with_reducible assumption) | assumption)
                      have q429 : x7_1 < (l0.length : Int) := of_decide_eq_true (by first | (with_reducible assumption) | assumption)
                      obtain ⟨ad429, e429, hx429_0, hx429_1, hx429_2, hx429_3⟩ := at_T59 HR0.out x7_1 p429 q429
                      cases e429
                      replace p429 := eq_true p429
                      replace q429 := eq_true q429
                      have p430 : 0 ≤ (x7_1 : Int) := of_decide_eq_true (by first | (with_reducible assumption) | assumption)
                      have q430 : x7_1 < (l1.length : Int) := of_decide_eq_true (by first | (with_reducible assumption) | assumption)
                      obtain ⟨ad430, e430, hx430_0, hx430_1, hx430_2, hx430_3⟩ := at_T59 HR1.out x7_1 p430 q430
                      cases e430
                      replace p430 := eq_true p430
                      replace q430 := eq_true q430
                      have p431 : 0 ≤ (x7_1 : Int) := of_decide_eq_true (by first | (with_reducible assumption) | assumption)
                      have q431 : x7_1 < (l0.length : Int) := of_decide_eq_true (by first | (with_reducible assumption) | assumption)
                      obtain ⟨ad431, e431, hx431_0, hx431_1, hx431_2, hx431_3⟩ := at_T59 HR0.out x7_1 p431 q431
                      obtain rfl : ad429 = ad431 := (by injection e431)
                      replace p431 := eq_true p431
                      replace q431 := eq_true q431
                      have p432 : 0 ≤ (x7_1 : Int) := of_decide_eq_true (by first | (with_reducible assumption) | assumption)
                      have q432 : x7_1 < (l1.length : Int) := of_decide_eq_true (by first | (with_reducible assumption) | assumption)
                      obtain ⟨ad432, e432, hx432_0, hx432_1, hx432_2, hx432_3⟩ := at_T59 HR1.out x7_1 p432 q432
                      obtain rfl : ad430 = ad432 := (by injection e432)
                      replace p432 := eq_true p432
                      replace q432 := eq_true q432
                      have p433 : 0 ≤ (x7_1 : Int) := of_decide_eq_true (by first | (with_reducible assumption) | assumption)
                      have q433 : x7_1 < (l0.length : Int) := of_decide_eq_true (by first | (with_reducible assumption) | assumption)
                      obtain ⟨ad433, e433, hx433_0, hx433_1, hx433_2, hx433_3⟩ := at_T59 HR0.out x7_1 p433 q433
                      obtain rfl : ad429 = ad433 := (by injection e433)
                      replace p433 := eq_true p433
                      replace q433 := eq_true q433
                      have p434 : 0 ≤ (x7_1 : Int) := of_decide_eq_true (by first | (with_reducible assumption) | assumption)
                      have q434 : x7_1 < (l1.length : Int) := of_decide_eq_true (by first | (with_reducible assumption) | assumption)
                      obtain ⟨ad434, e434, hx434_0, hx434_1, hx434_2, hx434_3⟩ := at_T59 HR1.out x7_1 p434 q434
                      obtain rfl : ad430 = ad434 := (by injection e434)
                      replace p434 := eq_true p434
                      replace q434 := eq_true q434
                      go_wp2
                      repeat (go_quiet (fail); try go_wp2)
                      go_roundg k1
                      case measure => have := HK1.out; omega
                      case rel => exact ⟨(wrap64 (x7_1 + 1)), (by first | rfl | (simp; done) | (simp [*]; done)), H', ⟨by have := HK1.out; omega⟩, by repeat (first | exact Drawn0.refl _ | apply Drawn0.step)⟩
                  · rw [if_neg c10] at H
                    have c10b0 : (((rd_T59 l0 x7_1).f3).toList == ((rd_T59 l1 x7_1).f3).toList) = false := beq_eq_false_iff_ne.mpr c10
                    have c10b1 : (((rd_T59 l0 x7_1).f3).toList != ((rd_T59 l1 x7_1).f3).toList) = true := bne_iff_ne.mpr c10
                    obtain rfl := Option.some.inj H
                    have p429 : 0 ≤ (x7_1 : Int) := of_decide_eq_true (by first | (with_reducible assumption) | assumption)
                    have q429 : x7_1 < (l0.length : Int) := of_decide_eq_true (by first | (with_reducible assumption) | assumption)
                    obtain ⟨ad429, e429, hx429_0, hx429_1, hx429_2, hx429_3⟩ := at_T59 HR0.out x7_1 p429 q429
                    cases e429
                    replace p429 := eq_true p429
                    replace q429 := eq_true q429
                    have p430 : 0 ≤ (x7_1 : Int) := of_decide_eq_true (by first | (with_reducible assumption) | assumption)
                    have q430 : x7_1 < (l1.length : Int) := of_decide_eq_true (by first | (with_reducible assumption) | assumption)
                    obtain ⟨ad430, e430, hx430_0, hx430_1, hx430_2, hx430_3⟩ := at_T59 HR1.out x7_1 p430 q430
                    cases e430
                    replace p430 := eq_true p430
                    replace q430 := eq_true q430
                    have p431 : 0 ≤ (x7_1 : Int) := of_decide_eq_true (by first | (with_reducible assumption) | assumption)
                    have q431 : x7_1 < (l0.length : Int) := of_decide_eq_true (by first | (with_reducible assumption) | assumption)
                    obtain ⟨ad431, e431, hx431_0, hx431_1, hx431_2, hx431_3⟩ := at_T59 HR0.out x7_1 p431 q431
                    obtain rfl : ad429 = ad431 := (by injection e431)
                    replace p431 := eq_true p431
                    replace q431 := eq_true q431
                    have p432 : 0 ≤ (x7_1 : Int) := of_decide_eq_true (by first | (with_reducible assumption) | assumption)
                    have q432 : x7_1 < (l1.length : Int) := of_decide_eq_true (by first | (with_reducible assumption) | assumption)
                    obtain ⟨ad432, e432, hx432_0, hx432_1, hx432_2, hx432_3⟩ := at_T59 HR1.out x7_1 p432 q432
                    obtain rfl : ad430 = ad432 := (by injection e432)
                    replace p432 := eq_true p432
                    replace q432 := eq_true q432
                    have p433 : 0 ≤ (x7_1 : Int) := of_decide_eq_true (by first | (with_reducible assumption) | assumption)
                    have q433 : x7_1 < (l0.length : Int) := of_decide_eq_true (by first | (with_reducible assumption) | assumption)
                    obtain ⟨ad433, e433, hx433_0, hx433_1, hx433_2, hx433_3⟩ := at_T59 HR0.out x7_1 p433 q433
                    obtain rfl : ad429 = ad433 := (by injection e433)
                    replace p433 := eq_true p433
                    replace q433 := eq_true q433
                    have p434 : 0 ≤ (x7_1 : Int) := of_decide_eq_true (by first | (with_reducible assumption) | assumption)
                    have q434 : x7_1 < (l1.length : Int) := of_decide_eq_true (by first | (with_reducible assumption) | assumption)
                    obtain ⟨ad434, e434, hx434_0, hx434_1, hx434_2, hx434_3⟩ := at_T59 HR1.out x7_1 p434 q434
                    obtain rfl : ad430 = ad434 := (by injection e434)
                    replace p434 := eq_true p434
                    replace q434 := eq_true q434
                    go_wp2
                    repeat (go_quiet (fail); try go_wp2)
                    go_ret
                    exact ⟨by first | rfl | (simp; done) | (simp [*]; done), by repeat (first | exact Drawn0.refl _ | apply Drawn0.step)⟩
                · rw [if_neg c9] at H
                  have c9b0 : (((rd_T59 l0 x7_1).f1) == ((rd_T59 l1 x7_1).f1)) = false := beq_eq_false_iff_ne.mpr c9
                  have c9b1 : (((rd_T59 l0 x7_1).f1) != ((rd_T59 l1 x7_1).f1)) = true := bne_iff_ne.mpr c9
                  obtain rfl := Option.some.inj H
                  have p429 : 0 ≤ (x7_1 : Int) := of_decide_eq_true (by first | (with_reducible assumption) | assumption)
                  have q429 : x7_1 < (l0.length : Int) := of_decide_eq_true (by first | (with_reducible assumption) | assumption)
                  obtain ⟨ad429, e429, hx429_0, hx429_1, hx429_2, hx429_3⟩ := at_T59 HR0.out x7_1 p429 q429
                  cases e429
                  replace p429 := eq_true p429
                  replace q429 := eq_true q429
                  have p430 : 0 ≤ (x7_1 : Int) := of_decide_eq_true (by first | (with_reducible assumption) | assumption)
                  have q430 : x7_1 < (l1.length : Int) := of_decide_eq_true (by first | (with_reducible assumption) | assumption)
                  obtain ⟨ad430, e430, hx430_0, hx430_1, hx430_2, hx430_3⟩ := at_T59 HR1.out x7_1 p430 q430
                  cases e430
                  replace p430 := eq_true p430
                  replace q430 := eq_true q430
                  have p431 : 0 ≤ (x7_1 : Int) := of_decide_eq_true (by first | (with_reducible assumption) | assumption)
                  have q431 : x7_1 < (l0.length : Int) := of_decide_eq_true (by first | (with_reducible assumption) | assumption)
                  obtain ⟨ad431, e431, hx431_0, hx431_1, hx431_2, hx431_3⟩ := at_T59 HR0.out x7_1 p431 q431
                  obtain rfl : ad429 = ad431 := (by injection e431)
                  replace p431 := eq_true p431
                  replace q431 := eq_true q431
                  have p432 : 0 ≤ (x7_1 : Int) := of_decide_eq_true (by first | (with_reducible assumption) | assumption)
                  have q432 : x7_1 < (l1.length : Int) := of_decide_eq_true (by first | (with_reducible assumption) | assumption)
                  obtain ⟨ad432, e432, hx432_0, hx432_1, hx432_2, hx432_3⟩ := at_T59 HR1.out x7_1 p432 q432
                  obtain rfl : ad430 = ad432 := (by injection e432)
                  replace p432 := eq_true p432
                  replace q432 := eq_true q432
                  go_wp2
                  repeat (go_quiet (fail); try go_wp2)
                  go_ret
                  exact ⟨by first | rfl | (simp; done) | (simp [*]; done), by repeat (first | exact Drawn0.refl _ | apply Drawn0.step)⟩
              · rw [if_neg c8] at H
                have c8b0 : (((rd_T59 l0 x7_1).f0) == ((rd_T59 l1 x7_1).f0)) = false := beq_eq_false_iff_ne.mpr c8
                have c8b1 : (((rd_T59 l0 x7_1).f0) != ((rd_T59 l1 x7_1).f0)) = true := bne_iff_ne.mpr c8
                obtain rfl := Option.some.inj H
                have p429 : 0 ≤ (x7_1 : Int) := of_decide_eq_true (by first | (with_reducible assumption) | assumption)
                have q429 : x7_1 < (l0.length : Int) := of_decide_eq_true (by first | (with_reducible assumption) | assumption)
                obtain ⟨ad429, e429, hx429_0, hx429_1, hx429_2, hx429_3⟩ := at_T59 HR0.out x7_1 p429 q429
                cases e429
                replace p429 := eq_true p429
                replace q429 := eq_true q429
                have p430 : 0 ≤ (x7_1 : Int) := of_decide_eq_true (by first | (with_reducible assumption) | assumption)
                have q430 : x7_1 < (l1.length : Int) := of_decide_eq_true (by first | (with_reducible assumption) | assumption)
                obtain ⟨ad430, e430, hx430_0, hx430_1, hx430_2, hx430_3⟩ := at_T59 HR1.out x7_1 p430 q430
                cases e430
                replace p430 := eq_true p430
                replace q430 := eq_true q430
                go_wp2
                repeat (go_quiet (fail); try go_wp2)
                go_ret
                exact ⟨by first | rfl | (simp; done) | (simp [*]; done), by repeat (first | exact Drawn0.refl _ | apply Drawn0.step)⟩
            · rw [if_neg c7] at H
              exact absurd H (by simp)
          · rw [if_neg c6] at H
            exact absurd H (by simp)
        · rw [if_neg c5] at H
          have c5b0 : decide (x7_1 < (l0.length : Int)) = false := decide_eq_false c5
          clear c5
          obtain rfl := Option.some.inj H
          go_wp2
          repeat (go_quiet (fail); try go_wp2)
          go_ret
          exact ⟨by first | rfl | (simp; done) | (simp [*]; done), by repeat (first | exact Drawn0.refl _ | apply Drawn0.step)⟩
  · rw [if_neg c4] at H
    have c4b0 : ((l0.length : Int) == (l1.length : Int)) = false := beq_eq_false_iff_ne.mpr c4
    have c4b1 : ((l0.length : Int) != (l1.length : Int)) = true := bne_iff_ne.mpr c4
    have c4b2 : (l0.length == l1.length) = false := by first | simpa using c4 | (simp at c4 ⊢; omega)
    obtain rfl := Option.some.inj H
    go_enter Tryd.func26, Tryd.ntmps26
    go_wp2
    repeat (go_quiet (fail); try go_wp2)
    go_ret
    exact ⟨by first | rfl | (simp; done) | (simp [*]; done), by repeat (first | exact Drawn0.refl _ | apply Drawn0.step)⟩

end Go.Proofs.YtcnmejahighkfaaDoor.P
-- Pf56
namespace Go.Proofs.YtcnmejahighkfaaDoor.P
open Go.RowKit Go.Proofs.YtcnmejahighkfaaDoorW.PrintWords Go.Proofs.YtcnmejahighkfaaDoorW.PrintLast Go.Proofs.YtcnmejahighkfaaDoorW.PrintMore
attribute [local go_sem] max2_int min2_int max_two min_two max_three min_three max_four min_four   -- for this text's walks alone
set_option linter.unusedVariables false
set_option linter.unusedSimpArgs false

/-! ### timeboundref02_Decimal: function 56 -/
def timeboundref02_Decimal.f : Nat → Int → Option (ByteArray)
  | 0, _ => none
  | k + 1, a0 => if a0 < 10 then (some (strOfNums (([(wrap64 (48 + a0)) % 256] : List Int)))) else ((timeboundref02_Decimal.f k (wrap64 (Int.tdiv a0 10))).bind fun t372 => ((some (([(wrap64 (48 + (Int.tmod a0 10))) % 256] : List Int) : List Int)).bind fun y373 => (if t372.size + (strOfNums y373).size ≤ 9223372036854775807 then (some (t372 ++ (strOfNums y373))) else (none))))
theorem timeboundref02_Decimal.mono_l : ∀ k, (∀ y0, LeO (timeboundref02_Decimal.f k y0) (timeboundref02_Decimal.f (k + 1) y0))
  | 0 => fun _ r h => by simp [timeboundref02_Decimal.f] at h
  | k + 1 => by
    have ih0 := timeboundref02_Decimal.mono_l k
    · intro y0
      unfold timeboundref02_Decimal.f
      repeat' first
      | (with_reducible exact ih0 _)
      | (with_reducible exact LeO.refl _)
      | (with_reducible exact LeO.none _)
      | (with_reducible refine LeO.ite ?_ ?_)
      | (with_reducible refine LeO.bind ?_ (fun _ => ?_))
      | exact ih0 _
      | exact LeO.none _
      | refine LeO.ite ?_ ?_
      | refine LeO.bind ?_ (fun _ => ?_)
theorem timeboundref02_Decimal.mono : ∀ a0 k, LeO (timeboundref02_Decimal.f k a0) (timeboundref02_Decimal.f (k + 1) a0) := by
  intro a0 k
  have ih0 := timeboundref02_Decimal.mono_l k
  exact ih0 a0
def timeboundref02_Decimal.T3 : Bool × List (List Nat × List Nat) := (true, [([], []), ([0], [0]), ([1], [1]), ([], []), ([3], [3]), ([4], [4]), ([5], [5]), ([6], [6]), ([7], [7]), ([2, 8], [2, 8]), ([9, 2, 0, 1, 2, 3, 4, 5, 6, 7, 8, 9], [9])])
def timeboundref02_Decimal.B3 : List Nat := [0, 1, 3, 0, 8, 24, 56, 120, 248, 511, 1023]
theorem timeboundref02_Decimal.tab3 : rtab .any (opsOf Tryd.f56 3) = timeboundref02_Decimal.T3 := by kernel_rfl
theorem timeboundref02_Decimal.bits3 : waitsOk timeboundref02_Decimal.T3.2 timeboundref02_Decimal.B3 = true := by kernel_rfl
set_option maxHeartbeats 8000000 in
set_option maxRecDepth 100000 in
theorem timeboundref02_Decimal.calls (k : Nat) : ∀ (a0 : Int) (r : ByteArray) (w : World) (h : timeboundref02_Decimal.f k a0 = some r),
    Calls Tryd.prog 56 #[.int .i64 a0] w fun e w' => e = .returned (.string r) ∧ Below w.heap.size w w' := by
  induction k using Nat.strongRecOn with
  | _ k ih =>
  intro a0 r w h
  cases k with
  | zero => exact absurd h (by simp [timeboundref02_Decimal.f])
  | succ k =>
  simp only [timeboundref02_Decimal.f] at h
  have HB := Aside0.mk (Below.refl w.heap.size w)
  have H : (if a0 < 10 then (some (strOfNums (([(wrap64 (48 + a0)) % 256] : List Int)))) else ((timeboundref02_Decimal.f k (wrap64 (Int.tdiv a0 10))).bind fun t372 => ((some (([(wrap64 (48 + (Int.tmod a0 10))) % 256] : List Int) : List Int)).bind fun y373 => (if t372.size + (strOfNums y373).size ≤ 9223372036854775807 then (some (t372 ++ (strOfNums y373))) else (none))))) = some r := h
  clear h
  by_cases c2 : a0 < 10
  · rw [if_pos c2] at H
    have c2b0 : decide (a0 < 10) = true := decide_eq_true c2
    clear c2
    obtain ⟨y369, hy369⟩ : ∃ y_ : List Int, y_ = (([(wrap64 (48 + a0)) % 256] : List Int)) := ⟨_, rfl⟩
    replace H : (some (strOfNums y369)) = some r := by first | (rw [hy369]; with_reducible exact H) | (have H2_ := (Option.bind_some _ _).symm.trans H; rw [hy369]; with_reducible exact H2_) | (have H2_ := (Option.bind_some _ _).symm.trans H; with_reducible exact H2_) | with_reducible exact H | (rw [hy369]; exact H) | exact H
    have Ny369 := Aside0.mk hy369
    clear hy369
    obtain rfl := Option.some.inj H
    go_enter Tryd.func56, Tryd.ntmps56
    go_wp2_with (first | ((with_reducible refine gate_dst (N := 8) rfl ?_); refine Kd.R_lit (Kd.int .u8) _ 5 ?hg (N := 8) ?hd (xs := ([(wrap64 (48 + a0)) % 256] : List Int)) (inner := [.int .u8 ((wrap64 (48 + a0)) % 256)]) (ok := fun _ => True) (okp := fun _ => True) ?hr ?hp (fun _ hk => hk) trivial (Below.refl _ _) (Nat.le_refl _) (by simp) ?_; (case hd => rfl); (case hg => rfl); (case hr => first | (go_simp; done) | (go_simp; rfl)); (case hp => exact (Reps.one (show Kd.M (Kd.int .u8) _ _ _ ((wrap64 (48 + a0)) % 256) [.int .u8 ((wrap64 (48 + a0)) % 256)] from rfl) (Reps.none _ _))); intro v370 w3 ho4 hb hg_ hnew_; clear hg_ hnew_; (first | rw [← Ny369.out] at ho4 | (simp only [Int.reduceToNat] at ho4; rw [← Ny369.out] at ho4)); have n0_ := Aside0.mk (Kd.R_lower ho4 (below_size (by repeat (first | (with_reducible first | exact HB.out | apply below_alloc | apply pw_below_drewN | apply below_drew1) | exact HB.out)))); have n1_ := Aside0.mk (below_step (by repeat (first | (with_reducible first | exact HB.out | apply below_alloc | apply pw_below_drewN | apply below_drew1) | exact HB.out)) hb); clear HB; have HO371 := n0_; have HB := n1_; clear n0_ n1_; clear hb ho4; have hcv5 := own_string (P := Tryd.prog) Tryd.underlying22 Tryd.underlying5 Tryd.underlying9 (Kd.own_of_R HO371.out)))
    go_ret
    exact ⟨by first | rfl | (simp [errW_none, errW_some] <;> rfl) | (simp [*, errW_none, errW_some] <;> rfl), by repeat (first | (with_reducible first | exact HB.out | apply below_alloc | apply pw_below_drewN | apply below_drew1) | exact HB.out)⟩
  · rw [if_neg c2] at H
    have c2b0 : decide (a0 < 10) = false := decide_eq_false c2
    clear c2
    replace H := Option.bind_eq_some_iff.mp H
    obtain ⟨t372, A60, H⟩ := H
    replace H : ((some (([(wrap64 (48 + (Int.tmod a0 10))) % 256] : List Int) : List Int)).bind fun y373 => (if t372.size + (strOfNums y373).size ≤ 9223372036854775807 then (some (t372 ++ (strOfNums y373))) else (none))) = some r := H
    have A6 := Aside0.mk A60
    clear A60
    obtain ⟨y373, hy373⟩ : ∃ y_ : List Int, y_ = (([(wrap64 (48 + (Int.tmod a0 10))) % 256] : List Int)) := ⟨_, rfl⟩
    replace H : (if t372.size + (strOfNums y373).size ≤ 9223372036854775807 then (some (t372 ++ (strOfNums y373))) else (none)) = some r := by first | (rw [hy373]; with_reducible exact H) | (have H2_ := (Option.bind_some _ _).symm.trans H; rw [hy373]; with_reducible exact H2_) | (have H2_ := (Option.bind_some _ _).symm.trans H; with_reducible exact H2_) | with_reducible exact H | (rw [hy373]; exact H) | exact H
    have Ny373 := Aside0.mk hy373
    clear hy373
    by_cases c7 : t372.size + (strOfNums y373).size ≤ 9223372036854775807
    · rw [if_pos c7] at H
      have c7b0 := eq_true c7
      have c7b1 : decide (t372.size + (strOfNums y373).size ≤ 9223372036854775807) = true := decide_eq_true c7
      try have c7b2 : (9223372036854775807 < t372.size + (strOfNums y373).size) = False := eq_false (Nat.not_lt.2 c7)
      obtain rfl := Option.some.inj H
      go_enter Tryd.func56, Tryd.ntmps56
      try go_wp2
      have n0_ := Aside0.mk (below_drew1 HB.out)
      clear HB
      have HB := n0_
      clear n0_
      refine start_ (n := 11) (S := fun w' => True) (ds := []) #[false, false, false, false, false, false, false, false, false, false, false] (by kernel_rfl) rfl rfl trivial (fun hHeld => ?_); refine with_tabW timeboundref02_Decimal.tab3 timeboundref02_Decimal.bits3 (fun HT_ HW_ => ?_)
      generalize w.drew = w8 at HB hHeld ⊢
      refine pure_ (i := 0) (N := some 10) (v := ?_) (a' := ?_) #[true, false, false, false, false, false, false, false, false, false, false] rfl rfl (any_of HT_.out (by kernel_rfl)) (fun _ _ _ h => h) (Or.inl ⟨by rfl, ?_⟩) ?_ ?_
      rotate_left
      · intro w'
        go_simp
        with_reducible rfl
      rotate_left
      · simp only [Act.put, List.setIfInBounds_toArray, List.set_cons_zero, List.set_cons_succ, i64_w, i32_w]
        rfl
      refine pure_ (i := 1) (N := some 11) (v := ?_) (a' := ?_) #[true, true, false, false, false, false, false, false, false, false, false] rfl rfl (any_of HT_.out (by kernel_rfl)) (fun _ _ _ h => h) (Or.inl ⟨by rfl, ?_⟩) ?_ ?_
      rotate_left
      · intro w'
        go_simp
        with_reducible rfl
      rotate_left
      · simp only [Act.put, List.setIfInBounds_toArray, List.set_cons_zero, List.set_cons_succ, i64_w, i32_w]
        rfl
      refine pure_ (i := 3) (N := some 13) (v := ?_) (a' := ?_) #[true, true, false, true, false, false, false, false, false, false, false] rfl rfl (any_of HT_.out (by kernel_rfl)) (fun _ _ _ h => h) (Or.inl ⟨by rfl, ?_⟩) ?_ ?_
      rotate_left
      · intro w'
        go_simp
        with_reducible rfl
      rotate_left
      · simp only [Act.put, List.setIfInBounds_toArray, List.set_cons_zero, List.set_cons_succ, i64_w, i32_w]
        rfl
      refine pure_ (i := 4) (N := some 14) (v := ?_) (a' := ?_) #[true, true, false, true, true, false, false, false, false, false, false] rfl rfl (any_of HT_.out (by kernel_rfl)) (fun _ _ _ h => h) (Or.inl ⟨by rfl, ?_⟩) ?_ ?_
      rotate_left
      · intro w'
        go_simp
        with_reducible rfl
      rotate_left
      · simp only [Act.put, List.setIfInBounds_toArray, List.set_cons_zero, List.set_cons_succ, i64_w, i32_w]
        rfl
      refine pure_ (i := 5) (N := some 15) (v := ?_) (a' := ?_) #[true, true, false, true, true, true, false, false, false, false, false] rfl rfl (any_of HT_.out (by kernel_rfl)) (fun _ _ _ h => h) (Or.inl ⟨by rfl, ?_⟩) ?_ ?_
      rotate_left
      · intro w'
        go_simp
        with_reducible rfl
      rotate_left
      · simp only [Act.put, List.setIfInBounds_toArray, List.set_cons_zero, List.set_cons_succ, i64_w, i32_w]
        rfl
      refine pure_ (i := 6) (N := some 16) (v := ?_) (a' := ?_) #[true, true, false, true, true, true, true, false, false, false, false] rfl rfl (any_of HT_.out (by kernel_rfl)) (fun _ _ _ h => h) (Or.inl ⟨by rfl, ?_⟩) ?_ ?_
      rotate_left
      · intro w'
        go_simp
        with_reducible rfl
      rotate_left
      · simp only [Act.put, List.setIfInBounds_toArray, List.set_cons_zero, List.set_cons_succ, i64_w, i32_w]
        rfl
      refine join_ (σ := Value) 2 #[true, true, true, true, true, true, true, true, true, false, false] (fun s_ => [(12, .string t372), (17, s_), (18, .string (strOfNums y373))]) (fun s_ w' => (Kd.R (Kd.int .u8) 5 w' w.heap.size (fun _ => True) s_ y373) ∧ (Below w.heap.size w w')) ?_ ?_
      rotate_left
      · intro hCont
        refine two_ (i := 2) (j := 7) (Ni := some 12) (Nj := some 17) #[true, true, true, true, true, true, true, false, false, false, false] #[true, true, false, true, true, true, true, true, false, false, false] rfl rfl rfl rfl (two_of HT_.out (by kernel_rfl)) (by decide) (by decide) (fun K hK => ?_) (fun K hK => ?_)
        · skip
          refine goes_ Tryd.func56 (by kernel_rfl) rfl #[.int .i64 (wrap64 (Int.tdiv a0 10))] (by rfl) rfl rfl (by (try simp only [List.map_toArray, List.map_cons, List.map_nil]); first | done | rfl | (simp only [List.length_drop, List.length_take]; rfl)) ?_
          with_reducible refine (ih k (by omega) (wrap64 (Int.tdiv a0 10)) t372 _ A6.out).mono ?_
          rintro e w9 ⟨rfl, hb⟩
          refine ⟨_, rfl, ?_⟩
          have n0_ := Aside0.mk (below_step (by repeat (first | (with_reducible first | exact HB.out | apply below_alloc | apply pw_below_drewN | apply below_drew1) | exact HB.out)) hb)
          clear HB
          have HB := n0_
          clear n0_
          (try clear hb)
          (try clear hb2)
          (try clear hk)
          (try clear hi)
          refine hK.out _ _ trivial (fun hHeld => ?_)
          clear hK K
          refine norm_ (a' := ?_) ?_ ?_
          rotate_left
          · show Act.put _ (some 12) _ = _
            simp only [Act.put, List.setIfInBounds_toArray, List.set_cons_zero, List.set_cons_succ, i64_w, i32_w]
            rfl
          refine one_ (i := 7) (N := some 17) #[true, true, true, true, true, true, true, true, false, false, false] rfl rfl (one_of HT_.out (by kernel_rfl)) (by decide) (fun K hK => ?_)
          refine Kd.R_lit_step (Kd.int .u8) _ 5 ?hg (N := 17) ?hd (xs := ([(wrap64 (48 + (Int.tmod a0 10))) % 256] : List Int)) (inner := [.int .u8 ((wrap64 (48 + (Int.tmod a0 10))) % 256)]) (ok := fun _ => True) (okp := fun _ => True) ?hr ?hp (fun _ hk => hk) trivial (Below.refl _ _) (Nat.le_refl _) (by simp) ?_; (case hd => rfl); (case hg => rfl); (case hr => first | (go_simp; done) | (go_simp; rfl)); (case hp => exact (Reps.one (show Kd.M (Kd.int .u8) _ _ _ ((wrap64 (48 + (Int.tmod a0 10))) % 256) [.int .u8 ((wrap64 (48 + (Int.tmod a0 10))) % 256)] from rfl) (Reps.none _ _)))
          intro v374 w10 ho11 hb hg_ hnew_
          clear hg_ hnew_
          (first | rw [← Ny373.out] at ho11 | (simp only [Int.reduceToNat] at ho11; rw [← Ny373.out] at ho11))
          have n0_ := Aside0.mk (Kd.R_lower ho11 (below_size (by repeat (first | (with_reducible first | exact HB.out | apply below_alloc | apply pw_below_drewN | apply below_drew1) | exact HB.out))))
          have n1_ := Aside0.mk (below_step (by repeat (first | (with_reducible first | exact HB.out | apply below_alloc | apply pw_below_drewN | apply below_drew1) | exact HB.out)) hb)
          clear HB
          have HO375 := n0_
          have HB := n1_
          clear n0_ n1_
          clear hb ho11
          refine hK.out _ _ trivial (fun hHeld => ?_)
          clear hK K
          refine norm_ (a' := ?_) ?_ ?_
          rotate_left
          · show Act.put _ (some 17) _ = _
            simp only [Act.put, List.setIfInBounds_toArray, List.set_cons_zero, List.set_cons_succ, i64_w, i32_w]
            rfl
          refine one_ (i := 8) (N := some 18) #[true, true, true, true, true, true, true, true, true, false, false] rfl rfl (one_of HT_.out (by kernel_rfl)) (by decide) (fun K hK => ?_)
          have hcv12 := own_string (P := Tryd.prog) Tryd.underlying22 Tryd.underlying5 Tryd.underlying9 (Kd.own_of_R HO375.out)
          refine value_ (w1 := ?_) (v := ?_) (by rfl) rfl ?_ ?_
          rotate_left 2
          · go_simp
            constructor
            · rfl
            · rfl
          clear hcv12
          refine hK.out _ _ trivial (fun hHeld => ?_)
          clear hK K
          refine norm_ (a' := ?_) ?_ ?_
          rotate_left
          · show Act.put _ (some 18) _ = _
            simp only [Act.put, List.setIfInBounds_toArray, List.set_cons_zero, List.set_cons_succ, i64_w, i32_w]
            rfl
          exact norm_ (by simp only [putAll, Act.put, List.setIfInBounds_toArray, List.set_cons_zero, List.set_cons_succ]) (hCont (v374) _ ⟨(by (with_reducible repeat (first | apply Kd.R_alloc | apply Kd.R_drewN | apply Kd.R_drew)); exact HO375.out), (by repeat (first | (with_reducible first | exact HB.out | apply below_alloc | apply pw_below_drewN | apply below_drew1) | exact HB.out))⟩)
        · skip
          refine Kd.R_lit_step (Kd.int .u8) _ 5 ?hg (N := 17) ?hd (xs := ([(wrap64 (48 + (Int.tmod a0 10))) % 256] : List Int)) (inner := [.int .u8 ((wrap64 (48 + (Int.tmod a0 10))) % 256)]) (ok := fun _ => True) (okp := fun _ => True) ?hr ?hp (fun _ hk => hk) trivial (Below.refl _ _) (Nat.le_refl _) (by simp) ?_; (case hd => rfl); (case hg => rfl); (case hr => first | (go_simp; done) | (go_simp; rfl)); (case hp => exact (Reps.one (show Kd.M (Kd.int .u8) _ _ _ ((wrap64 (48 + (Int.tmod a0 10))) % 256) [.int .u8 ((wrap64 (48 + (Int.tmod a0 10))) % 256)] from rfl) (Reps.none _ _)))
          intro v374 w9 ho10 hb hg_ hnew_
          clear hg_ hnew_
          (first | rw [← Ny373.out] at ho10 | (simp only [Int.reduceToNat] at ho10; rw [← Ny373.out] at ho10))
          have n0_ := Aside0.mk (Kd.R_lower ho10 (below_size (by repeat (first | (with_reducible first | exact HB.out | apply below_alloc | apply pw_below_drewN | apply below_drew1) | exact HB.out))))
          have n1_ := Aside0.mk (below_step (by repeat (first | (with_reducible first | exact HB.out | apply below_alloc | apply pw_below_drewN | apply below_drew1) | exact HB.out)) hb)
          clear HB
          have HO375 := n0_
          have HB := n1_
          clear n0_ n1_
          clear hb ho10
          refine hK.out _ _ trivial (fun hHeld => ?_)
          clear hK K
          refine norm_ (a' := ?_) ?_ ?_
          rotate_left
          · show Act.put _ (some 17) _ = _
            simp only [Act.put, List.setIfInBounds_toArray, List.set_cons_zero, List.set_cons_succ, i64_w, i32_w]
            rfl
          refine two_ (i := 2) (j := 8) (Ni := some 12) (Nj := some 18) #[true, true, true, true, true, true, true, true, false, false, false] #[true, true, false, true, true, true, true, true, true, false, false] rfl rfl rfl rfl (two_of HT_.out (by kernel_rfl)) (by decide) (by decide) (fun K hK => ?_) (fun K hK => ?_)
          · skip
            refine goes_ Tryd.func56 (by kernel_rfl) rfl #[.int .i64 (wrap64 (Int.tdiv a0 10))] (by rfl) rfl rfl (by (try simp only [List.map_toArray, List.map_cons, List.map_nil]); first | done | rfl | (simp only [List.length_drop, List.length_take]; rfl)) ?_
            with_reducible refine (ih k (by omega) (wrap64 (Int.tdiv a0 10)) t372 _ A6.out).mono ?_
            rintro e w11 ⟨rfl, hb⟩
            refine ⟨_, rfl, ?_⟩
            have n0_ := Aside0.mk (Kd.R_below (by (with_reducible repeat (first | apply Kd.R_alloc | apply Kd.R_drewN | apply Kd.R_drew)); exact HO375.out) hb)
            have n1_ := Aside0.mk (below_step (by repeat (first | (with_reducible first | exact HB.out | apply below_alloc | apply pw_below_drewN | apply below_drew1) | exact HB.out)) hb)
            clear HO375
            clear HB
            have HO375 := n0_
            have HB := n1_
            clear n0_ n1_
            (try clear hb)
            (try clear hb2)
            (try clear hk)
            (try clear hi)
            refine hK.out _ _ trivial (fun hHeld => ?_)
            clear hK K
            refine norm_ (a' := ?_) ?_ ?_
            rotate_left
            · show Act.put _ (some 12) _ = _
              simp only [Act.put, List.setIfInBounds_toArray, List.set_cons_zero, List.set_cons_succ, i64_w, i32_w]
              rfl
            refine one_ (i := 8) (N := some 18) #[true, true, true, true, true, true, true, true, true, false, false] rfl rfl (one_of HT_.out (by kernel_rfl)) (by decide) (fun K hK => ?_)
            have hcv12 := own_string (P := Tryd.prog) Tryd.underlying22 Tryd.underlying5 Tryd.underlying9 (Kd.own_of_R HO375.out)
            refine value_ (w1 := ?_) (v := ?_) (by rfl) rfl ?_ ?_
            rotate_left 2
            · go_simp
              constructor
              · rfl
              · rfl
            clear hcv12
            refine hK.out _ _ trivial (fun hHeld => ?_)
            clear hK K
            refine norm_ (a' := ?_) ?_ ?_
            rotate_left
            · show Act.put _ (some 18) _ = _
              simp only [Act.put, List.setIfInBounds_toArray, List.set_cons_zero, List.set_cons_succ, i64_w, i32_w]
              rfl
            exact norm_ (by simp only [putAll, Act.put, List.setIfInBounds_toArray, List.set_cons_zero, List.set_cons_succ]) (hCont (v374) _ ⟨(by (with_reducible repeat (first | apply Kd.R_alloc | apply Kd.R_drewN | apply Kd.R_drew)); exact HO375.out), (by repeat (first | (with_reducible first | exact HB.out | apply below_alloc | apply pw_below_drewN | apply below_drew1) | exact HB.out))⟩)
          · skip
            have hcv11 := own_string (P := Tryd.prog) Tryd.underlying22 Tryd.underlying5 Tryd.underlying9 (Kd.own_of_R HO375.out)
            refine value_ (w1 := ?_) (v := ?_) (by rfl) rfl ?_ ?_
            rotate_left 2
            · go_simp
              constructor
              · rfl
              · rfl
            clear hcv11
            refine hK.out _ _ trivial (fun hHeld => ?_)
            clear hK K
            refine norm_ (a' := ?_) ?_ ?_
            rotate_left
            · show Act.put _ (some 18) _ = _
              simp only [Act.put, List.setIfInBounds_toArray, List.set_cons_zero, List.set_cons_succ, i64_w, i32_w]
              rfl
            refine one_ (i := 2) (N := some 12) #[true, true, true, true, true, true, true, true, true, false, false] rfl rfl (one_of HT_.out (by kernel_rfl)) (by decide) (fun K hK => ?_)
            refine goes_ Tryd.func56 (by kernel_rfl) rfl #[.int .i64 (wrap64 (Int.tdiv a0 10))] (by rfl) rfl rfl (by (try simp only [List.map_toArray, List.map_cons, List.map_nil]); first | done | rfl | (simp only [List.length_drop, List.length_take]; rfl)) ?_
            with_reducible refine (ih k (by omega) (wrap64 (Int.tdiv a0 10)) t372 _ A6.out).mono ?_
            rintro e w12 ⟨rfl, hb⟩
            refine ⟨_, rfl, ?_⟩
            have n0_ := Aside0.mk (Kd.R_below (by (with_reducible repeat (first | apply Kd.R_alloc | apply Kd.R_drewN | apply Kd.R_drew)); exact HO375.out) hb)
            have n1_ := Aside0.mk (below_step (by repeat (first | (with_reducible first | exact HB.out | apply below_alloc | apply pw_below_drewN | apply below_drew1) | exact HB.out)) hb)
            clear HO375
            clear HB
            have HO375 := n0_
            have HB := n1_
            clear n0_ n1_
            (try clear hb)
            (try clear hb2)
            (try clear hk)
            (try clear hi)
            refine hK.out _ _ trivial (fun hHeld => ?_)
            clear hK K
            refine norm_ (a' := ?_) ?_ ?_
            rotate_left
            · show Act.put _ (some 12) _ = _
              simp only [Act.put, List.setIfInBounds_toArray, List.set_cons_zero, List.set_cons_succ, i64_w, i32_w]
              rfl
            exact norm_ (by simp only [putAll, Act.put, List.setIfInBounds_toArray, List.set_cons_zero, List.set_cons_succ]) (hCont (v374) _ ⟨(by (with_reducible repeat (first | apply Kd.R_alloc | apply Kd.R_drewN | apply Kd.R_drew)); exact HO375.out), (by repeat (first | (with_reducible first | exact HB.out | apply below_alloc | apply pw_below_drewN | apply below_drew1) | exact HB.out))⟩)
      rintro v374 w13 ⟨h0_, h1_⟩
      have n0_ : Aside0 (Kd.R (Kd.int .u8) 5 w13 w.heap.size (fun _ => True) v374 y373) := ⟨h0_⟩
      have n1_ : Aside0 (Below w.heap.size w w13) := ⟨h1_⟩
      clear HB
      clear h0_ h1_
      have HO375 := n0_
      have HB := n1_
      clear n0_ n1_
      have hHeld := trivial
      refine norm_ (a' := ?_) ?_ ?_
      rotate_left
      · simp only [putAll, Act.put, List.setIfInBounds_toArray, List.set_cons_zero, List.set_cons_succ]
        rfl
      refine pure_ (i := 9) (N := some 19) (v := ?_) (a' := ?_) #[true, true, true, true, true, true, true, true, true, true, false] rfl rfl (any_of HT_.out (by kernel_rfl)) (fun _ _ _ h => h) (Or.inl ⟨by rfl, ?_⟩) ?_ ?_
      rotate_left
      · intro w'
        go_simp
        with_reducible rfl
      rotate_left
      · simp only [Act.put, List.setIfInBounds_toArray, List.set_cons_zero, List.set_cons_succ, i64_w, i32_w]
        rfl
      refine pure_ (i := 10) (N := some 2) (v := ?_) (a' := ?_) #[true, true, true, true, true, true, true, true, true, true, true] rfl rfl (any_of HT_.out (by kernel_rfl)) (fun _ _ _ h => h) (Or.inl ⟨by rfl, ?_⟩) ?_ ?_
      rotate_left
      · intro w'
        go_simp
        with_reducible rfl
      rotate_left
      · simp only [Act.put, List.setIfInBounds_toArray, List.set_cons_zero, List.set_cons_succ, i64_w, i32_w]
        rfl
      refine done_ (done_of HT_.out (by kernel_rfl)) ?_
      try go_wp2
      go_ret
      exact ⟨by first | rfl | (simp [errW_none, errW_some] <;> rfl) | (simp [*, errW_none, errW_some] <;> rfl), by repeat (first | (with_reducible first | exact HB.out | apply below_alloc | apply pw_below_drewN | apply below_drew1) | exact HB.out)⟩
    · rw [if_neg c7] at H
      exact absurd H (by simp)

end Go.Proofs.YtcnmejahighkfaaDoor.P
-- Pf30
namespace Go.Proofs.YtcnmejahighkfaaDoor.P
open Go.RowKit Go.Proofs.YtcnmejahighkfaaDoorW.PrintWords Go.Proofs.YtcnmejahighkfaaDoorW.PrintLast Go.Proofs.YtcnmejahighkfaaDoorW.PrintMore
attribute [local go_sem] max2_int min2_int max_two min_two max_three min_three max_four min_four   -- for this text's walks alone
set_option linter.unusedVariables false
set_option linter.unusedSimpArgs false

/-! ### timeboundref02_Word: function 30 -/
def timeboundref02_Word.j0 : Nat → Int → Bool → Int → Int → Int → ByteArray → Option (ByteArray)
  | 0, _, _, _, _, _, _ => none
  | k + 1, x4, x5, x438000, x438001, x438002, x438003 => if x5 = true then (some x438003) else (if x4 = 2 then (if x438001 < 0 then (some (⟨#[48]⟩ : ByteArray)) else (if x438001 ≥ 2147483648 then (some (⟨#[48]⟩ : ByteArray)) else ((timeboundref02_Decimal.f k x438001).bind fun t438 => (some t438)))) else (some (⟨#[]⟩ : ByteArray)))
def timeboundref02_Word.f (k : Nat) (a0_0 : Int) (a0_1 : Int) (a0_2 : Int) (a0_3 : ByteArray) : Option (ByteArray) := if a0_0 = 1 then (timeboundref02_Word.j0 k a0_0 (a0_0 == 1) a0_0 a0_1 a0_2 a0_3) else (timeboundref02_Word.j0 k a0_0 (a0_0 == 3) a0_0 a0_1 a0_2 a0_3)
theorem timeboundref02_Word.mono_l : ∀ k, (∀ y0 y1 y2 y3 y4 y5, LeO (timeboundref02_Word.j0 k y0 y1 y2 y3 y4 y5) (timeboundref02_Word.j0 (k + 1) y0 y1 y2 y3 y4 y5))
  | 0 => fun _ _ _ _ _ _ r h => by simp [timeboundref02_Word.j0] at h
  | k + 1 => by
    have ih0 := timeboundref02_Word.mono_l k
    · intro y0 y1 y2 y3 y4 y5
      unfold timeboundref02_Word.j0
      repeat' first
      | (with_reducible exact ih0 _ _ _ _ _ _)
      | (with_reducible exact timeboundref02_Decimal.mono _ _)
      | (with_reducible exact LeO.refl _)
      | (with_reducible exact LeO.none _)
      | (with_reducible refine LeO.ite ?_ ?_)
      | (with_reducible refine LeO.bind ?_ (fun _ => ?_))
      | exact ih0 _ _ _ _ _ _
      | exact timeboundref02_Decimal.mono _ _
      | exact LeO.none _
      | refine LeO.ite ?_ ?_
      | refine LeO.bind ?_ (fun _ => ?_)
theorem timeboundref02_Word.mono : ∀ a0 a1 a2 a3 k, LeO (timeboundref02_Word.f k a0 a1 a2 a3) (timeboundref02_Word.f (k + 1) a0 a1 a2 a3) := by
  intro a0 a1 a2 a3 k
  have ih0 := timeboundref02_Word.mono_l k
  unfold timeboundref02_Word.f
  repeat' first
      | (with_reducible exact ih0 _ _ _ _ _ _)
      | (with_reducible exact timeboundref02_Decimal.mono _ _)
      | (with_reducible exact LeO.refl _)
      | (with_reducible exact LeO.none _)
      | (with_reducible refine LeO.ite ?_ ?_)
      | (with_reducible refine LeO.bind ?_ (fun _ => ?_))
      | exact ih0 _ _ _ _ _ _
      | exact timeboundref02_Decimal.mono _ _
      | exact LeO.none _
      | refine LeO.ite ?_ ?_
      | refine LeO.bind ?_ (fun _ => ?_)
set_option maxHeartbeats 8000000 in
set_option maxRecDepth 100000 in
theorem timeboundref02_Word.calls (k : Nat) (a0_0 : Int) (a0_1 : Int) (a0_2 : Int) (a0_3 : ByteArray) (r : ByteArray) (w : World) (h : timeboundref02_Word.f k a0_0 a0_1 a0_2 a0_3 = some r) :
    Calls Tryd.prog 30 #[.agg #[.int .i64 a0_0, .int .i64 a0_1, .int .i64 a0_2, .string a0_3]] w fun e w' => e = .returned (.string r) ∧ Below w.heap.size w w' := by
  have hu59 := Tryd.underlying59
  have HB := Aside0.mk (Below.refl w.heap.size w)
  have H : (if a0_0 = 1 then (timeboundref02_Word.j0 k a0_0 (a0_0 == 1) a0_0 a0_1 a0_2 a0_3) else (timeboundref02_Word.j0 k a0_0 (a0_0 == 3) a0_0 a0_1 a0_2 a0_3)) = some r := h
  clear h
  have HC2 := Aside0.mk H
  clear H
  go_enter Tryd.func30, Tryd.ntmps30
  go_upto_if 5 with (first | ((with_reducible refine gate_dst (N := 1) rfl ?_); refine box_event ?hg (N := 1) ?hd (cs := #[.int .i64 a0_0, .int .i64 a0_1, .int .i64 a0_2, .string a0_3]) (t := 59) ?hr ?_; (case hd => rfl); (case hg => rfl); (case hr => first | (go_simp; done) | (go_simp; rfl)); intro gb437 hg w3 hbox hb; have n0_ := Aside0.mk (below_step (by repeat (first | (with_reducible first | exact HB.out | apply below_alloc | apply pw_below_drewN | apply below_drew1) | exact HB.out)) hb); have n1_ := Aside0.mk (hbox); have n2_ := Aside0.mk ((by rw [hg]; exact (below_size (by repeat (first | (with_reducible first | exact HB.out | apply below_alloc | apply pw_below_drewN | apply below_drew1) | exact HB.out))) : w.heap.size ≤ gb437)); have n3_ := Aside0.mk ((by rw [hg]; exact (below_size (by repeat (first | (with_reducible first | exact HB.out | apply below_alloc | apply pw_below_drewN | apply below_drew1) | exact HB.out))) : w.heap.size ≤ gb437)); clear HB; have HB := n0_; have BK437 := n1_; have GW437 := n2_; have GE437 := n3_; clear n0_ n1_ n2_ n3_; clear hb hbox hg; have hcz4_0 : w3.cell? ⟨gb437, 0, none⟩ = some (.int .i64 a0_0) := (blk_cell BK437.out 0).trans rfl; have hcz4_1 : w3.cell? ⟨gb437, 1, none⟩ = some (.int .i64 a0_1) := (blk_cell BK437.out 1).trans rfl; have hcz4_2 : w3.cell? ⟨gb437, 2, none⟩ = some (.int .i64 a0_2) := (blk_cell BK437.out 2).trans rfl; have hcz4_3 : w3.cell? ⟨gb437, 3, none⟩ = some (.string a0_3) := (blk_cell BK437.out 3).trans rfl; have hfz4_0 := blk_frozen BK437.out 0; have hfz4_1 := blk_frozen BK437.out 1; have hfz4_2 := blk_frozen BK437.out 2; have hfz4_3 := blk_frozen BK437.out 3))
  (try simp only [Act.put, List.setIfInBounds_toArray, List.set_cons_zero, List.set_cons_succ])
  go_cut [5] (fun v5 wc => ∃ (kq : Nat) (x5_1 : Bool), v5 = .bool x5_1 ∧ Aside0 (timeboundref02_Word.j0 kq a0_0 x5_1 a0_0 a0_1 a0_2 a0_3 = some r) ∧ Aside0 (kq ≤ k) ∧ Aside0 (wc.heap[gb437]? = some (.cells #[.int .i64 a0_0, .int .i64 a0_1, .int .i64 a0_2, .string a0_3] 59 (0, 0))) ∧ Aside0 (Below w.heap.size w wc))
  case first =>
    have H := HC2.out
    clear HC2
    by_cases c5 : a0_0 = 1
    · rw [if_pos c5] at H
      have c5b0 : (a0_0 == 1) = true := beq_iff_eq.mpr c5
      have c5b1 : (a0_0 != 1) = false := bne_eq_false_iff_eq.mpr c5
      clear c5
      (first | rw [c5b0] | (simp only [i64_w, i32_w]; rw [c5b0]) | skip)
      have H' := Aside0.mk H
      clear H
      go_wp2
      go_meet
      case rel => exact ⟨_, ((a0_0 == 1)), (by first | rfl | (simp; done) | (simp [*]; done)), H', ⟨by first | omega | exact Nat.le_refl _⟩, ⟨by (with_reducible repeat (first | refine blk_drewN ?_ _ | refine blk_drew ?_ | refine blk_alloc ?_ _)); exact BK437.out⟩, ⟨by repeat (first | (with_reducible first | exact HB.out | apply below_alloc | apply pw_below_drewN | apply below_drew1 | refine below_set ?_ GE437.out) | exact HB.out)⟩⟩
    · rw [if_neg c5] at H
      have c5b0 : (a0_0 == 1) = false := beq_eq_false_iff_ne.mpr c5
      have c5b1 : (a0_0 != 1) = true := bne_iff_ne.mpr c5
      (first | rw [c5b0] | (simp only [i64_w, i32_w]; rw [c5b0]) | skip)
      have H' := Aside0.mk H
      clear H
      go_wp2
      go_meet
      case rel => exact ⟨_, ((a0_0 == 3)), (by first | rfl | (simp; done) | (simp [*]; done)), H', ⟨by first | omega | exact Nat.le_refl _⟩, ⟨by (with_reducible repeat (first | refine blk_drewN ?_ _ | refine blk_drew ?_ | refine blk_alloc ?_ _)); exact BK437.out⟩, ⟨by repeat (first | (with_reducible first | exact HB.out | apply below_alloc | apply pw_below_drewN | apply below_drew1 | refine below_set ?_ GE437.out) | exact HB.out)⟩⟩
  case rest =>
    clear HC2
    try clear p2
    try clear c3
    try clear c5
    try clear c5b0
    try clear c5b1
    try clear hcz4_0
    try clear hcz4_1
    try clear hcz4_2
    try clear hcz4_3
    try clear hfz4_0
    try clear hfz4_1
    try clear hfz4_2
    try clear hfz4_3
    obtain ⟨kq, x5_1, rfl, HA, HJ1, BK437, HB⟩ := hcut
    cases kq with
    | zero => exact absurd HA.out (by simp [timeboundref02_Word.j0])
    | succ kj1 =>
      have H := HA.out
      clear HA
      simp only [timeboundref02_Word.j0] at H
      by_cases c6 : x5_1 = true
      · subst c6
        have H1 : (some a0_3) = some r := by rw [if_pos rfl] at H; exact H
        clear H
        have H := H1
        clear H1
        obtain rfl := Option.some.inj H
        have hcz7_0 : wc.cell? ⟨gb437, 0, none⟩ = some (.int .i64 a0_0) := (blk_cell BK437.out 0).trans rfl
        have hcz7_1 : wc.cell? ⟨gb437, 1, none⟩ = some (.int .i64 a0_1) := (blk_cell BK437.out 1).trans rfl
        have hcz7_2 : wc.cell? ⟨gb437, 2, none⟩ = some (.int .i64 a0_2) := (blk_cell BK437.out 2).trans rfl
        have hcz7_3 : wc.cell? ⟨gb437, 3, none⟩ = some (.string a0_3) := (blk_cell BK437.out 3).trans rfl
        have hfz7_0 := blk_frozen BK437.out 0
        have hfz7_1 := blk_frozen BK437.out 1
        have hfz7_2 := blk_frozen BK437.out 2
        have hfz7_3 := blk_frozen BK437.out 3
        go_wp2
        go_ret
        exact ⟨by first | rfl | (simp [errW_none, errW_some] <;> rfl) | (simp [*, errW_none, errW_some] <;> rfl), by repeat (first | (with_reducible first | exact HB.out | apply below_alloc | apply pw_below_drewN | apply below_drew1 | refine below_set ?_ GE437.out) | exact HB.out)⟩
      · replace c6 := Bool.eq_false_iff.mpr c6
        subst c6
        have H1 : (if a0_0 = 2 then (if a0_1 < 0 then (some (⟨#[48]⟩ : ByteArray)) else (if a0_1 ≥ 2147483648 then (some (⟨#[48]⟩ : ByteArray)) else ((timeboundref02_Decimal.f kj1 a0_1).bind fun t438 => (some t438)))) else (some (⟨#[]⟩ : ByteArray))) = some r := by rw [if_neg (show ¬ (false = true) by decide)] at H; exact H
        clear H
        have H := H1
        clear H1
        by_cases c8 : a0_0 = 2
        · rw [if_pos c8] at H
          have c8b0 : (a0_0 == 2) = true := beq_iff_eq.mpr c8
          have c8b1 : (a0_0 != 2) = false := bne_eq_false_iff_eq.mpr c8
          clear c8
          by_cases c9 : a0_1 < 0
          · rw [if_pos c9] at H
            have c9b0 : decide (a0_1 < 0) = true := decide_eq_true c9
            clear c9
            obtain rfl := Option.some.inj H
            have hcz10_0 : wc.cell? ⟨gb437, 0, none⟩ = some (.int .i64 a0_0) := (blk_cell BK437.out 0).trans rfl
            have hcz10_1 : wc.cell? ⟨gb437, 1, none⟩ = some (.int .i64 a0_1) := (blk_cell BK437.out 1).trans rfl
            have hcz10_2 : wc.cell? ⟨gb437, 2, none⟩ = some (.int .i64 a0_2) := (blk_cell BK437.out 2).trans rfl
            have hcz10_3 : wc.cell? ⟨gb437, 3, none⟩ = some (.string a0_3) := (blk_cell BK437.out 3).trans rfl
            have hfz10_0 := blk_frozen BK437.out 0
            have hfz10_1 := blk_frozen BK437.out 1
            have hfz10_2 := blk_frozen BK437.out 2
            have hfz10_3 := blk_frozen BK437.out 3
            go_wp2
            go_ret
            exact ⟨by first | rfl | (simp [errW_none, errW_some] <;> rfl) | (simp [*, errW_none, errW_some] <;> rfl), by repeat (first | (with_reducible first | exact HB.out | apply below_alloc | apply pw_below_drewN | apply below_drew1 | refine below_set ?_ GE437.out) | exact HB.out)⟩
          · rw [if_neg c9] at H
            have c9b0 : decide (a0_1 < 0) = false := decide_eq_false c9
            clear c9
            by_cases c11 : a0_1 ≥ 2147483648
            · rw [if_pos c11] at H
              have c11b0 : decide (2147483648 ≤ a0_1) = true := decide_eq_true c11
              clear c11
              obtain rfl := Option.some.inj H
              have hcz12_0 : wc.cell? ⟨gb437, 0, none⟩ = some (.int .i64 a0_0) := (blk_cell BK437.out 0).trans rfl
              have hcz12_1 : wc.cell? ⟨gb437, 1, none⟩ = some (.int .i64 a0_1) := (blk_cell BK437.out 1).trans rfl
              have hcz12_2 : wc.cell? ⟨gb437, 2, none⟩ = some (.int .i64 a0_2) := (blk_cell BK437.out 2).trans rfl
              have hcz12_3 : wc.cell? ⟨gb437, 3, none⟩ = some (.string a0_3) := (blk_cell BK437.out 3).trans rfl
              have hfz12_0 := blk_frozen BK437.out 0
              have hfz12_1 := blk_frozen BK437.out 1
              have hfz12_2 := blk_frozen BK437.out 2
              have hfz12_3 := blk_frozen BK437.out 3
              go_wp2
              go_ret
              exact ⟨by first | rfl | (simp [errW_none, errW_some] <;> rfl) | (simp [*, errW_none, errW_some] <;> rfl), by repeat (first | (with_reducible first | exact HB.out | apply below_alloc | apply pw_below_drewN | apply below_drew1 | refine below_set ?_ GE437.out) | exact HB.out)⟩
            · rw [if_neg c11] at H
              have c11b0 : decide (2147483648 ≤ a0_1) = false := decide_eq_false c11
              clear c11
              replace H := Option.bind_eq_some_iff.mp H
              obtain ⟨t438, A130, H⟩ := H
              replace H : (some t438) = some r := H
              have A13 := Aside0.mk A130
              clear A130
              obtain rfl := Option.some.inj H
              have hcz14_0 : wc.cell? ⟨gb437, 0, none⟩ = some (.int .i64 a0_0) := (blk_cell BK437.out 0).trans rfl
              have hcz14_1 : wc.cell? ⟨gb437, 1, none⟩ = some (.int .i64 a0_1) := (blk_cell BK437.out 1).trans rfl
              have hcz14_2 : wc.cell? ⟨gb437, 2, none⟩ = some (.int .i64 a0_2) := (blk_cell BK437.out 2).trans rfl
              have hcz14_3 : wc.cell? ⟨gb437, 3, none⟩ = some (.string a0_3) := (blk_cell BK437.out 3).trans rfl
              have hfz14_0 := blk_frozen BK437.out 0
              have hfz14_1 := blk_frozen BK437.out 1
              have hfz14_2 := blk_frozen BK437.out 2
              have hfz14_3 := blk_frozen BK437.out 3
              go_wp2_with (first | ((with_reducible refine gate_callee (f := 56) rfl ?_); refine goesL_ (some 22) rfl rfl Tryd.func56 (by kernel_rfl) rfl #[.int .i64 a0_1] rfl (by (try simp only [List.map_toArray, List.map_cons, List.map_nil]); first | done | rfl | (simp only [List.length_drop, List.length_take]; rfl)) ?_; (with_reducible refine (timeboundref02_Decimal.calls kj1 a0_1 t438 _ A13.out).mono ?_); rintro e w15 ⟨rfl, hb⟩; refine ⟨_, rfl, ?_⟩; have n0_ := Aside0.mk (blk_below (g := gb437) (o := .cells #[.int .i64 a0_0, .int .i64 a0_1, .int .i64 a0_2, .string a0_3] 59 (0, 0)) (by (with_reducible repeat (first | refine blk_drewN ?_ _ | refine blk_drew ?_ | refine blk_alloc ?_ _)); exact BK437.out) hb); have n1_ := Aside0.mk (below_step (by repeat (first | (with_reducible first | exact HB.out | apply below_alloc | apply pw_below_drewN | apply below_drew1 | refine below_set ?_ GE437.out) | exact HB.out)) hb); clear BK437; clear HB; have BK437 := n0_; have HB := n1_; clear n0_ n1_; (try clear hb); (try clear hb2); (try clear hk); (try clear hi)))
              go_ret
              exact ⟨by first | rfl | (simp [errW_none, errW_some] <;> rfl) | (simp [*, errW_none, errW_some] <;> rfl), by repeat (first | (with_reducible first | exact HB.out | apply below_alloc | apply pw_below_drewN | apply below_drew1 | refine below_set ?_ GE437.out) | exact HB.out)⟩
        · rw [if_neg c8] at H
          have c8b0 : (a0_0 == 2) = false := beq_eq_false_iff_ne.mpr c8
          have c8b1 : (a0_0 != 2) = true := bne_iff_ne.mpr c8
          obtain rfl := Option.some.inj H
          go_wp2
          go_ret
          exact ⟨by first | rfl | (simp [errW_none, errW_some] <;> rfl) | (simp [*, errW_none, errW_some] <;> rfl), by repeat (first | (with_reducible first | exact HB.out | apply below_alloc | apply pw_below_drewN | apply below_drew1 | refine below_set ?_ GE437.out) | exact HB.out)⟩

end Go.Proofs.YtcnmejahighkfaaDoor.P
