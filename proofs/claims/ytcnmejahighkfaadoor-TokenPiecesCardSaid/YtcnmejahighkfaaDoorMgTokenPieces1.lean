/- Part 1 of the texts for: For every piece list the program's own scanner and the law's own scanner tell the same tokens, so TokenPieces answers true at every slice of bytes. -/
import Derived.Shelf.Strconv.Itoa0
import Derived.Shelf.Strconv.Itoa1
import Derived.Shelf.LaysM
import Derived.Shelf.Strconv.Itoa2
import Derived.Shelf.Strconv.Itoa3
import Derived.Shelf.Slices.Turned
import Derived.Test.YtcnmejahighkfaaDoorProg
import Derived.WalkKit
import Derived.WalkSmall
import Derived.Lib.AppendIntMem
import Derived.Lib.LaidTab
import Derived.MapKept
import Derived.Carry
import Derived.KernelRfl
import Derived.Below
import Derived.Deep.Draws
import Derived.Deep.AppendLies
import Derived.Maps.AppendAt
import Derived.OwnWalk
import Derived.Laws.BytesArg
import Derived.Laws.MakeOwn
import Derived.Laws.OwnMore
import Derived.Deep.OwnRows
import Derived.Tactics
import Derived.Lib.ConvBytes
import Derived.Laws.Slices
import Derived.RowKit3
import Derived.Deep.LoopGhost
import Derived.Deep.QuietTactic
import Derived.BigQuiet
import Derived.WideLaws
import Derived.Deep.DeepCutAuto
import Derived.Deep.CutBlock
import Derived.Deep.RegionHeld3
import Derived.Laws.Rows
import Derived.Lib.AppendStr
import Derived.ArgAppend
import Derived.Laws.IdiomCopy
import Derived.OrdersHeld
import Derived.Laws.BitsLemmas
import Derived.RowKit
import Derived.Test.YtcnmejahighkfaaDoorWWords
import Derived.Test.YtcnmejahighkfaaDoorWLast
import Derived.Test.YtcnmejahighkfaaDoorWTab
import Derived.Test.YtcnmejahighkfaaDoorWFour
import Derived.Test.YtcnmejahighkfaaDoorWQPut
import Derived.Test.YtcnmejahighkfaaDoorWApart
import Derived.Test.YtcnmejahighkfaaDoorWArr
import Derived.Test.YtcnmejahighkfaaDoorWZeros
import Derived.Test.YtcnmejahighkfaaDoorWFoot
import Derived.Test.YtcnmejahighkfaaDoorWKept
import Derived.Test.YtcnmejahighkfaaDoorWShare
import Derived.Test.YtcnmejahighkfaaDoorWN
import Derived.Test.YtcnmejahighkfaaDoorWFootNe
import Derived.Test.YtcnmejahighkfaaDoorWAt
import Derived.Test.YtcnmejahighkfaaDoorWEqStruct
import Derived.Test.YtcnmejahighkfaaDoorWRepsOne
import Derived.Test.YtcnmejahighkfaaDoorWInv
import Derived.Test.YtcnmejahighkfaaDoorWInvWords
import Derived.Test.YtcnmejahighkfaaDoorWGuard
import Derived.Test.YtcnmejahighkfaaDoorWNEv
import Derived.Test.YtcnmejahighkfaaDoorWMore
import Derived.OpenShut
import Derived.Test.YtcnmejahighkfaaDoorMgTokenPieces0
-- Pf80
namespace Go.Proofs.YtcnmejahighkfaaDoor.P
open Go.RowKit Go.Proofs.YtcnmejahighkfaaDoorW.PrintWords Go.Proofs.YtcnmejahighkfaaDoorW.PrintLast Go.Proofs.YtcnmejahighkfaaDoorW.PrintMore
attribute [local go_sem] max2_int min2_int max_two min_two max_three min_three max_four min_four   -- for this text's walks alone
set_option linter.unusedVariables false
set_option linter.unusedSimpArgs false

/-! ### token_name_1: function 80 -/
def token_name_1.f (a0 : Int) : Option (Bool) := (token_letter.f a0).bind fun t390 => (if t390 = true then (some true) else ((token_digit.f a0).bind fun t391 => (some t391)))
set_option maxHeartbeats 8000000 in
set_option maxRecDepth 100000 in
theorem token_name_1.calls (a0 : Int) (r : Bool) (w : World) (h : token_name_1.f a0 = some r) :
    Calls Tryd.prog 80 #[.int .u8 a0] w fun e w' => e = .returned (.bool r) ∧ Drawn0 w w' := by
  have H : ((token_letter.f a0).bind fun t390 => (if t390 = true then (some true) else ((token_digit.f a0).bind fun t391 => (some t391)))) = some r := h
  clear h
  replace H := Option.bind_eq_some_iff.mp H
  obtain ⟨t390, A20, H⟩ := H
  replace H : (if t390 = true then (some true) else ((token_digit.f a0).bind fun t391 => (some t391))) = some r := H
  have A2 := Aside0.mk A20
  clear A20
  by_cases c3 : t390 = true
  · subst c3
    have H1 : (some true) = some r := by rw [if_pos rfl] at H; exact H
    clear H
    have H := H1
    clear H1
    obtain rfl := Option.some.inj H
    go_enter Tryd.func80, Tryd.ntmps80
    go_wp2_with (first | ((with_reducible refine gate_callee (f := 79) rfl ?_); refine goesL_ (some 4) rfl rfl Tryd.func79 (by kernel_rfl) rfl #[.int .u8 a0] rfl (by (try simp only [List.map_toArray, List.map_cons, List.map_nil]); first | done | rfl | (simp only [List.length_drop, List.length_take]; rfl)) ?_; (with_reducible refine (token_letter.calls a0 true _ A2.out).mono ?_); rintro e w' ⟨rfl, ⟨nd, rfl⟩⟩; refine ⟨_, rfl, ?_⟩))
    go_ret
    exact ⟨by first | rfl | (simp; done) | (simp [*]; done), by repeat (first | exact Drawn0.refl _ | apply Drawn0.step)⟩
  · replace c3 := Bool.eq_false_iff.mpr c3
    subst c3
    have H1 : ((token_digit.f a0).bind fun t391 => (some t391)) = some r := by rw [if_neg (show ¬ (false = true) by decide)] at H; exact H
    clear H
    have H := H1
    clear H1
    replace H := Option.bind_eq_some_iff.mp H
    obtain ⟨t391, A40, H⟩ := H
    replace H : (some t391) = some r := H
    have A4 := Aside0.mk A40
    clear A40
    obtain rfl := Option.some.inj H
    go_enter Tryd.func80, Tryd.ntmps80
    go_wp2_with (first | ((with_reducible refine gate_callee (f := 79) rfl ?_); refine goesL_ (some 4) rfl rfl Tryd.func79 (by kernel_rfl) rfl #[.int .u8 a0] rfl (by (try simp only [List.map_toArray, List.map_cons, List.map_nil]); first | done | rfl | (simp only [List.length_drop, List.length_take]; rfl)) ?_; (with_reducible refine (token_letter.calls a0 false _ A2.out).mono ?_); rintro e w' ⟨rfl, ⟨nd, rfl⟩⟩; refine ⟨_, rfl, ?_⟩) | (go_at_call 76; (with_reducible refine (token_digit.calls a0 t391 _ A4.out).mono ?_); rintro e w' ⟨rfl, ⟨nd, rfl⟩⟩))
    go_ret
    exact ⟨by first | rfl | (simp; done) | (simp [*]; done), by repeat (first | exact Drawn0.refl _ | apply Drawn0.step)⟩

end Go.Proofs.YtcnmejahighkfaaDoor.P
-- Pf90000
namespace Go.Proofs.YtcnmejahighkfaaDoor.P
open Go.RowKit Go.Proofs.YtcnmejahighkfaaDoorW.PrintWords Go.Proofs.YtcnmejahighkfaaDoorW.PrintLast Go.Proofs.YtcnmejahighkfaaDoorW.PrintMore
attribute [local go_sem] max2_int min2_int max_two min_two max_three min_three max_four min_four   -- for this text's walks alone
set_option linter.unusedVariables false
set_option linter.unusedSimpArgs false

/-! ### token_run_at_token_name_1: function 90000 -/
def token_run_at_token_name_1.l0 : Nat → ByteArray → Int → Option (Int)
  | 0, _, _ => none
  | k + 1, x0, x5 => if x5 < (x0.size : Int) then (if 0 ≤ x5 then ((token_name_1.f (bt x0 x5)).bind fun t392 => (if t392 = true then (token_run_at_token_name_1.l0 k x0 (wrap64 (x5 + 1))) else (some x5))) else (none)) else (some x5)
def token_run_at_token_name_1.f (k : Nat) (a0 : ByteArray) : Option (Int) := token_run_at_token_name_1.l0 k a0 0
theorem token_run_at_token_name_1.mono_l : ∀ k, (∀ y0 y1, LeO (token_run_at_token_name_1.l0 k y0 y1) (token_run_at_token_name_1.l0 (k + 1) y0 y1))
  | 0 => fun _ _ r h => by simp [token_run_at_token_name_1.l0] at h
  | k + 1 => by
    have ih0 := token_run_at_token_name_1.mono_l k
    · intro y0 y1
      unfold token_run_at_token_name_1.l0
      repeat' first
      | (with_reducible exact ih0 _ _)
      | (with_reducible exact LeO.refl _)
      | (with_reducible exact LeO.none _)
      | (with_reducible refine LeO.ite ?_ ?_)
      | (with_reducible refine LeO.bind ?_ (fun _ => ?_))
      | exact ih0 _ _
      | exact LeO.none _
      | refine LeO.ite ?_ ?_
      | refine LeO.bind ?_ (fun _ => ?_)
theorem token_run_at_token_name_1.mono : ∀ a0 k, LeO (token_run_at_token_name_1.f k a0) (token_run_at_token_name_1.f (k + 1) a0) := by
  intro a0 k
  have ih0 := token_run_at_token_name_1.mono_l k
  unfold token_run_at_token_name_1.f
  repeat' first
      | (with_reducible exact ih0 _ _)
      | (with_reducible exact LeO.refl _)
      | (with_reducible exact LeO.none _)
      | (with_reducible refine LeO.ite ?_ ?_)
      | (with_reducible refine LeO.bind ?_ (fun _ => ?_))
      | exact ih0 _ _
      | exact LeO.none _
      | refine LeO.ite ?_ ?_
      | refine LeO.bind ?_ (fun _ => ?_)
set_option maxHeartbeats 8000000 in
set_option maxRecDepth 100000 in
theorem token_run_at_token_name_1.calls (k : Nat) (a0 : ByteArray) (r : Int) (w : World) (h : token_run_at_token_name_1.f k a0 = some r) :
    Calls Tryd.prog 75 #[.string a0, .func (.func 80) #[] #[]] w fun e w' => e = .returned (.int .i64 r) ∧ Drawn0 w w' := by
  have H : (token_run_at_token_name_1.l0 k a0 0) = some r := h
  clear h
  have H' := Aside0.mk H
  clear H
  go_enter Tryd.func75, Tryd.ntmps75
  go_wp2
  go_loopg [5] k (fun kq v5 w' => ∃ (x5_1 : Int), v5 = .int .i64 x5_1 ∧ Aside0 (token_run_at_token_name_1.l0 kq a0 x5_1 = some r) ∧ Aside0 (kq ≤ k) ∧ Drawn0 w w')
  case atStart => exact ⟨(0), (by first | rfl | (simp; done) | (simp [*]; done)), H', ⟨Nat.le_refl _⟩, by repeat (first | exact Drawn0.refl _ | apply Drawn0.step)⟩
  case round =>
    clear H'
    obtain ⟨x5_1, rfl, HA, HK1, ⟨m1, rfl⟩⟩ := hrel
    cases gk with
    | zero => exact absurd HA.out (by simp [token_run_at_token_name_1.l0])
    | succ k1 =>
      have H := HA.out
      clear HA
      simp only [token_run_at_token_name_1.l0] at H
      by_cases c2 : x5_1 < (a0.size : Int)
      · rw [if_pos c2] at H
        have c2b0 : decide (x5_1 < (a0.size : Int)) = true := decide_eq_true c2
        clear c2
        by_cases c3 : 0 ≤ x5_1
        · rw [if_pos c3] at H
          have c3b0 : decide (0 ≤ x5_1) = true := decide_eq_true c3
          clear c3
          replace H := Option.bind_eq_some_iff.mp H
          obtain ⟨t392, A50, H⟩ := H
          replace H : (if t392 = true then (token_run_at_token_name_1.l0 k1 a0 (wrap64 (x5_1 + 1))) else (some x5_1)) = some r := H
          have A5 := Aside0.mk A50
          clear A50
          by_cases c6 : t392 = true
          · subst c6
            have H1 : (token_run_at_token_name_1.l0 k1 a0 (wrap64 (x5_1 + 1))) = some r := by rw [if_pos rfl] at H; exact H
            clear H
            have H := H1
            clear H1
            have H' := Aside0.mk H
            clear H
            have p4 : 0 ≤ (x5_1 : Int) := of_decide_eq_true (by first | (with_reducible assumption) | assumption)
            have q4 : x5_1 < (a0.size : Int) := of_decide_eq_true (by first | (with_reducible assumption) | assumption)
            have hx4 := bt_at a0 x5_1
            replace p4 := eq_true p4
            replace q4 := eq_true q4
            go_wp2_with (first | (go_at_call 80; (with_reducible refine (token_name_1.calls (bt a0 x5_1) true _ A5.out).mono ?_); rintro e w' ⟨rfl, ⟨nd, rfl⟩⟩))
            go_roundg k1
            case measure => have := HK1.out; omega
            case rel => exact ⟨(wrap64 (x5_1 + 1)), (by first | rfl | (simp; done) | (simp [*]; done)), H', ⟨by have := HK1.out; omega⟩, by repeat (first | exact Drawn0.refl _ | apply Drawn0.step)⟩
          · replace c6 := Bool.eq_false_iff.mpr c6
            subst c6
            have H1 : (some x5_1) = some r := by rw [if_neg (show ¬ (false = true) by decide)] at H; exact H
            clear H
            have H := H1
            clear H1
            obtain rfl := Option.some.inj H
            have p4 : 0 ≤ (x5_1 : Int) := of_decide_eq_true (by first | (with_reducible assumption) | assumption)
            have q4 : x5_1 < (a0.size : Int) := of_decide_eq_true (by first | (with_reducible assumption) | assumption)
            have hx4 := bt_at a0 x5_1
            replace p4 := eq_true p4
            replace q4 := eq_true q4
            go_wp2_with (first | (go_at_call 80; (with_reducible refine (token_name_1.calls (bt a0 x5_1) false _ A5.out).mono ?_); rintro e w' ⟨rfl, ⟨nd, rfl⟩⟩))
            go_ret
            exact ⟨by first | rfl | (simp; done) | (simp [*]; done), by repeat (first | exact Drawn0.refl _ | apply Drawn0.step)⟩
        · rw [if_neg c3] at H
          exact absurd H (by simp)
      · rw [if_neg c2] at H
        have c2b0 : decide (x5_1 < (a0.size : Int)) = false := decide_eq_false c2
        clear c2
        obtain rfl := Option.some.inj H
        go_wp2
        go_ret
        exact ⟨by first | rfl | (simp; done) | (simp [*]; done), by repeat (first | exact Drawn0.refl _ | apply Drawn0.step)⟩

end Go.Proofs.YtcnmejahighkfaaDoor.P
-- Pf54
namespace Go.Proofs.YtcnmejahighkfaaDoor.P
open Go.RowKit Go.Proofs.YtcnmejahighkfaaDoorW.PrintWords Go.Proofs.YtcnmejahighkfaaDoorW.PrintLast Go.Proofs.YtcnmejahighkfaaDoorW.PrintMore
attribute [local go_sem] max2_int min2_int max_two min_two max_three min_three max_four min_four   -- for this text's walks alone
set_option linter.unusedVariables false
set_option linter.unusedSimpArgs false

/-! ### token_name: function 54 -/
def token_name.f (k : Nat) (a0 : ByteArray) : Option (Int) := if a0.toList = ([] : List UInt8) then (some 0) else (if 0 < (a0.size : Int) then ((token_letter.f (bt a0 0)).bind fun t393 => (if t393 = true then ((token_run_at_token_name_1.f k a0).bind fun t394 => (some t394)) else (some 0))) else (none))
theorem token_name.mono : ∀ a0 k, LeO (token_name.f k a0) (token_name.f (k + 1) a0) := by
  intro a0 k
  unfold token_name.f
  repeat' first
      | (with_reducible exact token_run_at_token_name_1.mono _ _)
      | (with_reducible exact LeO.refl _)
      | (with_reducible exact LeO.none _)
      | (with_reducible refine LeO.ite ?_ ?_)
      | (with_reducible refine LeO.bind ?_ (fun _ => ?_))
      | exact token_run_at_token_name_1.mono _ _
      | exact LeO.none _
      | refine LeO.ite ?_ ?_
      | refine LeO.bind ?_ (fun _ => ?_)
set_option maxHeartbeats 8000000 in
set_option maxRecDepth 100000 in
theorem token_name.calls (k : Nat) (a0 : ByteArray) (r : Int) (w : World) (h : token_name.f k a0 = some r) :
    Calls Tryd.prog 54 #[.string a0] w fun e w' => e = .returned (.int .i64 r) ∧ Drawn0 w w' := by
  have H : (if a0.toList = ([] : List UInt8) then (some 0) else (if 0 < (a0.size : Int) then ((token_letter.f (bt a0 0)).bind fun t393 => (if t393 = true then ((token_run_at_token_name_1.f k a0).bind fun t394 => (some t394)) else (some 0))) else (none))) = some r := h
  clear h
  by_cases c2 : a0.toList = ([] : List UInt8)
  · rw [if_pos c2] at H
    have c2b0 : (a0.toList == ([] : List UInt8)) = true := beq_iff_eq.mpr c2
    have c2b1 : (a0.toList != ([] : List UInt8)) = false := bne_eq_false_iff_eq.mpr c2
    clear c2
    obtain rfl := Option.some.inj H
    go_enter Tryd.func54, Tryd.ntmps54
    go_wp2
    go_ret
    exact ⟨by first | rfl | (simp; done) | (simp [*]; done), by repeat (first | exact Drawn0.refl _ | apply Drawn0.step)⟩
  · rw [if_neg c2] at H
    have c2b0 : (a0.toList == ([] : List UInt8)) = false := beq_eq_false_iff_ne.mpr c2
    have c2b1 : (a0.toList != ([] : List UInt8)) = true := bne_iff_ne.mpr c2
    by_cases c3 : 0 < (a0.size : Int)
    · rw [if_pos c3] at H
      have c3b0 : decide (0 < (a0.size : Int)) = true := decide_eq_true c3
      have c3b1 : decide (0 < a0.size) = true := decide_eq_true (by omega)
      clear c3
      replace H := Option.bind_eq_some_iff.mp H
      obtain ⟨t393, A50, H⟩ := H
      replace H : (if t393 = true then ((token_run_at_token_name_1.f k a0).bind fun t394 => (some t394)) else (some 0)) = some r := H
      have A5 := Aside0.mk A50
      clear A50
      by_cases c6 : t393 = true
      · subst c6
        have H1 : ((token_run_at_token_name_1.f k a0).bind fun t394 => (some t394)) = some r := by rw [if_pos rfl] at H; exact H
        clear H
        have H := H1
        clear H1
        replace H := Option.bind_eq_some_iff.mp H
        obtain ⟨t394, A70, H⟩ := H
        replace H : (some t394) = some r := H
        have A7 := Aside0.mk A70
        clear A70
        obtain rfl := Option.some.inj H
        have p4 : 0 ≤ (0 : Int) := (by omega)
        have q4 : 0 < a0.size := (by have : (0 : Int) < (a0.size : Int) := of_decide_eq_true (by first | (with_reducible assumption) | assumption); omega)
        have hx4 : ∀ h : 0 < a0.size, ((a0[0]'h).toNat : Int) = bt a0 0 := bt_at a0 0
        clear p4
        have qi4 : (0 < (a0.size : Int)) = True := eq_true (of_decide_eq_true (by first | (with_reducible assumption) | assumption))
        replace q4 := eq_true q4
        go_enter Tryd.func54, Tryd.ntmps54
        go_wp2_with (first | (go_at_call 79; (with_reducible refine (token_letter.calls (bt a0 0) true _ A5.out).mono ?_); rintro e w' ⟨rfl, ⟨nd, rfl⟩⟩) | ((with_reducible refine gate_callee (f := 75) rfl ?_); refine goesL_ (some 12) rfl rfl Tryd.func75 (by kernel_rfl) rfl #[.string a0, .func (.func 80) #[] #[]] rfl (by (try simp only [List.map_toArray, List.map_cons, List.map_nil]); first | done | rfl | (simp only [List.length_drop, List.length_take]; rfl)) ?_; (with_reducible refine (token_run_at_token_name_1.calls k a0 t394 _ A7.out).mono ?_); rintro e w' ⟨rfl, ⟨nd, rfl⟩⟩; refine ⟨_, rfl, ?_⟩))
        go_ret
        exact ⟨by first | rfl | (simp; done) | (simp [*]; done), by repeat (first | exact Drawn0.refl _ | apply Drawn0.step)⟩
      · replace c6 := Bool.eq_false_iff.mpr c6
        subst c6
        have H1 : (some 0) = some r := by rw [if_neg (show ¬ (false = true) by decide)] at H; exact H
        clear H
        have H := H1
        clear H1
        obtain rfl := Option.some.inj H
        have p4 : 0 ≤ (0 : Int) := (by omega)
        have q4 : 0 < a0.size := (by have : (0 : Int) < (a0.size : Int) := of_decide_eq_true (by first | (with_reducible assumption) | assumption); omega)
        have hx4 : ∀ h : 0 < a0.size, ((a0[0]'h).toNat : Int) = bt a0 0 := bt_at a0 0
        clear p4
        have qi4 : (0 < (a0.size : Int)) = True := eq_true (of_decide_eq_true (by first | (with_reducible assumption) | assumption))
        replace q4 := eq_true q4
        go_enter Tryd.func54, Tryd.ntmps54
        go_wp2_with (first | (go_at_call 79; (with_reducible refine (token_letter.calls (bt a0 0) false _ A5.out).mono ?_); rintro e w' ⟨rfl, ⟨nd, rfl⟩⟩))
        go_ret
        exact ⟨by first | rfl | (simp; done) | (simp [*]; done), by repeat (first | exact Drawn0.refl _ | apply Drawn0.step)⟩
    · rw [if_neg c3] at H
      exact absurd H (by simp)

end Go.Proofs.YtcnmejahighkfaaDoor.P
-- Pf90001
namespace Go.Proofs.YtcnmejahighkfaaDoor.P
open Go.RowKit Go.Proofs.YtcnmejahighkfaaDoorW.PrintWords Go.Proofs.YtcnmejahighkfaaDoorW.PrintLast Go.Proofs.YtcnmejahighkfaaDoorW.PrintMore
attribute [local go_sem] max2_int min2_int max_two min_two max_three min_three max_four min_four   -- for this text's walks alone
set_option linter.unusedVariables false
set_option linter.unusedSimpArgs false

/-! ### token_run_at_token_digit: function 90001 -/
def token_run_at_token_digit.l0 : Nat → ByteArray → Int → Option (Int)
  | 0, _, _ => none
  | k + 1, x0, x5 => if x5 < (x0.size : Int) then (if 0 ≤ x5 then ((token_digit.f (bt x0 x5)).bind fun t395 => (if t395 = true then (token_run_at_token_digit.l0 k x0 (wrap64 (x5 + 1))) else (some x5))) else (none)) else (some x5)
def token_run_at_token_digit.f (k : Nat) (a0 : ByteArray) : Option (Int) := token_run_at_token_digit.l0 k a0 0
theorem token_run_at_token_digit.mono_l : ∀ k, (∀ y0 y1, LeO (token_run_at_token_digit.l0 k y0 y1) (token_run_at_token_digit.l0 (k + 1) y0 y1))
  | 0 => fun _ _ r h => by simp [token_run_at_token_digit.l0] at h
  | k + 1 => by
    have ih0 := token_run_at_token_digit.mono_l k
    · intro y0 y1
      unfold token_run_at_token_digit.l0
      repeat' first
      | (with_reducible exact ih0 _ _)
      | (with_reducible exact LeO.refl _)
      | (with_reducible exact LeO.none _)
      | (with_reducible refine LeO.ite ?_ ?_)
      | (with_reducible refine LeO.bind ?_ (fun _ => ?_))
      | exact ih0 _ _
      | exact LeO.none _
      | refine LeO.ite ?_ ?_
      | refine LeO.bind ?_ (fun _ => ?_)
theorem token_run_at_token_digit.mono : ∀ a0 k, LeO (token_run_at_token_digit.f k a0) (token_run_at_token_digit.f (k + 1) a0) := by
  intro a0 k
  have ih0 := token_run_at_token_digit.mono_l k
  unfold token_run_at_token_digit.f
  repeat' first
      | (with_reducible exact ih0 _ _)
      | (with_reducible exact LeO.refl _)
      | (with_reducible exact LeO.none _)
      | (with_reducible refine LeO.ite ?_ ?_)
      | (with_reducible refine LeO.bind ?_ (fun _ => ?_))
      | exact ih0 _ _
      | exact LeO.none _
      | refine LeO.ite ?_ ?_
      | refine LeO.bind ?_ (fun _ => ?_)
set_option maxHeartbeats 8000000 in
set_option maxRecDepth 100000 in
theorem token_run_at_token_digit.calls (k : Nat) (a0 : ByteArray) (r : Int) (w : World) (h : token_run_at_token_digit.f k a0 = some r) :
    Calls Tryd.prog 75 #[.string a0, .func (.func 76) #[] #[]] w fun e w' => e = .returned (.int .i64 r) ∧ Drawn0 w w' := by
  have H : (token_run_at_token_digit.l0 k a0 0) = some r := h
  clear h
  have H' := Aside0.mk H
  clear H
  go_enter Tryd.func75, Tryd.ntmps75
  go_wp2
  go_loopg [5] k (fun kq v5 w' => ∃ (x5_1 : Int), v5 = .int .i64 x5_1 ∧ Aside0 (token_run_at_token_digit.l0 kq a0 x5_1 = some r) ∧ Aside0 (kq ≤ k) ∧ Drawn0 w w')
  case atStart => exact ⟨(0), (by first | rfl | (simp; done) | (simp [*]; done)), H', ⟨Nat.le_refl _⟩, by repeat (first | exact Drawn0.refl _ | apply Drawn0.step)⟩
  case round =>
    clear H'
    obtain ⟨x5_1, rfl, HA, HK1, ⟨m1, rfl⟩⟩ := hrel
    cases gk with
    | zero => exact absurd HA.out (by simp [token_run_at_token_digit.l0])
    | succ k1 =>
      have H := HA.out
      clear HA
      simp only [token_run_at_token_digit.l0] at H
      by_cases c2 : x5_1 < (a0.size : Int)
      · rw [if_pos c2] at H
        have c2b0 : decide (x5_1 < (a0.size : Int)) = true := decide_eq_true c2
        clear c2
        by_cases c3 : 0 ≤ x5_1
        · rw [if_pos c3] at H
          have c3b0 : decide (0 ≤ x5_1) = true := decide_eq_true c3
          clear c3
          replace H := Option.bind_eq_some_iff.mp H
          obtain ⟨t395, A50, H⟩ := H
          replace H : (if t395 = true then (token_run_at_token_digit.l0 k1 a0 (wrap64 (x5_1 + 1))) else (some x5_1)) = some r := H
          have A5 := Aside0.mk A50
          clear A50
          by_cases c6 : t395 = true
          · subst c6
            have H1 : (token_run_at_token_digit.l0 k1 a0 (wrap64 (x5_1 + 1))) = some r := by rw [if_pos rfl] at H; exact H
            clear H
            have H := H1
            clear H1
            have H' := Aside0.mk H
            clear H
            have p4 : 0 ≤ (x5_1 : Int) := of_decide_eq_true (by first | (with_reducible assumption) | assumption)
            have q4 : x5_1 < (a0.size : Int) := of_decide_eq_true (by first | (with_reducible assumption) | assumption)
            have hx4 := bt_at a0 x5_1
            replace p4 := eq_true p4
            replace q4 := eq_true q4
            go_wp2_with (first | (go_at_call 76; (with_reducible refine (token_digit.calls (bt a0 x5_1) true _ A5.out).mono ?_); rintro e w' ⟨rfl, ⟨nd, rfl⟩⟩))
            go_roundg k1
            case measure => have := HK1.out; omega
            case rel => exact ⟨(wrap64 (x5_1 + 1)), (by first | rfl | (simp; done) | (simp [*]; done)), H', ⟨by have := HK1.out; omega⟩, by repeat (first | exact Drawn0.refl _ | apply Drawn0.step)⟩
          · replace c6 := Bool.eq_false_iff.mpr c6
            subst c6
            have H1 : (some x5_1) = some r := by rw [if_neg (show ¬ (false = true) by decide)] at H; exact H
            clear H
            have H := H1
            clear H1
            obtain rfl := Option.some.inj H
            have p4 : 0 ≤ (x5_1 : Int) := of_decide_eq_true (by first | (with_reducible assumption) | assumption)
            have q4 : x5_1 < (a0.size : Int) := of_decide_eq_true (by first | (with_reducible assumption) | assumption)
            have hx4 := bt_at a0 x5_1
            replace p4 := eq_true p4
            replace q4 := eq_true q4
            go_wp2_with (first | (go_at_call 76; (with_reducible refine (token_digit.calls (bt a0 x5_1) false _ A5.out).mono ?_); rintro e w' ⟨rfl, ⟨nd, rfl⟩⟩))
            go_ret
            exact ⟨by first | rfl | (simp; done) | (simp [*]; done), by repeat (first | exact Drawn0.refl _ | apply Drawn0.step)⟩
        · rw [if_neg c3] at H
          exact absurd H (by simp)
      · rw [if_neg c2] at H
        have c2b0 : decide (x5_1 < (a0.size : Int)) = false := decide_eq_false c2
        clear c2
        obtain rfl := Option.some.inj H
        go_wp2
        go_ret
        exact ⟨by first | rfl | (simp; done) | (simp [*]; done), by repeat (first | exact Drawn0.refl _ | apply Drawn0.step)⟩

end Go.Proofs.YtcnmejahighkfaaDoor.P
-- Pf53
namespace Go.Proofs.YtcnmejahighkfaaDoor.P
open Go.RowKit Go.Proofs.YtcnmejahighkfaaDoorW.PrintWords Go.Proofs.YtcnmejahighkfaaDoorW.PrintLast Go.Proofs.YtcnmejahighkfaaDoorW.PrintMore
attribute [local go_sem] max2_int min2_int max_two min_two max_three min_three max_four min_four   -- for this text's walks alone
set_option linter.unusedVariables false
set_option linter.unusedSimpArgs false

/-! ### token_next: function 53 -/
/-- The token that a text begins with, and how many bytes it has. -/
def token_next.f (k : Nat) (s : ByteArray) : Option (S59 × Int) :=
  (token_name.f k s).bind fun n =>
    if n > 0 then (if n > 12 then some (⟨0, 0, 0, ⟨#[]⟩⟩, 0) else if n ≤ (s.size : Int) then some (⟨1, 0, 0, s.extract 0 n.toNat⟩, n) else none) else
      (token_run_at_token_digit.f k s).bind fun m =>
        if m > 0 then (if m ≤ (s.size : Int) then (token_number.f k (s.extract 0 m.toNat)).bind fun v => if v > 2147483647 then some (⟨0, 0, 0, ⟨#[]⟩⟩, 0) else some (⟨2, v, 0, ⟨#[]⟩⟩, m) else none) else
          (token_sign.f k s).bind fun q => if 0 ≤ q then (if q ≤ (s.size : Int) then some (⟨3, 0, 0, s.extract 0 q.toNat⟩, q) else none) else none
def NextPost (w : World) (r1 : S59) (r2 : Int) (e : Ending) (w' : World) : Prop := e = .returned (.tuple #[.agg #[.int .i64 r1.f0, .int .i64 r1.f1, .int .i64 r1.f2, .string r1.f3], .int .i64 r2]) ∧ Below w.heap.size w w'
set_option maxHeartbeats 8000000 in
set_option maxRecDepth 100000 in
theorem token_next.calls (k : Nat) (s : ByteArray) (b : Nat) (r1 : S59) (r2 : Int) (w : World) (hs : s.size ≤ 140737488351232) (hM : SignsAt w b) (h : token_next.f k s = some (r1, r2)) :
    Calls Tryd.prog 53 #[.string s, .map (some b)] w (NextPost w r1 r2) := by
  have hu := Tryd.underlying59
  have hs' : (s.size : Int) ≤ 140737488351232 := by omega
  unfold token_next.f at h
  replace h := Option.bind_eq_some_iff.1 h
  obtain ⟨n, hn, h⟩ := h
  have HN := Aside0.mk hn
  clear hn
  by_cases c1 : n > 0
  · rw [if_pos c1] at h
    by_cases c2 : n > 12
    · rw [if_pos c2] at h
      obtain ⟨rfl, rfl⟩ := Prod.mk.inj (Option.some.inj h)
      clear h
      go_enter Tryd.func53, Tryd.ntmps53
      go_wp2_with (first | (go_at_call 54; (with_reducible refine (token_name.calls k s _ _ HN.out).mono ?_); rintro e w' ⟨rfl, ⟨nd, rfl⟩⟩) | (go_at_call 75; (with_reducible refine (token_run_at_token_digit.calls k s _ _ HR.out).mono ?_); rintro e w' ⟨rfl, ⟨nd2, rfl⟩⟩))
      exact bodyPost_ret (v := .tuple #[.agg #[.int .i64 0, .int .i64 0, .int .i64 0, .string ⟨#[]⟩], .int .i64 0]) (by simp [results, Tryd.results53, go_sem]) rfl ⟨rfl, by repeat (first | exact Below.refl _ _ | apply below_alloc | apply pw_below_drewN | apply below_drew1 | refine below_set ?_ (Nat.le_refl _) | (refine below_step ?_ (by assumption)))⟩
    · rw [if_neg c2] at h
      by_cases c3 : n ≤ (s.size : Int)
      · rw [if_pos c3] at h
        obtain ⟨rfl, rfl⟩ := Prod.mk.inj (Option.some.inj h)
        clear h
        obtain ⟨m, rfl⟩ := Int.eq_ofNat_of_zero_le (show 0 ≤ n by omega)
        go_enter Tryd.func53, Tryd.ntmps53
        go_wp2_with (first | (go_at_call 54; (with_reducible refine (token_name.calls k s _ _ HN.out).mono ?_); rintro e w' ⟨rfl, ⟨nd, rfl⟩⟩) | (go_at_call 75; (with_reducible refine (token_run_at_token_digit.calls k s _ _ HR.out).mono ?_); rintro e w' ⟨rfl, ⟨nd2, rfl⟩⟩))
        exact bodyPost_ret (v := .tuple #[.agg #[.int .i64 1, .int .i64 0, .int .i64 0, .string (s.extract 0 m)], .int .i64 m]) (by simp [results, Tryd.results53, go_sem]) rfl ⟨rfl, by repeat (first | exact Below.refl _ _ | apply below_alloc | apply pw_below_drewN | apply below_drew1 | refine below_set ?_ (Nat.le_refl _) | (refine below_step ?_ (by assumption)))⟩
      · rw [if_neg c3] at h
        cases h
  · rw [if_neg c1] at h
    replace h := Option.bind_eq_some_iff.1 h
    obtain ⟨m, hm, h⟩ := h
    have HR := Aside0.mk hm
    clear hm
    by_cases c2 : m > 0
    · rw [if_pos c2] at h
      by_cases c3 : m ≤ (s.size : Int)
      · rw [if_pos c3] at h
        obtain ⟨m, rfl⟩ := Int.eq_ofNat_of_zero_le (show 0 ≤ m by omega)
        replace h := Option.bind_eq_some_iff.1 h
        obtain ⟨v, hv, h⟩ := h
        have HV := Aside0.mk hv
        clear hv
        simp only [Int.toNat_natCast] at HV
        have hz : (s.extract 0 m).size ≤ 140737488351232 := by simp; omega
        have HZ := Lib.hid hz
        clear hz
        by_cases c4 : v > 2147483647
        · rw [if_pos c4] at h
          obtain ⟨rfl, rfl⟩ := Prod.mk.inj (Option.some.inj h)
          clear h
          go_enter Tryd.func53, Tryd.ntmps53
          go_wp2_with (first | (go_at_call 54; (with_reducible refine (token_name.calls k s _ _ HN.out).mono ?_); rintro e w' ⟨rfl, ⟨nd, rfl⟩⟩) | (go_at_call 75; (with_reducible refine (token_run_at_token_digit.calls k s _ _ HR.out).mono ?_); rintro e w' ⟨rfl, ⟨nd2, rfl⟩⟩) | (go_at_call 77; (with_reducible refine (token_number.calls k _ v _ HZ.out HV.out).mono ?_); rintro e w5 ⟨rfl, hb⟩; obtain ⟨hc, hf⟩ := bcell hb))
          exact bodyPost_ret (v := .tuple #[.agg #[.int .i64 0, .int .i64 0, .int .i64 0, .string ⟨#[]⟩], .int .i64 0]) (by simp [results, Tryd.results53, go_sem, hc]) rfl ⟨rfl, by repeat (first | exact Below.refl _ _ | apply below_alloc | apply pw_below_drewN | apply below_drew1 | refine below_set ?_ (Nat.le_refl _) | (refine below_step ?_ (by assumption)))⟩
        · rw [if_neg c4] at h
          obtain ⟨rfl, rfl⟩ := Prod.mk.inj (Option.some.inj h)
          clear h
          go_enter Tryd.func53, Tryd.ntmps53
          go_wp2_with (first | (go_at_call 54; (with_reducible refine (token_name.calls k s _ _ HN.out).mono ?_); rintro e w' ⟨rfl, ⟨nd, rfl⟩⟩) | (go_at_call 75; (with_reducible refine (token_run_at_token_digit.calls k s _ _ HR.out).mono ?_); rintro e w' ⟨rfl, ⟨nd2, rfl⟩⟩) | (go_at_call 77; (with_reducible refine (token_number.calls k _ v _ HZ.out HV.out).mono ?_); rintro e w5 ⟨rfl, hb⟩; obtain ⟨hc, hf⟩ := bcell hb))
          exact bodyPost_ret (v := .tuple #[.agg #[.int .i64 2, .int .i64 v, .int .i64 0, .string ⟨#[]⟩], .int .i64 m]) (by simp [results, Tryd.results53, go_sem, hc]) rfl ⟨rfl, by repeat (first | exact Below.refl _ _ | apply below_alloc | apply pw_below_drewN | apply below_drew1 | refine below_set ?_ (Nat.le_refl _) | (refine below_step ?_ (by assumption)))⟩
      · rw [if_neg c3] at h
        cases h
    · rw [if_neg c2] at h
      replace h := Option.bind_eq_some_iff.1 h
      obtain ⟨q, hq, h⟩ := h
      have HQ := Aside0.mk hq
      clear hq
      by_cases c3 : 0 ≤ q
      · rw [if_pos c3] at h
        by_cases c4 : q ≤ (s.size : Int)
        · rw [if_pos c4] at h
          obtain ⟨rfl, rfl⟩ := Prod.mk.inj (Option.some.inj h)
          clear h
          obtain ⟨m', rfl⟩ := Int.eq_ofNat_of_zero_le c3
          go_enter Tryd.func53, Tryd.ntmps53
          go_wp2_with (first | (go_at_call 54; (with_reducible refine (token_name.calls k s _ _ HN.out).mono ?_); rintro e w' ⟨rfl, ⟨nd, rfl⟩⟩) | (go_at_call 75; (with_reducible refine (token_run_at_token_digit.calls k s _ _ HR.out).mono ?_); rintro e w' ⟨rfl, ⟨nd2, rfl⟩⟩) | (go_at_call 78; (with_reducible refine (token_sign.calls k s b _ _ hs (SignsAt.below hM (by repeat (first | exact Below.refl _ _ | apply below_alloc | apply pw_below_drewN | apply below_drew1 | refine below_set ?_ (Nat.le_refl _) | (refine below_step ?_ (by assumption))))) HQ.out).mono ?_); rintro e w' ⟨rfl, ⟨nd3, rfl⟩⟩))
          exact bodyPost_ret (v := .tuple #[.agg #[.int .i64 3, .int .i64 0, .int .i64 0, .string (s.extract 0 m')], .int .i64 m']) (by simp [results, Tryd.results53, go_sem]) rfl ⟨rfl, by repeat (first | exact Below.refl _ _ | apply below_alloc | apply pw_below_drewN | apply below_drew1 | refine below_set ?_ (Nat.le_refl _) | (refine below_step ?_ (by assumption)))⟩
        · rw [if_neg c4] at h
          cases h
      · rw [if_neg c3] at h
        cases h

end Go.Proofs.YtcnmejahighkfaaDoor.P
-- Pf25
namespace Go.Proofs.YtcnmejahighkfaaDoor.P
open Go.RowKit Go.Proofs.YtcnmejahighkfaaDoorW.PrintWords Go.Proofs.YtcnmejahighkfaaDoorW.PrintLast Go.Proofs.YtcnmejahighkfaaDoorW.PrintMore
attribute [local go_sem] max2_int min2_int max_two min_two max_three min_three max_four min_four   -- for this text's walks alone
set_option linter.unusedVariables false
set_option linter.unusedSimpArgs false

/-! ### token_Scan: function 25 -/
/-- The tokens of a text. -/
def token_Scan.l0 : Nat → ByteArray → List S59 → Int → Int → Option (List S59 × Int × Int)
  | 0, _, _, _, _ => none
  | k + 1, s, out, line, i => if i < (s.size : Int) then (if bt s i = 10 then token_Scan.l0 k s out (wrap64 (line + 1)) (i + 1) else if bt s i = 32 then token_Scan.l0 k s out line (i + 1) else if bt s i = 9 then token_Scan.l0 k s out line (i + 1) else
      (token_next.f k (s.extract i.toNat s.size)).bind fun x => if x.2 = 0 then some ([], line, 1) else if 0 < x.2 then (if x.2 ≤ (s.size : Int) then (if out.length < 1000000000 then token_Scan.l0 k s (out ++ [(⟨x.1.f0, x.1.f1, line, x.1.f3⟩ : S59)]) line (i + x.2) else none) else none) else none) else some (out, 0, 0)
def token_Scan.f (a0 : ByteArray) : Option (List S59 × Int × Int) := if (a0.size : Int) > 8192 then some ([], 0, 4) else token_Scan.l0 (a0.size + 20) a0 [] 1 0
set_option maxHeartbeats 8000000 in
set_option maxRecDepth 100000 in
theorem token_Scan.calls (a0 : ByteArray) (r1 : List (S59)) (r2 : Int) (r3 : Int) (w : World) (h : token_Scan.f a0 = some (r1, r2, r3)) :
    Calls Tryd.prog 25 #[.string a0] w fun e w' => ∃ v0_ : Value, e = .returned (.tuple #[v0_, .int .i64 r2, .int .i64 r3]) ∧ Kd.R k59 59 w' w.heap.size (fun _ => True) v0_ r1 ∧ Below w.heap.size w w' := by
  have hu := Tryd.underlying59
  unfold token_Scan.f at h
  by_cases c1 : (a0.size : Int) > 8192
  · rw [if_pos c1] at h
    simp only [Option.some.injEq, Prod.mk.injEq] at h
    obtain ⟨rfl, rfl, rfl⟩ := h
    go_enter Tryd.func25, Tryd.ntmps25
    go_wp2
    go_ret3
    exact ⟨_, rfl, Kd.R_nil _ _ _ _ _, Below.refl _ _⟩
  · rw [if_neg c1] at h
    have hs : (a0.size : Int) ≤ 8192 := by omega
    clear c1
    have H0 := Aside0.mk h
    clear h
    go_enter Tryd.func25, Tryd.ntmps25
    go_wp2_with (first | (go_at_call 52; (with_reducible refine (token_signs_calls _).mono ?_); rintro e w1 ⟨b, rfl, hM, hB⟩))
    have HM := Aside0.mk hM
    have HB := Aside0.mk hB
    clear hM hB
    generalize a0.size + 20 = k at H0
    go_loopw [5, 7, 8] (fun v5 v7 v8 wr => ∃ (kq : Nat) (out : List S59) (line i : Int), v7 = .int .i64 line ∧ v8 = .int .i64 i ∧ Aside0 (token_Scan.l0 kq a0 out line i = some (r1, r2, r3)) ∧ Aside0 (Kd.R k59 59 wr w.heap.size (fun k_ => k_ ≠ b) v5 out) ∧ Aside0 (Below w.heap.size w wr) ∧ Aside0 (SignsAt wr b) ∧ 0 ≤ i) (fun _ _ v8 _ => (a0.size - intOf v8).toNat)
    case atStart => exact ⟨k, [], 1, 0, rfl, rfl, H0, ⟨Kd.R_nil _ _ _ _ _⟩, HB, HM, by omega⟩
    case round =>
      clear H0 HM HB
      obtain ⟨kq, out, line, i, rfl, rfl, HA, HO, HB, HM, hi⟩ := hrel
      cases kq with
      | zero => exact absurd HA.out (by simp [token_Scan.l0])
      | succ kq =>
        have H := HA.out
        clear HA
        simp only [token_Scan.l0] at H
        by_cases c2 : i < (a0.size : Int)
        · rw [if_pos c2] at H
          have c2b : decide (i < (a0.size : Int)) = true := decide_eq_true c2
          have p4 := eq_true hi
          have q4 := eq_true c2
          have hx4 := bt_at a0 i
          by_cases c3 : bt a0 i = 10
          · rw [if_pos c3] at H
            have H' := Aside0.mk H
            clear H
            have c3b : (bt a0 i == 10) = true := beq_iff_eq.mpr c3
            clear c3
            go_wp2
            go_roundw
            case rel => exact ⟨kq, _, _, _, rfl, rfl, H', HO, HB, HM, by omega⟩
            case measure => simp [intOf]; omega
          · rw [if_neg c3] at H
            have c3b : (bt a0 i == 10) = false := beq_eq_false_iff_ne.mpr c3
            clear c3
            by_cases c4 : bt a0 i = 32
            · rw [if_pos c4] at H
              have H' := Aside0.mk H
              clear H
              have c4b : (bt a0 i == 32) = true := beq_iff_eq.mpr c4
              clear c4
              go_wp2
              go_roundw
              case rel => exact ⟨kq, _, _, _, rfl, rfl, H', HO, HB, HM, by omega⟩
              case measure => simp [intOf]; omega
            · rw [if_neg c4] at H
              have c4b : (bt a0 i == 32) = false := beq_eq_false_iff_ne.mpr c4
              clear c4
              by_cases c5 : bt a0 i = 9
              · rw [if_pos c5] at H
                have H' := Aside0.mk H
                clear H
                have c5b : (bt a0 i == 9) = true := beq_iff_eq.mpr c5
                clear c5
                go_wp2
                go_roundw
                case rel => exact ⟨kq, _, _, _, rfl, rfl, H', HO, HB, HM, by omega⟩
                case measure => simp [intOf]; omega
              · rw [if_neg c5] at H
                have c5b : (bt a0 i == 9) = false := beq_eq_false_iff_ne.mpr c5
                clear c5
                replace H := Option.bind_eq_some_iff.1 H
                obtain ⟨⟨x, n⟩, hn, H⟩ := H
                have HN := Aside0.mk hn
                clear hn
                have hz : (a0.extract i.toNat a0.size).size ≤ 140737488351232 := by simp; omega
                have HZ := Lib.hid hz
                clear hz
                simp only at H
                by_cases c6 : n = 0
                · rw [if_pos c6] at H
                  subst c6
                  simp only [Option.some.injEq, Prod.mk.injEq] at H
                  obtain ⟨rfl, rfl, rfl⟩ := H
                  go_wp2_with (first | (go_at_call 53; (with_reducible refine (token_next.calls kq _ b x 0 _ HZ.out HM.out HN.out).mono ?_); rintro e w4 ⟨rfl, hb⟩))
                  go_ret3
                  exact ⟨_, rfl, Kd.R_nil _ _ _ _ _, by repeat (first | exact Below.refl _ _ | exact HB.out | apply below_alloc | apply pw_below_drewN | apply below_drew1 | refine below_set ?_ (Nat.le_trans HB.out.size (Nat.le_trans hb.size (by simp))) | (refine below_step ?_ (by assumption)))⟩
                · rw [if_neg c6] at H
                  by_cases c7 : 0 < n
                  · rw [if_pos c7] at H
                    by_cases c8 : n ≤ (a0.size : Int)
                    · rw [if_pos c8] at H
                      by_cases c9 : out.length < 1000000000
                      · rw [if_pos c9] at H
                        have H' := Aside0.mk H
                        clear H
                        have c6b : (n == 0) = false := beq_eq_false_iff_ne.mpr c6
                        clear c6
                        have HL := Aside0.mk c9
                        clear c9
                        go_wp2_with (first | (go_at_call 53; (with_reducible refine (token_next.calls kq _ b x n _ HZ.out HM.out HN.out).mono ?_); rintro e w4 ⟨rfl, hb⟩; have HO1 := Aside0.mk (Kd.R_below HO.out hb); have HB1 := Aside0.mk (below_step HB.out hb); have HM1 := Aside0.mk (SignsAt.below HM.out hb); clear HO HB HM hb) | ((with_reducible refine gate_builtin (b := .append) (xs := #[.tmp 46, .tmp 48]) rfl ?_); at_builtin; (refine Kd.R_append k59 (w0 := w) w.heap.size rfl (.tmp 46) (.tmp 48) 23 59 (.agg #[(.int .i64 0), (.int .i64 0), (.int .i64 0), (.string ⟨#[]⟩)]) 40 rfl Tryd.underlying23 info59 rfl (by decide) (by omega) u5 out (⟨x.f0, x.f1, line, x.f3⟩ : S59) [.int .i64 x.f0, .int .i64 x.f1, .int .i64 line, .string x.f3] (fun k_ => k_ ≠ b) (fun _ => False) rfl ?aX ?aP (fun _ hk => hk.elim) ?aF ?aO ?aB ?aS ?aL ?_); (case aX => simp [Act.eval]); (case aP => exact k59_mkM _ _ _ (⟨x.f0, x.f1, line, x.f3⟩ : S59)); (case aF => exact fun k_ hk e_ => by have := HM1.out.lt; simp at hk; omega); (case aO => exact Kd.R_alloc HO1.out _); (case aB => exact below_alloc HB1.out _); (case aS => exact below_size (below_alloc HB1.out _)); (case aL => have := HL.out; omega); intro v6 w6 ho hb hg hat))
                        have HM2 : SignsAt (w4.alloc (.cells #[.int .i64 x.f0, .int .i64 x.f1, .int .i64 line, .string x.f3] 59)) b := SignsAt.below HM1.out (below_alloc (Below.refl _ _) _)
                        have HM3 := SignsAt.keep HM2 (hg.block b HM2.lt (fun q => HO1.out.1 b q.symm rfl))
                        go_roundw
                        case rel => exact ⟨kq, _, _, _, rfl, rfl, H', ⟨ho⟩, ⟨hb⟩, ⟨HM3⟩, by omega⟩
                        case measure => simp [intOf]; omega
                      · rw [if_neg c9] at H
                        cases H
                    · rw [if_neg c8] at H
                      cases H
                  · rw [if_neg c7] at H
                    cases H
        · rw [if_neg c2] at H
          simp only [Option.some.injEq, Prod.mk.injEq] at H
          obtain ⟨rfl, rfl, rfl⟩ := H
          go_wp2
          go_ret3
          exact ⟨_, rfl, Kd.R_mono HO.out (fun _ _ => trivial), HB.out⟩

end Go.Proofs.YtcnmejahighkfaaDoor.P
-- Pf27
namespace Go.Proofs.YtcnmejahighkfaaDoor.P
open Go.RowKit Go.Proofs.YtcnmejahighkfaaDoorW.PrintWords Go.Proofs.YtcnmejahighkfaaDoorW.PrintLast Go.Proofs.YtcnmejahighkfaaDoorW.PrintMore
attribute [local go_sem] max2_int min2_int max_two min_two max_three min_three max_four min_four   -- for this text's walks alone
set_option linter.unusedVariables false
set_option linter.unusedSimpArgs false

/-! ### token_Name: function 27 -/
def token_Name.f (k : Nat) (a0 : ByteArray) : Option (Bool) := if a0.toList = ([] : List UInt8) then (some false) else (if (a0.size : Int) ≤ 12 then ((token_name.f k a0).bind fun t396 => (some (t396 == (a0.size : Int)))) else (some false))
theorem token_Name.mono : ∀ a0 k, LeO (token_Name.f k a0) (token_Name.f (k + 1) a0) := by
  intro a0 k
  unfold token_Name.f
  repeat' first
      | (with_reducible exact token_name.mono _ _)
      | (with_reducible exact LeO.refl _)
      | (with_reducible exact LeO.none _)
      | (with_reducible refine LeO.ite ?_ ?_)
      | (with_reducible refine LeO.bind ?_ (fun _ => ?_))
      | exact token_name.mono _ _
      | exact LeO.none _
      | refine LeO.ite ?_ ?_
      | refine LeO.bind ?_ (fun _ => ?_)
set_option maxHeartbeats 8000000 in
set_option maxRecDepth 100000 in
theorem token_Name.calls (k : Nat) (a0 : ByteArray) (r : Bool) (w : World) (h : token_Name.f k a0 = some r) :
    Calls Tryd.prog 27 #[.string a0] w fun e w' => e = .returned (.bool r) ∧ Drawn0 w w' := by
  have H : (if a0.toList = ([] : List UInt8) then (some false) else (if (a0.size : Int) ≤ 12 then ((token_name.f k a0).bind fun t396 => (some (t396 == (a0.size : Int)))) else (some false))) = some r := h
  clear h
  by_cases c2 : a0.toList = ([] : List UInt8)
  · rw [if_pos c2] at H
    have c2b0 : (a0.toList == ([] : List UInt8)) = true := beq_iff_eq.mpr c2
    have c2b1 : (a0.toList != ([] : List UInt8)) = false := bne_eq_false_iff_eq.mpr c2
    clear c2
    obtain rfl := Option.some.inj H
    go_enter Tryd.func27, Tryd.ntmps27
    go_wp2
    go_ret
    exact ⟨by first | rfl | (simp; done) | (simp [*]; done), by repeat (first | exact Drawn0.refl _ | apply Drawn0.step)⟩
  · rw [if_neg c2] at H
    have c2b0 : (a0.toList == ([] : List UInt8)) = false := beq_eq_false_iff_ne.mpr c2
    have c2b1 : (a0.toList != ([] : List UInt8)) = true := bne_iff_ne.mpr c2
    by_cases c3 : (a0.size : Int) ≤ 12
    · rw [if_pos c3] at H
      have c3b0 : decide ((a0.size : Int) ≤ 12) = true := decide_eq_true c3
      have c3b1 : decide (a0.size ≤ 12) = true := decide_eq_true (by omega)
      clear c3
      replace H := Option.bind_eq_some_iff.mp H
      obtain ⟨t396, A40, H⟩ := H
      replace H : (some (t396 == (a0.size : Int))) = some r := H
      have A4 := Aside0.mk A40
      clear A40
      obtain rfl := Option.some.inj H
      go_enter Tryd.func27, Tryd.ntmps27
      go_wp2_with (first | (go_at_call 54; (with_reducible refine (token_name.calls k a0 t396 _ A4.out).mono ?_); rintro e w' ⟨rfl, ⟨nd, rfl⟩⟩))
      go_ret
      exact ⟨by first | rfl | (simp; done) | (simp [*]; done), by repeat (first | exact Drawn0.refl _ | apply Drawn0.step)⟩
    · rw [if_neg c3] at H
      have c3b0 : decide ((a0.size : Int) ≤ 12) = false := decide_eq_false c3
      have c3b1 : decide (a0.size ≤ 12) = false := decide_eq_false (by omega)
      clear c3
      obtain rfl := Option.some.inj H
      go_enter Tryd.func27, Tryd.ntmps27
      go_wp2
      go_ret
      exact ⟨by first | rfl | (simp; done) | (simp [*]; done), by repeat (first | exact Drawn0.refl _ | apply Drawn0.step)⟩

end Go.Proofs.YtcnmejahighkfaaDoor.P
-- Pf55
namespace Go.Proofs.YtcnmejahighkfaaDoor.P
open Go.RowKit Go.Proofs.YtcnmejahighkfaaDoorW.PrintWords Go.Proofs.YtcnmejahighkfaaDoorW.PrintLast Go.Proofs.YtcnmejahighkfaaDoorW.PrintMore
attribute [local go_sem] max2_int min2_int max_two min_two max_three min_three max_four min_four   -- for this text's walks alone
set_option linter.unusedVariables false
set_option linter.unusedSimpArgs false

/-! ### strconv_Itoa: function 55 -/
/-- The decimal numeral. -/
def strconv_Itoa.f (a0 : Int) : Option ByteArray := if -9223372036854775808 ≤ a0 then (if a0 ≤ 9223372036854775807 then some ⟨(Lib.itoa a0).toArray⟩ else none) else none
theorem strconv_Itoa.calls (a0 : Int) (r : ByteArray) (w : World) (h : strconv_Itoa.f a0 = some r) (hG_Pow : LaidPow w := by first | assumption | exact LaidPow.via (by assumption) (by repeat (first | exact Aside0.out (by assumption) | (with_reducible first | apply below_alloc | apply pw_below_drewN | apply below_drew1) | exact Below.refl _ _))) :
    Calls Tryd.prog 55 #[.int .i64 a0] w fun e w' => e = .returned (.string r) ∧ Below w.heap.size w w' := by
  unfold strconv_Itoa.f at h
  split at h
  · rename_i h0
    split at h
    · rename_i h1
      obtain rfl := Option.some.inj h
      refine (Tryd.strconv_Itoa a0 h0 h1 w hG_Pow.tab).mono ?_
      rintro e w' ⟨he, k, os, rfl⟩
      exact ⟨he, Lib.below_grow _ _ (Nat.le_refl _) _ _⟩
    · cases h
  · cases h

end Go.Proofs.YtcnmejahighkfaaDoor.P
-- Pf29
namespace Go.Proofs.YtcnmejahighkfaaDoor.P
open Go.RowKit Go.Proofs.YtcnmejahighkfaaDoorW.PrintWords Go.Proofs.YtcnmejahighkfaaDoorW.PrintLast Go.Proofs.YtcnmejahighkfaaDoorW.PrintMore
attribute [local go_sem] max2_int min2_int max_two min_two max_three min_three max_four min_four   -- for this text's walks alone
set_option linter.unusedVariables false
set_option linter.unusedSimpArgs false

/-! ### token_Word: function 29 -/
def token_Word.j0 : Nat → Int → Bool → Int → Int → Int → ByteArray → Option (ByteArray)
  | 0, _, _, _, _, _, _ => none
  | k + 1, x4, x5, x417000, x417001, x417002, x417003 => if x5 = true then (some x417003) else (if x4 = 2 then (if x417001 < 0 then (some (⟨#[48]⟩ : ByteArray)) else (if x417001 > 2147483647 then (some (⟨#[48]⟩ : ByteArray)) else ((strconv_Itoa.f x417001).bind fun t417 => (some t417)))) else (some (⟨#[]⟩ : ByteArray)))
def token_Word.f (k : Nat) (a0_0 : Int) (a0_1 : Int) (a0_2 : Int) (a0_3 : ByteArray) : Option (ByteArray) := if a0_0 = 1 then (token_Word.j0 k a0_0 (a0_0 == 1) a0_0 a0_1 a0_2 a0_3) else (token_Word.j0 k a0_0 (a0_0 == 3) a0_0 a0_1 a0_2 a0_3)
theorem token_Word.mono_l : ∀ k, (∀ y0 y1 y2 y3 y4 y5, LeO (token_Word.j0 k y0 y1 y2 y3 y4 y5) (token_Word.j0 (k + 1) y0 y1 y2 y3 y4 y5))
  | 0 => fun _ _ _ _ _ _ r h => by simp [token_Word.j0] at h
  | k + 1 => by
    have ih0 := token_Word.mono_l k
    · intro y0 y1 y2 y3 y4 y5
      unfold token_Word.j0
      repeat' first
      | (with_reducible exact ih0 _ _ _ _ _ _)
      | (with_reducible exact LeO.refl _)
      | (with_reducible exact LeO.none _)
      | (with_reducible refine LeO.ite ?_ ?_)
      | (with_reducible refine LeO.bind ?_ (fun _ => ?_))
      | exact ih0 _ _ _ _ _ _
      | exact LeO.none _
      | refine LeO.ite ?_ ?_
      | refine LeO.bind ?_ (fun _ => ?_)
theorem token_Word.mono : ∀ a0 a1 a2 a3 k, LeO (token_Word.f k a0 a1 a2 a3) (token_Word.f (k + 1) a0 a1 a2 a3) := by
  intro a0 a1 a2 a3 k
  have ih0 := token_Word.mono_l k
  unfold token_Word.f
  repeat' first
      | (with_reducible exact ih0 _ _ _ _ _ _)
      | (with_reducible exact LeO.refl _)
      | (with_reducible exact LeO.none _)
      | (with_reducible refine LeO.ite ?_ ?_)
      | (with_reducible refine LeO.bind ?_ (fun _ => ?_))
      | exact ih0 _ _ _ _ _ _
      | exact LeO.none _
      | refine LeO.ite ?_ ?_
      | refine LeO.bind ?_ (fun _ => ?_)
set_option maxHeartbeats 8000000 in
set_option maxRecDepth 100000 in
theorem token_Word.calls (k : Nat) (a0_0 : Int) (a0_1 : Int) (a0_2 : Int) (a0_3 : ByteArray) (r : ByteArray) (w : World) (h : token_Word.f k a0_0 a0_1 a0_2 a0_3 = some r) (hG_Pow : LaidPow w := by first | assumption | exact LaidPow.via (by assumption) (by repeat (first | exact Aside0.out (by assumption) | (with_reducible first | apply below_alloc | apply pw_below_drewN | apply below_drew1) | exact Below.refl _ _))) :
    Calls Tryd.prog 29 #[.agg #[.int .i64 a0_0, .int .i64 a0_1, .int .i64 a0_2, .string a0_3]] w fun e w' => e = .returned (.string r) ∧ Below w.heap.size w w' := by
  have hu59 := Tryd.underlying59
  have HB := Aside0.mk (Below.refl w.heap.size w)
  have H : (if a0_0 = 1 then (token_Word.j0 k a0_0 (a0_0 == 1) a0_0 a0_1 a0_2 a0_3) else (token_Word.j0 k a0_0 (a0_0 == 3) a0_0 a0_1 a0_2 a0_3)) = some r := h
  clear h
  have HC2 := Aside0.mk H
  clear H
  go_enter Tryd.func29, Tryd.ntmps29
  go_upto_if 5 with (first | ((with_reducible refine gate_dst (N := 1) rfl ?_); refine box_event ?hg (N := 1) ?hd (cs := #[.int .i64 a0_0, .int .i64 a0_1, .int .i64 a0_2, .string a0_3]) (t := 59) ?hr ?_; (case hd => rfl); (case hg => rfl); (case hr => first | (go_simp; done) | (go_simp; rfl)); intro gb416 hg w3 hbox hb; have n0_ := Aside0.mk (below_step (by repeat (first | (with_reducible first | exact HB.out | apply below_alloc | apply pw_below_drewN | apply below_drew1) | exact HB.out)) hb); have n1_ := Aside0.mk (hbox); have n2_ := Aside0.mk ((by rw [hg]; exact (below_size (by repeat (first | (with_reducible first | exact HB.out | apply below_alloc | apply pw_below_drewN | apply below_drew1) | exact HB.out))) : w.heap.size ≤ gb416)); have n3_ := Aside0.mk ((by rw [hg]; exact (below_size (by repeat (first | (with_reducible first | exact HB.out | apply below_alloc | apply pw_below_drewN | apply below_drew1) | exact HB.out))) : w.heap.size ≤ gb416)); clear HB; have HB := n0_; have BK416 := n1_; have GW416 := n2_; have GE416 := n3_; clear n0_ n1_ n2_ n3_; clear hb hbox hg; have hcz4_0 : w3.cell? ⟨gb416, 0, none⟩ = some (.int .i64 a0_0) := (blk_cell BK416.out 0).trans rfl; have hcz4_1 : w3.cell? ⟨gb416, 1, none⟩ = some (.int .i64 a0_1) := (blk_cell BK416.out 1).trans rfl; have hcz4_2 : w3.cell? ⟨gb416, 2, none⟩ = some (.int .i64 a0_2) := (blk_cell BK416.out 2).trans rfl; have hcz4_3 : w3.cell? ⟨gb416, 3, none⟩ = some (.string a0_3) := (blk_cell BK416.out 3).trans rfl; have hfz4_0 := blk_frozen BK416.out 0; have hfz4_1 := blk_frozen BK416.out 1; have hfz4_2 := blk_frozen BK416.out 2; have hfz4_3 := blk_frozen BK416.out 3))
  (try simp only [Act.put, List.setIfInBounds_toArray, List.set_cons_zero, List.set_cons_succ])
  go_cut [5] (fun v5 wc => ∃ (kq : Nat) (x5_1 : Bool), v5 = .bool x5_1 ∧ Aside0 (token_Word.j0 kq a0_0 x5_1 a0_0 a0_1 a0_2 a0_3 = some r) ∧ Aside0 (kq ≤ k) ∧ Aside0 (wc.heap[gb416]? = some (.cells #[.int .i64 a0_0, .int .i64 a0_1, .int .i64 a0_2, .string a0_3] 59 (0, 0))) ∧ Aside0 (Below w.heap.size w wc))
  case first =>
    have H := HC2.out
    clear HC2
    by_cases c5 : a0_0 = 1
    · rw [if_pos c5] at H
      have c5b0 : (a0_0 == 1) = true := beq_iff_eq.mpr c5
      have c5b1 : (a0_0 != 1) = false := bne_eq_false_iff_eq.mpr c5
      clear c5
      (first | rw [c5b0] | (simp only [i64_w, i32_w]; rw [c5b0]) | skip)
      have H' := Aside0.mk H
      clear H
      go_wp2
      go_meet
      case rel => exact ⟨_, ((a0_0 == 1)), (by first | rfl | (simp; done) | (simp [*]; done)), H', ⟨by first | omega | exact Nat.le_refl _⟩, ⟨by (with_reducible repeat (first | refine blk_drewN ?_ _ | refine blk_drew ?_ | refine blk_alloc ?_ _)); exact BK416.out⟩, ⟨by repeat (first | (with_reducible first | exact HB.out | apply below_alloc | apply pw_below_drewN | apply below_drew1 | refine below_set ?_ GE416.out) | exact HB.out)⟩⟩
    · rw [if_neg c5] at H
      have c5b0 : (a0_0 == 1) = false := beq_eq_false_iff_ne.mpr c5
      have c5b1 : (a0_0 != 1) = true := bne_iff_ne.mpr c5
      (first | rw [c5b0] | (simp only [i64_w, i32_w]; rw [c5b0]) | skip)
      have H' := Aside0.mk H
      clear H
      go_wp2
      go_meet
      case rel => exact ⟨_, ((a0_0 == 3)), (by first | rfl | (simp; done) | (simp [*]; done)), H', ⟨by first | omega | exact Nat.le_refl _⟩, ⟨by (with_reducible repeat (first | refine blk_drewN ?_ _ | refine blk_drew ?_ | refine blk_alloc ?_ _)); exact BK416.out⟩, ⟨by repeat (first | (with_reducible first | exact HB.out | apply below_alloc | apply pw_below_drewN | apply below_drew1 | refine below_set ?_ GE416.out) | exact HB.out)⟩⟩
  case rest =>
    clear HC2
    try clear c2
    try clear p2
    try clear c5
    try clear c5b0
    try clear c5b1
    try clear hcz4_0
    try clear hcz4_1
    try clear hcz4_2
    try clear hcz4_3
    try clear hfz4_0
    try clear hfz4_1
    try clear hfz4_2
    try clear hfz4_3
    obtain ⟨kq, x5_1, rfl, HA, HJ1, BK416, HB⟩ := hcut
    cases kq with
    | zero => exact absurd HA.out (by simp [token_Word.j0])
    | succ kj1 =>
      have H := HA.out
      clear HA
      simp only [token_Word.j0] at H
      by_cases c6 : x5_1 = true
      · subst c6
        have H1 : (some a0_3) = some r := by rw [if_pos rfl] at H; exact H
        clear H
        have H := H1
        clear H1
        obtain rfl := Option.some.inj H
        have hcz7_0 : wc.cell? ⟨gb416, 0, none⟩ = some (.int .i64 a0_0) := (blk_cell BK416.out 0).trans rfl
        have hcz7_1 : wc.cell? ⟨gb416, 1, none⟩ = some (.int .i64 a0_1) := (blk_cell BK416.out 1).trans rfl
        have hcz7_2 : wc.cell? ⟨gb416, 2, none⟩ = some (.int .i64 a0_2) := (blk_cell BK416.out 2).trans rfl
        have hcz7_3 : wc.cell? ⟨gb416, 3, none⟩ = some (.string a0_3) := (blk_cell BK416.out 3).trans rfl
        have hfz7_0 := blk_frozen BK416.out 0
        have hfz7_1 := blk_frozen BK416.out 1
        have hfz7_2 := blk_frozen BK416.out 2
        have hfz7_3 := blk_frozen BK416.out 3
        go_wp2
        go_ret
        exact ⟨by first | rfl | (simp [errW_none, errW_some] <;> rfl) | (simp [*, errW_none, errW_some] <;> rfl), by repeat (first | (with_reducible first | exact HB.out | apply below_alloc | apply pw_below_drewN | apply below_drew1 | refine below_set ?_ GE416.out) | exact HB.out)⟩
      · replace c6 := Bool.eq_false_iff.mpr c6
        subst c6
        have H1 : (if a0_0 = 2 then (if a0_1 < 0 then (some (⟨#[48]⟩ : ByteArray)) else (if a0_1 > 2147483647 then (some (⟨#[48]⟩ : ByteArray)) else ((strconv_Itoa.f a0_1).bind fun t417 => (some t417)))) else (some (⟨#[]⟩ : ByteArray))) = some r := by rw [if_neg (show ¬ (false = true) by decide)] at H; exact H
        clear H
        have H := H1
        clear H1
        by_cases c8 : a0_0 = 2
        · rw [if_pos c8] at H
          have c8b0 : (a0_0 == 2) = true := beq_iff_eq.mpr c8
          have c8b1 : (a0_0 != 2) = false := bne_eq_false_iff_eq.mpr c8
          clear c8
          by_cases c9 : a0_1 < 0
          · rw [if_pos c9] at H
            have c9b0 : decide (a0_1 < 0) = true := decide_eq_true c9
            clear c9
            obtain rfl := Option.some.inj H
            have hcz10_0 : wc.cell? ⟨gb416, 0, none⟩ = some (.int .i64 a0_0) := (blk_cell BK416.out 0).trans rfl
            have hcz10_1 : wc.cell? ⟨gb416, 1, none⟩ = some (.int .i64 a0_1) := (blk_cell BK416.out 1).trans rfl
            have hcz10_2 : wc.cell? ⟨gb416, 2, none⟩ = some (.int .i64 a0_2) := (blk_cell BK416.out 2).trans rfl
            have hcz10_3 : wc.cell? ⟨gb416, 3, none⟩ = some (.string a0_3) := (blk_cell BK416.out 3).trans rfl
            have hfz10_0 := blk_frozen BK416.out 0
            have hfz10_1 := blk_frozen BK416.out 1
            have hfz10_2 := blk_frozen BK416.out 2
            have hfz10_3 := blk_frozen BK416.out 3
            go_wp2
            go_ret
            exact ⟨by first | rfl | (simp [errW_none, errW_some] <;> rfl) | (simp [*, errW_none, errW_some] <;> rfl), by repeat (first | (with_reducible first | exact HB.out | apply below_alloc | apply pw_below_drewN | apply below_drew1 | refine below_set ?_ GE416.out) | exact HB.out)⟩
          · rw [if_neg c9] at H
            have c9b0 : decide (a0_1 < 0) = false := decide_eq_false c9
            clear c9
            by_cases c11 : a0_1 > 2147483647
            · rw [if_pos c11] at H
              have c11b0 : decide (2147483647 < a0_1) = true := decide_eq_true c11
              clear c11
              obtain rfl := Option.some.inj H
              have hcz12_0 : wc.cell? ⟨gb416, 0, none⟩ = some (.int .i64 a0_0) := (blk_cell BK416.out 0).trans rfl
              have hcz12_1 : wc.cell? ⟨gb416, 1, none⟩ = some (.int .i64 a0_1) := (blk_cell BK416.out 1).trans rfl
              have hcz12_2 : wc.cell? ⟨gb416, 2, none⟩ = some (.int .i64 a0_2) := (blk_cell BK416.out 2).trans rfl
              have hcz12_3 : wc.cell? ⟨gb416, 3, none⟩ = some (.string a0_3) := (blk_cell BK416.out 3).trans rfl
              have hfz12_0 := blk_frozen BK416.out 0
              have hfz12_1 := blk_frozen BK416.out 1
              have hfz12_2 := blk_frozen BK416.out 2
              have hfz12_3 := blk_frozen BK416.out 3
              go_wp2
              go_ret
              exact ⟨by first | rfl | (simp [errW_none, errW_some] <;> rfl) | (simp [*, errW_none, errW_some] <;> rfl), by repeat (first | (with_reducible first | exact HB.out | apply below_alloc | apply pw_below_drewN | apply below_drew1 | refine below_set ?_ GE416.out) | exact HB.out)⟩
            · rw [if_neg c11] at H
              have c11b0 : decide (2147483647 < a0_1) = false := decide_eq_false c11
              clear c11
              replace H := Option.bind_eq_some_iff.mp H
              obtain ⟨t417, A130, H⟩ := H
              replace H : (some t417) = some r := H
              have A13 := Aside0.mk A130
              clear A130
              obtain rfl := Option.some.inj H
              have hcz14_0 : wc.cell? ⟨gb416, 0, none⟩ = some (.int .i64 a0_0) := (blk_cell BK416.out 0).trans rfl
              have hcz14_1 : wc.cell? ⟨gb416, 1, none⟩ = some (.int .i64 a0_1) := (blk_cell BK416.out 1).trans rfl
              have hcz14_2 : wc.cell? ⟨gb416, 2, none⟩ = some (.int .i64 a0_2) := (blk_cell BK416.out 2).trans rfl
              have hcz14_3 : wc.cell? ⟨gb416, 3, none⟩ = some (.string a0_3) := (blk_cell BK416.out 3).trans rfl
              have hfz14_0 := blk_frozen BK416.out 0
              have hfz14_1 := blk_frozen BK416.out 1
              have hfz14_2 := blk_frozen BK416.out 2
              have hfz14_3 := blk_frozen BK416.out 3
              go_wp2_with (first | ((with_reducible refine gate_callee (f := 55) rfl ?_); refine goesL_ (some 22) rfl rfl Tryd.func55 (by kernel_rfl) rfl #[.int .i64 a0_1] rfl (by (try simp only [List.map_toArray, List.map_cons, List.map_nil]); first | done | rfl | (simp only [List.length_drop, List.length_take]; rfl)) ?_; (with_reducible refine (strconv_Itoa.calls a0_1 t417 _ A13.out).mono ?_); rintro e w15 ⟨rfl, hb⟩; refine ⟨_, rfl, ?_⟩; have n0_ := Aside0.mk (blk_below (g := gb416) (o := .cells #[.int .i64 a0_0, .int .i64 a0_1, .int .i64 a0_2, .string a0_3] 59 (0, 0)) (by (with_reducible repeat (first | refine blk_drewN ?_ _ | refine blk_drew ?_ | refine blk_alloc ?_ _)); exact BK416.out) hb); have n1_ := Aside0.mk (below_step (by repeat (first | (with_reducible first | exact HB.out | apply below_alloc | apply pw_below_drewN | apply below_drew1 | refine below_set ?_ GE416.out) | exact HB.out)) hb); clear BK416; clear HB; have BK416 := n0_; have HB := n1_; clear n0_ n1_; (try clear hb); (try clear hb2); (try clear hk); (try clear hi)))
              go_ret
              exact ⟨by first | rfl | (simp [errW_none, errW_some] <;> rfl) | (simp [*, errW_none, errW_some] <;> rfl), by repeat (first | (with_reducible first | exact HB.out | apply below_alloc | apply pw_below_drewN | apply below_drew1 | refine below_set ?_ GE416.out) | exact HB.out)⟩
        · rw [if_neg c8] at H
          have c8b0 : (a0_0 == 2) = false := beq_eq_false_iff_ne.mpr c8
          have c8b1 : (a0_0 != 2) = true := bne_iff_ne.mpr c8
          obtain rfl := Option.some.inj H
          go_wp2
          go_ret
          exact ⟨by first | rfl | (simp [errW_none, errW_some] <;> rfl) | (simp [*, errW_none, errW_some] <;> rfl), by repeat (first | (with_reducible first | exact HB.out | apply below_alloc | apply pw_below_drewN | apply below_drew1 | refine below_set ?_ GE416.out) | exact HB.out)⟩

end Go.Proofs.YtcnmejahighkfaaDoor.P
-- Pf24
namespace Go.Proofs.YtcnmejahighkfaaDoor.P
open Go.RowKit Go.Proofs.YtcnmejahighkfaaDoorW.PrintWords Go.Proofs.YtcnmejahighkfaaDoorW.PrintLast Go.Proofs.YtcnmejahighkfaaDoorW.PrintMore
attribute [local go_sem] max2_int min2_int max_two min_two max_three min_three max_four min_four   -- for this text's walks alone
set_option linter.unusedVariables false
set_option linter.unusedSimpArgs false

/-! ### timeboundlaw02_awake: function 24 -/
def timeboundlaw02_awake.f (k : Nat)  : Option (Bool) := (token_Scan.f (⟨#[105, 60, 61, 49, 48]⟩ : ByteArray)).bind fun bt418 => (if bt418.2.2 = 0 then (if bt418.2.1 = 0 then (if (bt418.1.length : Int) = 3 then (if 0 < (bt418.1.length : Int) then (if ((rd_T59 bt418.1 0).f3).toList = ([105] : List UInt8) then (if 1 < (bt418.1.length : Int) then (if ((rd_T59 bt418.1 1).f3).toList = ([60, 61] : List UInt8) then (if 2 < (bt418.1.length : Int) then (if ((rd_T59 bt418.1 2).f1) = 10 then ((token_Name.f k (⟨#[97, 49]⟩ : ByteArray)).bind fun t426 => (if t426 = true then ((token_Word.f k ((rd_T59 bt418.1 2).f0) ((rd_T59 bt418.1 2).f1) ((rd_T59 bt418.1 2).f2) ((rd_T59 bt418.1 2).f3)).bind fun t428 => (some (t428.toList == ([49, 48] : List UInt8)))) else (some false))) else (some false)) else (none)) else (some false)) else (none)) else (some false)) else (none)) else (some false)) else (some false)) else (some false))
theorem timeboundlaw02_awake.mono : ∀ k, LeO (timeboundlaw02_awake.f k ) (timeboundlaw02_awake.f (k + 1) ) := by
  intro  k
  unfold timeboundlaw02_awake.f
  repeat' first
      | (with_reducible exact token_Name.mono _ _)
      | (with_reducible exact token_Word.mono _ _ _ _ _)
      | (with_reducible exact LeO.refl _)
      | (with_reducible exact LeO.none _)
      | (with_reducible refine LeO.ite ?_ ?_)
      | (with_reducible refine LeO.bind ?_ (fun _ => ?_))
      | exact token_Name.mono _ _
      | exact token_Word.mono _ _ _ _ _
      | exact LeO.none _
      | refine LeO.ite ?_ ?_
      | refine LeO.bind ?_ (fun _ => ?_)
set_option maxHeartbeats 8000000 in
set_option maxRecDepth 100000 in
theorem timeboundlaw02_awake.calls (k : Nat)  (r : Bool) (w : World) (h : timeboundlaw02_awake.f k  = some r) (hG_Pow : LaidPow w := by first | assumption | exact LaidPow.via (by assumption) (by repeat (first | exact Aside0.out (by assumption) | (with_reducible first | apply below_alloc | apply pw_below_drewN | apply below_drew1) | exact Below.refl _ _))) :
    Calls Tryd.prog 24 #[] w fun e w' => e = .returned (.bool r) ∧ Below w.heap.size w w' := by
  have hu59 := Tryd.underlying59
  have HB := Aside0.mk (Below.refl w.heap.size w)
  have H : ((token_Scan.f (⟨#[105, 60, 61, 49, 48]⟩ : ByteArray)).bind fun bt418 => (if bt418.2.2 = 0 then (if bt418.2.1 = 0 then (if (bt418.1.length : Int) = 3 then (if 0 < (bt418.1.length : Int) then (if ((rd_T59 bt418.1 0).f3).toList = ([105] : List UInt8) then (if 1 < (bt418.1.length : Int) then (if ((rd_T59 bt418.1 1).f3).toList = ([60, 61] : List UInt8) then (if 2 < (bt418.1.length : Int) then (if ((rd_T59 bt418.1 2).f1) = 10 then ((token_Name.f k (⟨#[97, 49]⟩ : ByteArray)).bind fun t426 => (if t426 = true then ((token_Word.f k ((rd_T59 bt418.1 2).f0) ((rd_T59 bt418.1 2).f1) ((rd_T59 bt418.1 2).f2) ((rd_T59 bt418.1 2).f3)).bind fun t428 => (some (t428.toList == ([49, 48] : List UInt8)))) else (some false))) else (some false)) else (none)) else (some false)) else (none)) else (some false)) else (none)) else (some false)) else (some false)) else (some false))) = some r := h
  clear h
  replace H := Option.bind_eq_some_iff.mp H
  obtain ⟨⟨t418, t419, t420⟩, A10, H⟩ := H
  replace H : (if t420 = 0 then (if t419 = 0 then (if (t418.length : Int) = 3 then (if 0 < (t418.length : Int) then (if ((rd_T59 t418 0).f3).toList = ([105] : List UInt8) then (if 1 < (t418.length : Int) then (if ((rd_T59 t418 1).f3).toList = ([60, 61] : List UInt8) then (if 2 < (t418.length : Int) then (if ((rd_T59 t418 2).f1) = 10 then ((token_Name.f k (⟨#[97, 49]⟩ : ByteArray)).bind fun t426 => (if t426 = true then ((token_Word.f k ((rd_T59 t418 2).f0) ((rd_T59 t418 2).f1) ((rd_T59 t418 2).f2) ((rd_T59 t418 2).f3)).bind fun t428 => (some (t428.toList == ([49, 48] : List UInt8)))) else (some false))) else (some false)) else (none)) else (some false)) else (none)) else (some false)) else (none)) else (some false)) else (some false)) else (some false)) = some r := H
  have A1 := Aside0.mk A10
  clear A10
  by_cases c2 : t420 = 0
  · rw [if_pos c2] at H
    have c2b0 : (t420 == 0) = true := beq_iff_eq.mpr c2
    have c2b1 : (t420 != 0) = false := bne_eq_false_iff_eq.mpr c2
    clear c2
    by_cases c3 : t419 = 0
    · rw [if_pos c3] at H
      have c3b0 : (t419 == 0) = true := beq_iff_eq.mpr c3
      have c3b1 : (t419 != 0) = false := bne_eq_false_iff_eq.mpr c3
      clear c3
      by_cases c4 : (t418.length : Int) = 3
      · rw [if_pos c4] at H
        have c4b0 : ((t418.length : Int) == 3) = true := beq_iff_eq.mpr c4
        have c4b1 : ((t418.length : Int) != 3) = false := bne_eq_false_iff_eq.mpr c4
        clear c4
        by_cases c5 : 0 < (t418.length : Int)
        · rw [if_pos c5] at H
          have c5b0 : decide (0 < (t418.length : Int)) = true := decide_eq_true c5
          have c5b1 : decide (0 < t418.length) = true := decide_eq_true (by omega)
          clear c5
          by_cases c6 : ((rd_T59 t418 0).f3).toList = ([105] : List UInt8)
          · rw [if_pos c6] at H
            have c6b0 : (((rd_T59 t418 0).f3).toList == ([105] : List UInt8)) = true := beq_iff_eq.mpr c6
            have c6b1 : (((rd_T59 t418 0).f3).toList != ([105] : List UInt8)) = false := bne_eq_false_iff_eq.mpr c6
            clear c6
            by_cases c7 : 1 < (t418.length : Int)
            · rw [if_pos c7] at H
              have c7b0 : decide (1 < (t418.length : Int)) = true := decide_eq_true c7
              have c7b1 : decide (1 < t418.length) = true := decide_eq_true (by omega)
              clear c7
              by_cases c8 : ((rd_T59 t418 1).f3).toList = ([60, 61] : List UInt8)
              · rw [if_pos c8] at H
                have c8b0 : (((rd_T59 t418 1).f3).toList == ([60, 61] : List UInt8)) = true := beq_iff_eq.mpr c8
                have c8b1 : (((rd_T59 t418 1).f3).toList != ([60, 61] : List UInt8)) = false := bne_eq_false_iff_eq.mpr c8
                clear c8
                by_cases c9 : 2 < (t418.length : Int)
                · rw [if_pos c9] at H
                  have c9b0 : decide (2 < (t418.length : Int)) = true := decide_eq_true c9
                  have c9b1 : decide (2 < t418.length) = true := decide_eq_true (by omega)
                  clear c9
                  by_cases c10 : ((rd_T59 t418 2).f1) = 10
                  · rw [if_pos c10] at H
                    have c10b0 : (((rd_T59 t418 2).f1) == 10) = true := beq_iff_eq.mpr c10
                    have c10b1 : (((rd_T59 t418 2).f1) != 10) = false := bne_eq_false_iff_eq.mpr c10
                    clear c10
                    replace H := Option.bind_eq_some_iff.mp H
                    obtain ⟨t426, A110, H⟩ := H
                    replace H : (if t426 = true then ((token_Word.f k ((rd_T59 t418 2).f0) ((rd_T59 t418 2).f1) ((rd_T59 t418 2).f2) ((rd_T59 t418 2).f3)).bind fun t428 => (some (t428.toList == ([49, 48] : List UInt8)))) else (some false)) = some r := H
                    have A11 := Aside0.mk A110
                    clear A110
                    by_cases c12 : t426 = true
                    · subst c12
                      have H1 : ((token_Word.f k ((rd_T59 t418 2).f0) ((rd_T59 t418 2).f1) ((rd_T59 t418 2).f2) ((rd_T59 t418 2).f3)).bind fun t428 => (some (t428.toList == ([49, 48] : List UInt8)))) = some r := by rw [if_pos rfl] at H; exact H
                      clear H
                      have H := H1
                      clear H1
                      replace H := Option.bind_eq_some_iff.mp H
                      obtain ⟨t428, A130, H⟩ := H
                      replace H : (some (t428.toList == ([49, 48] : List UInt8))) = some r := H
                      have A13 := Aside0.mk A130
                      clear A130
                      obtain rfl := Option.some.inj H
                      go_enter Tryd.func24, Tryd.ntmps24
                      go_wp2_with (first | ((with_reducible refine gate_callee (f := 25) rfl ?_); refine goesL_ (some 5) rfl rfl Tryd.func25 (by kernel_rfl) rfl #[.string (⟨#[105, 60, 61, 49, 48]⟩ : ByteArray)] rfl (by (try simp only [List.map_toArray, List.map_cons, List.map_nil]); first | done | rfl | (simp only [List.length_drop, List.length_take]; rfl)) ?_; (with_reducible refine (token_Scan.calls (⟨#[105, 60, 61, 49, 48]⟩ : ByteArray) t418 t419 t420 _ A1.out).mono ?_); rintro e w14 ⟨v421, rfl, ho0, hb⟩; refine ⟨_, rfl, ?_⟩; have n0_ := Aside0.mk (Kd.R_lower ho0 (below_size (by repeat (first | (with_reducible first | exact HB.out | apply below_alloc | apply pw_below_drewN | apply below_drew1) | exact HB.out)))); have n1_ := Aside0.mk (below_step (by repeat (first | (with_reducible first | exact HB.out | apply below_alloc | apply pw_below_drewN | apply below_drew1) | exact HB.out)) hb); clear HB; have HO422 := n0_; have HB := n1_; clear n0_ n1_; (try clear hb); (try clear hb2); (try clear hk); (try clear hi); (try clear ho0); obtain ⟨Ao15, co15, eo15⟩ := Kd.R_slice HO422.out; subst eo15; have p423 : 0 ≤ (0 : Int) := (by omega); have q423 : 0 < (t418.length : Int) := of_decide_eq_true (by first | (with_reducible assumption) | assumption); obtain ⟨ad423, e423, hx423_0, hx423_1, hx423_2, hx423_3⟩ := at_T59 (Kd.R_reads' HO422.out).2.2 0 p423 q423; cases e423; have qi423 : (0 < t418.length) = True := eq_true (by omega); (try rw [show ((0 : Int)).toNat = 0 from rfl] at hx423_0); (try rw [show 0 * 4 = 0 from rfl] at hx423_0); (try rw [Addr.add_zero'] at hx423_0); (try rw [show ((0 : Int)).toNat = 0 from rfl] at hx423_1); (try rw [show 0 * 4 = 0 from rfl] at hx423_1); (try rw [Addr.add_zero'] at hx423_1); (try rw [show ((0 : Int)).toNat = 0 from rfl] at hx423_2); (try rw [show 0 * 4 = 0 from rfl] at hx423_2); (try rw [Addr.add_zero'] at hx423_2); (try rw [show ((0 : Int)).toNat = 0 from rfl] at hx423_3); (try rw [show 0 * 4 = 0 from rfl] at hx423_3); (try rw [Addr.add_zero'] at hx423_3); replace p423 := eq_true p423; replace q423 := eq_true q423; have p424 : 0 ≤ (1 : Int) := (by omega); have q424 : 1 < (t418.length : Int) := of_decide_eq_true (by first | (with_reducible assumption) | assumption); obtain ⟨ad424, e424, hx424_0, hx424_1, hx424_2, hx424_3⟩ := at_T59 (Kd.R_reads' HO422.out).2.2 1 p424 q424; obtain rfl : ad423 = ad424 := (by injection e424); (try simp only [show (1 : Int).toNat = 1 from rfl, Nat.reduceMul, Nat.reduceEqDiff, Go.Addr.add, ↓reduceIte] at hx424_0); (try simp only [show (1 : Int).toNat = 1 from rfl, Nat.reduceMul, Nat.reduceEqDiff, Go.Addr.add, ↓reduceIte] at hx424_1); (try simp only [show (1 : Int).toNat = 1 from rfl, Nat.reduceMul, Nat.reduceEqDiff, Go.Addr.add, ↓reduceIte] at hx424_2); (try simp only [show (1 : Int).toNat = 1 from rfl, Nat.reduceMul, Nat.reduceEqDiff, Go.Addr.add, ↓reduceIte] at hx424_3); have qi424 : (1 < t418.length) = True := eq_true (by omega); (try rw [show ((1 : Int)).toNat = 1 from rfl] at hx424_0); (try rw [show 1 * 4 = 4 from rfl] at hx424_0); (try rw [show ((1 : Int)).toNat = 1 from rfl] at hx424_1); (try rw [show 1 * 4 = 4 from rfl] at hx424_1); (try rw [show ((1 : Int)).toNat = 1 from rfl] at hx424_2); (try rw [show 1 * 4 = 4 from rfl] at hx424_2); (try rw [show ((1 : Int)).toNat = 1 from rfl] at hx424_3); (try rw [show 1 * 4 = 4 from rfl] at hx424_3); replace p424 := eq_true p424; replace q424 := eq_true q424; have p425 : 0 ≤ (2 : Int) := (by omega); have q425 : 2 < (t418.length : Int) := of_decide_eq_true (by first | (with_reducible assumption) | assumption); obtain ⟨ad425, e425, hx425_0, hx425_1, hx425_2, hx425_3⟩ := at_T59 (Kd.R_reads' HO422.out).2.2 2 p425 q425; obtain rfl : ad423 = ad425 := (by injection e425); (try simp only [show (2 : Int).toNat = 2 from rfl, Nat.reduceMul, Nat.reduceEqDiff, Go.Addr.add, ↓reduceIte] at hx425_0); (try simp only [show (2 : Int).toNat = 2 from rfl, Nat.reduceMul, Nat.reduceEqDiff, Go.Addr.add, ↓reduceIte] at hx425_1); (try simp only [show (2 : Int).toNat = 2 from rfl, Nat.reduceMul, Nat.reduceEqDiff, Go.Addr.add, ↓reduceIte] at hx425_2); (try simp only [show (2 : Int).toNat = 2 from rfl, Nat.reduceMul, Nat.reduceEqDiff, Go.Addr.add, ↓reduceIte] at hx425_3); have qi425 : (2 < t418.length) = True := eq_true (by omega); (try rw [show ((2 : Int)).toNat = 2 from rfl] at hx425_0); (try rw [show 2 * 4 = 8 from rfl] at hx425_0); (try rw [show ((2 : Int)).toNat = 2 from rfl] at hx425_1); (try rw [show 2 * 4 = 8 from rfl] at hx425_1); (try rw [show ((2 : Int)).toNat = 2 from rfl] at hx425_2); (try rw [show 2 * 4 = 8 from rfl] at hx425_2); (try rw [show ((2 : Int)).toNat = 2 from rfl] at hx425_3); (try rw [show 2 * 4 = 8 from rfl] at hx425_3); replace p425 := eq_true p425; replace q425 := eq_true q425) | (go_at_call 27; (with_reducible refine (token_Name.calls k (⟨#[97, 49]⟩ : ByteArray) true _ A11.out).mono ?_); rintro e w' ⟨rfl, ⟨nd, rfl⟩⟩; have p427 : 0 ≤ (2 : Int) := (by omega); have q427 : 2 < (t418.length : Int) := of_decide_eq_true (by first | (with_reducible assumption) | assumption); obtain ⟨ad427, e427, hx427_0, hx427_1, hx427_2, hx427_3⟩ := at_T59 (Kd.R_reads' HO422.out).2.2 2 p427 q427; obtain rfl : ad423 = ad427 := (by injection e427); (try simp only [show (2 : Int).toNat = 2 from rfl, Nat.reduceMul, Nat.reduceEqDiff, Go.Addr.add, ↓reduceIte] at hx427_0); (try simp only [show (2 : Int).toNat = 2 from rfl, Nat.reduceMul, Nat.reduceEqDiff, Go.Addr.add, ↓reduceIte] at hx427_1); (try simp only [show (2 : Int).toNat = 2 from rfl, Nat.reduceMul, Nat.reduceEqDiff, Go.Addr.add, ↓reduceIte] at hx427_2); (try simp only [show (2 : Int).toNat = 2 from rfl, Nat.reduceMul, Nat.reduceEqDiff, Go.Addr.add, ↓reduceIte] at hx427_3); have qi427 : (2 < t418.length) = True := eq_true (by omega); (try rw [show ((2 : Int)).toNat = 2 from rfl] at hx427_0); (try rw [show 2 * 4 = 8 from rfl] at hx427_0); (try rw [show ((2 : Int)).toNat = 2 from rfl] at hx427_1); (try rw [show 2 * 4 = 8 from rfl] at hx427_1); (try rw [show ((2 : Int)).toNat = 2 from rfl] at hx427_2); (try rw [show 2 * 4 = 8 from rfl] at hx427_2); (try rw [show ((2 : Int)).toNat = 2 from rfl] at hx427_3); (try rw [show 2 * 4 = 8 from rfl] at hx427_3); replace p427 := eq_true p427; replace q427 := eq_true q427) | (go_at_call 29; (with_reducible refine (token_Word.calls k ((rd_T59 t418 2).f0) ((rd_T59 t418 2).f1) ((rd_T59 t418 2).f2) ((rd_T59 t418 2).f3) t428 _ A13.out).mono ?_); rintro e w16 ⟨rfl, hb⟩; have n0_ := Aside0.mk (Kd.R_below (by (with_reducible repeat (first | apply Kd.R_alloc | apply Kd.R_drewN | apply Kd.R_drew)); exact HO422.out) hb); have n1_ := Aside0.mk (below_step (by repeat (first | (with_reducible first | exact HB.out | apply below_alloc | apply pw_below_drewN | apply below_drew1) | exact HB.out)) hb); clear HO422; clear HB; have HO422 := n0_; have HB := n1_; clear n0_ n1_; (try clear hb); (try clear hb2); (try clear hk); (try clear hi)))
                      go_ret
                      exact ⟨by first | rfl | (simp [errW_none, errW_some] <;> rfl) | (simp [*, errW_none, errW_some] <;> rfl), by repeat (first | (with_reducible first | exact HB.out | apply below_alloc | apply pw_below_drewN | apply below_drew1) | exact HB.out)⟩
                    · replace c12 := Bool.eq_false_iff.mpr c12
                      subst c12
                      have H1 : (some false) = some r := by rw [if_neg (show ¬ (false = true) by decide)] at H; exact H
                      clear H
                      have H := H1
                      clear H1
                      obtain rfl := Option.some.inj H
                      go_enter Tryd.func24, Tryd.ntmps24
                      go_wp2_with (first | ((with_reducible refine gate_callee (f := 25) rfl ?_); refine goesL_ (some 5) rfl rfl Tryd.func25 (by kernel_rfl) rfl #[.string (⟨#[105, 60, 61, 49, 48]⟩ : ByteArray)] rfl (by (try simp only [List.map_toArray, List.map_cons, List.map_nil]); first | done | rfl | (simp only [List.length_drop, List.length_take]; rfl)) ?_; (with_reducible refine (token_Scan.calls (⟨#[105, 60, 61, 49, 48]⟩ : ByteArray) t418 t419 t420 _ A1.out).mono ?_); rintro e w17 ⟨v421, rfl, ho0, hb⟩; refine ⟨_, rfl, ?_⟩; have n0_ := Aside0.mk (Kd.R_lower ho0 (below_size (by repeat (first | (with_reducible first | exact HB.out | apply below_alloc | apply pw_below_drewN | apply below_drew1) | exact HB.out)))); have n1_ := Aside0.mk (below_step (by repeat (first | (with_reducible first | exact HB.out | apply below_alloc | apply pw_below_drewN | apply below_drew1) | exact HB.out)) hb); clear HB; have HO422 := n0_; have HB := n1_; clear n0_ n1_; (try clear hb); (try clear hb2); (try clear hk); (try clear hi); (try clear ho0); obtain ⟨Ao18, co18, eo18⟩ := Kd.R_slice HO422.out; subst eo18; have p423 : 0 ≤ (0 : Int) := (by omega); have q423 : 0 < (t418.length : Int) := of_decide_eq_true (by first | (with_reducible assumption) | assumption); obtain ⟨ad423, e423, hx423_0, hx423_1, hx423_2, hx423_3⟩ := at_T59 (Kd.R_reads' HO422.out).2.2 0 p423 q423; cases e423; have qi423 : (0 < t418.length) = True := eq_true (by omega); (try rw [show ((0 : Int)).toNat = 0 from rfl] at hx423_0); (try rw [show 0 * 4 = 0 from rfl] at hx423_0); (try rw [Addr.add_zero'] at hx423_0); (try rw [show ((0 : Int)).toNat = 0 from rfl] at hx423_1); (try rw [show 0 * 4 = 0 from rfl] at hx423_1); (try rw [Addr.add_zero'] at hx423_1); (try rw [show ((0 : Int)).toNat = 0 from rfl] at hx423_2); (try rw [show 0 * 4 = 0 from rfl] at hx423_2); (try rw [Addr.add_zero'] at hx423_2); (try rw [show ((0 : Int)).toNat = 0 from rfl] at hx423_3); (try rw [show 0 * 4 = 0 from rfl] at hx423_3); (try rw [Addr.add_zero'] at hx423_3); replace p423 := eq_true p423; replace q423 := eq_true q423; have p424 : 0 ≤ (1 : Int) := (by omega); have q424 : 1 < (t418.length : Int) := of_decide_eq_true (by first | (with_reducible assumption) | assumption); obtain ⟨ad424, e424, hx424_0, hx424_1, hx424_2, hx424_3⟩ := at_T59 (Kd.R_reads' HO422.out).2.2 1 p424 q424; obtain rfl : ad423 = ad424 := (by injection e424); (try simp only [show (1 : Int).toNat = 1 from rfl, Nat.reduceMul, Nat.reduceEqDiff, Go.Addr.add, ↓reduceIte] at hx424_0); (try simp only [show (1 : Int).toNat = 1 from rfl, Nat.reduceMul, Nat.reduceEqDiff, Go.Addr.add, ↓reduceIte] at hx424_1); (try simp only [show (1 : Int).toNat = 1 from rfl, Nat.reduceMul, Nat.reduceEqDiff, Go.Addr.add, ↓reduceIte] at hx424_2); (try simp only [show (1 : Int).toNat = 1 from rfl, Nat.reduceMul, Nat.reduceEqDiff, Go.Addr.add, ↓reduceIte] at hx424_3); have qi424 : (1 < t418.length) = True := eq_true (by omega); (try rw [show ((1 : Int)).toNat = 1 from rfl] at hx424_0); (try rw [show 1 * 4 = 4 from rfl] at hx424_0); (try rw [show ((1 : Int)).toNat = 1 from rfl] at hx424_1); (try rw [show 1 * 4 = 4 from rfl] at hx424_1); (try rw [show ((1 : Int)).toNat = 1 from rfl] at hx424_2); (try rw [show 1 * 4 = 4 from rfl] at hx424_2); (try rw [show ((1 : Int)).toNat = 1 from rfl] at hx424_3); (try rw [show 1 * 4 = 4 from rfl] at hx424_3); replace p424 := eq_true p424; replace q424 := eq_true q424; have p425 : 0 ≤ (2 : Int) := (by omega); have q425 : 2 < (t418.length : Int) := of_decide_eq_true (by first | (with_reducible assumption) | assumption); obtain ⟨ad425, e425, hx425_0, hx425_1, hx425_2, hx425_3⟩ := at_T59 (Kd.R_reads' HO422.out).2.2 2 p425 q425; obtain rfl : ad423 = ad425 := (by injection e425); (try simp only [show (2 : Int).toNat = 2 from rfl, Nat.reduceMul, Nat.reduceEqDiff, Go.Addr.add, ↓reduceIte] at hx425_0); (try simp only [show (2 : Int).toNat = 2 from rfl, Nat.reduceMul, Nat.reduceEqDiff, Go.Addr.add, ↓reduceIte] at hx425_1); (try simp only [show (2 : Int).toNat = 2 from rfl, Nat.reduceMul, Nat.reduceEqDiff, Go.Addr.add, ↓reduceIte] at hx425_2); (try simp only [show (2 : Int).toNat = 2 from rfl, Nat.reduceMul, Nat.reduceEqDiff, Go.Addr.add, ↓reduceIte] at hx425_3); have qi425 : (2 < t418.length) = True := eq_true (by omega); (try rw [show ((2 : Int)).toNat = 2 from rfl] at hx425_0); (try rw [show 2 * 4 = 8 from rfl] at hx425_0); (try rw [show ((2 : Int)).toNat = 2 from rfl] at hx425_1); (try rw [show 2 * 4 = 8 from rfl] at hx425_1); (try rw [show ((2 : Int)).toNat = 2 from rfl] at hx425_2); (try rw [show 2 * 4 = 8 from rfl] at hx425_2); (try rw [show ((2 : Int)).toNat = 2 from rfl] at hx425_3); (try rw [show 2 * 4 = 8 from rfl] at hx425_3); replace p425 := eq_true p425; replace q425 := eq_true q425) | (go_at_call 27; (with_reducible refine (token_Name.calls k (⟨#[97, 49]⟩ : ByteArray) false _ A11.out).mono ?_); rintro e w' ⟨rfl, ⟨nd, rfl⟩⟩))
                      go_ret
                      exact ⟨by first | rfl | (simp [errW_none, errW_some] <;> rfl) | (simp [*, errW_none, errW_some] <;> rfl), by repeat (first | (with_reducible first | exact HB.out | apply below_alloc | apply pw_below_drewN | apply below_drew1) | exact HB.out)⟩
                  · rw [if_neg c10] at H
                    have c10b0 : (((rd_T59 t418 2).f1) == 10) = false := beq_eq_false_iff_ne.mpr c10
                    have c10b1 : (((rd_T59 t418 2).f1) != 10) = true := bne_iff_ne.mpr c10
                    obtain rfl := Option.some.inj H
                    go_enter Tryd.func24, Tryd.ntmps24
                    go_wp2_with (first | ((with_reducible refine gate_callee (f := 25) rfl ?_); refine goesL_ (some 5) rfl rfl Tryd.func25 (by kernel_rfl) rfl #[.string (⟨#[105, 60, 61, 49, 48]⟩ : ByteArray)] rfl (by (try simp only [List.map_toArray, List.map_cons, List.map_nil]); first | done | rfl | (simp only [List.length_drop, List.length_take]; rfl)) ?_; (with_reducible refine (token_Scan.calls (⟨#[105, 60, 61, 49, 48]⟩ : ByteArray) t418 t419 t420 _ A1.out).mono ?_); rintro e w19 ⟨v421, rfl, ho0, hb⟩; refine ⟨_, rfl, ?_⟩; have n0_ := Aside0.mk (Kd.R_lower ho0 (below_size (by repeat (first | (with_reducible first | exact HB.out | apply below_alloc | apply pw_below_drewN | apply below_drew1) | exact HB.out)))); have n1_ := Aside0.mk (below_step (by repeat (first | (with_reducible first | exact HB.out | apply below_alloc | apply pw_below_drewN | apply below_drew1) | exact HB.out)) hb); clear HB; have HO422 := n0_; have HB := n1_; clear n0_ n1_; (try clear hb); (try clear hb2); (try clear hk); (try clear hi); (try clear ho0); obtain ⟨Ao20, co20, eo20⟩ := Kd.R_slice HO422.out; subst eo20; have p423 : 0 ≤ (0 : Int) := (by omega); have q423 : 0 < (t418.length : Int) := of_decide_eq_true (by first | (with_reducible assumption) | assumption); obtain ⟨ad423, e423, hx423_0, hx423_1, hx423_2, hx423_3⟩ := at_T59 (Kd.R_reads' HO422.out).2.2 0 p423 q423; cases e423; have qi423 : (0 < t418.length) = True := eq_true (by omega); (try rw [show ((0 : Int)).toNat = 0 from rfl] at hx423_0); (try rw [show 0 * 4 = 0 from rfl] at hx423_0); (try rw [Addr.add_zero'] at hx423_0); (try rw [show ((0 : Int)).toNat = 0 from rfl] at hx423_1); (try rw [show 0 * 4 = 0 from rfl] at hx423_1); (try rw [Addr.add_zero'] at hx423_1); (try rw [show ((0 : Int)).toNat = 0 from rfl] at hx423_2); (try rw [show 0 * 4 = 0 from rfl] at hx423_2); (try rw [Addr.add_zero'] at hx423_2); (try rw [show ((0 : Int)).toNat = 0 from rfl] at hx423_3); (try rw [show 0 * 4 = 0 from rfl] at hx423_3); (try rw [Addr.add_zero'] at hx423_3); replace p423 := eq_true p423; replace q423 := eq_true q423; have p424 : 0 ≤ (1 : Int) := (by omega); have q424 : 1 < (t418.length : Int) := of_decide_eq_true (by first | (with_reducible assumption) | assumption); obtain ⟨ad424, e424, hx424_0, hx424_1, hx424_2, hx424_3⟩ := at_T59 (Kd.R_reads' HO422.out).2.2 1 p424 q424; obtain rfl : ad423 = ad424 := (by injection e424); (try simp only [show (1 : Int).toNat = 1 from rfl, Nat.reduceMul, Nat.reduceEqDiff, Go.Addr.add, ↓reduceIte] at hx424_0); (try simp only [show (1 : Int).toNat = 1 from rfl, Nat.reduceMul, Nat.reduceEqDiff, Go.Addr.add, ↓reduceIte] at hx424_1); (try simp only [show (1 : Int).toNat = 1 from rfl, Nat.reduceMul, Nat.reduceEqDiff, Go.Addr.add, ↓reduceIte] at hx424_2); (try simp only [show (1 : Int).toNat = 1 from rfl, Nat.reduceMul, Nat.reduceEqDiff, Go.Addr.add, ↓reduceIte] at hx424_3); have qi424 : (1 < t418.length) = True := eq_true (by omega); (try rw [show ((1 : Int)).toNat = 1 from rfl] at hx424_0); (try rw [show 1 * 4 = 4 from rfl] at hx424_0); (try rw [show ((1 : Int)).toNat = 1 from rfl] at hx424_1); (try rw [show 1 * 4 = 4 from rfl] at hx424_1); (try rw [show ((1 : Int)).toNat = 1 from rfl] at hx424_2); (try rw [show 1 * 4 = 4 from rfl] at hx424_2); (try rw [show ((1 : Int)).toNat = 1 from rfl] at hx424_3); (try rw [show 1 * 4 = 4 from rfl] at hx424_3); replace p424 := eq_true p424; replace q424 := eq_true q424; have p425 : 0 ≤ (2 : Int) := (by omega); have q425 : 2 < (t418.length : Int) := of_decide_eq_true (by first | (with_reducible assumption) | assumption); obtain ⟨ad425, e425, hx425_0, hx425_1, hx425_2, hx425_3⟩ := at_T59 (Kd.R_reads' HO422.out).2.2 2 p425 q425; obtain rfl : ad423 = ad425 := (by injection e425); (try simp only [show (2 : Int).toNat = 2 from rfl, Nat.reduceMul, Nat.reduceEqDiff, Go.Addr.add, ↓reduceIte] at hx425_0); (try simp only [show (2 : Int).toNat = 2 from rfl, Nat.reduceMul, Nat.reduceEqDiff, Go.Addr.add, ↓reduceIte] at hx425_1); (try simp only [show (2 : Int).toNat = 2 from rfl, Nat.reduceMul, Nat.reduceEqDiff, Go.Addr.add, ↓reduceIte] at hx425_2); (try simp only [show (2 : Int).toNat = 2 from rfl, Nat.reduceMul, Nat.reduceEqDiff, Go.Addr.add, ↓reduceIte] at hx425_3); have qi425 : (2 < t418.length) = True := eq_true (by omega); (try rw [show ((2 : Int)).toNat = 2 from rfl] at hx425_0); (try rw [show 2 * 4 = 8 from rfl] at hx425_0); (try rw [show ((2 : Int)).toNat = 2 from rfl] at hx425_1); (try rw [show 2 * 4 = 8 from rfl] at hx425_1); (try rw [show ((2 : Int)).toNat = 2 from rfl] at hx425_2); (try rw [show 2 * 4 = 8 from rfl] at hx425_2); (try rw [show ((2 : Int)).toNat = 2 from rfl] at hx425_3); (try rw [show 2 * 4 = 8 from rfl] at hx425_3); replace p425 := eq_true p425; replace q425 := eq_true q425))
                    go_ret
                    exact ⟨by first | rfl | (simp [errW_none, errW_some] <;> rfl) | (simp [*, errW_none, errW_some] <;> rfl), by repeat (first | (with_reducible first | exact HB.out | apply below_alloc | apply pw_below_drewN | apply below_drew1) | exact HB.out)⟩
                · rw [if_neg c9] at H
                  exact absurd H (by simp)
              · rw [if_neg c8] at H
                have c8b0 : (((rd_T59 t418 1).f3).toList == ([60, 61] : List UInt8)) = false := beq_eq_false_iff_ne.mpr c8
                have c8b1 : (((rd_T59 t418 1).f3).toList != ([60, 61] : List UInt8)) = true := bne_iff_ne.mpr c8
                obtain rfl := Option.some.inj H
                go_enter Tryd.func24, Tryd.ntmps24
                go_wp2_with (first | ((with_reducible refine gate_callee (f := 25) rfl ?_); refine goesL_ (some 5) rfl rfl Tryd.func25 (by kernel_rfl) rfl #[.string (⟨#[105, 60, 61, 49, 48]⟩ : ByteArray)] rfl (by (try simp only [List.map_toArray, List.map_cons, List.map_nil]); first | done | rfl | (simp only [List.length_drop, List.length_take]; rfl)) ?_; (with_reducible refine (token_Scan.calls (⟨#[105, 60, 61, 49, 48]⟩ : ByteArray) t418 t419 t420 _ A1.out).mono ?_); rintro e w21 ⟨v421, rfl, ho0, hb⟩; refine ⟨_, rfl, ?_⟩; have n0_ := Aside0.mk (Kd.R_lower ho0 (below_size (by repeat (first | (with_reducible first | exact HB.out | apply below_alloc | apply pw_below_drewN | apply below_drew1) | exact HB.out)))); have n1_ := Aside0.mk (below_step (by repeat (first | (with_reducible first | exact HB.out | apply below_alloc | apply pw_below_drewN | apply below_drew1) | exact HB.out)) hb); clear HB; have HO422 := n0_; have HB := n1_; clear n0_ n1_; (try clear hb); (try clear hb2); (try clear hk); (try clear hi); (try clear ho0); obtain ⟨Ao22, co22, eo22⟩ := Kd.R_slice HO422.out; subst eo22; have p423 : 0 ≤ (0 : Int) := (by omega); have q423 : 0 < (t418.length : Int) := of_decide_eq_true (by first | (with_reducible assumption) | assumption); obtain ⟨ad423, e423, hx423_0, hx423_1, hx423_2, hx423_3⟩ := at_T59 (Kd.R_reads' HO422.out).2.2 0 p423 q423; cases e423; have qi423 : (0 < t418.length) = True := eq_true (by omega); (try rw [show ((0 : Int)).toNat = 0 from rfl] at hx423_0); (try rw [show 0 * 4 = 0 from rfl] at hx423_0); (try rw [Addr.add_zero'] at hx423_0); (try rw [show ((0 : Int)).toNat = 0 from rfl] at hx423_1); (try rw [show 0 * 4 = 0 from rfl] at hx423_1); (try rw [Addr.add_zero'] at hx423_1); (try rw [show ((0 : Int)).toNat = 0 from rfl] at hx423_2); (try rw [show 0 * 4 = 0 from rfl] at hx423_2); (try rw [Addr.add_zero'] at hx423_2); (try rw [show ((0 : Int)).toNat = 0 from rfl] at hx423_3); (try rw [show 0 * 4 = 0 from rfl] at hx423_3); (try rw [Addr.add_zero'] at hx423_3); replace p423 := eq_true p423; replace q423 := eq_true q423; have p424 : 0 ≤ (1 : Int) := (by omega); have q424 : 1 < (t418.length : Int) := of_decide_eq_true (by first | (with_reducible assumption) | assumption); obtain ⟨ad424, e424, hx424_0, hx424_1, hx424_2, hx424_3⟩ := at_T59 (Kd.R_reads' HO422.out).2.2 1 p424 q424; obtain rfl : ad423 = ad424 := (by injection e424); (try simp only [show (1 : Int).toNat = 1 from rfl, Nat.reduceMul, Nat.reduceEqDiff, Go.Addr.add, ↓reduceIte] at hx424_0); (try simp only [show (1 : Int).toNat = 1 from rfl, Nat.reduceMul, Nat.reduceEqDiff, Go.Addr.add, ↓reduceIte] at hx424_1); (try simp only [show (1 : Int).toNat = 1 from rfl, Nat.reduceMul, Nat.reduceEqDiff, Go.Addr.add, ↓reduceIte] at hx424_2); (try simp only [show (1 : Int).toNat = 1 from rfl, Nat.reduceMul, Nat.reduceEqDiff, Go.Addr.add, ↓reduceIte] at hx424_3); have qi424 : (1 < t418.length) = True := eq_true (by omega); (try rw [show ((1 : Int)).toNat = 1 from rfl] at hx424_0); (try rw [show 1 * 4 = 4 from rfl] at hx424_0); (try rw [show ((1 : Int)).toNat = 1 from rfl] at hx424_1); (try rw [show 1 * 4 = 4 from rfl] at hx424_1); (try rw [show ((1 : Int)).toNat = 1 from rfl] at hx424_2); (try rw [show 1 * 4 = 4 from rfl] at hx424_2); (try rw [show ((1 : Int)).toNat = 1 from rfl] at hx424_3); (try rw [show 1 * 4 = 4 from rfl] at hx424_3); replace p424 := eq_true p424; replace q424 := eq_true q424))
                go_ret
                exact ⟨by first | rfl | (simp [errW_none, errW_some] <;> rfl) | (simp [*, errW_none, errW_some] <;> rfl), by repeat (first | (with_reducible first | exact HB.out | apply below_alloc | apply pw_below_drewN | apply below_drew1) | exact HB.out)⟩
            · rw [if_neg c7] at H
              exact absurd H (by simp)
          · rw [if_neg c6] at H
            have c6b0 : (((rd_T59 t418 0).f3).toList == ([105] : List UInt8)) = false := beq_eq_false_iff_ne.mpr c6
            have c6b1 : (((rd_T59 t418 0).f3).toList != ([105] : List UInt8)) = true := bne_iff_ne.mpr c6
            obtain rfl := Option.some.inj H
            go_enter Tryd.func24, Tryd.ntmps24
            go_wp2_with (first | ((with_reducible refine gate_callee (f := 25) rfl ?_); refine goesL_ (some 5) rfl rfl Tryd.func25 (by kernel_rfl) rfl #[.string (⟨#[105, 60, 61, 49, 48]⟩ : ByteArray)] rfl (by (try simp only [List.map_toArray, List.map_cons, List.map_nil]); first | done | rfl | (simp only [List.length_drop, List.length_take]; rfl)) ?_; (with_reducible refine (token_Scan.calls (⟨#[105, 60, 61, 49, 48]⟩ : ByteArray) t418 t419 t420 _ A1.out).mono ?_); rintro e w23 ⟨v421, rfl, ho0, hb⟩; refine ⟨_, rfl, ?_⟩; have n0_ := Aside0.mk (Kd.R_lower ho0 (below_size (by repeat (first | (with_reducible first | exact HB.out | apply below_alloc | apply pw_below_drewN | apply below_drew1) | exact HB.out)))); have n1_ := Aside0.mk (below_step (by repeat (first | (with_reducible first | exact HB.out | apply below_alloc | apply pw_below_drewN | apply below_drew1) | exact HB.out)) hb); clear HB; have HO422 := n0_; have HB := n1_; clear n0_ n1_; (try clear hb); (try clear hb2); (try clear hk); (try clear hi); (try clear ho0); obtain ⟨Ao24, co24, eo24⟩ := Kd.R_slice HO422.out; subst eo24; have p423 : 0 ≤ (0 : Int) := (by omega); have q423 : 0 < (t418.length : Int) := of_decide_eq_true (by first | (with_reducible assumption) | assumption); obtain ⟨ad423, e423, hx423_0, hx423_1, hx423_2, hx423_3⟩ := at_T59 (Kd.R_reads' HO422.out).2.2 0 p423 q423; cases e423; have qi423 : (0 < t418.length) = True := eq_true (by omega); (try rw [show ((0 : Int)).toNat = 0 from rfl] at hx423_0); (try rw [show 0 * 4 = 0 from rfl] at hx423_0); (try rw [Addr.add_zero'] at hx423_0); (try rw [show ((0 : Int)).toNat = 0 from rfl] at hx423_1); (try rw [show 0 * 4 = 0 from rfl] at hx423_1); (try rw [Addr.add_zero'] at hx423_1); (try rw [show ((0 : Int)).toNat = 0 from rfl] at hx423_2); (try rw [show 0 * 4 = 0 from rfl] at hx423_2); (try rw [Addr.add_zero'] at hx423_2); (try rw [show ((0 : Int)).toNat = 0 from rfl] at hx423_3); (try rw [show 0 * 4 = 0 from rfl] at hx423_3); (try rw [Addr.add_zero'] at hx423_3); replace p423 := eq_true p423; replace q423 := eq_true q423))
            go_ret
            exact ⟨by first | rfl | (simp [errW_none, errW_some] <;> rfl) | (simp [*, errW_none, errW_some] <;> rfl), by repeat (first | (with_reducible first | exact HB.out | apply below_alloc | apply pw_below_drewN | apply below_drew1) | exact HB.out)⟩
        · rw [if_neg c5] at H
          exact absurd H (by simp)
      · rw [if_neg c4] at H
        have c4b0 : ((t418.length : Int) == 3) = false := beq_eq_false_iff_ne.mpr c4
        have c4b1 : ((t418.length : Int) != 3) = true := bne_iff_ne.mpr c4
        obtain rfl := Option.some.inj H
        go_enter Tryd.func24, Tryd.ntmps24
        go_wp2_with (first | ((with_reducible refine gate_callee (f := 25) rfl ?_); refine goesL_ (some 5) rfl rfl Tryd.func25 (by kernel_rfl) rfl #[.string (⟨#[105, 60, 61, 49, 48]⟩ : ByteArray)] rfl (by (try simp only [List.map_toArray, List.map_cons, List.map_nil]); first | done | rfl | (simp only [List.length_drop, List.length_take]; rfl)) ?_; (with_reducible refine (token_Scan.calls (⟨#[105, 60, 61, 49, 48]⟩ : ByteArray) t418 t419 t420 _ A1.out).mono ?_); rintro e w25 ⟨v421, rfl, ho0, hb⟩; refine ⟨_, rfl, ?_⟩; have n0_ := Aside0.mk (Kd.R_lower ho0 (below_size (by repeat (first | (with_reducible first | exact HB.out | apply below_alloc | apply pw_below_drewN | apply below_drew1) | exact HB.out)))); have n1_ := Aside0.mk (below_step (by repeat (first | (with_reducible first | exact HB.out | apply below_alloc | apply pw_below_drewN | apply below_drew1) | exact HB.out)) hb); clear HB; have HO422 := n0_; have HB := n1_; clear n0_ n1_; (try clear hb); (try clear hb2); (try clear hk); (try clear hi); (try clear ho0); obtain ⟨Ao26, co26, eo26⟩ := Kd.R_slice HO422.out; subst eo26))
        go_ret
        exact ⟨by first | rfl | (simp [errW_none, errW_some] <;> rfl) | (simp [*, errW_none, errW_some] <;> rfl), by repeat (first | (with_reducible first | exact HB.out | apply below_alloc | apply pw_below_drewN | apply below_drew1) | exact HB.out)⟩
    · rw [if_neg c3] at H
      have c3b0 : (t419 == 0) = false := beq_eq_false_iff_ne.mpr c3
      have c3b1 : (t419 != 0) = true := bne_iff_ne.mpr c3
      obtain rfl := Option.some.inj H
      go_enter Tryd.func24, Tryd.ntmps24
      go_wp2_with (first | ((with_reducible refine gate_callee (f := 25) rfl ?_); refine goesL_ (some 5) rfl rfl Tryd.func25 (by kernel_rfl) rfl #[.string (⟨#[105, 60, 61, 49, 48]⟩ : ByteArray)] rfl (by (try simp only [List.map_toArray, List.map_cons, List.map_nil]); first | done | rfl | (simp only [List.length_drop, List.length_take]; rfl)) ?_; (with_reducible refine (token_Scan.calls (⟨#[105, 60, 61, 49, 48]⟩ : ByteArray) t418 t419 t420 _ A1.out).mono ?_); rintro e w27 ⟨v421, rfl, ho0, hb⟩; refine ⟨_, rfl, ?_⟩; have n0_ := Aside0.mk (Kd.R_lower ho0 (below_size (by repeat (first | (with_reducible first | exact HB.out | apply below_alloc | apply pw_below_drewN | apply below_drew1) | exact HB.out)))); have n1_ := Aside0.mk (below_step (by repeat (first | (with_reducible first | exact HB.out | apply below_alloc | apply pw_below_drewN | apply below_drew1) | exact HB.out)) hb); clear HB; have HO422 := n0_; have HB := n1_; clear n0_ n1_; (try clear hb); (try clear hb2); (try clear hk); (try clear hi); (try clear ho0)))
      go_ret
      exact ⟨by first | rfl | (simp [errW_none, errW_some] <;> rfl) | (simp [*, errW_none, errW_some] <;> rfl), by repeat (first | (with_reducible first | exact HB.out | apply below_alloc | apply pw_below_drewN | apply below_drew1) | exact HB.out)⟩
  · rw [if_neg c2] at H
    have c2b0 : (t420 == 0) = false := beq_eq_false_iff_ne.mpr c2
    have c2b1 : (t420 != 0) = true := bne_iff_ne.mpr c2
    obtain rfl := Option.some.inj H
    go_enter Tryd.func24, Tryd.ntmps24
    go_wp2_with (first | ((with_reducible refine gate_callee (f := 25) rfl ?_); refine goesL_ (some 5) rfl rfl Tryd.func25 (by kernel_rfl) rfl #[.string (⟨#[105, 60, 61, 49, 48]⟩ : ByteArray)] rfl (by (try simp only [List.map_toArray, List.map_cons, List.map_nil]); first | done | rfl | (simp only [List.length_drop, List.length_take]; rfl)) ?_; (with_reducible refine (token_Scan.calls (⟨#[105, 60, 61, 49, 48]⟩ : ByteArray) t418 t419 t420 _ A1.out).mono ?_); rintro e w28 ⟨v421, rfl, ho0, hb⟩; refine ⟨_, rfl, ?_⟩; have n0_ := Aside0.mk (Kd.R_lower ho0 (below_size (by repeat (first | (with_reducible first | exact HB.out | apply below_alloc | apply pw_below_drewN | apply below_drew1) | exact HB.out)))); have n1_ := Aside0.mk (below_step (by repeat (first | (with_reducible first | exact HB.out | apply below_alloc | apply pw_below_drewN | apply below_drew1) | exact HB.out)) hb); clear HB; have HO422 := n0_; have HB := n1_; clear n0_ n1_; (try clear hb); (try clear hb2); (try clear hk); (try clear hi); (try clear ho0)))
    go_ret
    exact ⟨by first | rfl | (simp [errW_none, errW_some] <;> rfl) | (simp [*, errW_none, errW_some] <;> rfl), by repeat (first | (with_reducible first | exact HB.out | apply below_alloc | apply pw_below_drewN | apply below_drew1) | exact HB.out)⟩

end Go.Proofs.YtcnmejahighkfaaDoor.P
-- Pf26
namespace Go.Proofs.YtcnmejahighkfaaDoor.P
open Go.RowKit Go.Proofs.YtcnmejahighkfaaDoorW.PrintWords Go.Proofs.YtcnmejahighkfaaDoorW.PrintLast Go.Proofs.YtcnmejahighkfaaDoorW.PrintMore
attribute [local go_sem] max2_int min2_int max_two min_two max_three min_three max_four min_four   -- for this text's walks alone
set_option linter.unusedVariables false
set_option linter.unusedSimpArgs false

/-! ### timeboundref02_Same: function 26 -/
def timeboundref02_Same.l0 : Nat → List (S59) → List (S59) → Bool → Int → Option (Bool)
  | 0, _, _, _, _ => none
  | k + 1, x0, x1, x2, x7 => if x7 < (x0.length : Int) then (if 0 ≤ x7 then (if x7 < (x1.length : Int) then (if ((rd_T59 x0 x7).f0) = ((rd_T59 x1 x7).f0) then (if ((rd_T59 x0 x7).f1) = ((rd_T59 x1 x7).f1) then (if ((rd_T59 x0 x7).f3).toList = ((rd_T59 x1 x7).f3).toList then (if x2 = true then (if ((rd_T59 x0 x7).f2) = ((rd_T59 x1 x7).f2) then (timeboundref02_Same.l0 k x0 x1 x2 (wrap64 (x7 + 1))) else (some false)) else (timeboundref02_Same.l0 k x0 x1 x2 (wrap64 (x7 + 1)))) else (some false)) else (some false)) else (some false)) else (none)) else (none)) else (some true)
def timeboundref02_Same.f (k : Nat) (l0 : List (S59)) (l1 : List (S59)) (a2 : Bool) : Option (Bool) := if (l0.length : Int) = (l1.length : Int) then (timeboundref02_Same.l0 k l0 l1 a2 0) else (some false)
theorem timeboundref02_Same.mono_l : ∀ k, (∀ y0 y1 y2 y3, LeO (timeboundref02_Same.l0 k y0 y1 y2 y3) (timeboundref02_Same.l0 (k + 1) y0 y1 y2 y3))
  | 0 => fun _ _ _ _ r h => by simp [timeboundref02_Same.l0] at h
  | k + 1 => by
    have ih0 := timeboundref02_Same.mono_l k
    · intro y0 y1 y2 y3
      unfold timeboundref02_Same.l0
      repeat' first
      | (with_reducible exact ih0 _ _ _ _)
      | (with_reducible exact LeO.refl _)
      | (with_reducible exact LeO.none _)
      | (with_reducible refine LeO.ite ?_ ?_)
      | (with_reducible refine LeO.bind ?_ (fun _ => ?_))
      | exact ih0 _ _ _ _
      | exact LeO.none _
      | refine LeO.ite ?_ ?_
      | refine LeO.bind ?_ (fun _ => ?_)
theorem timeboundref02_Same.mono : ∀ a0 a1 a2 k, LeO (timeboundref02_Same.f k a0 a1 a2) (timeboundref02_Same.f (k + 1) a0 a1 a2) := by
  intro a0 a1 a2 k
  have ih0 := timeboundref02_Same.mono_l k
  unfold timeboundref02_Same.f
  repeat' first
      | (with_reducible exact ih0 _ _ _ _)
      | (with_reducible exact LeO.refl _)
      | (with_reducible exact LeO.none _)
      | (with_reducible refine LeO.ite ?_ ?_)
      | (with_reducible refine LeO.bind ?_ (fun _ => ?_))
      | exact ih0 _ _ _ _
      | exact LeO.none _
      | refine LeO.ite ?_ ?_
      | refine LeO.bind ?_ (fun _ => ?_)
set_option maxHeartbeats 8000000 in
set_option maxRecDepth 100000 in
theorem timeboundref02_Same.calls (k : Nat) (A0 : Option Addr) (c0 : Nat) (l0 : List (S59)) (A1 : Option Addr) (c1 : Nat) (l1 : List (S59)) (a2 : Bool) (r : Bool) (w : World) (hr0 : Kd.C k59 w A0 l0.length l0) (hc0 : l0.length ≤ c0) (hr1 : Kd.C k59 w A1 l1.length l1) (hc1 : l1.length ≤ c1) (h : timeboundref02_Same.f k l0 l1 a2 = some r) :
    Calls Tryd.prog 26 #[.slice A0 l0.length c0, .slice A1 l1.length c1, .bool a2] w fun e w' => e = .returned (.bool r) ∧ Drawn0 w w' := by
  have HR0 := Aside0.mk hr0
  have HC0 := Aside0.mk hc0
  clear hr0 hc0
  have HR1 := Aside0.mk hr1
  have HC1 := Aside0.mk hc1
  clear hr1 hc1
  have H : (if (l0.length : Int) = (l1.length : Int) then (timeboundref02_Same.l0 k l0 l1 a2 0) else (some false)) = some r := h
  clear h
  by_cases c4 : (l0.length : Int) = (l1.length : Int)
  · rw [if_pos c4] at H
    have c4b0 : ((l0.length : Int) == (l1.length : Int)) = true := beq_iff_eq.mpr c4
    have c4b1 : ((l0.length : Int) != (l1.length : Int)) = false := bne_eq_false_iff_eq.mpr c4
    have c4b2 : (l0.length == l1.length) = true := by first | simpa using c4 | (simp at c4 ⊢; omega)
    clear c4
    have H' := Aside0.mk H
    clear H
    go_enter Tryd.func26, Tryd.ntmps26
    go_wp2
    repeat (go_quiet (fail); try go_wp2)
    go_loopg [7] k (fun kq v7 w' => ∃ (x7_1 : Int), v7 = .int .i64 x7_1 ∧ Aside0 (timeboundref02_Same.l0 kq l0 l1 a2 x7_1 = some r) ∧ Aside0 (kq ≤ k) ∧ Drawn0 w w')
    case atStart => exact ⟨(0), (by first | rfl | (simp; done) | (simp [*]; done)), H', ⟨Nat.le_refl _⟩, by repeat (first | exact Drawn0.refl _ | apply Drawn0.step)⟩
    case round =>
      clear H'
      try clear c1
      try clear c2
      try clear p2
      try clear c4
      try clear c4b0
      try clear c4b1
      try clear c4b2
      obtain ⟨x7_1, rfl, HA, HK1, ⟨m1, rfl⟩⟩ := hrel
      cases gk with
      | zero => exact absurd HA.out (by simp [timeboundref02_Same.l0])
      | succ k1 =>
        have H := HA.out
        clear HA
        simp only [timeboundref02_Same.l0] at H
        by_cases c5 : x7_1 < (l0.length : Int)
        · rw [if_pos c5] at H
          have c5b0 : decide (x7_1 < (l0.length : Int)) = true := decide_eq_true c5
          clear c5
          by_cases c6 : 0 ≤ x7_1
          · rw [if_pos c6] at H
            have c6b0 : decide (0 ≤ x7_1) = true := decide_eq_true c6
            clear c6
            by_cases c7 : x7_1 < (l1.length : Int)
            · rw [if_pos c7] at H
              have c7b0 : decide (x7_1 < (l1.length : Int)) = true := decide_eq_true c7
              clear c7
              by_cases c8 : ((rd_T59 l0 x7_1).f0) = ((rd_T59 l1 x7_1).f0)
              · rw [if_pos c8] at H
                have c8b0 : (((rd_T59 l0 x7_1).f0) == ((rd_T59 l1 x7_1).f0)) = true := beq_iff_eq.mpr c8
                have c8b1 : (((rd_T59 l0 x7_1).f0) != ((rd_T59 l1 x7_1).f0)) = false := bne_eq_false_iff_eq.mpr c8
                clear c8
                by_cases c9 : ((rd_T59 l0 x7_1).f1) = ((rd_T59 l1 x7_1).f1)
                · rw [if_pos c9] at H
                  have c9b0 : (((rd_T59 l0 x7_1).f1) == ((rd_T59 l1 x7_1).f1)) = true := beq_iff_eq.mpr c9
                  have c9b1 : (((rd_T59 l0 x7_1).f1) != ((rd_T59 l1 x7_1).f1)) = false := bne_eq_false_iff_eq.mpr c9
                  clear c9
                  by_cases c10 : ((rd_T59 l0 x7_1).f3).toList = ((rd_T59 l1 x7_1).f3).toList
                  · rw [if_pos c10] at H
                    have c10b0 : (((rd_T59 l0 x7_1).f3).toList == ((rd_T59 l1 x7_1).f3).toList) = true := beq_iff_eq.mpr c10
                    have c10b1 : (((rd_T59 l0 x7_1).f3).toList != ((rd_T59 l1 x7_1).f3).toList) = false := bne_eq_false_iff_eq.mpr c10
                    clear c10
                    by_cases c11 : a2 = true
                    · subst c11
                      have H1 : (if ((rd_T59 l0 x7_1).f2) = ((rd_T59 l1 x7_1).f2) then (timeboundref02_Same.l0 k1 l0 l1 true (wrap64 (x7_1 + 1))) else (some false)) = some r := by rw [if_pos rfl] at H; exact H
                      clear H
                      have H := H1
                      clear H1
                      by_cases c12 : ((rd_T59 l0 x7_1).f2) = ((rd_T59 l1 x7_1).f2)
                      · rw [if_pos c12] at H
                        have c12b0 : (((rd_T59 l0 x7_1).f2) == ((rd_T59 l1 x7_1).f2)) = true := beq_iff_eq.mpr c12
                        have c12b1 : (((rd_T59 l0 x7_1).f2) != ((rd_T59 l1 x7_1).f2)) = false := bne_eq_false_iff_eq.mpr c12
                        clear c12
                        have H' := Aside0.mk H
                        clear H
                        have p429 : 0 ≤ (x7_1 : Int) := of_decide_eq_true (by first | (with_reducible assumption) | assumption)
                        have q429 : x7_1 < (l0.length : Int) := of_decide_eq_true (by first | (with_reducible assumption) | assumption)
                        obtain ⟨ad429, e429, hx429_0, hx429_1, hx429_2, hx429_3⟩ := at_T59 HR0.out x7_1 p429 q429
                        cases e429
                        replace p429 := eq_true p429
                        replace q429 := eq_true q429
                        have p430 : 0 ≤ (x7_1 : Int) := of_decide_eq_true (by first | (with_reducible assumption) | assumption)
                        have q430 : x7_1 < (l1.length : Int) := of_decide_eq_true (by first | (with_reducible assumption) | assumption)
                        obtain ⟨ad430, e430, hx430_0, hx430_1, hx430_2, hx430_3⟩ := at_T59 HR1.out x7_1 p430 q430
                        cases e430
                        replace p430 := eq_true p430
                        replace q430 := eq_true q430
                        have p431 : 0 ≤ (x7_1 : Int) := of_decide_eq_true (by first | (with_reducible assumption) | assumption)
                        have q431 : x7_1 < (l0.length : Int) := of_decide_eq_true (by first | (with_reducible assumption) | assumption)
                        obtain ⟨ad431, e431, hx431_0, hx431_1, hx431_2, hx431_3⟩ := at_T59 HR0.out x7_1 p431 q431
                        obtain rfl : ad429 = ad431 := (by injection e431)
                        replace p431 := eq_true p431
                        replace q431 := eq_true q431
                        have p432 : 0 ≤ (x7_1 : Int) := of_decide_eq_true (by first | (with_reducible assumption) | assumption)
                        have q432 : x7_1 < (l1.length : Int) := of_decide_eq_true (by first | (with_reducible assumption) | assumption)
                        obtain ⟨ad432, e432, hx432_0, hx432_1, hx432_2, hx432_3⟩ := at_T59 HR1.out x7_1 p432 q432
                        obtain rfl : ad430 = ad432 := (by injection e432)
                        replace p432 := eq_true p432
                        replace q432 := eq_true q432
                        have p433 : 0 ≤ (x7_1 : Int) := of_decide_eq_true (by first | (with_reducible assumption) | assumption)
                        have q433 : x7_1 < (l0.length : Int) := of_decide_eq_true (by first | (with_reducible assumption) | assumption)
                        obtain ⟨ad433, e433, hx433_0, hx433_1, hx433_2, hx433_3⟩ := at_T59 HR0.out x7_1 p433 q433
                        obtain rfl : ad429 = ad433 := (by injection e433)
                        replace p433 := eq_true p433
                        replace q433 := eq_true q433
                        have p434 : 0 ≤ (x7_1 : Int) := of_decide_eq_true (by first | (with_reducible assumption) | assumption)
                        have q434 : x7_1 < (l1.length : Int) := of_decide_eq_true (by first | (with_reducible assumption) | assumption)
                        obtain ⟨ad434, e434, hx434_0, hx434_1, hx434_2, hx434_3⟩ := at_T59 HR1.out x7_1 p434 q434
                        obtain rfl : ad430 = ad434 := (by injection e434)
                        replace p434 := eq_true p434
                        replace q434 := eq_true q434
                        have p435 : 0 ≤ (x7_1 : Int) := of_decide_eq_true (by first | (with_reducible assumption) | assumption)
                        have q435 : x7_1 < (l0.length : Int) := of_decide_eq_true (by first | (with_reducible assumption) | assumption)
                        obtain ⟨ad435, e435, hx435_0, hx435_1, hx435_2, hx435_3⟩ := at_T59 HR0.out x7_1 p435 q435
                        obtain rfl : ad429 = ad435 := (by injection e435)
                        replace p435 := eq_true p435
                        replace q435 := eq_true q435
                        have p436 : 0 ≤ (x7_1 : Int) := of_decide_eq_true (by first | (with_reducible assumption) | assumption)
                        have q436 : x7_1 < (l1.length : Int) := of_decide_eq_true (by first | (with_reducible assumption) | assumption)
                        obtain ⟨ad436, e436, hx436_0, hx436_1, hx436_2, hx436_3⟩ := at_T59 HR1.out x7_1 p436 q436
                        obtain rfl : ad430 = ad436 := (by injection e436)
                        replace p436 := eq_true p436
                        replace q436 := eq_true q436
                        go_wp2
                        repeat (go_quiet (fail); try go_wp2)
                        go_roundg k1
                        case measure => have := HK1.out; omega
                        case rel => exact ⟨(wrap64 (x7_1 + 1)), (by first | rfl | (simp; done) | (simp [*]; done)), H', ⟨by have := HK1.out; omega⟩, by repeat (first | exact Drawn0.refl _ | apply Drawn0.step)⟩
                      · rw [if_neg c12] at H
                        have c12b0 : (((rd_T59 l0 x7_1).f2) == ((rd_T59 l1 x7_1).f2)) = false := beq_eq_false_iff_ne.mpr c12
                        have c12b1 : (((rd_T59 l0 x7_1).f2) != ((rd_T59 l1 x7_1).f2)) = true := bne_iff_ne.mpr c12
                        obtain rfl := Option.some.inj H
                        have p429 : 0 ≤ (x7_1 : Int) := of_decide_eq_true (by first | (with_reducible assumption) | assumption)
                        have q429 : x7_1 < (l0.length : Int) := of_decide_eq_true (by first | (with_reducible assumption) | assumption)
                        obtain ⟨ad429, e429, hx429_0, hx429_1, hx429_2, hx429_3⟩ := at_T59 HR0.out x7_1 p429 q429
                        cases e429
                        replace p429 := eq_true p429
                        replace q429 := eq_true q429
                        have p430 : 0 ≤ (x7_1 : Int) := of_decide_eq_true (by first | (with_reducible assumption) | assumption)
                        have q430 : x7_1 < (l1.length : Int) := of_decide_eq_true (by first | (with_reducible assumption) | assumption)
                        obtain ⟨ad430, e430, hx430_0, hx430_1, hx430_2, hx430_3⟩ := at_T59 HR1.out x7_1 p430 q430
                        cases e430
                        replace p430 := eq_true p430
                        replace q430 := eq_true q430
                        have p431 : 0 ≤ (x7_1 : Int) := of_decide_eq_true (by first | (with_reducible assumption) | assumption)
                        have q431 : x7_1 < (l0.length : Int) := of_decide_eq_true (by first | (with_reducible assumption) | assumption)
                        obtain ⟨ad431, e431, hx431_0, hx431_1, hx431_2, hx431_3⟩ := at_T59 HR0.out x7_1 p431 q431
                        obtain rfl : ad429 = ad431 := (by injection e431)
                        replace p431 := eq_true p431
                        replace q431 := eq_true q431
                        have p432 : 0 ≤ (x7_1 : Int) := of_decide_eq_true (by first | (with_reducible assumption) | assumption)
                        have q432 : x7_1 < (l1.length : Int) := of_decide_eq_true (by first | (with_reducible assumption) | assumption)
                        obtain ⟨ad432, e432, hx432_0, hx432_1, hx432_2, hx432_3⟩ := at_T59 HR1.out x7_1 p432 q432
                        obtain rfl : ad430 = ad432 := (by injection e432)
                        replace p432 := eq_true p432
                        replace q432 := eq_true q432
                        have p433 : 0 ≤ (x7_1 : Int) := of_decide_eq_true (by first | (with_reducible assumption) | assumption)
                        have q433 : x7_1 < (l0.length : Int) := of_decide_eq_true (by first | (with_reducible assumption) | assumption)
                        obtain ⟨ad433, e433, hx433_0, hx433_1, hx433_2, hx433_3⟩ := at_T59 HR0.out x7_1 p433 q433
                        obtain rfl : ad429 = ad433 := (by injection e433)
                        replace p433 := eq_true p433
                        replace q433 := eq_true q433
                        have p434 : 0 ≤ (x7_1 : Int) := of_decide_eq_true (by first | (with_reducible assumption) | assumption)
                        have q434 : x7_1 < (l1.length : Int) := of_decide_eq_true (by first | (with_reducible assumption) | assumption)
                        obtain ⟨ad434, e434, hx434_0, hx434_1, hx434_2, hx434_3⟩ := at_T59 HR1.out x7_1 p434 q434
                        obtain rfl : ad430 = ad434 := (by injection e434)
                        replace p434 := eq_true p434
                        replace q434 := eq_true q434
                        have p435 : 0 ≤ (x7_1 : Int) := of_decide_eq_true (by first | (with_reducible assumption) | assumption)
                        have q435 : x7_1 < (l0.length : Int) := of_decide_eq_true (by first | (with_reducible assumption) | assumption)
                        obtain ⟨ad435, e435, hx435_0, hx435_1, hx435_2, hx435_3⟩ := at_T59 HR0.out x7_1 p435 q435
                        obtain rfl : ad429 = ad435 := (by injection e435)
                        replace p435 := eq_true p435
                        replace q435 := eq_true q435
                        have p436 : 0 ≤ (x7_1 : Int) := of_decide_eq_true (by first | (with_reducible assumption) | assumption)
                        have q436 : x7_1 < (l1.length : Int) := of_decide_eq_true (by first | (with_reducible assumption) | assumption)
                        obtain ⟨ad436, e436, hx436_0, hx436_1, hx436_2, hx436_3⟩ := at_T59 HR1.out x7_1 p436 q436
                        obtain rfl : ad430 = ad436 := (by injection e436)
                        replace p436 := eq_true p436
                        replace q436 := eq_true q436
                        go_wp2
                        repeat (go_quiet (fail); try go_wp2)
                        go_ret
                        exact ⟨by first | rfl | (simp; done) | (simp [*]; done), by repeat (first | exact Drawn0.refl _ | apply Drawn0.step)⟩
                    · replace c11 := Bool.eq_false_iff.mpr c11
                      subst c11
                      have H1 : (timeboundref02_Same.l0 k1 l0 l1 false (wrap64 (x7_1 + 1))) = some r := by rw [if_neg (show ¬ (false = true) by decide)] at H; exact H
                      clear H
                      have H := H1
                      clear H1
                      have H' := Aside0.mk H
                      clear H
                      have p429 : 0 ≤ (x7_1 : Int) := of_decide_eq_true (by first | (with_reducible assumption) | assumption)
                      have q429 : x7_1 < (l0.length : Int) := of_decide_eq_true (by first | (with_reducible assumption) | assumption)
                      obtain ⟨ad429, e429, hx429_0, hx429_1, hx429_2, hx429_3⟩ := at_T59 HR0.out x7_1 p429 q429
                      cases e429
                      replace p429 := eq_true p429
                      replace q429 := eq_true q429
                      have p430 : 0 ≤ (x7_1 : Int) := of_decide_eq_true (by first | (with_reducible assumption) | assumption)
                      have q430 : x7_1 < (l1.length : Int) := of_decide_eq_true (by first | (with_reducible assumption) | assumption)
                      obtain ⟨ad430, e430, hx430_0, hx430_1, hx430_2, hx430_3⟩ := at_T59 HR1.out x7_1 p430 q430
                      cases e430
                      replace p430 := eq_true p430
                      replace q430 := eq_true q430
                      have p431 : 0 ≤ (x7_1 : Int) := of_decide_eq_true (by first | (with_reducible assumption) | assumption)
                      have q431 : x7_1 < (l0.length : Int) := of_decide_eq_true (by first | (with_reducible assumption) | assumption)
                      obtain ⟨ad431, e431, hx431_0, hx431_1, hx431_2, hx431_3⟩ := at_T59 HR0.out x7_1 p431 q431
                      obtain rfl : ad429 = ad431 := (by injection e431)
                      replace p431 := eq_true p431
                      replace q431 := eq_true q431
                      have p432 : 0 ≤ (x7_1 : Int) := of_decide_eq_true (by first | (with_reducible assumption) | assumption)
                      have q432 : x7_1 < (l1.length : Int) := of_decide_eq_true (by first | (with_reducible assumption) | assumption)
                      obtain ⟨ad432, e432, hx432_0, hx432_1, hx432_2, hx432_3⟩ := at_T59 HR1.out x7_1 p432 q432
                      obtain rfl : ad430 = ad432 := (by injection e432)
                      replace p432 := eq_true p432
                      replace q432 := eq_true q432
                      have p433 : 0 ≤ (x7_1 : Int) := of_decide_eq_true (by first | (with_reducible assumption) | assumption)
                      have q433 : x7_1 < (l0.length : Int) := of_decide_eq_true (by first | (with_reducible assumption) | assumption)
                      obtain ⟨ad433, e433, hx433_0, hx433_1, hx433_2, hx433_3⟩ := at_T59 HR0.out x7_1 p433 q433
                      obtain rfl : ad429 = ad433 := (by injection e433)
                      replace p433 := eq_true p433
                      replace q433 := eq_true q433
                      have p434 : 0 ≤ (x7_1 : Int) := of_decide_eq_true (by first | (with_reducible assumption) | assumption)
                      have q434 : x7_1 < (l1.length : Int) := of_decide_eq_true (by first | (with_reducible assumption) | assumption)
                      obtain ⟨ad434, e434, hx434_0, hx434_1, hx434_2, hx434_3⟩ := at_T59 HR1.out x7_1 p434 q434
                      obtain rfl : ad430 = ad434 := (by injection e434)
                      replace p434 := eq_true p434
                      replace q434 := eq_true q434
                      go_wp2
                      repeat (go_quiet (fail); try go_wp2)
                      go_roundg k1
                      case measure => have := HK1.out; omega
                      case rel => exact ⟨(wrap64 (x7_1 + 1)), (by first | rfl | (simp; done) | (simp [*]; done)), H', ⟨by have := HK1.out; omega⟩, by repeat (first | exact Drawn0.refl _ | apply Drawn0.step)⟩
                  · rw [if_neg c10] at H
                    have c10b0 : (((rd_T59 l0 x7_1).f3).toList == ((rd_T59 l1 x7_1).f3).toList) = false := beq_eq_false_iff_ne.mpr c10
                    have c10b1 : (((rd_T59 l0 x7_1).f3).toList != ((rd_T59 l1 x7_1).f3).toList) = true := bne_iff_ne.mpr c10
                    obtain rfl := Option.some.inj H
                    have p429 : 0 ≤ (x7_1 : Int) := of_decide_eq_true (by first | (with_reducible assumption) | assumption)
                    have q429 : x7_1 < (l0.length : Int) := of_decide_eq_true (by first | (with_reducible assumption) | assumption)
                    obtain ⟨ad429, e429, hx429_0, hx429_1, hx429_2, hx429_3⟩ := at_T59 HR0.out x7_1 p429 q429
                    cases e429
                    replace p429 := eq_true p429
                    replace q429 := eq_true q429
                    have p430 : 0 ≤ (x7_1 : Int) := of_decide_eq_true (by first | (with_reducible assumption) | assumption)
                    have q430 : x7_1 < (l1.length : Int) := of_decide_eq_true (by first | (with_reducible assumption) | assumption)
                    obtain ⟨ad430, e430, hx430_0, hx430_1, hx430_2, hx430_3⟩ := at_T59 HR1.out x7_1 p430 q430
                    cases e430
                    replace p430 := eq_true p430
                    replace q430 := eq_true q430
                    have p431 : 0 ≤ (x7_1 : Int) := of_decide_eq_true (by first | (with_reducible assumption) | assumption)
                    have q431 : x7_1 < (l0.length : Int) := of_decide_eq_true (by first | (with_reducible assumption) | assumption)
                    obtain ⟨ad431, e431, hx431_0, hx431_1, hx431_2, hx431_3⟩ := at_T59 HR0.out x7_1 p431 q431
                    obtain rfl : ad429 = ad431 := (by injection e431)
                    replace p431 := eq_true p431
                    replace q431 := eq_true q431
                    have p432 : 0 ≤ (x7_1 : Int) := of_decide_eq_true (by first | (with_reducible assumption) | assumption)
                    have q432 : x7_1 < (l1.length : Int) := of_decide_eq_true (by first | (with_reducible assumption) | assumption)
                    obtain ⟨ad432, e432, hx432_0, hx432_1, hx432_2, hx432_3⟩ := at_T59 HR1.out x7_1 p432 q432
                    obtain rfl : ad430 = ad432 := (by injection e432)
                    replace p432 := eq_true p432
                    replace q432 := eq_true q432
                    have p433 : 0 ≤ (x7_1 : Int) := of_decide_eq_true (by first | (with_reducible assumption) | assumption)
                    have q433 : x7_1 < (l0.length : Int) := of_decide_eq_true (by first | (with_reducible assumption) | assumption)
                    obtain ⟨ad433, e433, hx433_0, hx433_1, hx433_2, hx433_3⟩ := at_T59 HR0.out x7_1 p433 q433
                    obtain rfl : ad429 = ad433 := (by injection e433)
                    replace p433 := eq_true p433
                    replace q433 := eq_true q433
                    have p434 : 0 ≤ (x7_1 : Int) := of_decide_eq_true (by first | (with_reducible assumption) | assumption)
                    have q434 : x7_1 < (l1.length : Int) := of_decide_eq_true (by first | (with_reducible assumption) | assumption)
                    obtain ⟨ad434, e434, hx434_0, hx434_1, hx434_2, hx434_3⟩ := at_T59 HR1.out x7_1 p434 q434
                    obtain rfl : ad430 = ad434 := (by injection e434)
                    replace p434 := eq_true p434
                    replace q434 := eq_true q434
                    go_wp2
                    repeat (go_quiet (fail); try go_wp2)
                    go_ret
                    exact ⟨by first | rfl | (simp; done) | (simp [*]; done), by repeat (first | exact Drawn0.refl _ | apply Drawn0.step)⟩
                · rw [if_neg c9] at H
                  have c9b0 : (((rd_T59 l0 x7_1).f1) == ((rd_T59 l1 x7_1).f1)) = false := beq_eq_false_iff_ne.mpr c9
                  have c9b1 : (((rd_T59 l0 x7_1).f1) != ((rd_T59 l1 x7_1).f1)) = true := bne_iff_ne.mpr c9
                  obtain rfl := Option.some.inj H
                  have p429 : 0 ≤ (x7_1 : Int) := of_decide_eq_true (by first | (with_reducible assumption) | assumption)
                  have q429 : x7_1 < (l0.length : Int) := of_decide_eq_true (by first | (with_reducible assumption) | assumption)
                  obtain ⟨ad429, e429, hx429_0, hx429_1, hx429_2, hx429_3⟩ := at_T59 HR0.out x7_1 p429 q429
                  cases e429
                  replace p429 := eq_true p429
                  replace q429 := eq_true q429
                  have p430 : 0 ≤ (x7_1 : Int) := of_decide_eq_true (by first | (with_reducible assumption) | assumption)
                  have q430 : x7_1 < (l1.length : Int) := of_decide_eq_true (by first | (with_reducible assumption) | assumption)
                  obtain ⟨ad430, e430, hx430_0, hx430_1, hx430_2, hx430_3⟩ := at_T59 HR1.out x7_1 p430 q430
                  cases e430
                  replace p430 := eq_true p430
                  replace q430 := eq_true q430
                  have p431 : 0 ≤ (x7_1 : Int) := of_decide_eq_true (by first | (with_reducible assumption) | assumption)
                  have q431 : x7_1 < (l0.length : Int) := of_decide_eq_true (by first | (with_reducible assumption) | assumption)
                  obtain ⟨ad431, e431, hx431_0, hx431_1, hx431_2, hx431_3⟩ := at_T59 HR0.out x7_1 p431 q431
                  obtain rfl : ad429 = ad431 := (by injection e431)
                  replace p431 := eq_true p431
                  replace q431 := eq_true q431
                  have p432 : 0 ≤ (x7_1 : Int) := of_decide_eq_true (by first | (with_reducible assumption) | assumption)
                  have q432 : x7_1 < (l1.length : Int) := of_decide_eq_true (by first | (with_reducible assumption) | assumption)
                  obtain ⟨ad432, e432, hx432_0, hx432_1, hx432_2, hx432_3⟩ := at_T59 HR1.out x7_1 p432 q432
                  obtain rfl : ad430 = ad432 := (by injection e432)
                  replace p432 := eq_true p432
                  replace q432 := eq_true q432
                  go_wp2
                  repeat (go_quiet (fail); try go_wp2)
                  go_ret
                  exact ⟨by first | rfl | (simp; done) | (simp [*]; done), by repeat (first | exact Drawn0.refl _ | apply Drawn0.step)⟩
              · rw [if_neg c8] at H
                have c8b0 : (((rd_T59 l0 x7_1).f0) == ((rd_T59 l1 x7_1).f0)) = false := beq_eq_false_iff_ne.mpr c8
                have c8b1 : (((rd_T59 l0 x7_1).f0) != ((rd_T59 l1 x7_1).f0)) = true := bne_iff_ne.mpr c8
                obtain rfl := Option.some.inj H
                have p429 : 0 ≤ (x7_1 : Int) := of_decide_eq_true (by first | (with_reducible assumption) | assumption)
                have q429 : x7_1 < (l0.length : Int) := of_decide_eq_true (by first | (with_reducible assumption) | assumption)
                obtain ⟨ad429, e429, hx429_0, hx429_1, hx429_2, hx429_3⟩ := at_T59 HR0.out x7_1 p429 q429
                cases e429
                replace p429 := eq_true p429
                replace q429 := eq_true q429
                have p430 : 0 ≤ (x7_1 : Int) := of_decide_eq_true (by first | (with_reducible assumption) | assumption)
                have q430 : x7_1 < (l1.length : Int) := of_decide_eq_true (by first | (with_reducible assumption) | assumption)
                obtain ⟨ad430, e430, hx430_0, hx430_1, hx430_2, hx430_3⟩ := at_T59 HR1.out x7_1 p430 q430
                cases e430
                replace p430 := eq_true p430
                replace q430 := eq_true q430
                go_wp2
                repeat (go_quiet (fail); try go_wp2)
                go_ret
                exact ⟨by first | rfl | (simp; done) | (simp [*]; done), by repeat (first | exact Drawn0.refl _ | apply Drawn0.step)⟩
            · rw [if_neg c7] at H
              exact absurd H (by simp)
          · rw [if_neg c6] at H
            exact absurd H (by simp)
        · rw [if_neg c5] at H
          have c5b0 : decide (x7_1 < (l0.length : Int)) = false := decide_eq_false c5
          clear c5
          obtain rfl := Option.some.inj H
          go_wp2
          repeat (go_quiet (fail); try go_wp2)
          go_ret
          exact ⟨by first | rfl | (simp; done) | (simp [*]; done), by repeat (first | exact Drawn0.refl _ | apply Drawn0.step)⟩
  · rw [if_neg c4] at H
    have c4b0 : ((l0.length : Int) == (l1.length : Int)) = false := beq_eq_false_iff_ne.mpr c4
    have c4b1 : ((l0.length : Int) != (l1.length : Int)) = true := bne_iff_ne.mpr c4
    have c4b2 : (l0.length == l1.length) = false := by first | simpa using c4 | (simp at c4 ⊢; omega)
    obtain rfl := Option.some.inj H
    go_enter Tryd.func26, Tryd.ntmps26
    go_wp2
    repeat (go_quiet (fail); try go_wp2)
    go_ret
    exact ⟨by first | rfl | (simp; done) | (simp [*]; done), by repeat (first | exact Drawn0.refl _ | apply Drawn0.step)⟩

end Go.Proofs.YtcnmejahighkfaaDoor.P
-- Pf31
namespace Go.Proofs.YtcnmejahighkfaaDoor.P
open Go.RowKit Go.Proofs.YtcnmejahighkfaaDoorW.PrintWords Go.Proofs.YtcnmejahighkfaaDoorW.PrintLast Go.Proofs.YtcnmejahighkfaaDoorW.PrintMore
attribute [local go_sem] max2_int min2_int max_two min_two max_three min_three max_four min_four   -- for this text's walks alone
set_option linter.unusedVariables false
set_option linter.unusedSimpArgs false

/-! ### timeboundlaw02_pieces: function 31 -/
def timeboundlaw02_pieces.l0 : Nat → List Int → List ByteArray → ByteArray → Int → Option (ByteArray)
  | 0, _, _, _, _ => none
  | k + 1, x0, x3, x4, x5 => if x5 < (x0.length : Int) then (if x5 < 60 then (if 0 ≤ x5 then (if (x3.length : Int) = 0 then (none) else (if 0 ≤ (Int.tmod (wrap64 (rd x0 x5)) (x3.length : Int)) then (if (Int.tmod (wrap64 (rd x0 x5)) (x3.length : Int)) < (x3.length : Int) then (if x4.size + (rdOf ByteArray.empty x3 (Int.tmod (wrap64 (rd x0 x5)) (x3.length : Int))).size ≤ 9223372036854775807 then (timeboundlaw02_pieces.l0 k x0 x3 (x4 ++ (rdOf ByteArray.empty x3 (Int.tmod (wrap64 (rd x0 x5)) (x3.length : Int)))) (wrap64 (x5 + 1))) else (none)) else (none)) else (none))) else (none)) else (some x4)) else (some x4)
def timeboundlaw02_pieces.f (k : Nat) (l0 : List Int) : Option (ByteArray) := timeboundlaw02_pieces.l0 k l0 (([(⟨#[97]⟩ : ByteArray), (⟨#[116, 97, 115, 107]⟩ : ByteArray), (⟨#[120, 57]⟩ : ByteArray), (⟨#[49, 50]⟩ : ByteArray), (⟨#[48]⟩ : ByteArray), (⟨#[48, 48, 55]⟩ : ByteArray), (⟨#[50, 49, 52, 55, 52, 56, 51, 54, 52, 55]⟩ : ByteArray), (⟨#[50, 49, 52, 55, 52, 56, 51, 54, 52, 56]⟩ : ByteArray), (⟨#[60]⟩ : ByteArray), (⟨#[60, 60]⟩ : ByteArray), (⟨#[61]⟩ : ByteArray), (⟨#[61, 61]⟩ : ByteArray), (⟨#[33]⟩ : ByteArray), (⟨#[33, 61]⟩ : ByteArray), (⟨#[62]⟩ : ByteArray), (⟨#[62, 62]⟩ : ByteArray), (⟨#[43]⟩ : ByteArray), (⟨#[45]⟩ : ByteArray), (⟨#[42]⟩ : ByteArray), (⟨#[47]⟩ : ByteArray), (⟨#[37]⟩ : ByteArray), (⟨#[38]⟩ : ByteArray), (⟨#[124]⟩ : ByteArray), (⟨#[94]⟩ : ByteArray), (⟨#[40]⟩ : ByteArray), (⟨#[41]⟩ : ByteArray), (⟨#[91]⟩ : ByteArray), (⟨#[93]⟩ : ByteArray), (⟨#[123]⟩ : ByteArray), (⟨#[125]⟩ : ByteArray), (⟨#[32]⟩ : ByteArray), (⟨#[32, 32]⟩ : ByteArray), (⟨#[9]⟩ : ByteArray), (⟨#[10]⟩ : ByteArray), (⟨#[65]⟩ : ByteArray), (⟨#[95]⟩ : ByteArray), (⟨#[97, 98, 99, 100, 101, 102, 103, 104, 105, 106, 107, 108]⟩ : ByteArray), (⟨#[109]⟩ : ByteArray), (⟨#[13]⟩ : ByteArray), (⟨#[195, 169]⟩ : ByteArray)] : List ByteArray)) (⟨#[]⟩ : ByteArray) 0
theorem timeboundlaw02_pieces.mono_l : ∀ k, (∀ y0 y1 y2 y3, LeO (timeboundlaw02_pieces.l0 k y0 y1 y2 y3) (timeboundlaw02_pieces.l0 (k + 1) y0 y1 y2 y3))
  | 0 => fun _ _ _ _ r h => by simp [timeboundlaw02_pieces.l0] at h
  | k + 1 => by
    have ih0 := timeboundlaw02_pieces.mono_l k
    · intro y0 y1 y2 y3
      unfold timeboundlaw02_pieces.l0
      repeat' first
      | (with_reducible exact ih0 _ _ _ _)
      | (with_reducible exact LeO.refl _)
      | (with_reducible exact LeO.none _)
      | (with_reducible refine LeO.ite ?_ ?_)
      | (with_reducible refine LeO.bind ?_ (fun _ => ?_))
      | exact ih0 _ _ _ _
      | exact LeO.none _
      | refine LeO.ite ?_ ?_
      | refine LeO.bind ?_ (fun _ => ?_)
theorem timeboundlaw02_pieces.mono : ∀ a0 k, LeO (timeboundlaw02_pieces.f k a0) (timeboundlaw02_pieces.f (k + 1) a0) := by
  intro a0 k
  have ih0 := timeboundlaw02_pieces.mono_l k
  unfold timeboundlaw02_pieces.f
  repeat' first
      | (with_reducible exact ih0 _ _ _ _)
      | (with_reducible exact LeO.refl _)
      | (with_reducible exact LeO.none _)
      | (with_reducible refine LeO.ite ?_ ?_)
      | (with_reducible refine LeO.bind ?_ (fun _ => ?_))
      | exact ih0 _ _ _ _
      | exact LeO.none _
      | refine LeO.ite ?_ ?_
      | refine LeO.bind ?_ (fun _ => ?_)
set_option maxHeartbeats 8000000 in
set_option maxRecDepth 100000 in
theorem timeboundlaw02_pieces.calls (k : Nat) (A0 : Option Addr) (c0 : Nat) (l0 : List Int) (r : ByteArray) (w : World) (hr0 : Kd.C (Kd.int .u8) w A0 l0.length l0) (hc0 : l0.length ≤ c0) (h : timeboundlaw02_pieces.f k l0 = some r) :
    Calls Tryd.prog 31 #[.slice A0 l0.length c0] w fun e w' => e = .returned (.string r) ∧ Below w.heap.size w w' := by
  have HR0 := Aside0.mk hr0
  have HC0 := Aside0.mk hc0
  clear hr0 hc0
  have HB := Aside0.mk (Below.refl w.heap.size w)
  have H : (timeboundlaw02_pieces.l0 k l0 (([(⟨#[97]⟩ : ByteArray), (⟨#[116, 97, 115, 107]⟩ : ByteArray), (⟨#[120, 57]⟩ : ByteArray), (⟨#[49, 50]⟩ : ByteArray), (⟨#[48]⟩ : ByteArray), (⟨#[48, 48, 55]⟩ : ByteArray), (⟨#[50, 49, 52, 55, 52, 56, 51, 54, 52, 55]⟩ : ByteArray), (⟨#[50, 49, 52, 55, 52, 56, 51, 54, 52, 56]⟩ : ByteArray), (⟨#[60]⟩ : ByteArray), (⟨#[60, 60]⟩ : ByteArray), (⟨#[61]⟩ : ByteArray), (⟨#[61, 61]⟩ : ByteArray), (⟨#[33]⟩ : ByteArray), (⟨#[33, 61]⟩ : ByteArray), (⟨#[62]⟩ : ByteArray), (⟨#[62, 62]⟩ : ByteArray), (⟨#[43]⟩ : ByteArray), (⟨#[45]⟩ : ByteArray), (⟨#[42]⟩ : ByteArray), (⟨#[47]⟩ : ByteArray), (⟨#[37]⟩ : ByteArray), (⟨#[38]⟩ : ByteArray), (⟨#[124]⟩ : ByteArray), (⟨#[94]⟩ : ByteArray), (⟨#[40]⟩ : ByteArray), (⟨#[41]⟩ : ByteArray), (⟨#[91]⟩ : ByteArray), (⟨#[93]⟩ : ByteArray), (⟨#[123]⟩ : ByteArray), (⟨#[125]⟩ : ByteArray), (⟨#[32]⟩ : ByteArray), (⟨#[32, 32]⟩ : ByteArray), (⟨#[9]⟩ : ByteArray), (⟨#[10]⟩ : ByteArray), (⟨#[65]⟩ : ByteArray), (⟨#[95]⟩ : ByteArray), (⟨#[97, 98, 99, 100, 101, 102, 103, 104, 105, 106, 107, 108]⟩ : ByteArray), (⟨#[109]⟩ : ByteArray), (⟨#[13]⟩ : ByteArray), (⟨#[195, 169]⟩ : ByteArray)] : List ByteArray)) (⟨#[]⟩ : ByteArray) 0) = some r := h
  clear h
  obtain ⟨y459, hy459⟩ : ∃ y_ : List ByteArray, y_ = (([(⟨#[97]⟩ : ByteArray), (⟨#[116, 97, 115, 107]⟩ : ByteArray), (⟨#[120, 57]⟩ : ByteArray), (⟨#[49, 50]⟩ : ByteArray), (⟨#[48]⟩ : ByteArray), (⟨#[48, 48, 55]⟩ : ByteArray), (⟨#[50, 49, 52, 55, 52, 56, 51, 54, 52, 55]⟩ : ByteArray), (⟨#[50, 49, 52, 55, 52, 56, 51, 54, 52, 56]⟩ : ByteArray), (⟨#[60]⟩ : ByteArray), (⟨#[60, 60]⟩ : ByteArray), (⟨#[61]⟩ : ByteArray), (⟨#[61, 61]⟩ : ByteArray), (⟨#[33]⟩ : ByteArray), (⟨#[33, 61]⟩ : ByteArray), (⟨#[62]⟩ : ByteArray), (⟨#[62, 62]⟩ : ByteArray), (⟨#[43]⟩ : ByteArray), (⟨#[45]⟩ : ByteArray), (⟨#[42]⟩ : ByteArray), (⟨#[47]⟩ : ByteArray), (⟨#[37]⟩ : ByteArray), (⟨#[38]⟩ : ByteArray), (⟨#[124]⟩ : ByteArray), (⟨#[94]⟩ : ByteArray), (⟨#[40]⟩ : ByteArray), (⟨#[41]⟩ : ByteArray), (⟨#[91]⟩ : ByteArray), (⟨#[93]⟩ : ByteArray), (⟨#[123]⟩ : ByteArray), (⟨#[125]⟩ : ByteArray), (⟨#[32]⟩ : ByteArray), (⟨#[32, 32]⟩ : ByteArray), (⟨#[9]⟩ : ByteArray), (⟨#[10]⟩ : ByteArray), (⟨#[65]⟩ : ByteArray), (⟨#[95]⟩ : ByteArray), (⟨#[97, 98, 99, 100, 101, 102, 103, 104, 105, 106, 107, 108]⟩ : ByteArray), (⟨#[109]⟩ : ByteArray), (⟨#[13]⟩ : ByteArray), (⟨#[195, 169]⟩ : ByteArray)] : List ByteArray)) := ⟨_, rfl⟩
  replace H : (timeboundlaw02_pieces.l0 k l0 y459 (⟨#[]⟩ : ByteArray) 0) = some r := by first | (rw [hy459]; with_reducible exact H) | (have H2_ := (Option.bind_some _ _).symm.trans H; rw [hy459]; with_reducible exact H2_) | (have H2_ := (Option.bind_some _ _).symm.trans H; with_reducible exact H2_) | with_reducible exact H | (rw [hy459]; exact H) | exact H
  have Ny459 := Aside0.mk hy459
  clear hy459
  have H' := Aside0.mk H
  clear H
  go_enter Tryd.func31, Tryd.ntmps31
  go_wp2_with (first | ((with_reducible refine gate_dst (N := 6) rfl ?_); refine Kd.R_lit Kd.string _ 9 ?hg (N := 6) ?hd (xs := ([(⟨#[97]⟩ : ByteArray), (⟨#[116, 97, 115, 107]⟩ : ByteArray), (⟨#[120, 57]⟩ : ByteArray), (⟨#[49, 50]⟩ : ByteArray), (⟨#[48]⟩ : ByteArray), (⟨#[48, 48, 55]⟩ : ByteArray), (⟨#[50, 49, 52, 55, 52, 56, 51, 54, 52, 55]⟩ : ByteArray), (⟨#[50, 49, 52, 55, 52, 56, 51, 54, 52, 56]⟩ : ByteArray), (⟨#[60]⟩ : ByteArray), (⟨#[60, 60]⟩ : ByteArray), (⟨#[61]⟩ : ByteArray), (⟨#[61, 61]⟩ : ByteArray), (⟨#[33]⟩ : ByteArray), (⟨#[33, 61]⟩ : ByteArray), (⟨#[62]⟩ : ByteArray), (⟨#[62, 62]⟩ : ByteArray), (⟨#[43]⟩ : ByteArray), (⟨#[45]⟩ : ByteArray), (⟨#[42]⟩ : ByteArray), (⟨#[47]⟩ : ByteArray), (⟨#[37]⟩ : ByteArray), (⟨#[38]⟩ : ByteArray), (⟨#[124]⟩ : ByteArray), (⟨#[94]⟩ : ByteArray), (⟨#[40]⟩ : ByteArray), (⟨#[41]⟩ : ByteArray), (⟨#[91]⟩ : ByteArray), (⟨#[93]⟩ : ByteArray), (⟨#[123]⟩ : ByteArray), (⟨#[125]⟩ : ByteArray), (⟨#[32]⟩ : ByteArray), (⟨#[32, 32]⟩ : ByteArray), (⟨#[9]⟩ : ByteArray), (⟨#[10]⟩ : ByteArray), (⟨#[65]⟩ : ByteArray), (⟨#[95]⟩ : ByteArray), (⟨#[97, 98, 99, 100, 101, 102, 103, 104, 105, 106, 107, 108]⟩ : ByteArray), (⟨#[109]⟩ : ByteArray), (⟨#[13]⟩ : ByteArray), (⟨#[195, 169]⟩ : ByteArray)] : List ByteArray)) (inner := [.string (⟨#[97]⟩ : ByteArray), .string (⟨#[116, 97, 115, 107]⟩ : ByteArray), .string (⟨#[120, 57]⟩ : ByteArray), .string (⟨#[49, 50]⟩ : ByteArray), .string (⟨#[48]⟩ : ByteArray), .string (⟨#[48, 48, 55]⟩ : ByteArray), .string (⟨#[50, 49, 52, 55, 52, 56, 51, 54, 52, 55]⟩ : ByteArray), .string (⟨#[50, 49, 52, 55, 52, 56, 51, 54, 52, 56]⟩ : ByteArray), .string (⟨#[60]⟩ : ByteArray), .string (⟨#[60, 60]⟩ : ByteArray), .string (⟨#[61]⟩ : ByteArray), .string (⟨#[61, 61]⟩ : ByteArray), .string (⟨#[33]⟩ : ByteArray), .string (⟨#[33, 61]⟩ : ByteArray), .string (⟨#[62]⟩ : ByteArray), .string (⟨#[62, 62]⟩ : ByteArray), .string (⟨#[43]⟩ : ByteArray), .string (⟨#[45]⟩ : ByteArray), .string (⟨#[42]⟩ : ByteArray), .string (⟨#[47]⟩ : ByteArray), .string (⟨#[37]⟩ : ByteArray), .string (⟨#[38]⟩ : ByteArray), .string (⟨#[124]⟩ : ByteArray), .string (⟨#[94]⟩ : ByteArray), .string (⟨#[40]⟩ : ByteArray), .string (⟨#[41]⟩ : ByteArray), .string (⟨#[91]⟩ : ByteArray), .string (⟨#[93]⟩ : ByteArray), .string (⟨#[123]⟩ : ByteArray), .string (⟨#[125]⟩ : ByteArray), .string (⟨#[32]⟩ : ByteArray), .string (⟨#[32, 32]⟩ : ByteArray), .string (⟨#[9]⟩ : ByteArray), .string (⟨#[10]⟩ : ByteArray), .string (⟨#[65]⟩ : ByteArray), .string (⟨#[95]⟩ : ByteArray), .string (⟨#[97, 98, 99, 100, 101, 102, 103, 104, 105, 106, 107, 108]⟩ : ByteArray), .string (⟨#[109]⟩ : ByteArray), .string (⟨#[13]⟩ : ByteArray), .string (⟨#[195, 169]⟩ : ByteArray)]) (ok := fun _ => True) (okp := fun _ => True) ?hr ?hp (fun _ hk => hk) trivial (Below.refl _ _) (Nat.le_refl _) (by simp) ?_; (case hd => rfl); (case hg => rfl); (case hr => first | (go_simp; done) | (go_simp; rfl)); (case hp => exact (Reps.one (show Kd.M Kd.string _ _ _ (⟨#[97]⟩ : ByteArray) [.string (⟨#[97]⟩ : ByteArray)] from rfl) (Reps.one (show Kd.M Kd.string _ _ _ (⟨#[116, 97, 115, 107]⟩ : ByteArray) [.string (⟨#[116, 97, 115, 107]⟩ : ByteArray)] from rfl) (Reps.one (show Kd.M Kd.string _ _ _ (⟨#[120, 57]⟩ : ByteArray) [.string (⟨#[120, 57]⟩ : ByteArray)] from rfl) (Reps.one (show Kd.M Kd.string _ _ _ (⟨#[49, 50]⟩ : ByteArray) [.string (⟨#[49, 50]⟩ : ByteArray)] from rfl) (Reps.one (show Kd.M Kd.string _ _ _ (⟨#[48]⟩ : ByteArray) [.string (⟨#[48]⟩ : ByteArray)] from rfl) (Reps.one (show Kd.M Kd.string _ _ _ (⟨#[48, 48, 55]⟩ : ByteArray) [.string (⟨#[48, 48, 55]⟩ : ByteArray)] from rfl) (Reps.one (show Kd.M Kd.string _ _ _ (⟨#[50, 49, 52, 55, 52, 56, 51, 54, 52, 55]⟩ : ByteArray) [.string (⟨#[50, 49, 52, 55, 52, 56, 51, 54, 52, 55]⟩ : ByteArray)] from rfl) (Reps.one (show Kd.M Kd.string _ _ _ (⟨#[50, 49, 52, 55, 52, 56, 51, 54, 52, 56]⟩ : ByteArray) [.string (⟨#[50, 49, 52, 55, 52, 56, 51, 54, 52, 56]⟩ : ByteArray)] from rfl) (Reps.one (show Kd.M Kd.string _ _ _ (⟨#[60]⟩ : ByteArray) [.string (⟨#[60]⟩ : ByteArray)] from rfl) (Reps.one (show Kd.M Kd.string _ _ _ (⟨#[60, 60]⟩ : ByteArray) [.string (⟨#[60, 60]⟩ : ByteArray)] from rfl) (Reps.one (show Kd.M Kd.string _ _ _ (⟨#[61]⟩ : ByteArray) [.string (⟨#[61]⟩ : ByteArray)] from rfl) (Reps.one (show Kd.M Kd.string _ _ _ (⟨#[61, 61]⟩ : ByteArray) [.string (⟨#[61, 61]⟩ : ByteArray)] from rfl) (Reps.one (show Kd.M Kd.string _ _ _ (⟨#[33]⟩ : ByteArray) [.string (⟨#[33]⟩ : ByteArray)] from rfl) (Reps.one (show Kd.M Kd.string _ _ _ (⟨#[33, 61]⟩ : ByteArray) [.string (⟨#[33, 61]⟩ : ByteArray)] from rfl) (Reps.one (show Kd.M Kd.string _ _ _ (⟨#[62]⟩ : ByteArray) [.string (⟨#[62]⟩ : ByteArray)] from rfl) (Reps.one (show Kd.M Kd.string _ _ _ (⟨#[62, 62]⟩ : ByteArray) [.string (⟨#[62, 62]⟩ : ByteArray)] from rfl) (Reps.one (show Kd.M Kd.string _ _ _ (⟨#[43]⟩ : ByteArray) [.string (⟨#[43]⟩ : ByteArray)] from rfl) (Reps.one (show Kd.M Kd.string _ _ _ (⟨#[45]⟩ : ByteArray) [.string (⟨#[45]⟩ : ByteArray)] from rfl) (Reps.one (show Kd.M Kd.string _ _ _ (⟨#[42]⟩ : ByteArray) [.string (⟨#[42]⟩ : ByteArray)] from rfl) (Reps.one (show Kd.M Kd.string _ _ _ (⟨#[47]⟩ : ByteArray) [.string (⟨#[47]⟩ : ByteArray)] from rfl) (Reps.one (show Kd.M Kd.string _ _ _ (⟨#[37]⟩ : ByteArray) [.string (⟨#[37]⟩ : ByteArray)] from rfl) (Reps.one (show Kd.M Kd.string _ _ _ (⟨#[38]⟩ : ByteArray) [.string (⟨#[38]⟩ : ByteArray)] from rfl) (Reps.one (show Kd.M Kd.string _ _ _ (⟨#[124]⟩ : ByteArray) [.string (⟨#[124]⟩ : ByteArray)] from rfl) (Reps.one (show Kd.M Kd.string _ _ _ (⟨#[94]⟩ : ByteArray) [.string (⟨#[94]⟩ : ByteArray)] from rfl) (Reps.one (show Kd.M Kd.string _ _ _ (⟨#[40]⟩ : ByteArray) [.string (⟨#[40]⟩ : ByteArray)] from rfl) (Reps.one (show Kd.M Kd.string _ _ _ (⟨#[41]⟩ : ByteArray) [.string (⟨#[41]⟩ : ByteArray)] from rfl) (Reps.one (show Kd.M Kd.string _ _ _ (⟨#[91]⟩ : ByteArray) [.string (⟨#[91]⟩ : ByteArray)] from rfl) (Reps.one (show Kd.M Kd.string _ _ _ (⟨#[93]⟩ : ByteArray) [.string (⟨#[93]⟩ : ByteArray)] from rfl) (Reps.one (show Kd.M Kd.string _ _ _ (⟨#[123]⟩ : ByteArray) [.string (⟨#[123]⟩ : ByteArray)] from rfl) (Reps.one (show Kd.M Kd.string _ _ _ (⟨#[125]⟩ : ByteArray) [.string (⟨#[125]⟩ : ByteArray)] from rfl) (Reps.one (show Kd.M Kd.string _ _ _ (⟨#[32]⟩ : ByteArray) [.string (⟨#[32]⟩ : ByteArray)] from rfl) (Reps.one (show Kd.M Kd.string _ _ _ (⟨#[32, 32]⟩ : ByteArray) [.string (⟨#[32, 32]⟩ : ByteArray)] from rfl) (Reps.one (show Kd.M Kd.string _ _ _ (⟨#[9]⟩ : ByteArray) [.string (⟨#[9]⟩ : ByteArray)] from rfl) (Reps.one (show Kd.M Kd.string _ _ _ (⟨#[10]⟩ : ByteArray) [.string (⟨#[10]⟩ : ByteArray)] from rfl) (Reps.one (show Kd.M Kd.string _ _ _ (⟨#[65]⟩ : ByteArray) [.string (⟨#[65]⟩ : ByteArray)] from rfl) (Reps.one (show Kd.M Kd.string _ _ _ (⟨#[95]⟩ : ByteArray) [.string (⟨#[95]⟩ : ByteArray)] from rfl) (Reps.one (show Kd.M Kd.string _ _ _ (⟨#[97, 98, 99, 100, 101, 102, 103, 104, 105, 106, 107, 108]⟩ : ByteArray) [.string (⟨#[97, 98, 99, 100, 101, 102, 103, 104, 105, 106, 107, 108]⟩ : ByteArray)] from rfl) (Reps.one (show Kd.M Kd.string _ _ _ (⟨#[109]⟩ : ByteArray) [.string (⟨#[109]⟩ : ByteArray)] from rfl) (Reps.one (show Kd.M Kd.string _ _ _ (⟨#[13]⟩ : ByteArray) [.string (⟨#[13]⟩ : ByteArray)] from rfl) (Reps.one (show Kd.M Kd.string _ _ _ (⟨#[195, 169]⟩ : ByteArray) [.string (⟨#[195, 169]⟩ : ByteArray)] from rfl) (Reps.none _ _)))))))))))))))))))))))))))))))))))))))))); intro v460 w2 ho3 hb hg_ hnew_; clear hg_ hnew_; (first | rw [← Ny459.out] at ho3 | (simp only [Int.reduceToNat] at ho3; rw [← Ny459.out] at ho3)); have n0_ := Aside0.mk (Kd.R_lower ho3 (below_size (by repeat (first | (with_reducible first | exact HB.out | apply below_alloc | apply pw_below_drewN | apply below_drew1) | exact HB.out)))); have n1_ := Aside0.mk (below_step (by repeat (first | (with_reducible first | exact HB.out | apply below_alloc | apply pw_below_drewN | apply below_drew1) | exact HB.out)) hb); clear HB; have HO461 := n0_; have HB := n1_; clear n0_ n1_; clear hb ho3))
  go_loopg [4, 5] k (fun kq v4 v5 w' => ∃ (x4_1 : ByteArray) (x5_1 : Int), v4 = .string x4_1 ∧ v5 = .int .i64 x5_1 ∧ Aside0 (timeboundlaw02_pieces.l0 kq l0 y459 x4_1 x5_1 = some r) ∧ Aside0 (kq ≤ k) ∧ Aside0 (Kd.R Kd.string 9 w' w.heap.size (fun _ => True) v460 y459) ∧ Aside0 (Below w.heap.size w w'))
  case atStart => exact ⟨((⟨#[]⟩ : ByteArray)), (0), (by first | rfl | (simp; done) | (simp [*]; done)), (by first | rfl | (simp; done) | (simp [*]; done)), H', ⟨Nat.le_refl _⟩, ⟨by (with_reducible repeat (first | apply Kd.R_alloc | apply Kd.R_drewN | apply Kd.R_drew)); exact HO461.out⟩, ⟨by repeat (first | (with_reducible first | exact HB.out | apply below_alloc | apply pw_below_drewN | apply below_drew1) | exact HB.out)⟩⟩
  case round =>
    clear H'
    try clear p2
    try clear c3
    obtain ⟨x4_1, x5_1, rfl, rfl, HA, HK1, HO_3, HB⟩ := hrel
    cases gk with
    | zero => exact absurd HA.out (by simp [timeboundlaw02_pieces.l0])
    | succ k1 =>
      have H := HA.out
      clear HA
      simp only [timeboundlaw02_pieces.l0] at H
      by_cases c4 : x5_1 < (l0.length : Int)
      · rw [if_pos c4] at H
        have c4b0 : decide (x5_1 < (l0.length : Int)) = true := decide_eq_true c4
        clear c4
        by_cases c5 : x5_1 < 60
        · rw [if_pos c5] at H
          have c5b0 : decide (x5_1 < 60) = true := decide_eq_true c5
          clear c5
          by_cases c6 : 0 ≤ x5_1
          · rw [if_pos c6] at H
            have c6b0 : decide (0 ≤ x5_1) = true := decide_eq_true c6
            clear c6
            by_cases c7 : (y459.length : Int) = 0
            · rw [if_pos c7] at H
              exact absurd H (by simp)
            · rw [if_neg c7] at H
              have c7b0 : ((y459.length : Int) == 0) = false := beq_eq_false_iff_ne.mpr c7
              have c7b1 : ((y459.length : Int) != 0) = true := bne_iff_ne.mpr c7
              have c7b2 : ¬ (y459 = []) := fun h_ => c7 (by rw [h_]; rfl)
              obtain ⟨ji8, hji8⟩ : ∃ j_ : Int, (Int.tmod (wrap64 (rd l0 x5_1)) (y459.length : Int)) = j_ := ⟨_, rfl⟩
              replace H : (if 0 ≤ (ji8) then (if (ji8) < (y459.length : Int) then (if x4_1.size + (rdOf ByteArray.empty y459 (ji8)).size ≤ 9223372036854775807 then (timeboundlaw02_pieces.l0 k1 l0 y459 (x4_1 ++ (rdOf ByteArray.empty y459 (ji8))) (wrap64 (x5_1 + 1))) else (none)) else (none)) else (none)) = some r := by first | (rw [hji8] at H; exact H) | (simp only [hji8] at H ⊢; exact H)
              by_cases c9 : 0 ≤ (ji8)
              · rw [if_pos c9] at H
                have c9b0 : decide (0 ≤ (ji8)) = true := decide_eq_true c9
                clear c9
                by_cases c10 : (ji8) < (y459.length : Int)
                · rw [if_pos c10] at H
                  have c10b0 : decide ((ji8) < (y459.length : Int)) = true := decide_eq_true c10
                  clear c10
                  by_cases c11 : x4_1.size + (rdOf ByteArray.empty y459 (ji8)).size ≤ 9223372036854775807
                  · rw [if_pos c11] at H
                    have c11b0 := eq_true c11
                    have c11b1 : decide (x4_1.size + (rdOf ByteArray.empty y459 (ji8)).size ≤ 9223372036854775807) = true := decide_eq_true c11
                    try have c11b2 : (9223372036854775807 < x4_1.size + (rdOf ByteArray.empty y459 (ji8)).size) = False := eq_false (Nat.not_lt.2 c11)
                    have H' := Aside0.mk H
                    clear H
                    have p462 : 0 ≤ (x5_1 : Int) := of_decide_eq_true (by first | (with_reducible assumption) | assumption)
                    have q462 : x5_1 < (l0.length : Int) := of_decide_eq_true (by first | (with_reducible assumption) | assumption)
                    obtain ⟨ad462, e462, hx462_0⟩ := Kd.at_int HR0.out x5_1 p462 q462
                    cases e462
                    replace hx462_0 := (HB.out.cell (World.block_lt_of_cell? w _ hx462_0)).trans hx462_0
                    replace p462 := eq_true p462
                    replace q462 := eq_true q462
                    obtain ⟨Ao12, co12, eo12⟩ := Kd.R_slice HO_3.out
                    subst eo12
                    have p463 : 0 ≤ ((ji8) : Int) := of_decide_eq_true (by first | (with_reducible assumption) | assumption)
                    have q463 : (ji8) < (y459.length : Int) := of_decide_eq_true (by first | (with_reducible assumption) | assumption)
                    obtain ⟨ad463, e463, hx463_0⟩ := Kd.at_string (Kd.R_reads' HO_3.out).2.2 (ji8) p463 q463
                    cases e463
                    replace p463 := eq_true p463
                    replace q463 := eq_true q463
                    go_wp2
                    go_roundg k1
                    case measure => have := HK1.out; omega
                    case rel => exact ⟨(x4_1 ++ (rdOf ByteArray.empty y459 (ji8))), (wrap64 (x5_1 + 1)), (by first | rfl | (simp; done) | (simp only [← hji8] <;> (first | rfl | simp)) | (simp [*]; done)), (by first | rfl | (simp; done) | (simp [*]; done)), H', ⟨by have := HK1.out; omega⟩, ⟨by (with_reducible repeat (first | apply Kd.R_alloc | apply Kd.R_drewN | apply Kd.R_drew)); exact HO_3.out⟩, ⟨by repeat (first | (with_reducible first | exact HB.out | apply below_alloc | apply pw_below_drewN | apply below_drew1) | exact HB.out)⟩⟩
                  · rw [if_neg c11] at H
                    exact absurd H (by simp)
                · rw [if_neg c10] at H
                  exact absurd H (by simp)
              · rw [if_neg c9] at H
                exact absurd H (by simp)
          · rw [if_neg c6] at H
            exact absurd H (by simp)
        · rw [if_neg c5] at H
          have c5b0 : decide (x5_1 < 60) = false := decide_eq_false c5
          clear c5
          obtain rfl := Option.some.inj H
          go_wp2
          go_ret
          exact ⟨by first | rfl | (simp [errW_none, errW_some] <;> rfl) | (simp [*, errW_none, errW_some] <;> rfl), by repeat (first | (with_reducible first | exact HB.out | apply below_alloc | apply pw_below_drewN | apply below_drew1) | exact HB.out)⟩
      · rw [if_neg c4] at H
        have c4b0 : decide (x5_1 < (l0.length : Int)) = false := decide_eq_false c4
        clear c4
        obtain rfl := Option.some.inj H
        go_wp2
        go_ret
        exact ⟨by first | rfl | (simp [errW_none, errW_some] <;> rfl) | (simp [*, errW_none, errW_some] <;> rfl), by repeat (first | (with_reducible first | exact HB.out | apply below_alloc | apply pw_below_drewN | apply below_drew1) | exact HB.out)⟩

end Go.Proofs.YtcnmejahighkfaaDoor.P
-- Pf6
namespace Go.Proofs.YtcnmejahighkfaaDoor.P
open Go.RowKit Go.Proofs.YtcnmejahighkfaaDoorW.PrintWords Go.Proofs.YtcnmejahighkfaaDoorW.PrintLast Go.Proofs.YtcnmejahighkfaaDoorW.PrintMore
attribute [local go_sem] max2_int min2_int max_two min_two max_three min_three max_four min_four   -- for this text's walks alone
set_option linter.unusedVariables false
set_option linter.unusedSimpArgs false

/-! ### timeboundlaw02_TokenPieces: function 6 -/
def timeboundlaw02_TokenPieces.f (k : Nat) (l0 : List Int) : Option (Bool) := (timeboundlaw02_pieces.f k l0).bind fun t464 => ((token_Scan.f t464).bind fun bt465 => ((timeboundref02_Scan.f k t464).bind fun bt470 => (if bt465.2.2 = bt470.2.2 then (if bt465.2.1 = bt470.2.1 then ((timeboundref02_Same.f k bt465.1 bt470.1 true).bind fun t475 => (if t475 = true then ((timeboundlaw02_awake.f k).bind fun t476 => (some t476)) else (some false))) else (some false)) else (some false))))
theorem timeboundlaw02_TokenPieces.mono : ∀ a0 k, LeO (timeboundlaw02_TokenPieces.f k a0) (timeboundlaw02_TokenPieces.f (k + 1) a0) := by
  intro a0 k
  unfold timeboundlaw02_TokenPieces.f
  repeat' first
      | (with_reducible exact timeboundlaw02_awake.mono _)
      | (with_reducible exact timeboundlaw02_pieces.mono _ _)
      | (with_reducible exact timeboundref02_Same.mono _ _ _ _)
      | (with_reducible exact timeboundref02_Scan.mono _ _)
      | (with_reducible exact LeO.refl _)
      | (with_reducible exact LeO.none _)
      | (with_reducible refine LeO.ite ?_ ?_)
      | (with_reducible refine LeO.bind ?_ (fun _ => ?_))
      | exact timeboundlaw02_awake.mono _
      | exact timeboundlaw02_pieces.mono _ _
      | exact timeboundref02_Same.mono _ _ _ _
      | exact timeboundref02_Scan.mono _ _
      | exact LeO.none _
      | refine LeO.ite ?_ ?_
      | refine LeO.bind ?_ (fun _ => ?_)
set_option maxHeartbeats 8000000 in
set_option maxRecDepth 100000 in
theorem timeboundlaw02_TokenPieces.calls (k : Nat) (A0 : Option Addr) (c0 : Nat) (l0 : List Int) (r : Bool) (w : World) (hr0 : Kd.C (Kd.int .u8) w A0 l0.length l0) (hc0 : l0.length ≤ c0) (h : timeboundlaw02_TokenPieces.f k l0 = some r) (hG_Pow : LaidPow w := by first | assumption | exact LaidPow.via (by assumption) (by repeat (first | exact Aside0.out (by assumption) | (with_reducible first | apply below_alloc | apply pw_below_drewN | apply below_drew1) | exact Below.refl _ _))) :
    Calls Tryd.prog 6 #[.slice A0 l0.length c0] w fun e w' => e = .returned (.bool r) ∧ Below w.heap.size w w' := by
  have HR0 := Aside0.mk hr0
  have HC0 := Aside0.mk hc0
  clear hr0 hc0
  have HB := Aside0.mk (Below.refl w.heap.size w)
  have H : ((timeboundlaw02_pieces.f k l0).bind fun t464 => ((token_Scan.f t464).bind fun bt465 => ((timeboundref02_Scan.f k t464).bind fun bt470 => (if bt465.2.2 = bt470.2.2 then (if bt465.2.1 = bt470.2.1 then ((timeboundref02_Same.f k bt465.1 bt470.1 true).bind fun t475 => (if t475 = true then ((timeboundlaw02_awake.f k).bind fun t476 => (some t476)) else (some false))) else (some false)) else (some false))))) = some r := h
  clear h
  replace H := Option.bind_eq_some_iff.mp H
  obtain ⟨t464, A20, H⟩ := H
  replace H : ((token_Scan.f t464).bind fun bt465 => ((timeboundref02_Scan.f k t464).bind fun bt470 => (if bt465.2.2 = bt470.2.2 then (if bt465.2.1 = bt470.2.1 then ((timeboundref02_Same.f k bt465.1 bt470.1 true).bind fun t475 => (if t475 = true then ((timeboundlaw02_awake.f k).bind fun t476 => (some t476)) else (some false))) else (some false)) else (some false)))) = some r := H
  have A2 := Aside0.mk A20
  clear A20
  replace H := Option.bind_eq_some_iff.mp H
  obtain ⟨⟨t465, t466, t467⟩, A30, H⟩ := H
  replace H : ((timeboundref02_Scan.f k t464).bind fun bt470 => (if t467 = bt470.2.2 then (if t466 = bt470.2.1 then ((timeboundref02_Same.f k t465 bt470.1 true).bind fun t475 => (if t475 = true then ((timeboundlaw02_awake.f k).bind fun t476 => (some t476)) else (some false))) else (some false)) else (some false))) = some r := H
  have A3 := Aside0.mk A30
  clear A30
  replace H := Option.bind_eq_some_iff.mp H
  obtain ⟨⟨t470, t471, t472⟩, A40, H⟩ := H
  replace H : (if t467 = t472 then (if t466 = t471 then ((timeboundref02_Same.f k t465 t470 true).bind fun t475 => (if t475 = true then ((timeboundlaw02_awake.f k).bind fun t476 => (some t476)) else (some false))) else (some false)) else (some false)) = some r := H
  have A4 := Aside0.mk A40
  clear A40
  by_cases c5 : t467 = t472
  · rw [if_pos c5] at H
    have c5b0 : (t467 == t472) = true := beq_iff_eq.mpr c5
    have c5b1 : (t467 != t472) = false := bne_eq_false_iff_eq.mpr c5
    clear c5
    by_cases c6 : t466 = t471
    · rw [if_pos c6] at H
      have c6b0 : (t466 == t471) = true := beq_iff_eq.mpr c6
      have c6b1 : (t466 != t471) = false := bne_eq_false_iff_eq.mpr c6
      clear c6
      replace H := Option.bind_eq_some_iff.mp H
      obtain ⟨t475, A70, H⟩ := H
      replace H : (if t475 = true then ((timeboundlaw02_awake.f k).bind fun t476 => (some t476)) else (some false)) = some r := H
      have A7 := Aside0.mk A70
      clear A70
      by_cases c8 : t475 = true
      · subst c8
        have H1 : ((timeboundlaw02_awake.f k).bind fun t476 => (some t476)) = some r := by rw [if_pos rfl] at H; exact H
        clear H
        have H := H1
        clear H1
        replace H := Option.bind_eq_some_iff.mp H
        obtain ⟨t476, A90, H⟩ := H
        replace H : (some t476) = some r := H
        have A9 := Aside0.mk A90
        clear A90
        obtain rfl := Option.some.inj H
        go_enter Tryd.func6, Tryd.ntmps6
        go_wp2_with (first | ((with_reducible refine gate_callee (f := 31) rfl ?_); refine goesL_ (some 11) rfl rfl Tryd.func31 (by kernel_rfl) rfl #[.slice A0 l0.length c0] rfl (by (try simp only [List.map_toArray, List.map_cons, List.map_nil]); first | done | rfl | (simp only [List.length_drop, List.length_take]; rfl)) ?_; (with_reducible refine (timeboundlaw02_pieces.calls k _ _ l0 t464 _ ?side1 ?side2 A2.out).mono ?_); (case side1 => repeat (first | exact HR0.out | (with_reducible refine Kd.C_alloc ?_ _) | (with_reducible refine Kd.C_drewN ?_ _) | (with_reducible refine Kd.C_drew ?_))); (case side2 => exact HC0.out); rintro e w10 ⟨rfl, hb⟩; refine ⟨_, rfl, ?_⟩; have n0_ := Aside0.mk (below_step (by repeat (first | (with_reducible first | exact HB.out | apply below_alloc | apply pw_below_drewN | apply below_drew1) | exact HB.out)) hb); clear HB; have HB := n0_; clear n0_; (try clear hb); (try clear hb2); (try clear hk); (try clear hi)) | ((with_reducible refine gate_callee (f := 25) rfl ?_); refine goesL_ (some 14) rfl rfl Tryd.func25 (by kernel_rfl) rfl #[.string t464] rfl (by (try simp only [List.map_toArray, List.map_cons, List.map_nil]); first | done | rfl | (simp only [List.length_drop, List.length_take]; rfl)) ?_; (with_reducible refine (token_Scan.calls t464 t465 t466 t467 _ A3.out).mono ?_); rintro e w11 ⟨v468, rfl, ho0, hb⟩; refine ⟨_, rfl, ?_⟩; have n0_ := Aside0.mk (Kd.R_lower ho0 (below_size (by repeat (first | (with_reducible first | exact HB.out | apply below_alloc | apply pw_below_drewN | apply below_drew1) | exact HB.out)))); have n1_ := Aside0.mk (below_step (by repeat (first | (with_reducible first | exact HB.out | apply below_alloc | apply pw_below_drewN | apply below_drew1) | exact HB.out)) hb); clear HB; have HO469 := n0_; have HB := n1_; clear n0_ n1_; (try clear hb); (try clear hb2); (try clear hk); (try clear hi); (try clear ho0)) | ((with_reducible refine gate_callee (f := 23) rfl ?_); refine goesL_ (some 20) rfl rfl Tryd.func23 (by kernel_rfl) rfl #[.string t464] rfl (by (try simp only [List.map_toArray, List.map_cons, List.map_nil]); first | done | rfl | (simp only [List.length_drop, List.length_take]; rfl)) ?_; (with_reducible refine (timeboundref02_Scan.calls k t464 t470 t471 t472 _ A4.out).mono ?_); rintro e w12 ⟨v473, rfl, ho0, hb⟩; refine ⟨_, rfl, ?_⟩; have n0_ := Aside0.mk (Kd.R_elder' (by (with_reducible repeat (first | apply Kd.R_alloc | apply Kd.R_drewN | apply Kd.R_drew)); exact HO469.out) (Kd.R_base ho0) hb); have n1_ := Aside0.mk (Kd.R_lower (Kd.R_new' ho0 (Kd.R_lt (by (with_reducible repeat (first | apply Kd.R_alloc | apply Kd.R_drewN | apply Kd.R_drew)); exact HO469.out))) (below_size (by repeat (first | (with_reducible first | exact HB.out | apply below_alloc | apply pw_below_drewN | apply below_drew1) | exact HB.out)))); have n2_ := Aside0.mk (below_step (by repeat (first | (with_reducible first | exact HB.out | apply below_alloc | apply pw_below_drewN | apply below_drew1) | exact HB.out)) hb); clear HO469; clear HB; have HO469 := n0_; have HO474 := n1_; have HB := n2_; clear n0_ n1_ n2_; (try clear hb); (try clear hb2); (try clear hk); (try clear hi); (try clear ho0); obtain ⟨Ao13, co13, eo13⟩ := Kd.R_slice HO469.out; subst eo13; obtain ⟨Ao14, co14, eo14⟩ := Kd.R_slice HO474.out; subst eo14) | (go_at_call 26; (with_reducible refine (timeboundref02_Same.calls k _ _ t465 _ _ t470 true true _ ?side1 ?side2 ?side3 ?side4 A7.out).mono ?_); (case side1 => repeat (first | exact (Kd.R_reads' HO469.out).2.2 | (with_reducible refine Kd.C_alloc ?_ _) | (with_reducible refine Kd.C_drewN ?_ _) | (with_reducible refine Kd.C_drew ?_))); (case side2 => exact (Kd.R_reads' HO469.out).2.1); (case side3 => repeat (first | exact (Kd.R_reads' HO474.out).2.2 | (with_reducible refine Kd.C_alloc ?_ _) | (with_reducible refine Kd.C_drewN ?_ _) | (with_reducible refine Kd.C_drew ?_))); (case side4 => exact (Kd.R_reads' HO474.out).2.1); rintro e w' ⟨rfl, ⟨nd, rfl⟩⟩) | (go_at_call 24; (with_reducible refine (timeboundlaw02_awake.calls k  t476 _ A9.out).mono ?_); rintro e w15 ⟨rfl, hb⟩; have n0_ := Aside0.mk (Kd.R_below (by (with_reducible repeat (first | apply Kd.R_alloc | apply Kd.R_drewN | apply Kd.R_drew)); exact HO469.out) hb); have n1_ := Aside0.mk (Kd.R_below (by (with_reducible repeat (first | apply Kd.R_alloc | apply Kd.R_drewN | apply Kd.R_drew)); exact HO474.out) hb); have n2_ := Aside0.mk (below_step (by repeat (first | (with_reducible first | exact HB.out | apply below_alloc | apply pw_below_drewN | apply below_drew1) | exact HB.out)) hb); clear HO469; clear HO474; clear HB; have HO469 := n0_; have HO474 := n1_; have HB := n2_; clear n0_ n1_ n2_; (try clear hb); (try clear hb2); (try clear hk); (try clear hi)))
        go_ret
        exact ⟨by first | rfl | (simp [errW_none, errW_some] <;> rfl) | (simp [*, errW_none, errW_some] <;> rfl), by repeat (first | (with_reducible first | exact HB.out | apply below_alloc | apply pw_below_drewN | apply below_drew1) | exact HB.out)⟩
      · replace c8 := Bool.eq_false_iff.mpr c8
        subst c8
        have H1 : (some false) = some r := by rw [if_neg (show ¬ (false = true) by decide)] at H; exact H
        clear H
        have H := H1
        clear H1
        obtain rfl := Option.some.inj H
        go_enter Tryd.func6, Tryd.ntmps6
        go_wp2_with (first | ((with_reducible refine gate_callee (f := 31) rfl ?_); refine goesL_ (some 11) rfl rfl Tryd.func31 (by kernel_rfl) rfl #[.slice A0 l0.length c0] rfl (by (try simp only [List.map_toArray, List.map_cons, List.map_nil]); first | done | rfl | (simp only [List.length_drop, List.length_take]; rfl)) ?_; (with_reducible refine (timeboundlaw02_pieces.calls k _ _ l0 t464 _ ?side1 ?side2 A2.out).mono ?_); (case side1 => repeat (first | exact HR0.out | (with_reducible refine Kd.C_alloc ?_ _) | (with_reducible refine Kd.C_drewN ?_ _) | (with_reducible refine Kd.C_drew ?_))); (case side2 => exact HC0.out); rintro e w16 ⟨rfl, hb⟩; refine ⟨_, rfl, ?_⟩; have n0_ := Aside0.mk (below_step (by repeat (first | (with_reducible first | exact HB.out | apply below_alloc | apply pw_below_drewN | apply below_drew1) | exact HB.out)) hb); clear HB; have HB := n0_; clear n0_; (try clear hb); (try clear hb2); (try clear hk); (try clear hi)) | ((with_reducible refine gate_callee (f := 25) rfl ?_); refine goesL_ (some 14) rfl rfl Tryd.func25 (by kernel_rfl) rfl #[.string t464] rfl (by (try simp only [List.map_toArray, List.map_cons, List.map_nil]); first | done | rfl | (simp only [List.length_drop, List.length_take]; rfl)) ?_; (with_reducible refine (token_Scan.calls t464 t465 t466 t467 _ A3.out).mono ?_); rintro e w17 ⟨v468, rfl, ho0, hb⟩; refine ⟨_, rfl, ?_⟩; have n0_ := Aside0.mk (Kd.R_lower ho0 (below_size (by repeat (first | (with_reducible first | exact HB.out | apply below_alloc | apply pw_below_drewN | apply below_drew1) | exact HB.out)))); have n1_ := Aside0.mk (below_step (by repeat (first | (with_reducible first | exact HB.out | apply below_alloc | apply pw_below_drewN | apply below_drew1) | exact HB.out)) hb); clear HB; have HO469 := n0_; have HB := n1_; clear n0_ n1_; (try clear hb); (try clear hb2); (try clear hk); (try clear hi); (try clear ho0)) | ((with_reducible refine gate_callee (f := 23) rfl ?_); refine goesL_ (some 20) rfl rfl Tryd.func23 (by kernel_rfl) rfl #[.string t464] rfl (by (try simp only [List.map_toArray, List.map_cons, List.map_nil]); first | done | rfl | (simp only [List.length_drop, List.length_take]; rfl)) ?_; (with_reducible refine (timeboundref02_Scan.calls k t464 t470 t471 t472 _ A4.out).mono ?_); rintro e w18 ⟨v473, rfl, ho0, hb⟩; refine ⟨_, rfl, ?_⟩; have n0_ := Aside0.mk (Kd.R_elder' (by (with_reducible repeat (first | apply Kd.R_alloc | apply Kd.R_drewN | apply Kd.R_drew)); exact HO469.out) (Kd.R_base ho0) hb); have n1_ := Aside0.mk (Kd.R_lower (Kd.R_new' ho0 (Kd.R_lt (by (with_reducible repeat (first | apply Kd.R_alloc | apply Kd.R_drewN | apply Kd.R_drew)); exact HO469.out))) (below_size (by repeat (first | (with_reducible first | exact HB.out | apply below_alloc | apply pw_below_drewN | apply below_drew1) | exact HB.out)))); have n2_ := Aside0.mk (below_step (by repeat (first | (with_reducible first | exact HB.out | apply below_alloc | apply pw_below_drewN | apply below_drew1) | exact HB.out)) hb); clear HO469; clear HB; have HO469 := n0_; have HO474 := n1_; have HB := n2_; clear n0_ n1_ n2_; (try clear hb); (try clear hb2); (try clear hk); (try clear hi); (try clear ho0); obtain ⟨Ao19, co19, eo19⟩ := Kd.R_slice HO469.out; subst eo19; obtain ⟨Ao20, co20, eo20⟩ := Kd.R_slice HO474.out; subst eo20) | (go_at_call 26; (with_reducible refine (timeboundref02_Same.calls k _ _ t465 _ _ t470 true false _ ?side1 ?side2 ?side3 ?side4 A7.out).mono ?_); (case side1 => repeat (first | exact (Kd.R_reads' HO469.out).2.2 | (with_reducible refine Kd.C_alloc ?_ _) | (with_reducible refine Kd.C_drewN ?_ _) | (with_reducible refine Kd.C_drew ?_))); (case side2 => exact (Kd.R_reads' HO469.out).2.1); (case side3 => repeat (first | exact (Kd.R_reads' HO474.out).2.2 | (with_reducible refine Kd.C_alloc ?_ _) | (with_reducible refine Kd.C_drewN ?_ _) | (with_reducible refine Kd.C_drew ?_))); (case side4 => exact (Kd.R_reads' HO474.out).2.1); rintro e w' ⟨rfl, ⟨nd, rfl⟩⟩))
        go_ret
        exact ⟨by first | rfl | (simp [errW_none, errW_some] <;> rfl) | (simp [*, errW_none, errW_some] <;> rfl), by repeat (first | (with_reducible first | exact HB.out | apply below_alloc | apply pw_below_drewN | apply below_drew1) | exact HB.out)⟩
    · rw [if_neg c6] at H
      have c6b0 : (t466 == t471) = false := beq_eq_false_iff_ne.mpr c6
      have c6b1 : (t466 != t471) = true := bne_iff_ne.mpr c6
      obtain rfl := Option.some.inj H
      go_enter Tryd.func6, Tryd.ntmps6
      go_wp2_with (first | ((with_reducible refine gate_callee (f := 31) rfl ?_); refine goesL_ (some 11) rfl rfl Tryd.func31 (by kernel_rfl) rfl #[.slice A0 l0.length c0] rfl (by (try simp only [List.map_toArray, List.map_cons, List.map_nil]); first | done | rfl | (simp only [List.length_drop, List.length_take]; rfl)) ?_; (with_reducible refine (timeboundlaw02_pieces.calls k _ _ l0 t464 _ ?side1 ?side2 A2.out).mono ?_); (case side1 => repeat (first | exact HR0.out | (with_reducible refine Kd.C_alloc ?_ _) | (with_reducible refine Kd.C_drewN ?_ _) | (with_reducible refine Kd.C_drew ?_))); (case side2 => exact HC0.out); rintro e w21 ⟨rfl, hb⟩; refine ⟨_, rfl, ?_⟩; have n0_ := Aside0.mk (below_step (by repeat (first | (with_reducible first | exact HB.out | apply below_alloc | apply pw_below_drewN | apply below_drew1) | exact HB.out)) hb); clear HB; have HB := n0_; clear n0_; (try clear hb); (try clear hb2); (try clear hk); (try clear hi)) | ((with_reducible refine gate_callee (f := 25) rfl ?_); refine goesL_ (some 14) rfl rfl Tryd.func25 (by kernel_rfl) rfl #[.string t464] rfl (by (try simp only [List.map_toArray, List.map_cons, List.map_nil]); first | done | rfl | (simp only [List.length_drop, List.length_take]; rfl)) ?_; (with_reducible refine (token_Scan.calls t464 t465 t466 t467 _ A3.out).mono ?_); rintro e w22 ⟨v468, rfl, ho0, hb⟩; refine ⟨_, rfl, ?_⟩; have n0_ := Aside0.mk (Kd.R_lower ho0 (below_size (by repeat (first | (with_reducible first | exact HB.out | apply below_alloc | apply pw_below_drewN | apply below_drew1) | exact HB.out)))); have n1_ := Aside0.mk (below_step (by repeat (first | (with_reducible first | exact HB.out | apply below_alloc | apply pw_below_drewN | apply below_drew1) | exact HB.out)) hb); clear HB; have HO469 := n0_; have HB := n1_; clear n0_ n1_; (try clear hb); (try clear hb2); (try clear hk); (try clear hi); (try clear ho0)) | ((with_reducible refine gate_callee (f := 23) rfl ?_); refine goesL_ (some 20) rfl rfl Tryd.func23 (by kernel_rfl) rfl #[.string t464] rfl (by (try simp only [List.map_toArray, List.map_cons, List.map_nil]); first | done | rfl | (simp only [List.length_drop, List.length_take]; rfl)) ?_; (with_reducible refine (timeboundref02_Scan.calls k t464 t470 t471 t472 _ A4.out).mono ?_); rintro e w23 ⟨v473, rfl, ho0, hb⟩; refine ⟨_, rfl, ?_⟩; have n0_ := Aside0.mk (Kd.R_elder' (by (with_reducible repeat (first | apply Kd.R_alloc | apply Kd.R_drewN | apply Kd.R_drew)); exact HO469.out) (Kd.R_base ho0) hb); have n1_ := Aside0.mk (Kd.R_lower (Kd.R_new' ho0 (Kd.R_lt (by (with_reducible repeat (first | apply Kd.R_alloc | apply Kd.R_drewN | apply Kd.R_drew)); exact HO469.out))) (below_size (by repeat (first | (with_reducible first | exact HB.out | apply below_alloc | apply pw_below_drewN | apply below_drew1) | exact HB.out)))); have n2_ := Aside0.mk (below_step (by repeat (first | (with_reducible first | exact HB.out | apply below_alloc | apply pw_below_drewN | apply below_drew1) | exact HB.out)) hb); clear HO469; clear HB; have HO469 := n0_; have HO474 := n1_; have HB := n2_; clear n0_ n1_ n2_; (try clear hb); (try clear hb2); (try clear hk); (try clear hi); (try clear ho0)))
      go_ret
      exact ⟨by first | rfl | (simp [errW_none, errW_some] <;> rfl) | (simp [*, errW_none, errW_some] <;> rfl), by repeat (first | (with_reducible first | exact HB.out | apply below_alloc | apply pw_below_drewN | apply below_drew1) | exact HB.out)⟩
  · rw [if_neg c5] at H
    have c5b0 : (t467 == t472) = false := beq_eq_false_iff_ne.mpr c5
    have c5b1 : (t467 != t472) = true := bne_iff_ne.mpr c5
    obtain rfl := Option.some.inj H
    go_enter Tryd.func6, Tryd.ntmps6
    go_wp2_with (first | ((with_reducible refine gate_callee (f := 31) rfl ?_); refine goesL_ (some 11) rfl rfl Tryd.func31 (by kernel_rfl) rfl #[.slice A0 l0.length c0] rfl (by (try simp only [List.map_toArray, List.map_cons, List.map_nil]); first | done | rfl | (simp only [List.length_drop, List.length_take]; rfl)) ?_; (with_reducible refine (timeboundlaw02_pieces.calls k _ _ l0 t464 _ ?side1 ?side2 A2.out).mono ?_); (case side1 => repeat (first | exact HR0.out | (with_reducible refine Kd.C_alloc ?_ _) | (with_reducible refine Kd.C_drewN ?_ _) | (with_reducible refine Kd.C_drew ?_))); (case side2 => exact HC0.out); rintro e w24 ⟨rfl, hb⟩; refine ⟨_, rfl, ?_⟩; have n0_ := Aside0.mk (below_step (by repeat (first | (with_reducible first | exact HB.out | apply below_alloc | apply pw_below_drewN | apply below_drew1) | exact HB.out)) hb); clear HB; have HB := n0_; clear n0_; (try clear hb); (try clear hb2); (try clear hk); (try clear hi)) | ((with_reducible refine gate_callee (f := 25) rfl ?_); refine goesL_ (some 14) rfl rfl Tryd.func25 (by kernel_rfl) rfl #[.string t464] rfl (by (try simp only [List.map_toArray, List.map_cons, List.map_nil]); first | done | rfl | (simp only [List.length_drop, List.length_take]; rfl)) ?_; (with_reducible refine (token_Scan.calls t464 t465 t466 t467 _ A3.out).mono ?_); rintro e w25 ⟨v468, rfl, ho0, hb⟩; refine ⟨_, rfl, ?_⟩; have n0_ := Aside0.mk (Kd.R_lower ho0 (below_size (by repeat (first | (with_reducible first | exact HB.out | apply below_alloc | apply pw_below_drewN | apply below_drew1) | exact HB.out)))); have n1_ := Aside0.mk (below_step (by repeat (first | (with_reducible first | exact HB.out | apply below_alloc | apply pw_below_drewN | apply below_drew1) | exact HB.out)) hb); clear HB; have HO469 := n0_; have HB := n1_; clear n0_ n1_; (try clear hb); (try clear hb2); (try clear hk); (try clear hi); (try clear ho0)) | ((with_reducible refine gate_callee (f := 23) rfl ?_); refine goesL_ (some 20) rfl rfl Tryd.func23 (by kernel_rfl) rfl #[.string t464] rfl (by (try simp only [List.map_toArray, List.map_cons, List.map_nil]); first | done | rfl | (simp only [List.length_drop, List.length_take]; rfl)) ?_; (with_reducible refine (timeboundref02_Scan.calls k t464 t470 t471 t472 _ A4.out).mono ?_); rintro e w26 ⟨v473, rfl, ho0, hb⟩; refine ⟨_, rfl, ?_⟩; have n0_ := Aside0.mk (Kd.R_elder' (by (with_reducible repeat (first | apply Kd.R_alloc | apply Kd.R_drewN | apply Kd.R_drew)); exact HO469.out) (Kd.R_base ho0) hb); have n1_ := Aside0.mk (Kd.R_lower (Kd.R_new' ho0 (Kd.R_lt (by (with_reducible repeat (first | apply Kd.R_alloc | apply Kd.R_drewN | apply Kd.R_drew)); exact HO469.out))) (below_size (by repeat (first | (with_reducible first | exact HB.out | apply below_alloc | apply pw_below_drewN | apply below_drew1) | exact HB.out)))); have n2_ := Aside0.mk (below_step (by repeat (first | (with_reducible first | exact HB.out | apply below_alloc | apply pw_below_drewN | apply below_drew1) | exact HB.out)) hb); clear HO469; clear HB; have HO469 := n0_; have HO474 := n1_; have HB := n2_; clear n0_ n1_ n2_; (try clear hb); (try clear hb2); (try clear hk); (try clear hi); (try clear ho0)))
    go_ret
    exact ⟨by first | rfl | (simp [errW_none, errW_some] <;> rfl) | (simp [*, errW_none, errW_some] <;> rfl), by repeat (first | (with_reducible first | exact HB.out | apply below_alloc | apply pw_below_drewN | apply below_drew1) | exact HB.out)⟩

/-- THE ONE PURE STATEMENT of timeboundlaw02_TokenPieces: yours. -/
def timeboundlaw02_TokenPieces.Pure : Prop := ∀ (l0 : List Int), l0.length ≤ maxLen → l0.length * 1 ≤ 140737488351232 → (∀ x ∈ l0, (Lit.int .u8 x).wf = true) → ∃ k, timeboundlaw02_TokenPieces.f k l0 = some true
theorem timeboundlaw02_TokenPieces.walk (P : timeboundlaw02_TokenPieces.Pure) (a0 : Option Addr) (len0 cap0 : Nat) (z0 : List Int) (w : World) (w0 : (a0 = none ∧ len0 = 0 ∧ cap0 = 0 ∧ z0 = []) ∨ ∃ x, a0 = some x ∧ len0 ≤ cap0 ∧ cap0 ≤ maxLen ∧ z0.length = cap0 ∧ (∀ i, i < z0.length → w.cell? (x.add i) = some (.int .u8 (z0.getD i 0))) ∧ ∀ n ∈ z0, (Lit.int .u8 n).wf = true) (y0 : len0 * 1 ≤ 140737488351232) (hG_Pow : LaidPow w) :
    Calls Tryd.prog 6 #[.slice a0 len0 cap0] w fun e w' => e = .returned (.bool true) ∧ Below w.heap.size w w' := by
  obtain ⟨l0, rfl, hr0, hm0, hw0, hc0⟩ := ReadsInt.ofRowC w0
  obtain ⟨k, h⟩ := P l0 hm0 y0 hw0
  refine (timeboundlaw02_TokenPieces.calls k _ _ l0 true w (Kd.C_of_reads (d := (0 : Int)) (h1 := fun _ => rfl) hr0) hc0 h).mono ?_
  rintro e w' ⟨rfl, hd⟩
  exact ⟨rfl, hd⟩

end Go.Proofs.YtcnmejahighkfaaDoor.P
-- TokA
/- The tokens of a text as a plain function of its bytes, and that both scanners compute it. -/
namespace Go.Proofs.YtcnmejahighkfaaDoor.Tok
open Go.RowKit Go.Proofs.YtcnmejahighkfaaDoor.P Go.Proofs.YtcnmejahighkfaaDoorW.PrintWords Go.Proofs.YtcnmejahighkfaaDoorW.PrintLast Go.Proofs.YtcnmejahighkfaaDoorW.PrintMore
set_option linter.unusedVariables false
set_option linter.unusedSimpArgs false

/-! ### bytes as numbers -/
theorem toList_data (s : ByteArray) : s.toList = s.data.toList := ByteArray.toList_eq s
theorem bytes_lt (s : ByteArray) : ∀ c ∈ bytesOf s, 0 ≤ c ∧ c ≤ 255 := by
  intro c hc
  simp only [bytesOf, List.mem_map] at hc
  obtain ⟨b, _, rfl⟩ := hc
  have := b.toNat_lt
  omega
theorem bytesOf_inj {a b : ByteArray} (h : bytesOf a = bytesOf b) : a = b := by
  have h2 : a.data.toList = b.data.toList := by
    unfold bytesOf at h
    refine List.map_inj_right ?_ |>.1 h
    intro x y hxy
    have : x.toNat = y.toNat := by omega
    exact UInt8.toNat_inj.1 this
  cases a; cases b
  simp at h2
  simp [h2]
theorem bytes_ext (s : ByteArray) (a b : Nat) : bytesOf (s.extract a b) = ((bytesOf s).drop a).take (b - a) := by
  unfold bytesOf
  rw [Lib.extract_data]
  simp [List.map_take, List.map_drop]
theorem bytes_strOfNums (l : List Int) (h : ∀ c ∈ l, 0 ≤ c ∧ c ≤ 255) : bytesOf (strOfNums l) = l := by
  unfold bytesOf strOfNums
  simp only [List.map_map]
  conv => rhs; rw [← List.map_id l]
  refine List.map_congr_left fun c hc => ?_
  have := h c hc
  simp [Function.comp]
  omega
theorem strOfNums_bytes (s : ByteArray) : strOfNums (bytesOf s) = s := bytesOf_inj (bytes_strOfNums _ (bytes_lt s))
theorem bt_get (s : ByteArray) (i : Nat) : bt s i = (bytesOf s).getD i 0 := by rw [← rd_bytesOf]; simp [rd]
theorem bt_cons {s : ByteArray} {i : Nat} {c : Int} {r : List Int} (h : (bytesOf s).drop i = c :: r) : i < s.size ∧ bt s i = c ∧ (bytesOf s).drop (i + 1) = r := by
  have hl : i < (bytesOf s).length := by
    rcases Nat.lt_or_ge i (bytesOf s).length with h1 | h1
    · exact h1
    · rw [List.drop_eq_nil_of_le h1] at h; cases h
  have e := List.drop_eq_getElem_cons hl
  rw [e] at h
  injection h with h1 h2
  refine ⟨by rw [bytesOf_length] at hl; exact hl, ?_, h2⟩
  rw [bt_get, List.getD_eq_getElem?_getD, List.getElem?_eq_getElem hl]
  exact h1
theorem bt_nil {s : ByteArray} {i : Nat} (h : (bytesOf s).drop i = []) : s.size ≤ i := by
  have := List.drop_eq_nil_iff.1 h
  rwa [bytesOf_length] at this
theorem wrap_small {i : Int} (h0 : -9000000000000000000 ≤ i) (h : i ≤ 9000000000000000000) : wrap64 i = i := by unfold wrap64; omega

/-! ### the model -/
def isL (c : Int) : Bool := decide (97 ≤ c) && decide (c ≤ 122)
def isD (c : Int) : Bool := decide (48 ≤ c) && decide (c ≤ 57)
def isA (c : Int) : Bool := isL c || isD c
def numv (l : List Int) (n : Int) : Int := l.foldl (fun n c => if 10 * n + (c - 48) ≤ 2147483648 then 10 * n + (c - 48) else 2147483648) n
def signC : List (List Int) := signList.map bytesOf
def signM (l : List Int) : Nat := if 2 ≤ l.length ∧ l.take 2 ∈ signC then 2 else if 1 ≤ l.length ∧ l.take 1 ∈ signC then 1 else 0
/-- The token that a text begins with: kind, number, text, and how many bytes it has. -/
def nextM (l : List Int) : Option (Int × Int × List Int × Nat) :=
  match l with
  | [] => none
  | c :: r =>
    if isL c then (if 12 < ((c :: r).takeWhile isA).length then none else some (1, 0, (c :: r).takeWhile isA, ((c :: r).takeWhile isA).length))
    else if isD c then (if 2147483647 < numv ((c :: r).takeWhile isD) 0 then none else some (2, numv ((c :: r).takeWhile isD) 0, [], ((c :: r).takeWhile isD).length))
    else if signM (c :: r) = 0 then none else some (3, 0, (c :: r).take (signM (c :: r)), signM (c :: r))
abbrev TS := S59
def scanM : Nat → List Int → List TS → Int → List TS × Int × Int
  | 0, _, out, _ => (out, 0, 0)
  | _ + 1, [], out, _ => (out, 0, 0)
  | f + 1, c :: r, out, line =>
    if c = 10 then scanM f r out (line + 1) else if c = 32 ∨ c = 9 then scanM f r out line else
      match nextM (c :: r) with
      | none => ([], line, 1)
      | some (k, v, t, n) => scanM f ((c :: r).drop n) (out ++ [⟨k, v, line, strOfNums t⟩]) line

/-! ### the inner loops -/
theorem letter_eq (c : Int) : token_letter.f c = some (isL c) := by
  unfold token_letter.f isL; split <;> simp_all <;> omega
theorem digit_eq (c : Int) : token_digit.f c = some (isD c) := by
  unfold token_digit.f isD; split <;> simp_all <;> omega
theorem name1_eq (c : Int) : token_name_1.f c = some (isA c) := by
  unfold token_name_1.f isA
  rw [letter_eq, digit_eq]
  cases isL c <;> simp
theorem run_digit (s : ByteArray) (hs : s.size ≤ 1000000) : ∀ (l : List Int) (i k : Nat), (bytesOf s).drop i = l → i ≤ s.size → l.length < k → token_run_at_token_digit.l0 k s i = some ((i + (l.takeWhile isD).length : Nat) : Int) := by
  intro l
  induction l with
  | nil =>
    intro i k h hi hk
    obtain ⟨k, rfl⟩ : ∃ m, k = m + 1 := ⟨k - 1, by omega⟩
    have := bt_nil h
    simp only [token_run_at_token_digit.l0]
    rw [if_neg (by omega)]
    simp
  | cons c r ih =>
    intro i k h hi hk
    obtain ⟨k, rfl⟩ : ∃ m, k = m + 1 := ⟨k - 1, by simp at hk; omega⟩
    obtain ⟨h1, h2, h3⟩ := bt_cons h
    simp only [token_run_at_token_digit.l0]
    rw [if_pos (by omega), if_pos (by omega), h2, digit_eq, wrap_small (by omega) (by omega)]
    simp only [Option.bind_some]
    cases hd : isD c with
    | true =>
      simp only [if_true]
      have := ih (i + 1) k h3 (by omega) (by simp at hk; omega)
      rw [show ((i : Int) + 1) = ((i + 1 : Nat) : Int) by omega, this]
      simp [List.takeWhile_cons, hd]
      omega
    | false => simp [List.takeWhile_cons, hd]
theorem run_name (s : ByteArray) (hs : s.size ≤ 1000000) : ∀ (l : List Int) (i k : Nat), (bytesOf s).drop i = l → i ≤ s.size → l.length < k → token_run_at_token_name_1.l0 k s i = some ((i + (l.takeWhile isA).length : Nat) : Int) := by
  intro l
  induction l with
  | nil =>
    intro i k h hi hk
    obtain ⟨k, rfl⟩ : ∃ m, k = m + 1 := ⟨k - 1, by omega⟩
    have := bt_nil h
    simp only [token_run_at_token_name_1.l0]
    rw [if_neg (by omega)]
    simp
  | cons c r ih =>
    intro i k h hi hk
    obtain ⟨k, rfl⟩ : ∃ m, k = m + 1 := ⟨k - 1, by simp at hk; omega⟩
    obtain ⟨h1, h2, h3⟩ := bt_cons h
    simp only [token_run_at_token_name_1.l0]
    rw [if_pos (by omega), if_pos (by omega), h2, name1_eq, wrap_small (by omega) (by omega)]
    simp only [Option.bind_some]
    cases hd : isA c with
    | true =>
      simp only [if_true]
      have := ih (i + 1) k h3 (by omega) (by simp at hk; omega)
      rw [show ((i : Int) + 1) = ((i + 1 : Nat) : Int) by omega, this]
      simp [List.takeWhile_cons, hd]
      omega
    | false => simp [List.takeWhile_cons, hd]
theorem numv_range (l : List Int) : ∀ n, 0 ≤ n → n ≤ 2147483648 → (∀ c ∈ l, 48 ≤ c ∧ c ≤ 57) → 0 ≤ numv l n ∧ numv l n ≤ 2147483648 := by
  induction l with
  | nil => intro n h0 h1 _; exact ⟨h0, h1⟩
  | cons c r ih =>
    intro n h0 h1 h
    have hc := h c (.head _)
    simp only [numv, List.foldl_cons]
    refine ih _ ?_ ?_ fun x hx => h x (.tail _ hx)
    · split <;> omega
    · split <;> omega
theorem number_eq (s : ByteArray) (hs : s.size ≤ 1000000) : ∀ (l : List Int) (i k : Nat) (n : Int), (bytesOf s).drop i = l → i ≤ s.size → l.length < k → (∀ c ∈ l, 48 ≤ c ∧ c ≤ 57) → 0 ≤ n → n ≤ 2147483648 → token_number.l0 k s n i = some (numv l n) := by
  intro l
  induction l with
  | nil =>
    intro i k n h hi hk _ _ _
    obtain ⟨k, rfl⟩ : ∃ m, k = m + 1 := ⟨k - 1, by omega⟩
    have := bt_nil h
    simp only [token_number.l0]
    rw [if_neg (by omega)]
    rfl
  | cons c r ih =>
    intro i k n h hi hk hd h0 hn
    obtain ⟨k, rfl⟩ : ∃ m, k = m + 1 := ⟨k - 1, by simp at hk; omega⟩
    obtain ⟨h1, h2, h3⟩ := bt_cons h
    have hc := hd c (.head _)
    simp only [token_number.l0]
    rw [if_pos (by omega), if_pos (by omega), h2, wrap_small (i := 10 * n) (by omega) (by omega), wrap_small (i := (i : Int) + 1) (by omega) (by omega), Int.emod_eq_of_lt (by omega) (by omega), wrap_small (by omega) (by omega)]
    have hm : mn (10 * n + (c - 48)) 2147483648 = if 10 * n + (c - 48) ≤ 2147483648 then 10 * n + (c - 48) else 2147483648 := by unfold mn; split <;> split <;> omega
    rw [show ((i : Int) + 1) = ((i + 1 : Nat) : Int) by omega, hm]
    have := ih (i + 1) k (if 10 * n + (c - 48) ≤ 2147483648 then 10 * n + (c - 48) else 2147483648) h3 (by omega) (by simp at hk; omega) (fun x hx => hd x (.tail _ hx)) (by split <;> omega) (by split <;> omega)
    rw [this]
    rfl

/-! ### name, sign, next -/
theorem take_tw {α : Type} (p : α → Bool) (l : List α) : l.take (l.takeWhile p).length = l.takeWhile p := by
  induction l with
  | nil => rfl
  | cons c r ih => simp only [List.takeWhile_cons]; split <;> simp [ih]
theorem tw_le {α : Type} (p : α → Bool) (l : List α) : (l.takeWhile p).length ≤ l.length := (List.takeWhile_sublist _).length_le
theorem tw_all {α : Type} (p : α → Bool) (l : List α) : ∀ c ∈ l.takeWhile p, p c = true := by
  induction l with
  | nil => intro c hc; cases hc
  | cons x r ih =>
    intro c hc
    simp only [List.takeWhile_cons] at hc
    split at hc
    · rename_i hx
      cases hc with
      | head => exact hx
      | tail _ h => exact ih c h
    · cases hc
theorem isD_range {c : Int} (h : isD c = true) : 48 ≤ c ∧ c ≤ 57 := by simpa [isD] using h
theorem isD_not_isL {c : Int} (h : isL c = true) : isD c = false := by
  simp only [isL, isD, Bool.and_eq_true, decide_eq_true_eq, Bool.and_eq_false_iff, decide_eq_false_iff_not] at *
  omega
theorem isL_isA {c : Int} (h : isL c = true) : isA c = true := by simp [isA, h]
theorem ext_text {s : ByteArray} {n : Nat} {t : List Int} (h : (bytesOf s).take n = t) : s.extract 0 n = strOfNums t := by
  refine bytesOf_inj ?_
  rw [bytes_ext, List.drop_zero, Nat.sub_zero, h, bytes_strOfNums]
  intro c hc
  rw [← h] at hc
  exact bytes_lt s c (List.mem_of_mem_take hc)
def nameM (l : List Int) : Nat := match l with | [] => 0 | c :: r => if isL c then ((c :: r).takeWhile isA).length else 0
theorem nil_iff (s : ByteArray) : s.toList = ([] : List UInt8) ↔ bytesOf s = [] := by
  rw [toList_data]; simp [bytesOf]
theorem name_eq (s : ByteArray) (hs : s.size ≤ 1000000) (k : Nat) (hk : s.size < k) : token_name.f k s = some (nameM (bytesOf s) : Int) := by
  unfold token_name.f
  cases h : bytesOf s with
  | nil => rw [if_pos ((nil_iff s).2 h)]; rfl
  | cons c r =>
    rw [if_neg (fun q => by rw [(nil_iff s).1 q] at h; cases h)]
    obtain ⟨h1, h2, h3⟩ := bt_cons (s := s) (i := 0) (by simpa using h)
    have h2' : bt s 0 = c := h2
    rw [if_pos (by omega), h2', letter_eq]
    simp only [Option.bind_some, nameM]
    cases hl : isL c with
    | false => simp
    | true =>
      simp only [if_true, token_run_at_token_name_1.f]
      have := run_name s hs (c :: r) 0 k (by simpa using h) (by omega) (by have := bytesOf_length s; rw [h] at this; omega)
      have e : token_run_at_token_name_1.l0 k s 0 = token_run_at_token_name_1.l0 k s ((0 : Nat) : Int) := rfl
      rw [e, this]
      simp
theorem mem_signC (s : ByteArray) (n : Nat) : isSign (s.extract 0 n) = decide ((bytesOf s).take n ∈ signC) := by
  unfold isSign signC
  have e : bytesOf (s.extract 0 n) = (bytesOf s).take n := by rw [bytes_ext]; simp
  rw [← e]
  have : s.extract 0 n ∈ signList ↔ bytesOf (s.extract 0 n) ∈ signList.map bytesOf := by
    rw [List.mem_map]
    exact ⟨fun h => ⟨_, h, rfl⟩, fun ⟨a, h, q⟩ => bytesOf_inj q ▸ h⟩
  by_cases h : s.extract 0 n ∈ signList
  · simp [h, this.1 h]
  · have h' := fun q => h (this.2 q)
    simp only [h, decide_false]
    exact (decide_eq_false h').symm
theorem sign_one (s : ByteArray) (k : Nat) (hk : 2 ≤ k) (h : 1 ≤ s.size) : token_sign.l0 k s 1 = some (if (bytesOf s).take 1 ∈ signC then 1 else 0 : Int) := by
  obtain ⟨k, rfl⟩ : ∃ m, k = m + 1 + 1 := ⟨k - 2, by omega⟩
  simp only [token_sign.l0]
  rw [if_pos (by omega), if_pos (by omega)]
  have e : (1 : Int).toNat = 1 := rfl
  rw [e, mem_signC]
  by_cases h1 : (bytesOf s).take 1 ∈ signC
  · simp [h1]
  · simp [h1]
theorem sign_eq (s : ByteArray) (k : Nat) (hk : 3 ≤ k) : token_sign.f k s = some (signM (bytesOf s) : Int) := by
  obtain ⟨k, rfl⟩ : ∃ m, k = m + 1 := ⟨k - 1, by omega⟩
  unfold token_sign.f signM
  have hl := bytesOf_length s
  rcases Nat.lt_or_ge s.size 2 with h2 | h2
  · rw [if_neg (by omega), if_neg (by omega)]
    rcases Nat.lt_or_ge s.size 1 with h1 | h1
    · have h0 : (s.size : Int) = 0 := by omega
      rw [h0, if_neg (by omega)]
      simp [token_sign.l0]
    · have h0 : (s.size : Int) = 1 := by omega
      rw [h0, sign_one s (k + 1) (by omega) h1]
      by_cases h : (bytesOf s).take 1 ∈ signC
      · rw [if_pos h, if_pos ⟨by omega, h⟩]; rfl
      · rw [if_neg h, if_neg (fun q => h q.2)]; rfl
  · rw [if_pos (by omega)]
    simp only [token_sign.l0]
    rw [if_pos (by omega), if_pos (by omega)]
    have e : (2 : Int).toNat = 2 := rfl
    rw [e, mem_signC]
    by_cases h : (bytesOf s).take 2 ∈ signC
    · rw [if_pos (by simpa using h), if_pos ⟨by omega, h⟩]; rfl
    · rw [if_neg (by simpa using h), if_neg (fun q => h q.2)]
      have e2 : (2 : Int) - 1 = 1 := rfl
      rw [e2, sign_one s k (by omega) (by omega)]
      by_cases h1 : (bytesOf s).take 1 ∈ signC
      · rw [if_pos h1, if_pos ⟨by omega, h1⟩]; rfl
      · rw [if_neg h1, if_neg (fun q => h1 q.2)]; rfl
theorem signM_le (l : List Int) : signM l ≤ l.length ∧ signM l ≤ 2 := by
  unfold signM
  split
  · omega
  · split <;> omega
theorem nextM_len {l : List Int} {x : Int × Int × List Int × Nat} (h : nextM l = some x) : 1 ≤ x.2.2.2 ∧ x.2.2.2 ≤ l.length := by
  unfold nextM at h
  cases l with
  | nil => cases h
  | cons c r =>
    simp only at h
    split at h
    · rename_i hc
      split at h
      · cases h
      · obtain rfl := Option.some.inj h
        have := tw_le isA (c :: r)
        simp only [List.takeWhile_cons, isL_isA hc, if_true] at *
        simp at *
        omega
    · split at h
      · rename_i hc
        split at h
        · cases h
        · obtain rfl := Option.some.inj h
          have := tw_le isD (c :: r)
          simp only [List.takeWhile_cons, hc, if_true] at *
          simp at *
          omega
      · split at h
        · cases h
        · obtain rfl := Option.some.inj h
          have := signM_le (c :: r)
          simp only
          omega
theorem next_eq (s : ByteArray) (hs : s.size ≤ 1000000) (k : Nat) (hk : s.size + 3 < k) (hne : bytesOf s ≠ []) :
    (∀ a b t n, nextM (bytesOf s) = some (a, b, t, n) → token_next.f k s = some (⟨a, b, 0, strOfNums t⟩, (n : Int))) ∧ (nextM (bytesOf s) = none → ∃ x, token_next.f k s = some (x, 0)) := by
  have hl := bytesOf_length s
  unfold token_next.f
  rw [name_eq s hs k (by omega)]
  simp only [Option.bind_some]
  cases hb : bytesOf s with
  | nil => exact absurd hb hne
  | cons c r =>
    have hrd := run_digit s hs (c :: r) 0 k (by simpa using hb) (by omega) (by rw [hb] at hl; omega)
    have hrd' : token_run_at_token_digit.f k s = some (((c :: r).takeWhile isD).length : Int) := by
      unfold token_run_at_token_digit.f
      have e : token_run_at_token_digit.l0 k s 0 = token_run_at_token_digit.l0 k s ((0 : Nat) : Int) := rfl
      rw [e, hrd]; simp
    by_cases hc : isL c = true
    · have htw : 1 ≤ ((c :: r).takeWhile isA).length := by simp [List.takeWhile_cons, isL_isA hc]
      have hnm : nameM (c :: r) = ((c :: r).takeWhile isA).length := by simp only [nameM, if_pos hc]
      rw [hnm]
      by_cases h12 : 12 < ((c :: r).takeWhile isA).length
      · have hm : nextM (c :: r) = none := by simp only [nextM, if_pos hc, if_pos h12]
        rw [hm, if_pos (by omega), if_pos (by omega)]
        exact ⟨fun a b t n h => (by cases h), fun _ => ⟨_, rfl⟩⟩
      · have hm : nextM (c :: r) = some (1, 0, (c :: r).takeWhile isA, ((c :: r).takeWhile isA).length) := by simp only [nextM, if_pos hc, if_neg h12]
        rw [hm, if_pos (by omega), if_neg (by omega), if_pos (by have := tw_le isA (c :: r); rw [hb] at hl; omega)]
        refine ⟨fun a b t n h => ?_, fun h => (by cases h)⟩
        simp only [Option.some.injEq, Prod.mk.injEq] at h
        obtain ⟨rfl, rfl, rfl, rfl⟩ := h
        rw [Int.toNat_natCast, ext_text (t := (c :: r).takeWhile isA) (by rw [hb]; exact take_tw _ _)]
    · have hnm : nameM (c :: r) = 0 := by simp only [nameM, if_neg hc]
      rw [hnm, if_neg (by omega), hrd']
      simp only [Option.bind_some]
      by_cases hd : isD c = true
      · have htw : 1 ≤ ((c :: r).takeWhile isD).length := by simp [List.takeWhile_cons, hd]
        have hle := tw_le isD (c :: r)
        have hle' : ((c :: r).takeWhile isD).length ≤ s.size := by rw [hb] at hl; omega
        rw [if_pos (by omega), if_pos (by omega), Int.toNat_natCast]
        have hx : bytesOf (s.extract 0 ((c :: r).takeWhile isD).length) = (c :: r).takeWhile isD := by rw [bytes_ext, hb]; simp [take_tw]
        have hnum : token_number.f k (s.extract 0 ((c :: r).takeWhile isD).length) = some (numv ((c :: r).takeWhile isD) 0) := by
          unfold token_number.f
          have := number_eq (s.extract 0 ((c :: r).takeWhile isD).length) (by simp; omega) ((c :: r).takeWhile isD) 0 k 0 (by rw [hx]; rfl) (by omega) (by omega) (fun x hx => isD_range (tw_all isD _ x hx)) (by omega) (by omega)
          exact this
        rw [hnum]
        simp only [Option.bind_some]
        by_cases hv : 2147483647 < numv ((c :: r).takeWhile isD) 0
        · have hm : nextM (c :: r) = none := by simp only [nextM, if_neg hc, if_pos hd, if_pos hv]
          rw [hm, if_pos (by omega)]
          exact ⟨fun a b t n h => (by cases h), fun _ => ⟨_, rfl⟩⟩
        · have hm : nextM (c :: r) = some (2, numv ((c :: r).takeWhile isD) 0, [], ((c :: r).takeWhile isD).length) := by simp only [nextM, if_neg hc, if_pos hd, if_neg hv]
          rw [hm, if_neg (by omega)]
          refine ⟨fun a b t n h => ?_, fun h => (by cases h)⟩
          simp only [Option.some.injEq, Prod.mk.injEq] at h
          obtain ⟨rfl, rfl, rfl, rfl⟩ := h
          rfl
      · have htw : ((c :: r).takeWhile isD).length = 0 := by simp [List.takeWhile_cons, hd]
        rw [if_neg (by omega), sign_eq s k (by omega)]
        simp only [Option.bind_some]
        have hsl := signM_le (bytesOf s)
        rw [if_pos (by omega), if_pos (by omega), Int.toNat_natCast]
        rw [hb] at hsl ⊢
        by_cases h0 : signM (c :: r) = 0
        · have hm : nextM (c :: r) = none := by simp only [nextM, if_neg hc, if_neg hd, if_pos h0]
          rw [hm, h0]
          exact ⟨fun a b t n h => (by cases h), fun _ => ⟨_, rfl⟩⟩
        · have hm : nextM (c :: r) = some (3, 0, (c :: r).take (signM (c :: r)), signM (c :: r)) := by simp only [nextM, if_neg hc, if_neg hd, if_neg h0]
          rw [hm]
          refine ⟨fun a b t n h => ?_, fun h => (by cases h)⟩
          simp only [Option.some.injEq, Prod.mk.injEq] at h
          obtain ⟨rfl, rfl, rfl, rfl⟩ := h
          rw [ext_text (by rw [hb])]

/-! ### Scan -/
theorem scan_eq (s : ByteArray) (hs : s.size ≤ 8192) : ∀ (f : Nat) (l : List Int) (i k : Nat) (out : List TS) (line : Int), (bytesOf s).drop i = l → i ≤ s.size → l.length ≤ f → l.length + 20 ≤ k → out.length ≤ i → 0 ≤ line → line ≤ i + 1 →
    token_Scan.l0 k s out line i = some (scanM f l out line) := by
  intro f
  induction f with
  | zero =>
    intro l i k out line h hi hf hk ho h0 h1
    obtain rfl := List.eq_nil_of_length_eq_zero (Nat.le_zero.1 hf)
    obtain ⟨k, rfl⟩ : ∃ m, k = m + 1 := ⟨k - 1, by omega⟩
    have := bt_nil h
    simp only [token_Scan.l0, scanM]
    rw [if_neg (by omega)]
  | succ f ih =>
    intro l i k out line h hi hf hk ho h0 h1
    obtain ⟨k, rfl⟩ : ∃ m, k = m + 1 := ⟨k - 1, by omega⟩
    cases l with
    | nil =>
      have := bt_nil h
      simp only [token_Scan.l0, scanM]
      rw [if_neg (by omega)]
    | cons c r =>
      obtain ⟨h2, h3, h4⟩ := bt_cons h
      simp only [List.length_cons] at hf hk
      simp only [token_Scan.l0, scanM]
      rw [if_pos (by omega), h3]
      have e1 : (i : Int) + 1 = ((i + 1 : Nat) : Int) := by omega
      by_cases c10 : c = 10
      · rw [if_pos c10, if_pos c10, wrap_small (by omega) (by omega), e1]
        exact ih r (i + 1) k out (line + 1) h4 (by omega) (by omega) (by omega) (by omega) (by omega) (by omega)
      · rw [if_neg c10, if_neg c10]
        by_cases c32 : c = 32
        · rw [if_pos c32, if_pos (.inl c32), e1]
          exact ih r (i + 1) k out line h4 (by omega) (by omega) (by omega) (by omega) (by omega) (by omega)
        · rw [if_neg c32]
          by_cases c9 : c = 9
          · rw [if_pos c9, if_pos (.inr c9), e1]
            exact ih r (i + 1) k out line h4 (by omega) (by omega) (by omega) (by omega) (by omega) (by omega)
          · rw [if_neg c9, if_neg (by omega), Int.toNat_natCast]
            have hx : bytesOf (s.extract i s.size) = c :: r := by rw [bytes_ext, h, List.take_of_length_le]; have := congrArg List.length h; simp only [List.length_drop, bytesOf_length] at this; omega
            have hz : (s.extract i s.size).size ≤ r.length + 1 := by have := bytesOf_length (s.extract i s.size); rw [hx, List.length_cons] at this; omega
            have hn := next_eq (s.extract i s.size) (by simp; omega) k (by omega) (by rw [hx]; simp)
            rw [hx] at hn
            cases hm : nextM (c :: r) with
            | none =>
              obtain ⟨x, hx2⟩ := hn.2 hm
              rw [hx2]
              simp
            | some y =>
              obtain ⟨a, b, t, n⟩ := y
              rw [hn.1 a b t n hm]
              have hlen := nextM_len hm
              simp only [List.length_cons] at hlen
              simp only [Option.bind_some]
              have hr : r.length + 1 = s.size - i := by have := congrArg List.length h; simp [bytesOf_length] at this; omega
              rw [if_neg (by omega), if_pos (by omega), if_pos (by omega), if_pos (by omega)]
              have e2 : (i : Int) + (n : Int) = ((i + n : Nat) : Int) := by omega
              rw [e2]
              exact ih ((c :: r).drop n) (i + n) k _ line (by rw [← h, List.drop_drop]) (by omega) (by simp; omega) (by simp; omega) (by simp; omega) (by omega) (by omega)
/-- What the scanner answers. -/
def scanA (s : ByteArray) : List TS × Int × Int := if 8192 < s.size then ([], 0, 4) else scanM s.size (bytesOf s) [] 1
theorem Scan_eq (s : ByteArray) : token_Scan.f s = some (scanA s) := by
  unfold token_Scan.f scanA
  by_cases h : 8192 < s.size
  · rw [if_pos (by omega), if_pos h]
  · rw [if_neg (by omega), if_neg h]
    have hl := bytesOf_length s
    have := scan_eq s (by omega) s.size (bytesOf s) 0 (s.size + 20) [] 1 rfl (by omega) (by omega) (by omega) (by simp) (by omega) (by omega)
    exact this

end Go.Proofs.YtcnmejahighkfaaDoor.Tok
-- TokB
/- The reference's scanner computes the same plain function. -/
namespace Go.Proofs.YtcnmejahighkfaaDoor.Tok
open Go.RowKit Go.Proofs.YtcnmejahighkfaaDoor.P Go.Proofs.YtcnmejahighkfaaDoorW.PrintWords Go.Proofs.YtcnmejahighkfaaDoorW.PrintLast Go.Proofs.YtcnmejahighkfaaDoorW.PrintMore
set_option linter.unusedVariables false
set_option linter.unusedSimpArgs false

/-! ### the reference's scanner -/
theorem rletter_eq (c : Int) : timeboundref02_letter.f c = some (isL c) := by
  unfold timeboundref02_letter.f isL; split <;> simp_all <;> omega
theorem rdigit_eq (c : Int) : timeboundref02_digit.f c = some (isD c) := by
  unfold timeboundref02_digit.f isD; split <;> simp_all <;> omega
theorem rvalue_eq (s : ByteArray) (hs : s.size ≤ 1000000) : ∀ (l : List Int) (i k : Nat) (n : Int), (bytesOf s).drop i = l → i ≤ s.size → l.length < k → (∀ c ∈ l, 48 ≤ c ∧ c ≤ 57) → 0 ≤ n → n ≤ 2147483647 → timeboundref02_value.l0 k s n i = some (if 2147483647 < numv l n then -1 else numv l n) := by
  intro l
  induction l with
  | nil =>
    intro i k n h hi hk _ _ _
    obtain ⟨k, rfl⟩ : ∃ m, k = m + 1 := ⟨k - 1, by omega⟩
    have := bt_nil h
    have e : numv [] n = n := rfl
    simp only [timeboundref02_value.l0]
    rw [if_neg (by omega), e, if_neg (by omega)]
  | cons c r ih =>
    intro i k n h hi hk hd h0 hn
    obtain ⟨k, rfl⟩ : ∃ m, k = m + 1 := ⟨k - 1, by simp at hk; omega⟩
    obtain ⟨h1, h2, h3⟩ := bt_cons h
    have hc := hd c (.head _)
    simp only [timeboundref02_value.l0]
    rw [if_pos (by omega), if_pos (by omega), h2, wrap_small (i := n * 10) (by omega) (by omega), wrap_small (i := (i : Int) + 1) (by omega) (by omega), Int.emod_eq_of_lt (by omega) (by omega), wrap_small (by omega) (by omega)]
    have hsat : ∀ l : List Int, (∀ c ∈ l, 48 ≤ c ∧ c ≤ 57) → numv l 2147483648 = 2147483648 := by
      intro l
      induction l with
      | nil => intro _; rfl
      | cons x r ih =>
        intro h
        have hx := h x (.head _)
        simp only [numv, List.foldl_cons]
        rw [if_neg (by omega)]
        exact ih fun y hy => h y (.tail _ hy)
    have hstep : numv (c :: r) n = numv r (if 10 * n + (c - 48) ≤ 2147483648 then 10 * n + (c - 48) else 2147483648) := rfl
    rw [hstep]
    by_cases hb : n * 10 + (c - 48) ≥ 2147483648
    · rw [if_pos hb]
      have e : (if 10 * n + (c - 48) ≤ 2147483648 then 10 * n + (c - 48) else 2147483648) = 2147483648 := by split <;> omega
      rw [e, hsat r fun x hx => hd x (.tail _ hx)]
      rfl
    · have e : (if 10 * n + (c - 48) ≤ 2147483648 then 10 * n + (c - 48) else 2147483648) = 10 * n + (c - 48) := if_pos (by omega)
      rw [e, if_neg hb, show ((i : Int) + 1) = ((i + 1 : Nat) : Int) by omega, ih (i + 1) k _ h3 (by omega) (by simp at hk; omega) (fun x hx => hd x (.tail _ hx)) (by omega) (by omega), show n * 10 + (c - 48) = 10 * n + (c - 48) by omega]
/-- The first text of a list with which a text begins. -/
def firstPre (s : List Int) : List (List Int) → Option (List Int)
  | [] => none
  | g :: r => if g.length ≤ s.length ∧ s.take g.length = g then some g else firstPre s r
theorem rsign_l0 (s : ByteArray) (hs : s.size ≤ 1000000) (L : List ByteArray) (hL : L.length ≤ 1000) : ∀ (r : List ByteArray) (i k : Nat), L.drop i = r → i ≤ L.length → r.length < k → timeboundref02_sign.l0 k s L i = some (strOfNums ((firstPre (bytesOf s) (r.map bytesOf)).getD [])) := by
  intro r
  induction r with
  | nil =>
    intro i k h hi hk
    obtain ⟨k, rfl⟩ : ∃ m, k = m + 1 := ⟨k - 1, by omega⟩
    have := List.drop_eq_nil_iff.1 h
    simp only [timeboundref02_sign.l0]
    rw [if_neg (by omega)]
    rfl
  | cons g r ih =>
    intro i k h hi hk
    obtain ⟨k, rfl⟩ : ∃ m, k = m + 1 := ⟨k - 1, by simp at hk; omega⟩
    have hl : i < L.length := by
      rcases Nat.lt_or_ge i L.length with h1 | h1
      · exact h1
      · rw [List.drop_eq_nil_of_le h1] at h; cases h
    have e := List.drop_eq_getElem_cons hl
    rw [e] at h
    injection h with h1 h2
    have hg : rdOf ByteArray.empty L (i : Int) = g := by simp [rdOf, hl, h1]
    simp only [timeboundref02_sign.l0]
    rw [if_pos (by omega), if_pos (by omega), hg, wrap_small (by omega) (by omega), show ((i : Int) + 1) = ((i + 1 : Nat) : Int) by omega]
    have hih := ih (i + 1) k h2 (by omega) (by simp at hk; omega)
    have hbl := bytesOf_length s
    have hgl := bytesOf_length g
    simp only [List.map_cons, firstPre]
    by_cases hsz : (s.size : Int) ≥ (g.size : Int)
    · rw [if_pos hsz, if_pos (by omega), if_pos hsz, Int.toNat_natCast, toList_data, toList_data]
      have hx : bytesOf (s.extract 0 g.size) = (bytesOf s).take g.size := by rw [bytes_ext]; simp
      by_cases hp : (s.extract 0 g.size).data.toList = g.data.toList
      · rw [if_pos hp]
        have hq : (bytesOf s).take g.size = bytesOf g := by rw [← hx]; unfold bytesOf; rw [hp]
        rw [if_pos ⟨by omega, by rw [hgl]; exact hq⟩]
        simp [strOfNums_bytes]
      · rw [if_neg hp, if_neg (fun q => hp ?_), hih]
        have hq : bytesOf (s.extract 0 g.size) = bytesOf g := by rw [hx, ← hgl]; exact q.2
        rw [bytesOf_inj hq]
    · rw [if_neg hsz, if_neg (fun q => by omega), hih]
def twoC : List (List Int) := [[60, 60], [62, 62], [60, 61], [61, 61], [33, 61]]
def oneC : List (List Int) := [[43], [45], [42], [47], [37], [38], [124], [94], [60], [61], [40], [41], [91], [93], [123], [125]]
theorem firstPre_app (s : List Int) (a b : List (List Int)) : firstPre s (a ++ b) = match firstPre s a with | some g => some g | none => firstPre s b := by
  induction a with
  | nil => rfl
  | cons g r ih => simp only [List.cons_append, firstPre]; split <;> simp [ih]
theorem firstPre_len (s : List Int) (n : Nat) : ∀ (L : List (List Int)), (∀ g ∈ L, g.length = n) → firstPre s L = if n ≤ s.length ∧ s.take n ∈ L then some (s.take n) else none := by
  intro L
  induction L with
  | nil => intro _; simp [firstPre]
  | cons g r ih =>
    intro h
    have hg := h g (.head _)
    simp only [firstPre]
    rw [hg, ih fun x hx => h x (.tail _ hx)]
    by_cases h1 : n ≤ s.length
    · by_cases h2 : s.take n = g
      · rw [if_pos ⟨h1, h2⟩, if_pos ⟨h1, by rw [h2]; exact .head _⟩, h2]
      · rw [if_neg (fun q => h2 q.2)]
        by_cases h3 : s.take n ∈ r
        · rw [if_pos ⟨h1, h3⟩, if_pos ⟨h1, .tail _ h3⟩]
        · rw [if_neg (fun q => h3 q.2), if_neg (fun q => by rcases List.mem_cons.1 q.2 with q | q; exact h2 q; exact h3 q)]
    · rw [if_neg (fun q => h1 q.1), if_neg (fun q => h1 q.1), if_neg (fun q => h1 q.1)]
theorem signC_eq : signC = [[43], [45], [42], [47], [37], [38], [124], [94], [60, 60], [62, 62], [60], [60, 61], [61, 61], [33, 61], [61], [40], [41], [91], [93], [123], [125]] := by decide +kernel
theorem mem_two (x : List Int) (h : x.length = 2) : x ∈ signC ↔ x ∈ twoC := by
  rw [signC_eq]
  simp only [twoC, List.mem_cons, List.not_mem_nil, or_false]
  constructor
  · intro q
    rcases q with q | q | q | q | q | q | q | q | q | q | q | q | q | q | q | q | q | q | q | q | q <;> subst q <;> simp at h ⊢
  · intro q
    rcases q with q | q | q | q | q <;> subst q <;> simp
theorem mem_one (x : List Int) (h : x.length = 1) : x ∈ signC ↔ x ∈ oneC := by
  rw [signC_eq]
  simp only [oneC, List.mem_cons, List.not_mem_nil, or_false]
  constructor
  · intro q
    rcases q with q | q | q | q | q | q | q | q | q | q | q | q | q | q | q | q | q | q | q | q | q <;> subst q <;> simp at h ⊢
  · intro q
    rcases q with q | q | q | q | q | q | q | q | q | q | q | q | q | q | q | q <;> subst q <;> simp
def rsigns : List ByteArray := (timeboundref02_Signs.f).getD []
theorem rsign_eq (s : ByteArray) (hs : s.size ≤ 1000000) (k : Nat) (hk : 21 < k) : timeboundref02_sign.f k s = some (strOfNums ((bytesOf s).take (signM (bytesOf s)))) := by
  unfold timeboundref02_sign.f
  have hS : timeboundref02_Signs.f = some rsigns := rfl
  rw [hS]
  simp only [Option.bind_some]
  have := rsign_l0 s hs rsigns (by decide +kernel) rsigns 0 k rfl (by decide +kernel) (Nat.lt_of_le_of_lt (by decide +kernel : rsigns.length ≤ 21) hk)
  rw [show (0 : Int) = ((0 : Nat) : Int) from rfl, this]
  refine congrArg (fun x => some (strOfNums x)) ?_
  have e : ∀ L : List ByteArray, L.map bytesOf = twoC ++ oneC → (firstPre (bytesOf s) (L.map bytesOf)).getD [] = (bytesOf s).take (signM (bytesOf s)) := by
    intro L hL
    have i2 : (2 ≤ (bytesOf s).length ∧ (bytesOf s).take 2 ∈ twoC) ↔ (2 ≤ (bytesOf s).length ∧ (bytesOf s).take 2 ∈ signC) := and_congr_right fun h => (mem_two _ (by simp; omega)).symm
    have i1 : (1 ≤ (bytesOf s).length ∧ (bytesOf s).take 1 ∈ oneC) ↔ (1 ≤ (bytesOf s).length ∧ (bytesOf s).take 1 ∈ signC) := and_congr_right fun h => (mem_one _ (by simp; omega)).symm
    rw [hL, firstPre_app, firstPre_len _ 2 twoC (by decide), firstPre_len _ 1 oneC (by decide)]
    unfold signM
    simp only [i2, i1]
    by_cases p2 : 2 ≤ (bytesOf s).length ∧ (bytesOf s).take 2 ∈ signC
    · simp only [if_pos p2, Option.getD_some]
    · simp only [if_neg p2]
      by_cases p1 : 1 ≤ (bytesOf s).length ∧ (bytesOf s).take 1 ∈ signC
      · simp only [if_pos p1, Option.getD_some]
      · simp only [if_neg p1, Option.getD_none, List.take_zero]
  exact e _ (by decide +kernel)

theorem rscan_name (s : ByteArray) (hs : s.size ≤ 8192) (out : List TS) (ho : out.length ≤ 8192) (line : Int) (i : Nat) (hi : i ≤ s.size) : ∀ (l : List Int) (j k : Nat), (bytesOf s).drop j = l → i ≤ j → j ≤ s.size → l.length < k →
    ∃ k', k' + (l.takeWhile isA).length + 1 = k ∧ timeboundref02_Scan.l1 k s out line i j = if 12 < j - i + (l.takeWhile isA).length then some ([], line, 1) else timeboundref02_Scan.l0 k' s (out ++ [(⟨1, 0, line, s.extract i (j + (l.takeWhile isA).length)⟩ : TS)]) line ((j + (l.takeWhile isA).length : Nat) : Int) := by
  intro l
  induction l with
  | nil =>
    intro j k h hij hj hk
    obtain ⟨k, rfl⟩ : ∃ m, k = m + 1 := ⟨k - 1, by omega⟩
    have := bt_nil h
    refine ⟨k, by simp, ?_⟩
    show timeboundref02_Scan.l1 (k + 1) s out line i j = if 12 < j - i then some ([], line, 1) else timeboundref02_Scan.l0 k s (out ++ [(⟨1, 0, line, s.extract i j⟩ : TS)]) line (j : Int)
    simp only [timeboundref02_Scan.l1]
    rw [if_neg (by omega), wrap_small (by omega) (by omega)]
    by_cases h12 : 12 < j - i
    · rw [if_pos (by omega), if_pos h12]
    · rw [if_neg (by omega), if_pos (by omega), if_pos (by omega), if_pos (by omega), if_pos (by omega), if_neg h12, Int.toNat_natCast, Int.toNat_natCast]
  | cons c r ih =>
    intro j k h hij hj hk
    obtain ⟨k, rfl⟩ : ∃ m, k = m + 1 := ⟨k - 1, by simp at hk; omega⟩
    obtain ⟨h1, h2, h3⟩ := bt_cons h
    simp only [timeboundref02_Scan.l1]
    rw [if_pos (by omega), if_pos (by omega), h2, rletter_eq]
    simp only [Option.bind_some]
    have e1 : wrap64 ((j : Int) + 1) = ((j + 1 : Nat) : Int) := by rw [wrap_small (by omega) (by omega)]; omega
    rw [e1]
    by_cases ha : isA c = true
    · obtain ⟨k', hk', hr⟩ := ih (j + 1) k h3 (by omega) (by omega) (by simp at hk; omega)
      have htw : ((c :: r).takeWhile isA).length = (r.takeWhile isA).length + 1 := by simp [List.takeWhile_cons, ha]
      refine ⟨k', by omega, ?_⟩
      have hgo : (if isL c = true then timeboundref02_Scan.l1 k s out line i ((j + 1 : Nat) : Int) else (timeboundref02_digit.f c).bind fun t => if t = true then timeboundref02_Scan.l1 k s out line i ((j + 1 : Nat) : Int) else if wrap64 ((j : Int) - i) > 12 then some ([], line, 1) else if 0 ≤ (i : Int) then if (i : Int) ≤ j then if (j : Int) ≤ s.size then if out.length < 3518437208883 then timeboundref02_Scan.l0 k s (out ++ [(⟨1, 0, line, s.extract (i : Int).toNat (j : Int).toNat⟩ : TS)]) line j else none else none else none else none) = timeboundref02_Scan.l1 k s out line i ((j + 1 : Nat) : Int) := by
        by_cases hl : isL c = true
        · rw [if_pos hl]
        · rw [if_neg hl, rdigit_eq]
          have hd : isD c = true := by simpa [isA, hl] using ha
          simp [hd]
      rw [hgo, hr, htw]
      have e2 : j + 1 - i + (r.takeWhile isA).length = j - i + ((r.takeWhile isA).length + 1) := by omega
      have e3 : j + 1 + (r.takeWhile isA).length = j + ((r.takeWhile isA).length + 1) := by omega
      rw [e2, e3]
    · have hl : ¬ isL c = true := fun q => ha (isL_isA q)
      have hd : isD c = false := by simp only [isA, Bool.or_eq_true, not_or] at ha; simpa using ha.2
      have htw : ((c :: r).takeWhile isA).length = 0 := by simp [List.takeWhile_cons, ha]
      refine ⟨k, by omega, ?_⟩
      rw [if_neg hl, rdigit_eq, htw, hd]
      simp only [Option.bind_some, Bool.false_eq_true, if_false, Nat.add_zero]
      rw [wrap_small (by omega) (by omega)]
      by_cases h12 : 12 < j - i
      · rw [if_pos (by omega), if_pos h12]
      · rw [if_neg (by omega), if_pos (by omega), if_pos (by omega), if_pos (by omega), if_pos (by omega), if_neg h12]
        simp
theorem rscan_num (s : ByteArray) (hs : s.size ≤ 8192) (out : List TS) (ho : out.length ≤ 8192) (line : Int) (i : Nat) (hi : i ≤ s.size) : ∀ (l : List Int) (j k : Nat), (bytesOf s).drop j = l → i ≤ j → j ≤ s.size → 2 * l.length + (j - i) + 2 < k → (∀ c ∈ ((bytesOf s).drop i).take (j - i), isD c = true) →
    ∃ k', k' + (l.takeWhile isD).length + 1 = k ∧ timeboundref02_Scan.l2 k s out line i j = if 2147483647 < numv (((bytesOf s).drop i).take (j - i) ++ l.takeWhile isD) 0 then some ([], line, 1) else timeboundref02_Scan.l0 k' s (out ++ [(⟨2, numv (((bytesOf s).drop i).take (j - i) ++ l.takeWhile isD) 0, line, ⟨#[]⟩⟩ : TS)]) line ((j + (l.takeWhile isD).length : Nat) : Int) := by
  have hend : ∀ (j k : Nat), i ≤ j → j ≤ s.size → (j - i) + 1 < k + 1 → (∀ c ∈ ((bytesOf s).drop i).take (j - i), isD c = true) →
      (if 0 ≤ (i : Int) then if (i : Int) ≤ j then if (j : Int) ≤ s.size then (timeboundref02_value.f k (s.extract (i : Int).toNat (j : Int).toNat)).bind fun t => if t < 0 then some ([], line, 1) else if out.length < 3518437208883 then timeboundref02_Scan.l0 k s (out ++ [(⟨2, t, line, ⟨#[]⟩⟩ : TS)]) line j else none else none else none else none) =
      if 2147483647 < numv (((bytesOf s).drop i).take (j - i)) 0 then some ([], line, 1) else timeboundref02_Scan.l0 k s (out ++ [(⟨2, numv (((bytesOf s).drop i).take (j - i)) 0, line, ⟨#[]⟩⟩ : TS)]) line (j : Int) := by
    intro j k hij hj hk hd
    rw [if_pos (by omega), if_pos (by omega), if_pos (by omega), Int.toNat_natCast, Int.toNat_natCast]
    have hx : bytesOf (s.extract i j) = ((bytesOf s).drop i).take (j - i) := bytes_ext s i j
    have hl : (((bytesOf s).drop i).take (j - i)).length ≤ j - i := List.length_take_le _ _
    have hv := rvalue_eq (s.extract i j) (by simp; omega) (((bytesOf s).drop i).take (j - i)) 0 k 0 (by rw [hx]; rfl) (by omega) (by omega) (fun c hc => isD_range (hd c hc)) (by omega) (by omega)
    have hv' : timeboundref02_value.f k (s.extract i j) = some (if 2147483647 < numv (((bytesOf s).drop i).take (j - i)) 0 then -1 else numv (((bytesOf s).drop i).take (j - i)) 0) := hv
    rw [hv']
    have hr := numv_range (((bytesOf s).drop i).take (j - i)) 0 (by omega) (by omega) (fun c hc => isD_range (hd c hc))
    simp only [Option.bind_some]
    by_cases hb : 2147483647 < numv (((bytesOf s).drop i).take (j - i)) 0
    · simp only [if_pos hb]
      rw [if_pos (by omega)]
    · simp only [if_neg hb]
      rw [if_neg (by omega), if_pos (by omega)]
  intro l
  induction l with
  | nil =>
    intro j k h hij hj hk hd
    obtain ⟨k, rfl⟩ : ∃ m, k = m + 1 := ⟨k - 1, by omega⟩
    have := bt_nil h
    refine ⟨k, by simp, ?_⟩
    simp only [timeboundref02_Scan.l2, List.takeWhile_nil, List.length_nil, Nat.add_zero, List.append_nil]
    rw [if_neg (by omega)]
    exact hend j k hij hj (by simp at hk; omega) hd
  | cons c r ih =>
    intro j k h hij hj hk hd
    obtain ⟨k, rfl⟩ : ∃ m, k = m + 1 := ⟨k - 1, by simp at hk; omega⟩
    obtain ⟨h1, h2, h3⟩ := bt_cons h
    simp only [timeboundref02_Scan.l2]
    rw [if_pos (by omega), if_pos (by omega), h2, rdigit_eq]
    simp only [Option.bind_some]
    have e1 : wrap64 ((j : Int) + 1) = ((j + 1 : Nat) : Int) := by rw [wrap_small (by omega) (by omega)]; omega
    rw [e1]
    by_cases ha : isD c = true
    · have hsucc : ((bytesOf s).drop i).take (j + 1 - i) = ((bytesOf s).drop i).take (j - i) ++ [c] := by
        have e : j + 1 - i = (j - i) + 1 := by omega
        have hg : ((bytesOf s).drop i)[j - i]? = some c := by
          rw [List.getElem?_drop, show i + (j - i) = j by omega, ← List.head?_drop, h]; rfl
        rw [e, List.take_add_one, hg]; rfl
      obtain ⟨k', hk', hr⟩ := ih (j + 1) k h3 (by omega) (by omega) (by simp only [List.length_cons] at hk; omega) (by rw [hsucc]; intro x hx; rcases List.mem_append.1 hx with hx | hx; exact hd x hx; simp at hx; rw [hx]; exact ha)
      have htw : (c :: r).takeWhile isD = c :: r.takeWhile isD := by simp [List.takeWhile_cons, ha]
      refine ⟨k', by rw [htw]; simp; omega, ?_⟩
      rw [if_pos ha, hr, htw, hsucc]
      simp only [List.append_assoc, List.singleton_append, List.length_cons]
      have e3 : j + 1 + (r.takeWhile isD).length = j + ((r.takeWhile isD).length + 1) := by omega
      rw [e3]
    · have htw : (c :: r).takeWhile isD = [] := by simp [List.takeWhile_cons, ha]
      refine ⟨k, by rw [htw]; simp, ?_⟩
      rw [if_neg ha, htw]
      simp only [List.append_nil, List.length_nil, Nat.add_zero]
      exact hend j k hij hj (by simp at hk; omega) hd
theorem rscan_eq (s : ByteArray) (hs : s.size ≤ 8192) : ∀ (f : Nat) (l : List Int) (i k : Nat) (out : List TS) (line : Int), (bytesOf s).drop i = l → i ≤ s.size → l.length ≤ f → 4 * l.length + 40 ≤ k → out.length ≤ i → 0 ≤ line → line ≤ i + 1 →
    timeboundref02_Scan.l0 k s out line i = some (scanM f l out line) := by
  intro f
  induction f with
  | zero =>
    intro l i k out line h hi hf hk ho h0 h1
    obtain rfl := List.eq_nil_of_length_eq_zero (Nat.le_zero.1 hf)
    obtain ⟨k, rfl⟩ : ∃ m, k = m + 1 := ⟨k - 1, by omega⟩
    have := bt_nil h
    simp only [timeboundref02_Scan.l0, scanM]
    rw [if_neg (by omega)]
  | succ f ih =>
    intro l i k out line h hi hf hk ho h0 h1
    obtain ⟨k, rfl⟩ : ∃ m, k = m + 1 := ⟨k - 1, by omega⟩
    cases l with
    | nil =>
      have := bt_nil h
      simp only [timeboundref02_Scan.l0, scanM]
      rw [if_neg (by omega)]
    | cons c r =>
      obtain ⟨h2, h3, h4⟩ := bt_cons h
      have hlen : r.length + 1 = s.size - i := by have := congrArg List.length h; simp only [List.length_drop, bytesOf_length, List.length_cons] at this; omega
      simp only [List.length_cons] at hf hk
      have e1 : wrap64 ((i : Int) + 1) = ((i + 1 : Nat) : Int) := by rw [wrap_small (by omega) (by omega)]; omega
      have E1 := Lib.hid e1
      clear e1
      have hsp : ∀ m, 4 * r.length + 40 ≤ m → timeboundref02_Scan.l0 m s out line ((i + 1 : Nat) : Int) = some (scanM f r out line) := by
        intro m hm
        have q1 : i + 1 ≤ s.size := h2
        have q2 : r.length ≤ f := Nat.le_of_succ_le_succ hf
        have q3 : out.length ≤ i + 1 := Nat.le_succ_of_le ho
        have q4 : line ≤ ((i + 1 : Nat) : Int) + 1 := by clear ih h h4 h3 hf hk; omega
        exact ih r (i + 1) m out line h4 q1 q2 hm q3 h0 q4
      simp only [timeboundref02_Scan.l0, scanM]
      rw [if_pos (by omega), if_pos (by omega), h3]
      by_cases c10 : c = 10
      · rw [if_pos c10, if_pos c10, wrap_small (i := line + 1) (by omega) (by omega), E1.out]
        exact ih r (i + 1) k out (line + 1) h4 (by omega) (by omega) (by omega) (by omega) (by omega) (by omega)
      · rw [if_neg c10, if_neg c10]
        obtain ⟨k, rfl⟩ : ∃ m, k = m + 1 := ⟨k - 1, by omega⟩
        by_cases c32 : c = 32
        · rw [if_pos c32, if_pos (.inl c32)]
          simp only [timeboundref02_Scan.j1, if_true]
          rw [E1.out]
          exact hsp k (by omega)
        · rw [if_neg c32]
          by_cases c9 : c = 9
          · rw [if_pos (.inr c9)]
            simp only [timeboundref02_Scan.j1]
            rw [if_pos (by simp [c9]), E1.out]
            exact hsp k (by omega)
          · rw [if_neg (by omega)]
            simp only [timeboundref02_Scan.j1]
            rw [if_neg (by simpa using c9), rletter_eq]
            simp only [Option.bind_some]
            by_cases hl : isL c = true
            · rw [if_pos hl]
              obtain ⟨k', hk', hr⟩ := rscan_name s hs out (by omega) line i hi (c :: r) i k h (by omega) hi (by simp; omega)
              rw [hr]
              have htw : 1 ≤ ((c :: r).takeWhile isA).length := by simp [List.takeWhile_cons, isL_isA hl]
              have hle := tw_le isA (c :: r)
              simp only [List.length_cons] at hle
              by_cases h12 : 12 < ((c :: r).takeWhile isA).length
              · have hm : nextM (c :: r) = none := by simp only [nextM, if_pos hl, if_pos h12]
                rw [if_pos (by omega), hm]
              · have hm : nextM (c :: r) = some (1, 0, (c :: r).takeWhile isA, ((c :: r).takeWhile isA).length) := by simp only [nextM, if_pos hl, if_neg h12]
                rw [if_neg (by omega), hm]
                have ht : s.extract i (i + ((c :: r).takeWhile isA).length) = strOfNums ((c :: r).takeWhile isA) := by
                  refine bytesOf_inj ?_
                  rw [bytes_ext, h, show i + ((c :: r).takeWhile isA).length - i = ((c :: r).takeWhile isA).length by omega, take_tw, bytes_strOfNums]
                  intro x hx
                  exact bytes_lt s x (List.mem_of_mem_drop (by rw [h]; exact (List.takeWhile_sublist _).subset hx))
                rw [ht]
                exact ih _ _ k' _ line (by rw [← h, List.drop_drop]) (by omega) (by simp; omega) (by simp; omega) (by simp; omega) (by omega) (by omega)
            · rw [if_neg hl, rdigit_eq]
              simp only [Option.bind_some]
              by_cases hd : isD c = true
              · rw [if_pos hd]
                obtain ⟨k', hk', hr⟩ := rscan_num s hs out (by omega) line i hi (c :: r) i k h (by omega) hi (by simp; omega) (by simp)
                rw [hr]
                have htw : 1 ≤ ((c :: r).takeWhile isD).length := by simp [List.takeWhile_cons, hd]
                have hle := tw_le isD (c :: r)
                simp only [List.length_cons] at hle
                have e0 : ((bytesOf s).drop i).take (i - i) ++ (c :: r).takeWhile isD = (c :: r).takeWhile isD := by simp
                rw [e0]
                by_cases hv : 2147483647 < numv ((c :: r).takeWhile isD) 0
                · have hm : nextM (c :: r) = none := by simp only [nextM, if_neg hl, if_pos hd, if_pos hv]
                  rw [if_pos hv, hm]
                · have hm : nextM (c :: r) = some (2, numv ((c :: r).takeWhile isD) 0, [], ((c :: r).takeWhile isD).length) := by simp only [nextM, if_neg hl, if_pos hd, if_neg hv]
                  rw [if_neg hv, hm]
                  exact ih _ _ k' _ line (by rw [← h, List.drop_drop]) (by omega) (by simp; omega) (by simp; omega) (by simp; omega) (by omega) (by omega)
              · rw [if_neg hd, if_pos (by omega), if_pos (by omega), Int.toNat_natCast]
                have hx : bytesOf (s.extract i s.size) = c :: r := by rw [bytes_ext, h, List.take_of_length_le]; simp only [List.length_cons]; omega
                rw [rsign_eq (s.extract i s.size) (by simp; omega) k (by omega), hx]
                simp only [Option.bind_some]
                have hsl := signM_le (c :: r)
                have hcb : ∀ x ∈ (c :: r).take (signM (c :: r)), 0 ≤ x ∧ x ≤ 255 := fun x hx => bytes_lt s x (List.mem_of_mem_drop (by rw [h]; exact List.mem_of_mem_take hx))
                have hbs := bytes_strOfNums _ hcb
                by_cases hz : signM (c :: r) = 0
                · have hm : nextM (c :: r) = none := by simp only [nextM, if_neg hl, if_neg hd, if_pos hz]
                  rw [hm, if_pos ((nil_iff _).2 (by rw [hbs, hz]; rfl))]
                · have hm : nextM (c :: r) = some (3, 0, (c :: r).take (signM (c :: r)), signM (c :: r)) := by simp only [nextM, if_neg hl, if_neg hd, if_neg hz]
                  have hsz : (strOfNums ((c :: r).take (signM (c :: r)))).size = signM (c :: r) := by rw [← bytesOf_length, hbs, List.length_take]; omega
                  rw [hm, if_neg (fun q => hz ?_), if_pos (by omega), hsz, wrap_small (by omega) (by simp only [List.length_cons] at hsl; omega)]
                  · have e2 : (i : Int) + (signM (c :: r) : Int) = ((i + signM (c :: r) : Nat) : Int) := by omega
                    rw [e2]
                    simp only [List.length_cons] at hsl
                    exact ih _ _ k _ line (by rw [← h, List.drop_drop]) (by omega) (by simp; omega) (by simp; omega) (by simp; omega) (by omega) (by omega)
                  · have := (nil_iff _).1 q
                    rw [hbs] at this
                    have := congrArg List.length this
                    simp only [List.length_take, List.length_cons, List.length_nil] at this hsl
                    omega
theorem rScan_eq (s : ByteArray) (k : Nat) (hk : 4 * s.size + 40 ≤ k) : timeboundref02_Scan.f k s = some (scanA s) := by
  unfold timeboundref02_Scan.f scanA
  by_cases h : 8192 < s.size
  · rw [if_pos (by omega), if_pos h]
  · rw [if_neg (by omega), if_neg h]
    have hl := bytesOf_length s
    exact rscan_eq s (by omega) s.size (bytesOf s) 0 k [] 1 rfl (by omega) (by omega) (by omega) (by simp) (by omega) (by omega)
end Go.Proofs.YtcnmejahighkfaaDoor.Tok
-- TokC
/- The parts of the laws on tokens. -/
namespace Go.Proofs.YtcnmejahighkfaaDoor.Tok
open Go.RowKit Go.Proofs.YtcnmejahighkfaaDoor.P Go.Proofs.YtcnmejahighkfaaDoorW.PrintWords Go.Proofs.YtcnmejahighkfaaDoorW.PrintLast Go.Proofs.YtcnmejahighkfaaDoorW.PrintMore
set_option linter.unusedVariables false
set_option linter.unusedSimpArgs false

theorem scan_awake : scanA (⟨#[105, 60, 61, 49, 48]⟩ : ByteArray) = ([⟨1, 0, 1, ⟨#[105]⟩⟩, ⟨3, 0, 1, ⟨#[60, 61]⟩⟩, ⟨2, 10, 1, ⟨#[]⟩⟩], 0, 0) := by kernel_rfl
theorem name_a1 : nameM (bytesOf (⟨#[97, 49]⟩ : ByteArray)) = 2 := by kernel_rfl
theorem itoa_10 : (⟨(Lib.itoa 10).toArray⟩ : ByteArray) = ⟨#[49, 48]⟩ := by kernel_rfl
theorem awake_eq (k : Nat) (hk : 5 ≤ k) : timeboundlaw02_awake.f k = some true := by
  obtain ⟨k, rfl⟩ : ∃ m, k = m + 1 := ⟨k - 1, by omega⟩
  obtain ⟨L, hL⟩ : ∃ L : List TS, L = [⟨1, 0, 1, ⟨#[105]⟩⟩, ⟨3, 0, 1, ⟨#[60, 61]⟩⟩, ⟨2, 10, 1, ⟨#[]⟩⟩] := ⟨_, rfl⟩
  have hlen : (L.length : Int) = 3 := by rw [hL]; rfl
  have e0 : (rd_T59 L 0).f3.toList = ([105] : List UInt8) := by rw [hL, toList_data]; rfl
  have e1 : (rd_T59 L 1).f3.toList = ([60, 61] : List UInt8) := by rw [hL, toList_data]; rfl
  have e2 : (rd_T59 L 2).f1 = 10 := by rw [hL]; rfl
  have e3 : (rd_T59 L 2).f0 = 2 := by rw [hL]; rfl
  have h1 : token_Name.f (k + 1) (⟨#[97, 49]⟩ : ByteArray) = some true := by
    unfold token_Name.f
    rw [if_neg (by rw [toList_data]; simp), if_pos (by decide), name_eq _ (by show 2 ≤ 1000000; omega) (k + 1) (by show 2 < k + 1; omega), name_a1]
    rfl
  have h2 : ∀ (a : Int) (b : ByteArray), token_Word.f (k + 1) 2 10 a b = some ⟨#[49, 48]⟩ := by
    intro a b
    unfold token_Word.f
    rw [if_neg (by omega)]
    simp only [token_Word.j0]
    rw [if_neg (by decide), if_pos trivial, if_neg (by omega), if_neg (by omega)]
    unfold strconv_Itoa.f
    rw [if_pos (by omega), if_pos (by omega), itoa_10]
    rfl
  unfold timeboundlaw02_awake.f
  rw [Scan_eq, scan_awake, ← hL]
  simp only [Option.bind_some]
  rw [if_pos trivial, if_pos trivial, if_pos hlen, if_pos (by omega), if_pos e0, if_pos (by omega), if_pos e1, if_pos (by omega), if_pos e2, h1]
  simp only [Option.bind_some, if_true]
  rw [e2, e3, h2]
  simp only [Option.bind_some]
  rw [toList_data]
  rfl
/-- Two lists of tokens are equal, but perhaps for the lines. -/
def eqTok (lines : Bool) (a b : TS) : Prop := a.f0 = b.f0 ∧ a.f1 = b.f1 ∧ a.f3 = b.f3 ∧ (lines = true → a.f2 = b.f2)
theorem rd_at (xs : List TS) (i : Nat) (h : i < xs.length) : rd_T59 xs (i : Int) = xs[i] := by simp [rd_T59, h]
theorem same_l0 (a b : List TS) (lines : Bool) (hl : a.length = b.length) (hb : a.length ≤ 1000000000) (h : ∀ (i : Nat) (h1 : i < a.length) (h2 : i < b.length), eqTok lines a[i] b[i]) : ∀ (d i k : Nat), a.length - i = d → i ≤ a.length → d < k → timeboundref02_Same.l0 k a b lines i = some true := by
  intro d
  induction d with
  | zero =>
    intro i k hd hi hk
    obtain ⟨k, rfl⟩ : ∃ m, k = m + 1 := ⟨k - 1, by omega⟩
    simp only [timeboundref02_Same.l0]
    rw [if_neg (by omega)]
  | succ d ih =>
    intro i k hd hi hk
    obtain ⟨k, rfl⟩ : ∃ m, k = m + 1 := ⟨k - 1, by omega⟩
    have h1 : i < a.length := by omega
    have h2 : i < b.length := by omega
    obtain ⟨e0, e1, e3, e2⟩ := h i h1 h2
    have hw : wrap64 ((i : Int) + 1) = ((i + 1 : Nat) : Int) := by rw [wrap_small (by omega) (by omega)]; omega
    have HW := Lib.hid hw
    clear hw
    have hn := ih (i + 1) k (by omega) (by omega) (by omega)
    simp only [timeboundref02_Same.l0]
    rw [if_pos (by omega), if_pos (by omega), if_pos (by omega), rd_at a i h1, rd_at b i h2, if_pos e0, if_pos e1, if_pos (by rw [e3]), HW.out]
    cases lines with
    | false => simpa using hn
    | true => rw [if_pos rfl, if_pos (e2 rfl)]; exact hn
theorem same_eq (a b : List TS) (lines : Bool) (hl : a.length = b.length) (hb : a.length ≤ 1000000000) (h : ∀ (i : Nat) (h1 : i < a.length) (h2 : i < b.length), eqTok lines a[i] b[i]) (k : Nat) (hk : a.length < k) : timeboundref02_Same.f k a b lines = some true := by
  unfold timeboundref02_Same.f
  rw [if_pos (by omega)]
  exact same_l0 a b lines hl hb h a.length 0 k (by omega) (by omega) hk
theorem same_self (a : List TS) (hb : a.length ≤ 1000000000) (k : Nat) (hk : a.length < k) : timeboundref02_Same.f k a a true = some true :=
  same_eq a a true rfl hb (fun i h1 h2 => ⟨rfl, rfl, rfl, fun _ => rfl⟩) k hk
theorem scanM_len : ∀ (f : Nat) (l : List Int) (out : List TS) (line : Int), (scanM f l out line).1.length ≤ out.length + f := by
  intro f
  induction f with
  | zero => intro l out line; simp [scanM]
  | succ f ih =>
    intro l out line
    cases l with
    | nil => simp [scanM]
    | cons c r =>
      simp only [scanM]
      split
      · have := ih r out (line + 1); omega
      · split
        · have := ih r out line; omega
        · cases nextM (c :: r) with
          | none => simp
          | some x =>
            obtain ⟨a, b, t, n⟩ := x
            have := ih ((c :: r).drop n) (out ++ [⟨a, b, line, strOfNums t⟩]) line
            simp at this ⊢
            omega
theorem scanA_len (s : ByteArray) : (scanA s).1.length ≤ 8192 := by
  unfold scanA
  split
  · simp
  · have := scanM_len s.size (bytesOf s) [] 1
    simp at this
    omega
def pieceList : List ByteArray := [⟨#[97]⟩, ⟨#[116, 97, 115, 107]⟩, ⟨#[120, 57]⟩, ⟨#[49, 50]⟩, ⟨#[48]⟩, ⟨#[48, 48, 55]⟩, ⟨#[50, 49, 52, 55, 52, 56, 51, 54, 52, 55]⟩, ⟨#[50, 49, 52, 55, 52, 56, 51, 54, 52, 56]⟩, ⟨#[60]⟩, ⟨#[60, 60]⟩, ⟨#[61]⟩, ⟨#[61, 61]⟩, ⟨#[33]⟩, ⟨#[33, 61]⟩, ⟨#[62]⟩, ⟨#[62, 62]⟩, ⟨#[43]⟩, ⟨#[45]⟩, ⟨#[42]⟩, ⟨#[47]⟩, ⟨#[37]⟩, ⟨#[38]⟩, ⟨#[124]⟩, ⟨#[94]⟩, ⟨#[40]⟩, ⟨#[41]⟩, ⟨#[91]⟩, ⟨#[93]⟩, ⟨#[123]⟩, ⟨#[125]⟩, ⟨#[32]⟩, ⟨#[32, 32]⟩, ⟨#[9]⟩, ⟨#[10]⟩, ⟨#[65]⟩, ⟨#[95]⟩, ⟨#[97, 98, 99, 100, 101, 102, 103, 104, 105, 106, 107, 108]⟩, ⟨#[109]⟩, ⟨#[13]⟩, ⟨#[195, 169]⟩]
theorem piece_len : pieceList.length = 40 := by decide +kernel
theorem piece_size : ∀ p ∈ pieceList, p.size ≤ 12 := by decide +kernel
theorem wf_range {x : Int} (h : (Lit.int .u8 x).wf = true) : 0 ≤ x ∧ x ≤ 255 := Go.bounds_u8 h
theorem pieces_l0 (l0 : List Int) (hw : ∀ x ∈ l0, 0 ≤ x ∧ x ≤ 255) (hlen : l0.length ≤ 140737488351232) : ∀ (d i k : Nat) (t : ByteArray), 60 - i = d → i ≤ 60 → d < k → t.size ≤ 12 * i → ∃ r, (∀ k, d < k → timeboundlaw02_pieces.l0 k l0 pieceList t i = some r) ∧ r.size ≤ 720 := by
  intro d
  induction d with
  | zero =>
    intro i k t hd hi hk ht
    refine ⟨t, fun k hk => ?_, by omega⟩
    obtain ⟨k, rfl⟩ : ∃ m, k = m + 1 := ⟨k - 1, by omega⟩
    simp only [timeboundlaw02_pieces.l0]
    split
    · rw [if_neg (by omega)]
    · rfl
  | succ d ih =>
    intro i k t hd hi hk ht
    by_cases hil : i < l0.length
    · have hx := hw l0[i] (List.getElem_mem hil)
      have hr : rd l0 (i : Int) = l0[i] := by simp [rd, hil]
      have hpl : (pieceList.length : Int) = 40 := by rw [piece_len]; rfl
      have htm : Int.tmod l0[i] 40 = l0[i] % 40 := Int.tmod_eq_emod_of_nonneg hx.1
      have hj0 : 0 ≤ l0[i] % 40 := by omega
      have hj1 : l0[i] % 40 < 40 := by omega
      have hmem : rdOf ByteArray.empty pieceList (l0[i] % 40) ∈ pieceList := by
        have hlt : (l0[i] % 40).toNat < pieceList.length := by rw [piece_len]; omega
        have e : rdOf ByteArray.empty pieceList (l0[i] % 40) = pieceList[(l0[i] % 40).toNat] := by simp only [rdOf, List.getD_eq_getElem?_getD, List.getElem?_eq_getElem hlt, Option.getD_some]
        rw [e]
        exact List.getElem_mem hlt
      have hps := piece_size _ hmem
      obtain ⟨r, hr2, hrs⟩ := ih (i + 1) (d + 1) (t ++ rdOf ByteArray.empty pieceList (l0[i] % 40)) (by omega) (by omega) (by omega) (by rw [ByteArray.size_append]; omega)
      refine ⟨r, fun k hk => ?_, hrs⟩
      obtain ⟨k, rfl⟩ : ∃ m, k = m + 1 := ⟨k - 1, by omega⟩
      have hw1 : wrap64 ((i : Int) + 1) = ((i + 1 : Nat) : Int) := by rw [wrap_small (by omega) (by omega)]; omega
      have HW := Lib.hid hw1
      clear hw1
      simp only [timeboundlaw02_pieces.l0]
      rw [if_pos (by omega), if_pos (by omega), if_pos (by omega), hr, wrap_small (by omega) (by omega), hpl, htm, if_neg (by omega), if_pos hj0, if_pos hj1, if_pos (by omega), HW.out]
      exact hr2 k (by omega)
    · refine ⟨t, fun k hk => ?_, by omega⟩
      obtain ⟨k, rfl⟩ : ∃ m, k = m + 1 := ⟨k - 1, by omega⟩
      simp only [timeboundlaw02_pieces.l0]
      rw [if_neg (by omega)]
theorem pieces_eq (l0 : List Int) (hw : ∀ x ∈ l0, (Lit.int .u8 x).wf = true) (hlen : l0.length ≤ 140737488351232) : ∃ r, (∀ k, 60 < k → timeboundlaw02_pieces.f k l0 = some r) ∧ r.size ≤ 720 := by
  have h0 : (⟨#[]⟩ : ByteArray).size = 0 := rfl
  obtain ⟨r, h, hs⟩ := pieces_l0 l0 (fun x hx => wf_range (hw x hx)) hlen 60 0 61 ⟨#[]⟩ rfl (by omega) (by omega) (by omega)
  exact ⟨r, fun k hk => h k hk, hs⟩
end Go.Proofs.YtcnmejahighkfaaDoor.Tok
-- PureTokenPieces
namespace Go.Proofs.YtcnmejahighkfaaDoor.Pure
open Go.RowKit Go.Proofs.YtcnmejahighkfaaDoor.P Go.Proofs.YtcnmejahighkfaaDoorW.PrintWords Go.Proofs.YtcnmejahighkfaaDoorW.PrintLast Go.Proofs.YtcnmejahighkfaaDoor.Tok
theorem TokenPieces : timeboundlaw02_TokenPieces.Pure := by
  intro l0 h1 h2 h3
  obtain ⟨r, hr, hs⟩ := pieces_eq l0 h3 (by omega)
  have hl := scanA_len r
  refine ⟨20000, ?_⟩
  unfold timeboundlaw02_TokenPieces.f
  rw [hr 20000 (by omega), Option.bind_some, Scan_eq, Option.bind_some, rScan_eq r 20000 (by omega), Option.bind_some, if_pos rfl, if_pos rfl, same_self _ (by omega) 20000 (by omega), Option.bind_some, if_pos rfl, awake_eq 20000 (by omega)]
  rfl
end Go.Proofs.YtcnmejahighkfaaDoor.Pure
