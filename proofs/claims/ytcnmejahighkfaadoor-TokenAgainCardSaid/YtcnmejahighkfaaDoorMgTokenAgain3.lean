/- For every piece list, the words of the tokens that the scanner tells, joined with spaces, are scanned to the same tokens, so TokenAgain answers true. No condition. -/
import Derived.Shelf.Strconv.Itoa0
import Derived.Shelf.Strconv.Itoa1
import Derived.Shelf.LaysM
import Derived.Shelf.Strconv.Itoa2
import Derived.Shelf.Strconv.Itoa3
import Derived.Shelf.Slices.Turned
import Derived.Test.YtcnmejahighkfaaDoorProg
import Derived.WalkKit
import Derived.WalkSmall
import Derived.Lib.AppendIntMem
import Derived.Lib.LaidTab
import Derived.MapKept
import Derived.Carry
import Derived.KernelRfl
import Derived.Below
import Derived.Deep.Draws
import Derived.Deep.AppendLies
import Derived.Maps.AppendAt
import Derived.OwnWalk
import Derived.Laws.BytesArg
import Derived.Laws.MakeOwn
import Derived.Laws.OwnMore
import Derived.Deep.OwnRows
import Derived.Tactics
import Derived.Lib.ConvBytes
import Derived.Laws.Slices
import Derived.RowKit3
import Derived.Deep.LoopGhost
import Derived.Deep.QuietTactic
import Derived.BigQuiet
import Derived.WideLaws
import Derived.Deep.DeepCutAuto
import Derived.Deep.CutBlock
import Derived.Deep.RegionHeld3
import Derived.Laws.Rows
import Derived.Lib.AppendStr
import Derived.ArgAppend
import Derived.Laws.IdiomCopy
import Derived.OrdersHeld
import Derived.Laws.BitsLemmas
import Derived.RowKit
import Derived.Test.YtcnmejahighkfaaDoorWWords
import Derived.Test.YtcnmejahighkfaaDoorWLast
import Derived.Test.YtcnmejahighkfaaDoorWTab
import Derived.Test.YtcnmejahighkfaaDoorWFour
import Derived.Test.YtcnmejahighkfaaDoorWQPut
import Derived.Test.YtcnmejahighkfaaDoorWApart
import Derived.Test.YtcnmejahighkfaaDoorWArr
import Derived.Test.YtcnmejahighkfaaDoorWZeros
import Derived.Test.YtcnmejahighkfaaDoorWFoot
import Derived.Test.YtcnmejahighkfaaDoorWKept
import Derived.Test.YtcnmejahighkfaaDoorWShare
import Derived.Test.YtcnmejahighkfaaDoorWN
import Derived.Test.YtcnmejahighkfaaDoorWFootNe
import Derived.Test.YtcnmejahighkfaaDoorWAt
import Derived.Test.YtcnmejahighkfaaDoorWEqStruct
import Derived.Test.YtcnmejahighkfaaDoorWRepsOne
import Derived.Test.YtcnmejahighkfaaDoorWInv
import Derived.Test.YtcnmejahighkfaaDoorWInvWords
import Derived.Test.YtcnmejahighkfaaDoorWGuard
import Derived.Test.YtcnmejahighkfaaDoorWNEv
import Derived.Test.YtcnmejahighkfaaDoorWMore
import Derived.OpenShut
import Derived.Lib.ItoaMem
import Derived.Test.YtcnmejahighkfaaDoorRows
import Derived.Test.YtcnmejahighkfaaDoorCards
import Derived.Test.YtcnmejahighkfaaDoorTie
import Derived.Deep.DeepHandedRow
import Derived.Deep.DeepWitnessRowRef
import Derived.Stop.LaidErr
import Derived.ProofKit
import Derived.ShutString
import Derived.ChangeOld
import Derived.SizedLaws
import Derived.Test.YtcnmejahighkfaaDoorWSized
import Derived.Test.YtcnmejahighkfaaDoorMgTokenAgain2
-- Pf9
namespace Go.Proofs.YtcnmejahighkfaaDoor.P
open Go.RowKit Go.Proofs.YtcnmejahighkfaaDoorW.PrintWords Go.Proofs.YtcnmejahighkfaaDoorW.PrintLast Go.Proofs.YtcnmejahighkfaaDoorW.PrintMore
attribute [local go_sem] max2_int min2_int max_two min_two max_three min_three max_four min_four   -- for this text's walks alone
set_option linter.unusedVariables false
set_option linter.unusedSimpArgs false

/-! ### timeboundlaw02_TokenSpaces: function 9 -/
mutual
def timeboundlaw02_TokenSpaces.j0 : Nat → Int → List (S59) → ByteArray → Bool → Option (Bool)
  | 0, _, _, _, _ => none
  | k + 1, x1, x8, x11, x55 => if x55 = true then (some false) else ((timeboundmake_Mod.f x1 (wrap64 ((x8.length : Int) + 1))).bind fun t574 => (timeboundlaw02_TokenSpaces.l0 k x8 x11 (⟨#[]⟩ : ByteArray) t574 0))
def timeboundlaw02_TokenSpaces.l0 : Nat → List (S59) → ByteArray → ByteArray → Int → Int → Option (Bool)
  | 0, _, _, _, _, _ => none
  | k + 1, x8, x11, x15, x16, x17 => if x17 < (x8.length : Int) then (if x17 = x16 then (if x15.size + x11.size ≤ 9223372036854775807 then (if (x15 ++ x11).size + 1 ≤ 9223372036854775807 then (if 0 ≤ x17 then ((token_Word.f k ((rd_T59 x8 x17).f0) ((rd_T59 x8 x17).f1) ((rd_T59 x8 x17).f2) ((rd_T59 x8 x17).f3)).bind fun t576 => (if ((x15 ++ x11) ++ (⟨#[32]⟩ : ByteArray)).size + t576.size ≤ 9223372036854775807 then (timeboundlaw02_TokenSpaces.l0 k x8 x11 (((x15 ++ x11) ++ (⟨#[32]⟩ : ByteArray)) ++ t576) x16 (wrap64 (x17 + 1))) else (none))) else (none)) else (none)) else (none)) else (if x15.size + 1 ≤ 9223372036854775807 then (if 0 ≤ x17 then ((token_Word.f k ((rd_T59 x8 x17).f0) ((rd_T59 x8 x17).f1) ((rd_T59 x8 x17).f2) ((rd_T59 x8 x17).f3)).bind fun t578 => (if (x15 ++ (⟨#[32]⟩ : ByteArray)).size + t578.size ≤ 9223372036854775807 then (timeboundlaw02_TokenSpaces.l0 k x8 x11 ((x15 ++ (⟨#[32]⟩ : ByteArray)) ++ t578) x16 (wrap64 (x17 + 1))) else (none))) else (none)) else (none))) else ((token_Scan.f x15).bind fun bt579 => (if bt579.2.2 = 0 then (if bt579.2.1 = 0 then ((timeboundref02_Same.f k x8 bt579.1 false).bind fun t584 => (if t584 = true then ((timeboundlaw02_awake.f k).bind fun t585 => (some t585)) else (some false))) else (some false)) else (some false)))
end
def timeboundlaw02_TokenSpaces.f (k : Nat) (l0 : List Int) (a1 : Int) (a2 : Int) : Option (Bool) := (timeboundlaw02_pieces.f k l0).bind fun t557 => ((token_Scan.f t557).bind fun bt558 => (if bt558.2.2 = 0 then ((some (([(⟨#[32]⟩ : ByteArray), (⟨#[9]⟩ : ByteArray), (⟨#[10]⟩ : ByteArray), (⟨#[32, 10, 32]⟩ : ByteArray)] : List ByteArray) : List ByteArray)).bind fun y564 => (if 0 ≤ (Int.tmod a2 4) then (if (Int.tmod a2 4) < (y564.length : Int) then (if (rdOf ByteArray.empty y564 (Int.tmod a2 4)).size + t557.size ≤ 9223372036854775807 then (if ((rdOf ByteArray.empty y564 (Int.tmod a2 4)) ++ t557).size + (rdOf ByteArray.empty y564 (Int.tmod a2 4)).size ≤ 9223372036854775807 then ((token_Scan.f (((rdOf ByteArray.empty y564 (Int.tmod a2 4)) ++ t557) ++ (rdOf ByteArray.empty y564 (Int.tmod a2 4)))).bind fun bt568 => (if bt568.2.2 = 0 then (if bt568.2.1 = 0 then ((timeboundref02_Same.f k bt558.1 bt568.1 false).bind fun t573 => (timeboundlaw02_TokenSpaces.j0 k a1 bt558.1 (rdOf ByteArray.empty y564 (Int.tmod a2 4)) (!t573))) else (timeboundlaw02_TokenSpaces.j0 k a1 bt558.1 (rdOf ByteArray.empty y564 (Int.tmod a2 4)) true)) else (timeboundlaw02_TokenSpaces.j0 k a1 bt558.1 (rdOf ByteArray.empty y564 (Int.tmod a2 4)) true))) else (none)) else (none)) else (none)) else (none))) else ((timeboundlaw02_awake.f k).bind fun t563 => (some t563))))
theorem timeboundlaw02_TokenSpaces.mono_l : ∀ k, (∀ y0 y1 y2 y3, LeO (timeboundlaw02_TokenSpaces.j0 k y0 y1 y2 y3) (timeboundlaw02_TokenSpaces.j0 (k + 1) y0 y1 y2 y3)) ∧ (∀ y0 y1 y2 y3 y4, LeO (timeboundlaw02_TokenSpaces.l0 k y0 y1 y2 y3 y4) (timeboundlaw02_TokenSpaces.l0 (k + 1) y0 y1 y2 y3 y4))
  | 0 => ⟨fun _ _ _ _ r h => by simp [timeboundlaw02_TokenSpaces.j0] at h, fun _ _ _ _ _ r h => by simp [timeboundlaw02_TokenSpaces.l0] at h⟩
  | k + 1 => by
    obtain ⟨ih0, ih1⟩ := timeboundlaw02_TokenSpaces.mono_l k
    refine ⟨?_, ?_⟩
    · intro y0 y1 y2 y3
      unfold timeboundlaw02_TokenSpaces.j0
      repeat' first
      | (with_reducible exact ih0 _ _ _ _)
      | (with_reducible exact ih1 _ _ _ _ _)
      | (with_reducible exact timeboundlaw02_awake.mono _)
      | (with_reducible exact timeboundlaw02_pieces.mono _ _)
      | (with_reducible exact timeboundref02_Same.mono _ _ _ _)
      | (with_reducible exact token_Word.mono _ _ _ _ _)
      | (with_reducible exact LeO.refl _)
      | (with_reducible exact LeO.none _)
      | (with_reducible refine LeO.ite ?_ ?_)
      | (with_reducible refine LeO.bind ?_ (fun _ => ?_))
      | exact ih0 _ _ _ _
      | exact ih1 _ _ _ _ _
      | exact timeboundlaw02_awake.mono _
      | exact timeboundlaw02_pieces.mono _ _
      | exact timeboundref02_Same.mono _ _ _ _
      | exact token_Word.mono _ _ _ _ _
      | exact LeO.none _
      | refine LeO.ite ?_ ?_
      | refine LeO.bind ?_ (fun _ => ?_)
    · intro y0 y1 y2 y3 y4
      unfold timeboundlaw02_TokenSpaces.l0
      repeat' first
      | (with_reducible exact ih0 _ _ _ _)
      | (with_reducible exact ih1 _ _ _ _ _)
      | (with_reducible exact timeboundlaw02_awake.mono _)
      | (with_reducible exact timeboundlaw02_pieces.mono _ _)
      | (with_reducible exact timeboundref02_Same.mono _ _ _ _)
      | (with_reducible exact token_Word.mono _ _ _ _ _)
      | (with_reducible exact LeO.refl _)
      | (with_reducible exact LeO.none _)
      | (with_reducible refine LeO.ite ?_ ?_)
      | (with_reducible refine LeO.bind ?_ (fun _ => ?_))
      | exact ih0 _ _ _ _
      | exact ih1 _ _ _ _ _
      | exact timeboundlaw02_awake.mono _
      | exact timeboundlaw02_pieces.mono _ _
      | exact timeboundref02_Same.mono _ _ _ _
      | exact token_Word.mono _ _ _ _ _
      | exact LeO.none _
      | refine LeO.ite ?_ ?_
      | refine LeO.bind ?_ (fun _ => ?_)
theorem timeboundlaw02_TokenSpaces.mono : ∀ a0 a1 a2 k, LeO (timeboundlaw02_TokenSpaces.f k a0 a1 a2) (timeboundlaw02_TokenSpaces.f (k + 1) a0 a1 a2) := by
  intro a0 a1 a2 k
  obtain ⟨ih0, ih1⟩ := timeboundlaw02_TokenSpaces.mono_l k
  unfold timeboundlaw02_TokenSpaces.f
  repeat' first
      | (with_reducible exact ih0 _ _ _ _)
      | (with_reducible exact ih1 _ _ _ _ _)
      | (with_reducible exact timeboundlaw02_awake.mono _)
      | (with_reducible exact timeboundlaw02_pieces.mono _ _)
      | (with_reducible exact timeboundref02_Same.mono _ _ _ _)
      | (with_reducible exact token_Word.mono _ _ _ _ _)
      | (with_reducible exact LeO.refl _)
      | (with_reducible exact LeO.none _)
      | (with_reducible refine LeO.ite ?_ ?_)
      | (with_reducible refine LeO.bind ?_ (fun _ => ?_))
      | exact ih0 _ _ _ _
      | exact ih1 _ _ _ _ _
      | exact timeboundlaw02_awake.mono _
      | exact timeboundlaw02_pieces.mono _ _
      | exact timeboundref02_Same.mono _ _ _ _
      | exact token_Word.mono _ _ _ _ _
      | exact LeO.none _
      | refine LeO.ite ?_ ?_
      | refine LeO.bind ?_ (fun _ => ?_)
set_option maxHeartbeats 8000000 in
set_option maxRecDepth 100000 in
theorem timeboundlaw02_TokenSpaces.calls (k : Nat) (A0 : Option Addr) (c0 : Nat) (l0 : List Int) (a1 : Int) (a2 : Int) (r : Bool) (w : World) (hr0 : Kd.C (Kd.int .u8) w A0 l0.length l0) (hc0 : l0.length ≤ c0) (h : timeboundlaw02_TokenSpaces.f k l0 a1 a2 = some r) (hG_Pow : LaidPow w := by first | assumption | exact LaidPow.via (by assumption) (by repeat (first | exact Aside0.out (by assumption) | (with_reducible first | apply below_alloc | apply pw_below_drewN | apply below_drew1) | exact Below.refl _ _))) :
    Calls Tryd.prog 9 #[.slice A0 l0.length c0, .int .i64 a1, .int .u8 a2] w fun e w' => e = .returned (.bool r) ∧ Below w.heap.size w w' := by
  have hu59 := Tryd.underlying59
  have HR0 := Aside0.mk hr0
  have HC0 := Aside0.mk hc0
  clear hr0 hc0
  have HB := Aside0.mk (Below.refl w.heap.size w)
  have H : ((timeboundlaw02_pieces.f k l0).bind fun t557 => ((token_Scan.f t557).bind fun bt558 => (if bt558.2.2 = 0 then ((some (([(⟨#[32]⟩ : ByteArray), (⟨#[9]⟩ : ByteArray), (⟨#[10]⟩ : ByteArray), (⟨#[32, 10, 32]⟩ : ByteArray)] : List ByteArray) : List ByteArray)).bind fun y564 => (if 0 ≤ (Int.tmod a2 4) then (if (Int.tmod a2 4) < (y564.length : Int) then (if (rdOf ByteArray.empty y564 (Int.tmod a2 4)).size + t557.size ≤ 9223372036854775807 then (if ((rdOf ByteArray.empty y564 (Int.tmod a2 4)) ++ t557).size + (rdOf ByteArray.empty y564 (Int.tmod a2 4)).size ≤ 9223372036854775807 then ((token_Scan.f (((rdOf ByteArray.empty y564 (Int.tmod a2 4)) ++ t557) ++ (rdOf ByteArray.empty y564 (Int.tmod a2 4)))).bind fun bt568 => (if bt568.2.2 = 0 then (if bt568.2.1 = 0 then ((timeboundref02_Same.f k bt558.1 bt568.1 false).bind fun t573 => (timeboundlaw02_TokenSpaces.j0 k a1 bt558.1 (rdOf ByteArray.empty y564 (Int.tmod a2 4)) (!t573))) else (timeboundlaw02_TokenSpaces.j0 k a1 bt558.1 (rdOf ByteArray.empty y564 (Int.tmod a2 4)) true)) else (timeboundlaw02_TokenSpaces.j0 k a1 bt558.1 (rdOf ByteArray.empty y564 (Int.tmod a2 4)) true))) else (none)) else (none)) else (none)) else (none))) else ((timeboundlaw02_awake.f k).bind fun t563 => (some t563))))) = some r := h
  clear h
  replace H := Option.bind_eq_some_iff.mp H
  obtain ⟨t557, A40, H⟩ := H
  replace H : ((token_Scan.f t557).bind fun bt558 => (if bt558.2.2 = 0 then ((some (([(⟨#[32]⟩ : ByteArray), (⟨#[9]⟩ : ByteArray), (⟨#[10]⟩ : ByteArray), (⟨#[32, 10, 32]⟩ : ByteArray)] : List ByteArray) : List ByteArray)).bind fun y564 => (if 0 ≤ (Int.tmod a2 4) then (if (Int.tmod a2 4) < (y564.length : Int) then (if (rdOf ByteArray.empty y564 (Int.tmod a2 4)).size + t557.size ≤ 9223372036854775807 then (if ((rdOf ByteArray.empty y564 (Int.tmod a2 4)) ++ t557).size + (rdOf ByteArray.empty y564 (Int.tmod a2 4)).size ≤ 9223372036854775807 then ((token_Scan.f (((rdOf ByteArray.empty y564 (Int.tmod a2 4)) ++ t557) ++ (rdOf ByteArray.empty y564 (Int.tmod a2 4)))).bind fun bt568 => (if bt568.2.2 = 0 then (if bt568.2.1 = 0 then ((timeboundref02_Same.f k bt558.1 bt568.1 false).bind fun t573 => (timeboundlaw02_TokenSpaces.j0 k a1 bt558.1 (rdOf ByteArray.empty y564 (Int.tmod a2 4)) (!t573))) else (timeboundlaw02_TokenSpaces.j0 k a1 bt558.1 (rdOf ByteArray.empty y564 (Int.tmod a2 4)) true)) else (timeboundlaw02_TokenSpaces.j0 k a1 bt558.1 (rdOf ByteArray.empty y564 (Int.tmod a2 4)) true))) else (none)) else (none)) else (none)) else (none))) else ((timeboundlaw02_awake.f k).bind fun t563 => (some t563)))) = some r := H
  have A4 := Aside0.mk A40
  clear A40
  replace H := Option.bind_eq_some_iff.mp H
  obtain ⟨⟨t558, t559, t560⟩, A50, H⟩ := H
  replace H : (if t560 = 0 then ((some (([(⟨#[32]⟩ : ByteArray), (⟨#[9]⟩ : ByteArray), (⟨#[10]⟩ : ByteArray), (⟨#[32, 10, 32]⟩ : ByteArray)] : List ByteArray) : List ByteArray)).bind fun y564 => (if 0 ≤ (Int.tmod a2 4) then (if (Int.tmod a2 4) < (y564.length : Int) then (if (rdOf ByteArray.empty y564 (Int.tmod a2 4)).size + t557.size ≤ 9223372036854775807 then (if ((rdOf ByteArray.empty y564 (Int.tmod a2 4)) ++ t557).size + (rdOf ByteArray.empty y564 (Int.tmod a2 4)).size ≤ 9223372036854775807 then ((token_Scan.f (((rdOf ByteArray.empty y564 (Int.tmod a2 4)) ++ t557) ++ (rdOf ByteArray.empty y564 (Int.tmod a2 4)))).bind fun bt568 => (if bt568.2.2 = 0 then (if bt568.2.1 = 0 then ((timeboundref02_Same.f k t558 bt568.1 false).bind fun t573 => (timeboundlaw02_TokenSpaces.j0 k a1 t558 (rdOf ByteArray.empty y564 (Int.tmod a2 4)) (!t573))) else (timeboundlaw02_TokenSpaces.j0 k a1 t558 (rdOf ByteArray.empty y564 (Int.tmod a2 4)) true)) else (timeboundlaw02_TokenSpaces.j0 k a1 t558 (rdOf ByteArray.empty y564 (Int.tmod a2 4)) true))) else (none)) else (none)) else (none)) else (none))) else ((timeboundlaw02_awake.f k).bind fun t563 => (some t563))) = some r := H
  have A5 := Aside0.mk A50
  clear A50
  by_cases c6 : t560 = 0
  · rw [if_pos c6] at H
    have c6b0 : (t560 == 0) = true := beq_iff_eq.mpr c6
    have c6b1 : (t560 != 0) = false := bne_eq_false_iff_eq.mpr c6
    clear c6
    obtain ⟨y564, hy564⟩ : ∃ y_ : List ByteArray, y_ = (([(⟨#[32]⟩ : ByteArray), (⟨#[9]⟩ : ByteArray), (⟨#[10]⟩ : ByteArray), (⟨#[32, 10, 32]⟩ : ByteArray)] : List ByteArray)) := ⟨_, rfl⟩
    replace H : (if 0 ≤ (Int.tmod a2 4) then (if (Int.tmod a2 4) < (y564.length : Int) then (if (rdOf ByteArray.empty y564 (Int.tmod a2 4)).size + t557.size ≤ 9223372036854775807 then (if ((rdOf ByteArray.empty y564 (Int.tmod a2 4)) ++ t557).size + (rdOf ByteArray.empty y564 (Int.tmod a2 4)).size ≤ 9223372036854775807 then ((token_Scan.f (((rdOf ByteArray.empty y564 (Int.tmod a2 4)) ++ t557) ++ (rdOf ByteArray.empty y564 (Int.tmod a2 4)))).bind fun bt568 => (if bt568.2.2 = 0 then (if bt568.2.1 = 0 then ((timeboundref02_Same.f k t558 bt568.1 false).bind fun t573 => (timeboundlaw02_TokenSpaces.j0 k a1 t558 (rdOf ByteArray.empty y564 (Int.tmod a2 4)) (!t573))) else (timeboundlaw02_TokenSpaces.j0 k a1 t558 (rdOf ByteArray.empty y564 (Int.tmod a2 4)) true)) else (timeboundlaw02_TokenSpaces.j0 k a1 t558 (rdOf ByteArray.empty y564 (Int.tmod a2 4)) true))) else (none)) else (none)) else (none)) else (none)) = some r := by first | (rw [hy564]; with_reducible exact H) | (have H2_ := (Option.bind_some _ _).symm.trans H; rw [hy564]; with_reducible exact H2_) | (have H2_ := (Option.bind_some _ _).symm.trans H; with_reducible exact H2_) | with_reducible exact H | (rw [hy564]; exact H) | exact H
    have Ny564 := Aside0.mk hy564
    clear hy564
    obtain ⟨ji7, hji7⟩ : ∃ j_ : Int, (Int.tmod a2 4) = j_ := ⟨_, rfl⟩
    replace H : (if 0 ≤ (ji7) then (if (ji7) < (y564.length : Int) then (if (rdOf ByteArray.empty y564 (ji7)).size + t557.size ≤ 9223372036854775807 then (if ((rdOf ByteArray.empty y564 (ji7)) ++ t557).size + (rdOf ByteArray.empty y564 (ji7)).size ≤ 9223372036854775807 then ((token_Scan.f (((rdOf ByteArray.empty y564 (ji7)) ++ t557) ++ (rdOf ByteArray.empty y564 (ji7)))).bind fun bt568 => (if bt568.2.2 = 0 then (if bt568.2.1 = 0 then ((timeboundref02_Same.f k t558 bt568.1 false).bind fun t573 => (timeboundlaw02_TokenSpaces.j0 k a1 t558 (rdOf ByteArray.empty y564 (ji7)) (!t573))) else (timeboundlaw02_TokenSpaces.j0 k a1 t558 (rdOf ByteArray.empty y564 (ji7)) true)) else (timeboundlaw02_TokenSpaces.j0 k a1 t558 (rdOf ByteArray.empty y564 (ji7)) true))) else (none)) else (none)) else (none)) else (none)) = some r := by first | (rw [hji7] at H; exact H) | (simp only [hji7] at H ⊢; exact H)
    (try rw [hji7] at A4)
    (try rw [hji7] at A5)
    by_cases c8 : 0 ≤ (ji7)
    · rw [if_pos c8] at H
      have c8b0 : decide (0 ≤ (ji7)) = true := decide_eq_true c8
      clear c8
      by_cases c9 : (ji7) < (y564.length : Int)
      · rw [if_pos c9] at H
        have c9b0 : decide ((ji7) < (y564.length : Int)) = true := decide_eq_true c9
        clear c9
        by_cases c10 : (rdOf ByteArray.empty y564 (ji7)).size + t557.size ≤ 9223372036854775807
        · rw [if_pos c10] at H
          have c10b0 := eq_true c10
          have c10b1 : decide ((rdOf ByteArray.empty y564 (ji7)).size + t557.size ≤ 9223372036854775807) = true := decide_eq_true c10
          try have c10b2 : (9223372036854775807 < (rdOf ByteArray.empty y564 (ji7)).size + t557.size) = False := eq_false (Nat.not_lt.2 c10)
          by_cases c11 : ((rdOf ByteArray.empty y564 (ji7)) ++ t557).size + (rdOf ByteArray.empty y564 (ji7)).size ≤ 9223372036854775807
          · rw [if_pos c11] at H
            have c11b0 := eq_true c11
            have c11b1 : decide (((rdOf ByteArray.empty y564 (ji7)) ++ t557).size + (rdOf ByteArray.empty y564 (ji7)).size ≤ 9223372036854775807) = true := decide_eq_true c11
            (try (have c11b1s := c11b1; simp only [ByteArray.size_append] at c11b1s))
            try have c11b2 : (9223372036854775807 < ((rdOf ByteArray.empty y564 (ji7)) ++ t557).size + (rdOf ByteArray.empty y564 (ji7)).size) = False := eq_false (Nat.not_lt.2 c11)
            (try (have c11b2s := c11b2; simp only [ByteArray.size_append] at c11b2s))
            replace H := Option.bind_eq_some_iff.mp H
            obtain ⟨⟨t568, t569, t570⟩, A120, H⟩ := H
            replace H : (if t570 = 0 then (if t569 = 0 then ((timeboundref02_Same.f k t558 t568 false).bind fun t573 => (timeboundlaw02_TokenSpaces.j0 k a1 t558 (rdOf ByteArray.empty y564 (ji7)) (!t573))) else (timeboundlaw02_TokenSpaces.j0 k a1 t558 (rdOf ByteArray.empty y564 (ji7)) true)) else (timeboundlaw02_TokenSpaces.j0 k a1 t558 (rdOf ByteArray.empty y564 (ji7)) true)) = some r := H
            have A12 := Aside0.mk A120
            clear A120
            have HC13 := Aside0.mk H
            clear H
            go_enter Tryd.func9, Tryd.ntmps9
            go_upto_region 7 with (first | ((with_reducible refine gate_callee (f := 31) rfl ?_); refine goesL_ (some 19) rfl rfl Tryd.func31 (by kernel_rfl) rfl #[.slice A0 l0.length c0] rfl (by (try simp only [List.map_toArray, List.map_cons, List.map_nil]); first | done | rfl | (simp only [List.length_drop, List.length_take]; rfl)) ?_; (with_reducible refine (timeboundlaw02_pieces.calls k _ _ l0 t557 _ ?side1 ?side2 A4.out).mono ?_); (case side1 => repeat (first | exact HR0.out | (with_reducible refine Kd.C_alloc ?_ _) | (with_reducible refine Kd.C_drewN ?_ _) | (with_reducible refine Kd.C_drew ?_))); (case side2 => exact HC0.out); rintro e w14 ⟨rfl, hb⟩; refine ⟨_, rfl, ?_⟩; have n0_ := Aside0.mk (below_step (by repeat (first | (with_reducible first | exact HB.out | apply below_alloc | apply pw_below_drewN | apply below_drew1) | exact HB.out)) hb); clear HB; have HB := n0_; clear n0_; (try clear hb); (try clear hb2); (try clear hk); (try clear hi)) | ((with_reducible refine gate_callee (f := 25) rfl ?_); refine goesL_ (some 22) rfl rfl Tryd.func25 (by kernel_rfl) rfl #[.string t557] rfl (by (try simp only [List.map_toArray, List.map_cons, List.map_nil]); first | done | rfl | (simp only [List.length_drop, List.length_take]; rfl)) ?_; (with_reducible refine (token_Scan.calls t557 t558 t559 t560 _ A5.out).mono ?_); rintro e w15 ⟨v561, rfl, ho0, hb⟩; refine ⟨_, rfl, ?_⟩; have n0_ := Aside0.mk (Kd.R_lower ho0 (below_size (by repeat (first | (with_reducible first | exact HB.out | apply below_alloc | apply pw_below_drewN | apply below_drew1) | exact HB.out)))); have n1_ := Aside0.mk (below_step (by repeat (first | (with_reducible first | exact HB.out | apply below_alloc | apply pw_below_drewN | apply below_drew1) | exact HB.out)) hb); clear HB; have HO562 := n0_; have HB := n1_; clear n0_ n1_; (try clear hb); (try clear hb2); (try clear hk); (try clear hi); (try clear ho0)) | ((with_reducible refine gate_dst (N := 29) rfl ?_); refine Kd.R_lit Kd.string _ 9 ?hg (N := 29) ?hd (xs := ([(⟨#[32]⟩ : ByteArray), (⟨#[9]⟩ : ByteArray), (⟨#[10]⟩ : ByteArray), (⟨#[32, 10, 32]⟩ : ByteArray)] : List ByteArray)) (inner := [.string (⟨#[32]⟩ : ByteArray), .string (⟨#[9]⟩ : ByteArray), .string (⟨#[10]⟩ : ByteArray), .string (⟨#[32, 10, 32]⟩ : ByteArray)]) (ok := fun _ => True) (okp := fun _ => True) ?hr ?hp (fun _ hk => hk) trivial (Below.refl _ _) (Nat.le_refl _) (by simp) ?_; (case hd => rfl); (case hg => rfl); (case hr => first | (go_simp; done) | (go_simp; rfl)); (case hp => exact (Reps.one (show Kd.M Kd.string _ _ _ (⟨#[32]⟩ : ByteArray) [.string (⟨#[32]⟩ : ByteArray)] from rfl) (Reps.one (show Kd.M Kd.string _ _ _ (⟨#[9]⟩ : ByteArray) [.string (⟨#[9]⟩ : ByteArray)] from rfl) (Reps.one (show Kd.M Kd.string _ _ _ (⟨#[10]⟩ : ByteArray) [.string (⟨#[10]⟩ : ByteArray)] from rfl) (Reps.one (show Kd.M Kd.string _ _ _ (⟨#[32, 10, 32]⟩ : ByteArray) [.string (⟨#[32, 10, 32]⟩ : ByteArray)] from rfl) (Reps.none _ _)))))); intro v565 w16 ho17 hb hg_ hnew_; clear hg_ hnew_; (first | rw [← Ny564.out] at ho17 | (simp only [Int.reduceToNat] at ho17; rw [← Ny564.out] at ho17)); have n0_ := Aside0.mk (Kd.R_below (by (with_reducible repeat (first | apply Kd.R_alloc | apply Kd.R_drewN | apply Kd.R_drew)); exact HO562.out) hb); have n1_ := Aside0.mk (Kd.R_lower ho17 (below_size (by repeat (first | (with_reducible first | exact HB.out | apply below_alloc | apply pw_below_drewN | apply below_drew1) | exact HB.out)))); have n2_ := Aside0.mk (below_step (by repeat (first | (with_reducible first | exact HB.out | apply below_alloc | apply pw_below_drewN | apply below_drew1) | exact HB.out)) hb); clear HO562; clear HB; have HO562 := n0_; have HO566 := n1_; have HB := n2_; clear n0_ n1_ n2_; clear hb ho17; obtain ⟨Ao18, co18, eo18⟩ := Kd.R_slice HO566.out; subst eo18; have p567 : 0 ≤ ((ji7) : Int) := of_decide_eq_true (by first | (with_reducible assumption) | assumption); have q567 : (ji7) < (y564.length : Int) := of_decide_eq_true (by first | (with_reducible assumption) | assumption); obtain ⟨ad567, e567, hx567_0⟩ := Kd.at_string (Kd.R_reads' HO566.out).2.2 (ji7) p567 q567; cases e567; replace p567 := eq_true p567; replace q567 := eq_true q567) | ((with_reducible refine gate_callee (f := 25) rfl ?_); refine goesL_ (some 40) rfl rfl Tryd.func25 (by kernel_rfl) rfl #[.string (((rdOf ByteArray.empty y564 (ji7)) ++ t557) ++ (rdOf ByteArray.empty y564 (ji7)))] rfl (by (try simp only [List.map_toArray, List.map_cons, List.map_nil]); first | done | (simp only [hji7]; rfl) | rfl | (simp only [List.length_drop, List.length_take]; rfl)) ?_; (with_reducible refine (token_Scan.calls (((rdOf ByteArray.empty y564 (ji7)) ++ t557) ++ (rdOf ByteArray.empty y564 (ji7))) t568 t569 t570 _ A12.out).mono ?_); rintro e w19 ⟨v571, rfl, ho0, hb⟩; refine ⟨_, rfl, ?_⟩; have n0_ := Aside0.mk (Kd.R_elder' (by (with_reducible repeat (first | apply Kd.R_alloc | apply Kd.R_drewN | apply Kd.R_drew)); exact HO562.out) (Kd.R_base ho0) hb); have n1_ := Aside0.mk (Kd.R_below (by (with_reducible repeat (first | apply Kd.R_alloc | apply Kd.R_drewN | apply Kd.R_drew)); exact HO566.out) hb); have n2_ := Aside0.mk (Kd.R_lower (Kd.R_new' ho0 (Kd.R_lt (by (with_reducible repeat (first | apply Kd.R_alloc | apply Kd.R_drewN | apply Kd.R_drew)); exact HO562.out))) (below_size (by repeat (first | (with_reducible first | exact HB.out | apply below_alloc | apply pw_below_drewN | apply below_drew1) | exact HB.out)))); have n3_ := Aside0.mk (below_step (by repeat (first | (with_reducible first | exact HB.out | apply below_alloc | apply pw_below_drewN | apply below_drew1) | exact HB.out)) hb); clear HO562; clear HO566; clear HB; have HO562 := n0_; have HO566 := n1_; have HO572 := n2_; have HB := n3_; clear n0_ n1_ n2_ n3_; (try clear hb); (try clear hb2); (try clear hk); (try clear hi); (try clear ho0)))
            (try simp only [Act.put, List.setIfInBounds_toArray, List.set_cons_zero, List.set_cons_succ])
            go_cut [55] (fun v55 wc => ∃ (kq : Nat) (x55_12 : Bool), v55 = .bool x55_12 ∧ Aside0 (timeboundlaw02_TokenSpaces.j0 kq a1 t558 (rdOf ByteArray.empty y564 (ji7)) x55_12 = some r) ∧ Aside0 (kq ≤ k) ∧ Aside0 (Kd.R k59 59 wc w.heap.size (fun _ => True) v561 t558) ∧ Aside0 (Below w.heap.size w wc))
            case first =>
              have H := HC13.out
              clear HC13
              by_cases c20 : t570 = 0
              · rw [if_pos c20] at H
                have c20b0 : (t570 == 0) = true := beq_iff_eq.mpr c20
                have c20b1 : (t570 != 0) = false := bne_eq_false_iff_eq.mpr c20
                clear c20
                (first | rw [c20b0] | (simp only [i64_w, i32_w]; rw [c20b0]) | skip)
                by_cases c21 : t569 = 0
                · rw [if_pos c21] at H
                  have c21b0 : (t569 == 0) = true := beq_iff_eq.mpr c21
                  have c21b1 : (t569 != 0) = false := bne_eq_false_iff_eq.mpr c21
                  clear c21
                  replace H := Option.bind_eq_some_iff.mp H
                  obtain ⟨t573, A220, H⟩ := H
                  replace H : (timeboundlaw02_TokenSpaces.j0 k a1 t558 (rdOf ByteArray.empty y564 (ji7)) (!t573)) = some r := H
                  have A22 := Aside0.mk A220
                  clear A220
                  have H' := Aside0.mk H
                  clear H
                  obtain ⟨Ao23, co23, eo23⟩ := Kd.R_slice HO562.out
                  subst eo23
                  obtain ⟨Ao24, co24, eo24⟩ := Kd.R_slice HO572.out
                  subst eo24
                  go_wp2_with (first | (go_at_call 26; (with_reducible refine (timeboundref02_Same.calls k _ _ t558 _ _ t568 false t573 _ ?side1 ?side2 ?side3 ?side4 A22.out).mono ?_); (case side1 => repeat (first | exact (Kd.R_reads' HO562.out).2.2 | (with_reducible refine Kd.C_alloc ?_ _) | (with_reducible refine Kd.C_drewN ?_ _) | (with_reducible refine Kd.C_drew ?_))); (case side2 => exact (Kd.R_reads' HO562.out).2.1); (case side3 => repeat (first | exact (Kd.R_reads' HO572.out).2.2 | (with_reducible refine Kd.C_alloc ?_ _) | (with_reducible refine Kd.C_drewN ?_ _) | (with_reducible refine Kd.C_drew ?_))); (case side4 => exact (Kd.R_reads' HO572.out).2.1); rintro e w' ⟨rfl, ⟨nd, rfl⟩⟩))
                  go_meet
                  case rel => exact ⟨_, (!t573), (by first | rfl | (simp; done) | (simp [*]; done)), H', ⟨by first | omega | exact Nat.le_refl _⟩, ⟨by (with_reducible repeat (first | apply Kd.R_alloc | apply Kd.R_drewN | apply Kd.R_drew)); exact Kd.R_mono HO562.out (fun _ hk => trivial)⟩, ⟨by repeat (first | (with_reducible first | exact HB.out | apply below_alloc | apply pw_below_drewN | apply below_drew1) | exact HB.out)⟩⟩
                · rw [if_neg c21] at H
                  have c21b0 : (t569 == 0) = false := beq_eq_false_iff_ne.mpr c21
                  have c21b1 : (t569 != 0) = true := bne_iff_ne.mpr c21
                  have H' := Aside0.mk H
                  clear H
                  go_wp2
                  go_meet
                  case rel => exact ⟨_, (true), (by first | rfl | (simp; done) | (simp [*]; done)), H', ⟨by first | omega | exact Nat.le_refl _⟩, ⟨by (with_reducible repeat (first | apply Kd.R_alloc | apply Kd.R_drewN | apply Kd.R_drew)); exact Kd.R_mono HO562.out (fun _ hk => trivial)⟩, ⟨by repeat (first | (with_reducible first | exact HB.out | apply below_alloc | apply pw_below_drewN | apply below_drew1) | exact HB.out)⟩⟩
              · rw [if_neg c20] at H
                have c20b0 : (t570 == 0) = false := beq_eq_false_iff_ne.mpr c20
                have c20b1 : (t570 != 0) = true := bne_iff_ne.mpr c20
                (first | rw [c20b0] | (simp only [i64_w, i32_w]; rw [c20b0]) | skip)
                have H' := Aside0.mk H
                clear H
                go_wp2
                go_meet
                case rel => exact ⟨_, (true), (by first | rfl | (simp; done) | (simp [*]; done)), H', ⟨by first | omega | exact Nat.le_refl _⟩, ⟨by (with_reducible repeat (first | apply Kd.R_alloc | apply Kd.R_drewN | apply Kd.R_drew)); exact Kd.R_mono HO562.out (fun _ hk => trivial)⟩, ⟨by repeat (first | (with_reducible first | exact HB.out | apply below_alloc | apply pw_below_drewN | apply below_drew1) | exact HB.out)⟩⟩
            case rest =>
              clear HC13
              try clear c1
              try clear c2
              try clear p2
              try clear c3
              try clear p5
              try clear q5
              try clear hx5
              try clear c6
              try clear c6b0
              try clear c6b1
              try clear c8
              try clear c8b0
              try clear c9
              try clear c9b0
              try clear c10
              try clear c10b0
              try clear c10b1
              try clear c10b2
              try clear c11
              try clear c11b0
              try clear c11b1
              try clear c11b2
              try clear c20
              try clear c20b0
              try clear c20b1
              try clear c21
              try clear c21b0
              try clear c21b1
              try clear hx567_0
              try clear p567
              try clear q567
              obtain ⟨kq, x55_12, rfl, HA, HJ12, HO_8, HB⟩ := hcut
              cases kq with
              | zero => exact absurd HA.out (by simp [timeboundlaw02_TokenSpaces.j0])
              | succ kj12 =>
                have H := HA.out
                clear HA
                simp only [timeboundlaw02_TokenSpaces.j0] at H
                by_cases c25 : x55_12 = true
                · subst c25
                  have H1 : (some false) = some r := by rw [if_pos rfl] at H; exact H
                  clear H
                  have H := H1
                  clear H1
                  obtain rfl := Option.some.inj H
                  go_wp2
                  go_ret
                  exact ⟨by first | rfl | (simp [errW_none, errW_some] <;> rfl) | (simp only [← hji7]; first | rfl | (simp [errW_none, errW_some] <;> rfl)) | (simp [*, errW_none, errW_some] <;> rfl), by repeat (first | (with_reducible first | exact HB.out | apply below_alloc | apply pw_below_drewN | apply below_drew1) | exact HB.out)⟩
                · replace c25 := Bool.eq_false_iff.mpr c25
                  subst c25
                  have H1 : ((timeboundmake_Mod.f a1 (wrap64 ((t558.length : Int) + 1))).bind fun t574 => (timeboundlaw02_TokenSpaces.l0 kj12 t558 (rdOf ByteArray.empty y564 (ji7)) (⟨#[]⟩ : ByteArray) t574 0)) = some r := by rw [if_neg (show ¬ (false = true) by decide)] at H; exact H
                  clear H
                  have H := H1
                  clear H1
                  replace H := Option.bind_eq_some_iff.mp H
                  obtain ⟨t574, A260, H⟩ := H
                  replace H : (timeboundlaw02_TokenSpaces.l0 kj12 t558 (rdOf ByteArray.empty y564 (ji7)) (⟨#[]⟩ : ByteArray) t574 0) = some r := H
                  have A26 := Aside0.mk A260
                  clear A260
                  have H' := Aside0.mk H
                  clear H
                  obtain ⟨Ao27, co27, eo27⟩ := Kd.R_slice HO_8.out
                  subst eo27
                  go_wp2_with (first | ((with_reducible refine gate_callee (f := 33) rfl ?_); refine goesL_ (some 60) rfl rfl Tryd.func33 (by kernel_rfl) rfl #[.int .i64 a1, .int .i64 (wrap64 ((t558.length : Int) + 1))] rfl (by (try simp only [List.map_toArray, List.map_cons, List.map_nil]); first | done | rfl | (simp only [List.length_drop, List.length_take]; rfl)) ?_; (with_reducible refine (timeboundmake_Mod.calls a1 (wrap64 ((t558.length : Int) + 1)) t574 _ A26.out).mono ?_); rintro e w' ⟨rfl, ⟨nd, rfl⟩⟩; refine ⟨_, rfl, ?_⟩))
                  go_loopg [15, 17] kj12 (fun kq v15 v17 w' => ∃ (x15_2 : ByteArray) (x17_2 : Int), v15 = .string x15_2 ∧ v17 = .int .i64 x17_2 ∧ Aside0 (timeboundlaw02_TokenSpaces.l0 kq t558 (rdOf ByteArray.empty y564 (ji7)) x15_2 t574 x17_2 = some r) ∧ Aside0 (kq ≤ kj12) ∧ Aside0 (Kd.R k59 59 w' w.heap.size (fun _ => True) (.slice Ao27 t558.length co27) t558) ∧ Aside0 (Below w.heap.size w w'))
                  case atStart => exact ⟨((⟨#[]⟩ : ByteArray)), (0), (by first | rfl | (simp; done) | (simp [*]; done)), (by first | rfl | (simp; done) | (simp [*]; done)), H', ⟨Nat.le_refl _⟩, ⟨by (with_reducible repeat (first | apply Kd.R_alloc | apply Kd.R_drewN | apply Kd.R_drew)); exact HO_8.out⟩, ⟨by repeat (first | (with_reducible first | exact HB.out | apply below_alloc | apply pw_below_drewN | apply below_drew1) | exact HB.out)⟩⟩
                  case round =>
                    clear H'
                    try clear c1
                    try clear c2
                    try clear p2
                    try clear c3
                    try clear p5
                    try clear q5
                    try clear hx5
                    try clear c6
                    try clear c6b0
                    try clear c6b1
                    try clear p6
                    try clear c8
                    try clear c8b0
                    try clear c9
                    try clear c9b0
                    try clear c10
                    try clear c10b0
                    try clear c10b1
                    try clear c10b2
                    try clear c11
                    try clear c11b0
                    try clear c11b1
                    try clear c11b2
                    try clear c20
                    try clear c20b0
                    try clear c20b1
                    try clear c21
                    try clear c21b0
                    try clear c21b1
                    try clear c25
                    try clear hx567_0
                    try clear p2
                    try clear p5
                    try clear p567
                    try clear q5
                    try clear q567
                    obtain ⟨x15_2, x17_2, rfl, rfl, HA, HK2, HO_8, HB⟩ := hrel
                    cases gk with
                    | zero => exact absurd HA.out (by simp [timeboundlaw02_TokenSpaces.l0])
                    | succ k2 =>
                      have H := HA.out
                      clear HA
                      simp only [timeboundlaw02_TokenSpaces.l0] at H
                      by_cases c28 : x17_2 < (t558.length : Int)
                      · rw [if_pos c28] at H
                        have c28b0 : decide (x17_2 < (t558.length : Int)) = true := decide_eq_true c28
                        clear c28
                        by_cases c29 : x17_2 = t574
                        · rw [if_pos c29] at H
                          have c29b0 : (x17_2 == t574) = true := beq_iff_eq.mpr c29
                          have c29b1 : (x17_2 != t574) = false := bne_eq_false_iff_eq.mpr c29
                          clear c29
                          by_cases c30 : x15_2.size + (rdOf ByteArray.empty y564 (ji7)).size ≤ 9223372036854775807
                          · rw [if_pos c30] at H
                            have c30b0 := eq_true c30
                            have c30b1 : decide (x15_2.size + (rdOf ByteArray.empty y564 (ji7)).size ≤ 9223372036854775807) = true := decide_eq_true c30
                            try have c30b2 : (9223372036854775807 < x15_2.size + (rdOf ByteArray.empty y564 (ji7)).size) = False := eq_false (Nat.not_lt.2 c30)
                            by_cases c31 : (x15_2 ++ (rdOf ByteArray.empty y564 (ji7))).size + 1 ≤ 9223372036854775807
                            · rw [if_pos c31] at H
                              have c31b0 := eq_true c31
                              have c31b1 : decide ((x15_2 ++ (rdOf ByteArray.empty y564 (ji7))).size + 1 ≤ 9223372036854775807) = true := decide_eq_true c31
                              (try (have c31b1s := c31b1; simp only [ByteArray.size_append] at c31b1s))
                              try have c31b2 : (9223372036854775807 < (x15_2 ++ (rdOf ByteArray.empty y564 (ji7))).size + 1) = False := eq_false (Nat.not_lt.2 c31)
                              (try (have c31b2s := c31b2; simp only [ByteArray.size_append] at c31b2s))
                              by_cases c32 : 0 ≤ x17_2
                              · rw [if_pos c32] at H
                                have c32b0 : decide (0 ≤ x17_2) = true := decide_eq_true c32
                                clear c32
                                replace H := Option.bind_eq_some_iff.mp H
                                obtain ⟨t576, A330, H⟩ := H
                                replace H : (if ((x15_2 ++ (rdOf ByteArray.empty y564 (ji7))) ++ (⟨#[32]⟩ : ByteArray)).size + t576.size ≤ 9223372036854775807 then (timeboundlaw02_TokenSpaces.l0 k2 t558 (rdOf ByteArray.empty y564 (ji7)) (((x15_2 ++ (rdOf ByteArray.empty y564 (ji7))) ++ (⟨#[32]⟩ : ByteArray)) ++ t576) t574 (wrap64 (x17_2 + 1))) else (none)) = some r := H
                                have A33 := Aside0.mk A330
                                clear A330
                                by_cases c34 : ((x15_2 ++ (rdOf ByteArray.empty y564 (ji7))) ++ (⟨#[32]⟩ : ByteArray)).size + t576.size ≤ 9223372036854775807
                                · rw [if_pos c34] at H
                                  have c34b0 := eq_true c34
                                  have c34b1 : decide (((x15_2 ++ (rdOf ByteArray.empty y564 (ji7))) ++ (⟨#[32]⟩ : ByteArray)).size + t576.size ≤ 9223372036854775807) = true := decide_eq_true c34
                                  (try (have c34b1s := c34b1; simp only [ByteArray.size_append, show (⟨#[32]⟩ : ByteArray).size = 1 from rfl] at c34b1s))
                                  try have c34b2 : (9223372036854775807 < ((x15_2 ++ (rdOf ByteArray.empty y564 (ji7))) ++ (⟨#[32]⟩ : ByteArray)).size + t576.size) = False := eq_false (Nat.not_lt.2 c34)
                                  (try (have c34b2s := c34b2; simp only [ByteArray.size_append, show (⟨#[32]⟩ : ByteArray).size = 1 from rfl] at c34b2s))
                                  have H' := Aside0.mk H
                                  clear H
                                  have p575 : 0 ≤ (x17_2 : Int) := of_decide_eq_true (by first | (with_reducible assumption) | assumption)
                                  have q575 : x17_2 < (t558.length : Int) := of_decide_eq_true (by first | (with_reducible assumption) | assumption)
                                  obtain ⟨ad575, e575, hx575_0, hx575_1, hx575_2, hx575_3⟩ := at_T59 (Kd.R_reads' HO_8.out).2.2 x17_2 p575 q575
                                  cases e575
                                  replace p575 := eq_true p575
                                  replace q575 := eq_true q575
                                  go_wp2_with (first | ((with_reducible refine gate_callee (f := 29) rfl ?_); refine goesL_ (some 79) rfl rfl Tryd.func29 (by kernel_rfl) rfl #[.agg #[.int .i64 ((rd_T59 t558 x17_2).f0), .int .i64 ((rd_T59 t558 x17_2).f1), .int .i64 ((rd_T59 t558 x17_2).f2), .string ((rd_T59 t558 x17_2).f3)]] rfl (by (try simp only [List.map_toArray, List.map_cons, List.map_nil]); first | done | rfl | (simp only [List.length_drop, List.length_take]; rfl)) ?_; (with_reducible refine (token_Word.calls k2 ((rd_T59 t558 x17_2).f0) ((rd_T59 t558 x17_2).f1) ((rd_T59 t558 x17_2).f2) ((rd_T59 t558 x17_2).f3) t576 _ A33.out).mono ?_); rintro e w35 ⟨rfl, hb⟩; refine ⟨_, rfl, ?_⟩; have n0_ := Aside0.mk (Kd.R_below (by (with_reducible repeat (first | apply Kd.R_alloc | apply Kd.R_drewN | apply Kd.R_drew)); exact HO_8.out) hb); have n1_ := Aside0.mk (below_step (by repeat (first | (with_reducible first | exact HB.out | apply below_alloc | apply pw_below_drewN | apply below_drew1) | exact HB.out)) hb); clear HO_8; clear HB; have HO_8 := n0_; have HB := n1_; clear n0_ n1_; (try clear hb); (try clear hb2); (try clear hk); (try clear hi)))
                                  go_roundg k2
                                  case measure => have := HJ12.out; have := HK2.out; omega
                                  case rel => exact ⟨(((x15_2 ++ (rdOf ByteArray.empty y564 (ji7))) ++ (⟨#[32]⟩ : ByteArray)) ++ t576), (wrap64 (x17_2 + 1)), (by first | rfl | (simp; done) | (simp only [← hji7] <;> (first | rfl | simp)) | (simp [*]; done)), (by first | rfl | (simp; done) | (simp [*]; done)), H', ⟨by have := HJ12.out; have := HK2.out; omega⟩, ⟨by (with_reducible repeat (first | apply Kd.R_alloc | apply Kd.R_drewN | apply Kd.R_drew)); exact HO_8.out⟩, ⟨by repeat (first | (with_reducible first | exact HB.out | apply below_alloc | apply pw_below_drewN | apply below_drew1) | exact HB.out)⟩⟩
                                · rw [if_neg c34] at H
                                  exact absurd H (by simp)
                              · rw [if_neg c32] at H
                                exact absurd H (by simp)
                            · rw [if_neg c31] at H
                              exact absurd H (by simp)
                          · rw [if_neg c30] at H
                            exact absurd H (by simp)
                        · rw [if_neg c29] at H
                          have c29b0 : (x17_2 == t574) = false := beq_eq_false_iff_ne.mpr c29
                          have c29b1 : (x17_2 != t574) = true := bne_iff_ne.mpr c29
                          by_cases c36 : x15_2.size + 1 ≤ 9223372036854775807
                          · rw [if_pos c36] at H
                            have c36b0 := eq_true c36
                            have c36b1 : decide (x15_2.size + 1 ≤ 9223372036854775807) = true := decide_eq_true c36
                            try have c36b2 : (9223372036854775807 < x15_2.size + 1) = False := eq_false (Nat.not_lt.2 c36)
                            by_cases c37 : 0 ≤ x17_2
                            · rw [if_pos c37] at H
                              have c37b0 : decide (0 ≤ x17_2) = true := decide_eq_true c37
                              clear c37
                              replace H := Option.bind_eq_some_iff.mp H
                              obtain ⟨t578, A380, H⟩ := H
                              replace H : (if (x15_2 ++ (⟨#[32]⟩ : ByteArray)).size + t578.size ≤ 9223372036854775807 then (timeboundlaw02_TokenSpaces.l0 k2 t558 (rdOf ByteArray.empty y564 (ji7)) ((x15_2 ++ (⟨#[32]⟩ : ByteArray)) ++ t578) t574 (wrap64 (x17_2 + 1))) else (none)) = some r := H
                              have A38 := Aside0.mk A380
                              clear A380
                              by_cases c39 : (x15_2 ++ (⟨#[32]⟩ : ByteArray)).size + t578.size ≤ 9223372036854775807
                              · rw [if_pos c39] at H
                                have c39b0 := eq_true c39
                                have c39b1 : decide ((x15_2 ++ (⟨#[32]⟩ : ByteArray)).size + t578.size ≤ 9223372036854775807) = true := decide_eq_true c39
                                (try (have c39b1s := c39b1; simp only [ByteArray.size_append, show (⟨#[32]⟩ : ByteArray).size = 1 from rfl] at c39b1s))
                                try have c39b2 : (9223372036854775807 < (x15_2 ++ (⟨#[32]⟩ : ByteArray)).size + t578.size) = False := eq_false (Nat.not_lt.2 c39)
                                (try (have c39b2s := c39b2; simp only [ByteArray.size_append, show (⟨#[32]⟩ : ByteArray).size = 1 from rfl] at c39b2s))
                                have H' := Aside0.mk H
                                clear H
                                have p577 : 0 ≤ (x17_2 : Int) := of_decide_eq_true (by first | (with_reducible assumption) | assumption)
                                have q577 : x17_2 < (t558.length : Int) := of_decide_eq_true (by first | (with_reducible assumption) | assumption)
                                obtain ⟨ad577, e577, hx577_0, hx577_1, hx577_2, hx577_3⟩ := at_T59 (Kd.R_reads' HO_8.out).2.2 x17_2 p577 q577
                                cases e577
                                replace p577 := eq_true p577
                                replace q577 := eq_true q577
                                go_wp2_with (first | ((with_reducible refine gate_callee (f := 29) rfl ?_); refine goesL_ (some 79) rfl rfl Tryd.func29 (by kernel_rfl) rfl #[.agg #[.int .i64 ((rd_T59 t558 x17_2).f0), .int .i64 ((rd_T59 t558 x17_2).f1), .int .i64 ((rd_T59 t558 x17_2).f2), .string ((rd_T59 t558 x17_2).f3)]] rfl (by (try simp only [List.map_toArray, List.map_cons, List.map_nil]); first | done | rfl | (simp only [List.length_drop, List.length_take]; rfl)) ?_; (with_reducible refine (token_Word.calls k2 ((rd_T59 t558 x17_2).f0) ((rd_T59 t558 x17_2).f1) ((rd_T59 t558 x17_2).f2) ((rd_T59 t558 x17_2).f3) t578 _ A38.out).mono ?_); rintro e w40 ⟨rfl, hb⟩; refine ⟨_, rfl, ?_⟩; have n0_ := Aside0.mk (Kd.R_below (by (with_reducible repeat (first | apply Kd.R_alloc | apply Kd.R_drewN | apply Kd.R_drew)); exact HO_8.out) hb); have n1_ := Aside0.mk (below_step (by repeat (first | (with_reducible first | exact HB.out | apply below_alloc | apply pw_below_drewN | apply below_drew1) | exact HB.out)) hb); clear HO_8; clear HB; have HO_8 := n0_; have HB := n1_; clear n0_ n1_; (try clear hb); (try clear hb2); (try clear hk); (try clear hi)))
                                go_roundg k2
                                case measure => have := HJ12.out; have := HK2.out; omega
                                case rel => exact ⟨((x15_2 ++ (⟨#[32]⟩ : ByteArray)) ++ t578), (wrap64 (x17_2 + 1)), (by first | rfl | (simp; done) | (simp [*]; done)), (by first | rfl | (simp; done) | (simp [*]; done)), H', ⟨by have := HJ12.out; have := HK2.out; omega⟩, ⟨by (with_reducible repeat (first | apply Kd.R_alloc | apply Kd.R_drewN | apply Kd.R_drew)); exact HO_8.out⟩, ⟨by repeat (first | (with_reducible first | exact HB.out | apply below_alloc | apply pw_below_drewN | apply below_drew1) | exact HB.out)⟩⟩
                              · rw [if_neg c39] at H
                                exact absurd H (by simp)
                            · rw [if_neg c37] at H
                              exact absurd H (by simp)
                          · rw [if_neg c36] at H
                            exact absurd H (by simp)
                      · rw [if_neg c28] at H
                        have c28b0 : decide (x17_2 < (t558.length : Int)) = false := decide_eq_false c28
                        clear c28
                        replace H := Option.bind_eq_some_iff.mp H
                        obtain ⟨⟨t579, t580, t581⟩, A410, H⟩ := H
                        replace H : (if t581 = 0 then (if t580 = 0 then ((timeboundref02_Same.f k2 t558 t579 false).bind fun t584 => (if t584 = true then ((timeboundlaw02_awake.f k2).bind fun t585 => (some t585)) else (some false))) else (some false)) else (some false)) = some r := H
                        have A41 := Aside0.mk A410
                        clear A410
                        by_cases c42 : t581 = 0
                        · rw [if_pos c42] at H
                          have c42b0 : (t581 == 0) = true := beq_iff_eq.mpr c42
                          have c42b1 : (t581 != 0) = false := bne_eq_false_iff_eq.mpr c42
                          clear c42
                          by_cases c43 : t580 = 0
                          · rw [if_pos c43] at H
                            have c43b0 : (t580 == 0) = true := beq_iff_eq.mpr c43
                            have c43b1 : (t580 != 0) = false := bne_eq_false_iff_eq.mpr c43
                            clear c43
                            replace H := Option.bind_eq_some_iff.mp H
                            obtain ⟨t584, A440, H⟩ := H
                            replace H : (if t584 = true then ((timeboundlaw02_awake.f k2).bind fun t585 => (some t585)) else (some false)) = some r := H
                            have A44 := Aside0.mk A440
                            clear A440
                            by_cases c45 : t584 = true
                            · subst c45
                              have H1 : ((timeboundlaw02_awake.f k2).bind fun t585 => (some t585)) = some r := by rw [if_pos rfl] at H; exact H
                              clear H
                              have H := H1
                              clear H1
                              replace H := Option.bind_eq_some_iff.mp H
                              obtain ⟨t585, A460, H⟩ := H
                              replace H : (some t585) = some r := H
                              have A46 := Aside0.mk A460
                              clear A460
                              obtain rfl := Option.some.inj H
                              go_wp2_with (first | ((with_reducible refine gate_callee (f := 25) rfl ?_); refine goesL_ (some 83) rfl rfl Tryd.func25 (by kernel_rfl) rfl #[.string x15_2] rfl (by (try simp only [List.map_toArray, List.map_cons, List.map_nil]); first | done | rfl | (simp only [List.length_drop, List.length_take]; rfl)) ?_; (with_reducible refine (token_Scan.calls x15_2 t579 t580 t581 _ A41.out).mono ?_); rintro e w47 ⟨v582, rfl, ho0, hb⟩; refine ⟨_, rfl, ?_⟩; have n0_ := Aside0.mk (Kd.R_elder' (by (with_reducible repeat (first | apply Kd.R_alloc | apply Kd.R_drewN | apply Kd.R_drew)); exact HO_8.out) (Kd.R_base ho0) hb); have n1_ := Aside0.mk (Kd.R_lower (Kd.R_new' ho0 (Kd.R_lt (by (with_reducible repeat (first | apply Kd.R_alloc | apply Kd.R_drewN | apply Kd.R_drew)); exact HO_8.out))) (below_size (by repeat (first | (with_reducible first | exact HB.out | apply below_alloc | apply pw_below_drewN | apply below_drew1) | exact HB.out)))); have n2_ := Aside0.mk (below_step (by repeat (first | (with_reducible first | exact HB.out | apply below_alloc | apply pw_below_drewN | apply below_drew1) | exact HB.out)) hb); clear HO_8; clear HB; have HO_8 := n0_; have HO583 := n1_; have HB := n2_; clear n0_ n1_ n2_; (try clear hb); (try clear hb2); (try clear hk); (try clear hi); (try clear ho0); obtain ⟨Ao48, co48, eo48⟩ := Kd.R_slice HO583.out; subst eo48) | (go_at_call 26; (with_reducible refine (timeboundref02_Same.calls k2 _ _ t558 _ _ t579 false true _ ?side1 ?side2 ?side3 ?side4 A44.out).mono ?_); (case side1 => repeat (first | exact (Kd.R_reads' HO_8.out).2.2 | (with_reducible refine Kd.C_alloc ?_ _) | (with_reducible refine Kd.C_drewN ?_ _) | (with_reducible refine Kd.C_drew ?_))); (case side2 => exact (Kd.R_reads' HO_8.out).2.1); (case side3 => repeat (first | exact (Kd.R_reads' HO583.out).2.2 | (with_reducible refine Kd.C_alloc ?_ _) | (with_reducible refine Kd.C_drewN ?_ _) | (with_reducible refine Kd.C_drew ?_))); (case side4 => exact (Kd.R_reads' HO583.out).2.1); rintro e w' ⟨rfl, ⟨nd, rfl⟩⟩) | (go_at_call 24; (with_reducible refine (timeboundlaw02_awake.calls k2  t585 _ A46.out).mono ?_); rintro e w49 ⟨rfl, hb⟩; have n0_ := Aside0.mk (Kd.R_below (by (with_reducible repeat (first | apply Kd.R_alloc | apply Kd.R_drewN | apply Kd.R_drew)); exact HO_8.out) hb); have n1_ := Aside0.mk (Kd.R_below (by (with_reducible repeat (first | apply Kd.R_alloc | apply Kd.R_drewN | apply Kd.R_drew)); exact HO583.out) hb); have n2_ := Aside0.mk (below_step (by repeat (first | (with_reducible first | exact HB.out | apply below_alloc | apply pw_below_drewN | apply below_drew1) | exact HB.out)) hb); clear HO_8; clear HO583; clear HB; have HO_8 := n0_; have HO583 := n1_; have HB := n2_; clear n0_ n1_ n2_; (try clear hb); (try clear hb2); (try clear hk); (try clear hi)))
                              go_ret
                              exact ⟨by first | rfl | (simp [errW_none, errW_some] <;> rfl) | (simp only [← hji7]; first | rfl | (simp [errW_none, errW_some] <;> rfl)) | (simp [*, errW_none, errW_some] <;> rfl), by repeat (first | (with_reducible first | exact HB.out | apply below_alloc | apply pw_below_drewN | apply below_drew1) | exact HB.out)⟩
                            · replace c45 := Bool.eq_false_iff.mpr c45
                              subst c45
                              have H1 : (some false) = some r := by rw [if_neg (show ¬ (false = true) by decide)] at H; exact H
                              clear H
                              have H := H1
                              clear H1
                              obtain rfl := Option.some.inj H
                              go_wp2_with (first | ((with_reducible refine gate_callee (f := 25) rfl ?_); refine goesL_ (some 83) rfl rfl Tryd.func25 (by kernel_rfl) rfl #[.string x15_2] rfl (by (try simp only [List.map_toArray, List.map_cons, List.map_nil]); first | done | rfl | (simp only [List.length_drop, List.length_take]; rfl)) ?_; (with_reducible refine (token_Scan.calls x15_2 t579 t580 t581 _ A41.out).mono ?_); rintro e w50 ⟨v582, rfl, ho0, hb⟩; refine ⟨_, rfl, ?_⟩; have n0_ := Aside0.mk (Kd.R_elder' (by (with_reducible repeat (first | apply Kd.R_alloc | apply Kd.R_drewN | apply Kd.R_drew)); exact HO_8.out) (Kd.R_base ho0) hb); have n1_ := Aside0.mk (Kd.R_lower (Kd.R_new' ho0 (Kd.R_lt (by (with_reducible repeat (first | apply Kd.R_alloc | apply Kd.R_drewN | apply Kd.R_drew)); exact HO_8.out))) (below_size (by repeat (first | (with_reducible first | exact HB.out | apply below_alloc | apply pw_below_drewN | apply below_drew1) | exact HB.out)))); have n2_ := Aside0.mk (below_step (by repeat (first | (with_reducible first | exact HB.out | apply below_alloc | apply pw_below_drewN | apply below_drew1) | exact HB.out)) hb); clear HO_8; clear HB; have HO_8 := n0_; have HO583 := n1_; have HB := n2_; clear n0_ n1_ n2_; (try clear hb); (try clear hb2); (try clear hk); (try clear hi); (try clear ho0); obtain ⟨Ao51, co51, eo51⟩ := Kd.R_slice HO583.out; subst eo51) | (go_at_call 26; (with_reducible refine (timeboundref02_Same.calls k2 _ _ t558 _ _ t579 false false _ ?side1 ?side2 ?side3 ?side4 A44.out).mono ?_); (case side1 => repeat (first | exact (Kd.R_reads' HO_8.out).2.2 | (with_reducible refine Kd.C_alloc ?_ _) | (with_reducible refine Kd.C_drewN ?_ _) | (with_reducible refine Kd.C_drew ?_))); (case side2 => exact (Kd.R_reads' HO_8.out).2.1); (case side3 => repeat (first | exact (Kd.R_reads' HO583.out).2.2 | (with_reducible refine Kd.C_alloc ?_ _) | (with_reducible refine Kd.C_drewN ?_ _) | (with_reducible refine Kd.C_drew ?_))); (case side4 => exact (Kd.R_reads' HO583.out).2.1); rintro e w' ⟨rfl, ⟨nd, rfl⟩⟩))
                              go_ret
                              exact ⟨by first | rfl | (simp [errW_none, errW_some] <;> rfl) | (simp only [← hji7]; first | rfl | (simp [errW_none, errW_some] <;> rfl)) | (simp [*, errW_none, errW_some] <;> rfl), by repeat (first | (with_reducible first | exact HB.out | apply below_alloc | apply pw_below_drewN | apply below_drew1) | exact HB.out)⟩
                          · rw [if_neg c43] at H
                            have c43b0 : (t580 == 0) = false := beq_eq_false_iff_ne.mpr c43
                            have c43b1 : (t580 != 0) = true := bne_iff_ne.mpr c43
                            obtain rfl := Option.some.inj H
                            go_wp2_with (first | ((with_reducible refine gate_callee (f := 25) rfl ?_); refine goesL_ (some 83) rfl rfl Tryd.func25 (by kernel_rfl) rfl #[.string x15_2] rfl (by (try simp only [List.map_toArray, List.map_cons, List.map_nil]); first | done | rfl | (simp only [List.length_drop, List.length_take]; rfl)) ?_; (with_reducible refine (token_Scan.calls x15_2 t579 t580 t581 _ A41.out).mono ?_); rintro e w52 ⟨v582, rfl, ho0, hb⟩; refine ⟨_, rfl, ?_⟩; have n0_ := Aside0.mk (Kd.R_elder' (by (with_reducible repeat (first | apply Kd.R_alloc | apply Kd.R_drewN | apply Kd.R_drew)); exact HO_8.out) (Kd.R_base ho0) hb); have n1_ := Aside0.mk (Kd.R_lower (Kd.R_new' ho0 (Kd.R_lt (by (with_reducible repeat (first | apply Kd.R_alloc | apply Kd.R_drewN | apply Kd.R_drew)); exact HO_8.out))) (below_size (by repeat (first | (with_reducible first | exact HB.out | apply below_alloc | apply pw_below_drewN | apply below_drew1) | exact HB.out)))); have n2_ := Aside0.mk (below_step (by repeat (first | (with_reducible first | exact HB.out | apply below_alloc | apply pw_below_drewN | apply below_drew1) | exact HB.out)) hb); clear HO_8; clear HB; have HO_8 := n0_; have HO583 := n1_; have HB := n2_; clear n0_ n1_ n2_; (try clear hb); (try clear hb2); (try clear hk); (try clear hi); (try clear ho0)))
                            go_ret
                            exact ⟨by first | rfl | (simp [errW_none, errW_some] <;> rfl) | (simp only [← hji7]; first | rfl | (simp [errW_none, errW_some] <;> rfl)) | (simp [*, errW_none, errW_some] <;> rfl), by repeat (first | (with_reducible first | exact HB.out | apply below_alloc | apply pw_below_drewN | apply below_drew1) | exact HB.out)⟩
                        · rw [if_neg c42] at H
                          have c42b0 : (t581 == 0) = false := beq_eq_false_iff_ne.mpr c42
                          have c42b1 : (t581 != 0) = true := bne_iff_ne.mpr c42
                          obtain rfl := Option.some.inj H
                          go_wp2_with (first | ((with_reducible refine gate_callee (f := 25) rfl ?_); refine goesL_ (some 83) rfl rfl Tryd.func25 (by kernel_rfl) rfl #[.string x15_2] rfl (by (try simp only [List.map_toArray, List.map_cons, List.map_nil]); first | done | rfl | (simp only [List.length_drop, List.length_take]; rfl)) ?_; (with_reducible refine (token_Scan.calls x15_2 t579 t580 t581 _ A41.out).mono ?_); rintro e w53 ⟨v582, rfl, ho0, hb⟩; refine ⟨_, rfl, ?_⟩; have n0_ := Aside0.mk (Kd.R_elder' (by (with_reducible repeat (first | apply Kd.R_alloc | apply Kd.R_drewN | apply Kd.R_drew)); exact HO_8.out) (Kd.R_base ho0) hb); have n1_ := Aside0.mk (Kd.R_lower (Kd.R_new' ho0 (Kd.R_lt (by (with_reducible repeat (first | apply Kd.R_alloc | apply Kd.R_drewN | apply Kd.R_drew)); exact HO_8.out))) (below_size (by repeat (first | (with_reducible first | exact HB.out | apply below_alloc | apply pw_below_drewN | apply below_drew1) | exact HB.out)))); have n2_ := Aside0.mk (below_step (by repeat (first | (with_reducible first | exact HB.out | apply below_alloc | apply pw_below_drewN | apply below_drew1) | exact HB.out)) hb); clear HO_8; clear HB; have HO_8 := n0_; have HO583 := n1_; have HB := n2_; clear n0_ n1_ n2_; (try clear hb); (try clear hb2); (try clear hk); (try clear hi); (try clear ho0)))
                          go_ret
                          exact ⟨by first | rfl | (simp [errW_none, errW_some] <;> rfl) | (simp only [← hji7]; first | rfl | (simp [errW_none, errW_some] <;> rfl)) | (simp [*, errW_none, errW_some] <;> rfl), by repeat (first | (with_reducible first | exact HB.out | apply below_alloc | apply pw_below_drewN | apply below_drew1) | exact HB.out)⟩
          · rw [if_neg c11] at H
            exact absurd H (by simp)
        · rw [if_neg c10] at H
          exact absurd H (by simp)
      · rw [if_neg c9] at H
        exact absurd H (by simp)
    · rw [if_neg c8] at H
      exact absurd H (by simp)
  · rw [if_neg c6] at H
    have c6b0 : (t560 == 0) = false := beq_eq_false_iff_ne.mpr c6
    have c6b1 : (t560 != 0) = true := bne_iff_ne.mpr c6
    replace H := Option.bind_eq_some_iff.mp H
    obtain ⟨t563, A540, H⟩ := H
    replace H : (some t563) = some r := H
    have A54 := Aside0.mk A540
    clear A540
    obtain rfl := Option.some.inj H
    go_enter Tryd.func9, Tryd.ntmps9
    go_wp2_with (first | ((with_reducible refine gate_callee (f := 31) rfl ?_); refine goesL_ (some 19) rfl rfl Tryd.func31 (by kernel_rfl) rfl #[.slice A0 l0.length c0] rfl (by (try simp only [List.map_toArray, List.map_cons, List.map_nil]); first | done | rfl | (simp only [List.length_drop, List.length_take]; rfl)) ?_; (with_reducible refine (timeboundlaw02_pieces.calls k _ _ l0 t557 _ ?side1 ?side2 A4.out).mono ?_); (case side1 => repeat (first | exact HR0.out | (with_reducible refine Kd.C_alloc ?_ _) | (with_reducible refine Kd.C_drewN ?_ _) | (with_reducible refine Kd.C_drew ?_))); (case side2 => exact HC0.out); rintro e w55 ⟨rfl, hb⟩; refine ⟨_, rfl, ?_⟩; have n0_ := Aside0.mk (below_step (by repeat (first | (with_reducible first | exact HB.out | apply below_alloc | apply pw_below_drewN | apply below_drew1) | exact HB.out)) hb); clear HB; have HB := n0_; clear n0_; (try clear hb); (try clear hb2); (try clear hk); (try clear hi)) | ((with_reducible refine gate_callee (f := 25) rfl ?_); refine goesL_ (some 22) rfl rfl Tryd.func25 (by kernel_rfl) rfl #[.string t557] rfl (by (try simp only [List.map_toArray, List.map_cons, List.map_nil]); first | done | rfl | (simp only [List.length_drop, List.length_take]; rfl)) ?_; (with_reducible refine (token_Scan.calls t557 t558 t559 t560 _ A5.out).mono ?_); rintro e w56 ⟨v561, rfl, ho0, hb⟩; refine ⟨_, rfl, ?_⟩; have n0_ := Aside0.mk (Kd.R_lower ho0 (below_size (by repeat (first | (with_reducible first | exact HB.out | apply below_alloc | apply pw_below_drewN | apply below_drew1) | exact HB.out)))); have n1_ := Aside0.mk (below_step (by repeat (first | (with_reducible first | exact HB.out | apply below_alloc | apply pw_below_drewN | apply below_drew1) | exact HB.out)) hb); clear HB; have HO562 := n0_; have HB := n1_; clear n0_ n1_; (try clear hb); (try clear hb2); (try clear hk); (try clear hi); (try clear ho0)) | ((with_reducible refine gate_callee (f := 24) rfl ?_); refine goesL_ (some 28) rfl rfl Tryd.func24 (by kernel_rfl) rfl #[] rfl (by (try simp only [List.map_toArray, List.map_cons, List.map_nil]); first | done | rfl | (simp only [List.length_drop, List.length_take]; rfl)) ?_; (with_reducible refine (timeboundlaw02_awake.calls k  t563 _ A54.out).mono ?_); rintro e w57 ⟨rfl, hb⟩; refine ⟨_, rfl, ?_⟩; have n0_ := Aside0.mk (Kd.R_below (by (with_reducible repeat (first | apply Kd.R_alloc | apply Kd.R_drewN | apply Kd.R_drew)); exact HO562.out) hb); have n1_ := Aside0.mk (below_step (by repeat (first | (with_reducible first | exact HB.out | apply below_alloc | apply pw_below_drewN | apply below_drew1) | exact HB.out)) hb); clear HO562; clear HB; have HO562 := n0_; have HB := n1_; clear n0_ n1_; (try clear hb); (try clear hb2); (try clear hk); (try clear hi)))
    go_ret
    exact ⟨by first | rfl | (simp [errW_none, errW_some] <;> rfl) | (simp [*, errW_none, errW_some] <;> rfl), by repeat (first | (with_reducible first | exact HB.out | apply below_alloc | apply pw_below_drewN | apply below_drew1) | exact HB.out)⟩

/-- THE ONE PURE STATEMENT of timeboundlaw02_TokenSpaces: yours. -/
def timeboundlaw02_TokenSpaces.Pure : Prop := ∀ (l0 : List Int) (a1 : Int) (a2 : Int), l0.length ≤ maxLen → l0.length * 1 ≤ 140737488351232 → (∀ x ∈ l0, (Lit.int .u8 x).wf = true) → (Lit.int .i64 a1).wf = true → (Lit.int .u8 a2).wf = true → ∃ k, timeboundlaw02_TokenSpaces.f k l0 a1 a2 = some true
theorem timeboundlaw02_TokenSpaces.walk (P : timeboundlaw02_TokenSpaces.Pure) (a0 : Option Addr) (len0 cap0 : Nat) (z0 : List Int) (a1 : Int) (a2 : Int) (w : World) (w0 : (a0 = none ∧ len0 = 0 ∧ cap0 = 0 ∧ z0 = []) ∨ ∃ x, a0 = some x ∧ len0 ≤ cap0 ∧ cap0 ≤ maxLen ∧ z0.length = cap0 ∧ (∀ i, i < z0.length → w.cell? (x.add i) = some (.int .u8 (z0.getD i 0))) ∧ ∀ n ∈ z0, (Lit.int .u8 n).wf = true) (y0 : len0 * 1 ≤ 140737488351232) (w1 : (Lit.int .i64 a1).wf = true) (w2 : (Lit.int .u8 a2).wf = true) (hG_Pow : LaidPow w) :
    Calls Tryd.prog 9 #[.slice a0 len0 cap0, .int .i64 a1, .int .u8 a2] w fun e w' => e = .returned (.bool true) ∧ Below w.heap.size w w' := by
  obtain ⟨l0, rfl, hr0, hm0, hw0, hc0⟩ := ReadsInt.ofRowC w0
  obtain ⟨k, h⟩ := P l0 a1 a2 hm0 y0 hw0 w1 w2
  refine (timeboundlaw02_TokenSpaces.calls k _ _ l0 a1 a2 true w (Kd.C_of_reads (d := (0 : Int)) (h1 := fun _ => rfl) hr0) hc0 h).mono ?_
  rintro e w' ⟨rfl, hd⟩
  exact ⟨rfl, hd⟩

end Go.Proofs.YtcnmejahighkfaaDoor.P
-- TokG
/- The loops of TokenAgain and TokenSpaces. -/
namespace Go.Proofs.YtcnmejahighkfaaDoor.Tok
open Go.RowKit Go.Proofs.YtcnmejahighkfaaDoor.P Go.Proofs.YtcnmejahighkfaaDoorW.PrintWords Go.Proofs.YtcnmejahighkfaaDoorW.PrintLast Go.Proofs.YtcnmejahighkfaaDoorW.PrintMore
set_option linter.unusedVariables false
set_option linter.unusedSimpArgs false

theorem bytes_app (a b : ByteArray) : bytesOf (a ++ b) = bytesOf a ++ bytesOf b := by simp [bytesOf, ByteArray.data_append]
theorem scan_err : ∀ (f : Nat) (l : List Int) (out : List TS) (line : Int), (scanM f l out line).2.2 = 0 ∨ (scanM f l out line).2.2 = 1 := by
  intro f
  induction f with
  | zero => intro l out line; exact .inl rfl
  | succ f ih =>
    intro l out line
    rcases l with _ | ⟨c, r⟩
    · exact .inl rfl
    · cases hc : isW c with
      | true =>
        obtain ⟨l1, _, e1⟩ := scan_ws hc f r out line
        rw [e1]; exact ih _ _ _
      | false =>
        rw [scan_step hc]
        cases nextM (c :: r) with
        | none => exact .inr rfl
        | some y =>
          obtain ⟨k, v, t, n⟩ := y
          exact ih _ _ _
theorem map_norm {a b : List TS} (h : b.map norm = a.map norm) (hb : a.length ≤ 1000000000) (k : Nat) (hk : a.length < k) : timeboundref02_Same.f k a b false = some true := by
  have hl : a.length = b.length := by have := congrArg List.length h; simpa using this.symm
  refine same_eq a b false hl hb (fun i h1 h2 => ?_) k hk
  have e : norm b[i] = norm a[i] := by
    have := congrArg (fun l => l[i]?) h
    simpa [List.getElem?_map, List.getElem?_eq_getElem h1, List.getElem?_eq_getElem h2] using this
  simp only [norm, Prod.mk.injEq] at e
  exact ⟨e.1.symm, e.2.1.symm, e.2.2.symm, fun q => by cases q⟩
theorem total_app (a b : List TS) : total (a ++ b) = total a + total b := by simp [total]
theorem spaced_len (ts : List TS) : (spaced ts).length = total ts + ts.length := by
  induction ts with
  | nil => rfl
  | cons t ts ih =>
    have e : spaced (t :: ts) = (wordL t ++ [32]) ++ spaced ts := rfl
    have e2 : total (t :: ts) = (wordL t).length + total ts := by simp [total]
    rw [e, List.length_append, ih, e2]
    simp
    omega
theorem total_take (ts : List TS) (i : Nat) : total (ts.take i) ≤ total ts := by
  have := total_app (ts.take i) (ts.drop i)
  rw [List.take_append_drop] at this
  omega
theorem spaced_take (ts : List TS) (i : Nat) (h : i < ts.length) : spaced (ts.take (i + 1)) = spaced (ts.take i) ++ (wordL ts[i] ++ [32]) := by
  rw [List.take_succ_eq_append_getElem h]
  unfold spaced
  rw [List.flatMap_append, List.flatMap_singleton]
theorem scan_text (ts : List TS) (hg : ∀ t ∈ ts, good t) (s : ByteArray) (hs : s.size ≤ 8192) (h : Txt ts (bytesOf s)) : ∃ o, scanA s = (o, 0, 0) ∧ o.map norm = ts.map norm := by
  unfold scanA
  rw [if_neg (by omega)]
  obtain ⟨o, e1, e2⟩ := txt_scan ts hg (bytesOf s) h s.size (by rw [bytesOf_length]; exact Nat.le_refl _) [] 1
  exact ⟨o, e1, by simpa using e2⟩
theorem word_size (t : TS) : (wordM t.f0 t.f1 t.f3).size = (wordL t).length := by unfold wordL; rw [bytesOf_length]
theorem again_l0 (ts : List TS) (hg : ∀ t ∈ ts, good t) (hp : ts.Pairwise (fun a b => a.f2 ≤ b.f2)) (ht : total ts ≤ 720) (hn : ts.length ≤ 720) : ∀ (d i k : Nat) (x : ByteArray), ts.length - i = d → i ≤ ts.length → bytesOf x = spaced (ts.take i) → d + 800 ≤ k → timeboundlaw02_TokenAgain.l0 k ts x i = some true := by
  intro d
  induction d with
  | zero =>
    intro i k x hd hi hx hk
    obtain ⟨k, rfl⟩ : ∃ m, k = m + 1 := ⟨k - 1, by omega⟩
    have hi' : i = ts.length := by omega
    subst hi'
    rw [List.take_length] at hx
    have hsz : x.size ≤ 8192 := by rw [← bytesOf_length, hx, spaced_len]; omega
    obtain ⟨o, e1, e2⟩ := scan_text ts hg x hsz (hx ▸ txt_spaced ts)
    simp only [timeboundlaw02_TokenAgain.l0]
    rw [if_neg (by omega), Scan_eq, e1, Option.bind_some, if_pos rfl, if_pos rfl, map_norm e2 (by omega) k (by omega), Option.bind_some, if_pos rfl, awake_eq k (by omega)]
    rfl
  | succ d ih =>
    intro i k x hd hi hx hk
    obtain ⟨k, rfl⟩ : ∃ m, k = m + 1 := ⟨k - 1, by omega⟩
    have hil : i < ts.length := by omega
    have hsz : x.size ≤ 1440 := by
      rw [← bytesOf_length, hx, spaced_len, List.length_take]
      have := total_take ts i
      omega
    have hw : wrap64 ((i : Int) + 1) = ((i + 1 : Nat) : Int) := by rw [wrap_small (by omega) (by omega)]; omega
    have HW := Lib.hid hw
    clear hw
    have hone : (⟨#[32]⟩ : ByteArray).size = 1 := rfl
    have hws := word_size ts[i]
    have htw : (wordL ts[i]).length ≤ 720 := by
      have := total_take ts (i + 1)
      rw [List.take_succ_eq_append_getElem hil, total_app] at this
      have e : total [ts[i]] = (wordL ts[i]).length := by simp [total]
      omega
    have hb : bytesOf ((x ++ wordM ts[i].f0 ts[i].f1 ts[i].f3) ++ (⟨#[32]⟩ : ByteArray)) = spaced (ts.take (i + 1)) := by
      rw [bytes_app, bytes_app, hx, spaced_take ts i hil, List.append_assoc]
      rfl
    have hnext := ih (i + 1) k _ (by omega) (by omega) hb (by omega)
    simp only [timeboundlaw02_TokenAgain.l0]
    rw [if_pos (by omega)]
    by_cases h0 : (i : Int) > 0
    · have hw1 : wrap64 ((i : Int) - 1) = ((i - 1 : Nat) : Int) := by rw [wrap_small (by omega) (by omega)]; omega
      have HW1 := Lib.hid hw1
      clear hw1
      have hle : ts[i - 1].f2 ≤ ts[i].f2 := (List.pairwise_iff_getElem.1 hp) (i - 1) i (by omega) hil (by omega)
      rw [if_pos h0, if_pos (by omega), HW1.out, if_pos (by omega), if_pos (by omega), rd_at ts (i - 1) (by omega), rd_at ts i hil, if_neg (by omega), Word_eq _ _ _ _ k (by omega), Option.bind_some, if_pos (by omega), if_pos (by rw [ByteArray.size_append]; omega), HW.out, hnext]
    · rw [if_neg h0, if_pos (by omega), rd_at ts i hil, Word_eq _ _ _ _ k (by omega), Option.bind_some, if_pos (by omega), if_pos (by rw [ByteArray.size_append]; omega), HW.out, hnext]
/-! ### TokenSpaces -/
theorem ahead_app (m : Nat → List Int) : ∀ (a b : List TS) (i : Nat), ahead m i (a ++ b) = ahead m i a ++ ahead m (i + a.length) b := by
  intro a
  induction a with
  | nil => intro b i; rfl
  | cons t a ih =>
    intro b i
    simp only [List.cons_append, ahead, ih]
    rw [List.length_cons, show i + 1 + a.length = i + (a.length + 1) by omega]
    simp
theorem ahead_len (m : Nat → List Int) (hm : ∀ i, (m i).length ≤ 10) : ∀ (ts : List TS) (i : Nat), (ahead m i ts).length ≤ total ts + 10 * ts.length := by
  intro ts
  induction ts with
  | nil => intro i; simp [ahead]
  | cons t ts ih =>
    intro i
    have := ih (i + 1)
    have := hm i
    have e2 : total (t :: ts) = (wordL t).length + total ts := by simp [total]
    simp only [ahead, List.length_append, List.length_cons]
    omega
def sepAt (q : List Int) (m : Int) (i : Nat) : List Int := if (i : Int) = m then q ++ [32] else [32]
theorem sepAt_ws (q : List Int) (hq : q.all isW = true) (m : Int) (i : Nat) : (sepAt q m i).all isW = true ∧ 1 ≤ (sepAt q m i).length := by
  unfold sepAt
  split
  · rw [List.all_append, hq]; exact ⟨rfl, by simp⟩
  · exact ⟨rfl, by simp⟩
theorem spaces_l0 (ts : List TS) (hg : ∀ t ∈ ts, good t) (ht : total ts ≤ 720) (hn : ts.length ≤ 720) (q : ByteArray) (hq : (bytesOf q).all isW = true) (hq3 : q.size ≤ 3) (m : Int) : ∀ (d i k : Nat) (x : ByteArray), ts.length - i = d → i ≤ ts.length → bytesOf x = ahead (sepAt (bytesOf q) m) 0 (ts.take i) → d + 800 ≤ k → timeboundlaw02_TokenSpaces.l0 k ts q x m i = some true := by
  have hql := bytesOf_length q
  have hm : ∀ i, (sepAt (bytesOf q) m i).length ≤ 10 := by
    intro i; unfold sepAt; split <;> simp; omega
  intro d
  induction d with
  | zero =>
    intro i k x hd hi hx hk
    obtain ⟨k, rfl⟩ : ∃ m, k = m + 1 := ⟨k - 1, by omega⟩
    have hi' : i = ts.length := by omega
    subst hi'
    rw [List.take_length] at hx
    have hsz : x.size ≤ 8192 := by
      rw [← bytesOf_length, hx]
      have := ahead_len (sepAt (bytesOf q) m) hm ts 0
      omega
    obtain ⟨o, e1, e2⟩ := scan_text ts hg x hsz (hx ▸ txt_ahead (sepAt (bytesOf q) m) (sepAt_ws _ hq m) ts 0)
    simp only [timeboundlaw02_TokenSpaces.l0]
    rw [if_neg (by omega), Scan_eq, e1, Option.bind_some, if_pos rfl, if_pos rfl, map_norm e2 (by omega) k (by omega), Option.bind_some, if_pos rfl, awake_eq k (by omega)]
    rfl
  | succ d ih =>
    intro i k x hd hi hx hk
    obtain ⟨k, rfl⟩ : ∃ m, k = m + 1 := ⟨k - 1, by omega⟩
    have hil : i < ts.length := by omega
    have hsz : x.size ≤ 8192 := by
      rw [← bytesOf_length, hx]
      have h1 := ahead_len (sepAt (bytesOf q) m) hm (ts.take i) 0
      have := total_take ts i
      rw [List.length_take] at h1
      omega
    have hw : wrap64 ((i : Int) + 1) = ((i + 1 : Nat) : Int) := by rw [wrap_small (by omega) (by omega)]; omega
    have HW := Lib.hid hw
    clear hw
    have hone : (⟨#[32]⟩ : ByteArray).size = 1 := rfl
    have hws := word_size ts[i]
    have htw : (wordL ts[i]).length ≤ 720 := by
      have := total_take ts (i + 1)
      rw [List.take_succ_eq_append_getElem hil, total_app] at this
      have e : total [ts[i]] = (wordL ts[i]).length := by simp [total]
      omega
    have hstep : ahead (sepAt (bytesOf q) m) 0 (ts.take (i + 1)) = ahead (sepAt (bytesOf q) m) 0 (ts.take i) ++ (sepAt (bytesOf q) m i ++ wordL ts[i]) := by
      rw [List.take_succ_eq_append_getElem hil, ahead_app, List.length_take, Nat.min_eq_left (by omega), Nat.zero_add]
      simp [ahead]
    have hnext := fun y (hy : bytesOf y = ahead (sepAt (bytesOf q) m) 0 (ts.take (i + 1))) => ih (i + 1) k y (by omega) (by omega) hy (by omega)
    simp only [timeboundlaw02_TokenSpaces.l0]
    rw [if_pos (by omega), rd_at ts i hil, Word_eq _ _ _ _ k (by omega), HW.out]
    by_cases hmi : (i : Int) = m
    · rw [if_pos hmi, if_pos (by omega), if_pos (by rw [ByteArray.size_append]; omega), if_pos (by omega), Option.bind_some, if_pos (by rw [ByteArray.size_append, ByteArray.size_append]; omega)]
      refine hnext _ ?_
      rw [hstep, bytes_app, bytes_app, bytes_app, hx]
      unfold sepAt
      rw [if_pos hmi]
      simp only [List.append_assoc]
      rfl
    · rw [if_neg hmi, if_pos (by omega), if_pos (by omega), Option.bind_some, if_pos (by rw [ByteArray.size_append]; omega)]
      refine hnext _ ?_
      rw [hstep, bytes_app, bytes_app, hx]
      unfold sepAt
      rw [if_neg hmi]
      simp only [List.append_assoc]
      rfl
end Go.Proofs.YtcnmejahighkfaaDoor.Tok
-- PureTokenAgain
namespace Go.Proofs.YtcnmejahighkfaaDoor.Pure
open Go.RowKit Go.Proofs.YtcnmejahighkfaaDoor.P Go.Proofs.YtcnmejahighkfaaDoorW.PrintWords Go.Proofs.YtcnmejahighkfaaDoorW.PrintLast Go.Proofs.YtcnmejahighkfaaDoor.Tok
theorem TokenAgain : timeboundlaw02_TokenAgain.Pure := by
  intro l0 h1 h2 h3
  obtain ⟨r, hr, hs⟩ := pieces_eq l0 h3 (by omega)
  refine ⟨20000, ?_⟩
  unfold timeboundlaw02_TokenAgain.f
  rw [hr 20000 (by omega), Option.bind_some, Scan_eq, Option.bind_some]
  have he := scan_err r.size (bytesOf r) [] 1
  unfold scanA
  rw [if_neg (show ¬ 8192 < r.size by omega)]
  cases hsc : scanM r.size (bytesOf r) [] 1 with
  | mk o xe =>
    obtain ⟨x, e⟩ := xe
    rw [hsc] at he
    simp only at he ⊢
    rcases he with rfl | rfl
    · rw [if_pos rfl]
      obtain ⟨a, b, c, d, g⟩ := scan_good r.size (bytesOf r) [] 1 o x hsc (bytes_lt r) (by simp) (by simp) .nil
      rw [bytesOf_length] at c g
      have ht0 : total [] = 0 := rfl
      exact again_l0 o a b (by omega) (by simp at g; omega) o.length 0 20000 ⟨#[]⟩ (by omega) (by omega) (by rw [List.take_zero]; rfl) (by simp at g; omega)
    · rw [if_neg (by omega), if_pos rfl, awake_eq 20000 (by omega)]
      rfl
end Go.Proofs.YtcnmejahighkfaaDoor.Pure
-- LawTokenAgain
namespace Go.Proofs.YtcnmejahighkfaaDoor.tokenAgain
open Go.ChangeShapes Go.WideShapes Go.ChangeAt Go.RowKit
open Go.ChangeMaps (open_string shut_string)
set_option linter.unusedVariables false
theorem own : ownKnob Tryd.prog.godebug = none := by kernel_rfl
theorem laidOut : laidOutB Tryd.prog = true := by kernel_rfl
def IsRow (k : IntKind) (w : World) (a : Option Addr) (len cap : Nat) (zs : List Int) : Prop :=
  (a = none ∧ len = 0 ∧ cap = 0 ∧ zs = []) ∨
  ∃ x, a = some x ∧ len ≤ cap ∧ cap ≤ maxLen ∧ zs.length = cap ∧ (∀ i, i < zs.length → w.cell? (x.add i) = some (.int k (zs.getD i 0))) ∧ ∀ n ∈ zs, (Lit.int k n).wf = true
theorem laidPow {W : World} (h : laidMetH Tryd.prog Rows.tokenAgainRow.laid W) : P.LaidPow W :=
  have e : laidMetH Tryd.prog Rows.tokenAgainRow.laid W = laidMet Tryd.prog [("math/bits.deBruijn32tab", Rows.laid_math_bits_deBruijn32tab), ("math/bits.deBruijn64tab", Rows.laid_math_bits_deBruijn64tab), ("internal/strconv.uint64pow10", Rows.laid_internal_strconv_uint64pow10)] W := by kernel_rfl
  P.LaidPow.of_laid (by kernel_rfl) (laidMet.tail (laidMet.tail (e.mp h)))
set_option maxRecDepth 100000 in
theorem contract (H : Type) (enc : TypeId × Value → H) (W : World) (base : Nat) (args : Array Value) (ds gs : List (DataW H)) (before : List MemPlace)
    (hval0 : ∀ (j : Nat) t v, Tryd.f7.params[j]? = some t → args[j]? = some v → Value.okWide Tryd.prog W .any base t v)
    (hW : DataW.Whole enc Tryd.prog Tryd.f7.params.toList Rows.tokenAgainSpec.vars false W args.toList ds gs before)
    (hsz0 : (DataW.weightsEach Tryd.prog (Tryd.f7.params.toList ++ Rows.tokenAgainSpec.plain.varTypes Tryd.prog) (ds ++ gs)).all (· ≤ reachBytes) = true) (hL : laidMetH Tryd.prog Rows.tokenAgainRow.laid W) :
    Calls Tryd.prog 7 args W fun e W' => ∃ v, e = .returned v ∧ Rows.tokenAgainSpec.post enc Tryd.prog Tryd.f7 false true false false W args v W' := by
  have hsz : (DataW.weightsEach Tryd.prog (Tryd.f7.params.toList ++ Rows.tokenAgainSpec.plain.varTypes Tryd.prog) (ds ++ gs)).all (· ≤ reachBytes) = true := hsz0
  have hval : ∀ (j : Nat) t v, Tryd.f7.params[j]? = some t → args[j]? = some v → Value.okWide Tryd.prog W .any base t v := hval0
  have hW' := hW
  obtain ⟨p, q, hA0, hV, rfl, hfz, hnd⟩ := hW
  have hA : DataW.TrodAll enc Tryd.prog W 0 (fun _ => true) true Tryd.f7.params.toList args.toList ds p := hA0
  rw [Tryd.params7] at hA hval hsz
  obtain ⟨v0, vs0, d0, ds0, p0, q0, hargs, rfl, rfl, h0, r0⟩ := trodAll_cons hA
  obtain ⟨rfl, rfl, rfl⟩ := trodAll_nil r0
  obtain rfl : args = #[v0] := by cases args; simp_all
  obtain ⟨rfl, rfl⟩ := trodVars_none hV
  obtain ⟨a0, len0, cap0, rfl⟩ := okWide_slice Tryd.underlying22 (hval 0 22 v0 rfl rfl)
  have k0 := h0
  have lt0 : ∀ x ∈ p0, x.block < W.heap.size := by obtain ⟨m, hm⟩ := k0; exact DataW.trod_lt m _ _ _ hm
  obtain ⟨z0, w0⟩ : ∃ zs, IsRow .u8 W a0 len0 cap0 zs := by
    obtain ⟨fuel, hf⟩ := h0
    rcases open_ints Tryd.underlying22 Tryd.underlying5 (by kernel_rfl) hf with ⟨hcs, _⟩ | ⟨x, l, c, zs, hcs, _, hl, hm, hz, _, hcell, hwz⟩
    · simp [Value.cells] at hcs
      obtain ⟨rfl, rfl, rfl⟩ := hcs
      exact ⟨[], .inl ⟨rfl, rfl, rfl, rfl⟩⟩
    · simp [Value.cells] at hcs
      obtain ⟨rfl, rfl, rfl⟩ := hcs
      exact ⟨zs, .inr ⟨_, rfl, hl, hm, by simpa using hz, hcell, hwz⟩⟩
  have y0 : len0 * 1 ≤ 140737488351232 := _root_.Go.Proofs.YtcnmejahighkfaaDoorW.PrintWords.sized_ints hsz (j := 0) (t := 22) rfl rfl Tryd.underlying22 Tryd.underlying5 (by kernel_rfl) (by kernel_rfl) h0
  clear hA0 hval0 hsz0 hsz
  refine (P.timeboundlaw02_TokenAgain.walk Pure.TokenAgain a0 len0 cap0 z0 W w0 y0 (laidPow hL)).mono fun e W' ⟨he, bel⟩ => ?_
  subst he
  exact ⟨_, rfl, _, _, _, [], _, [], hW', trodAll_mk1 (shut_bool Tryd.underlying4 _), (trodAll_cons_mk (Below.trod laidOut (by kernel_rfl) (of_decide_eq_true (by kernel_rfl)) k0 bel lt0) trodAll_mk0), rfl, bel.frame _, fun h => by cases h⟩
/-- A world for the witness: the settled one, the listed variables holding what their initialisers lay. -/
noncomputable def laidWorld (os : Os) : World := { (World.holding Tryd.prog os ⟨#[], #[], []⟩) with heap := ((((World.holding Tryd.prog os ⟨#[], #[], []⟩).heap.modify 5 fun
      | .cells _ t frozen => .cells #[.int .u8 0, .int .u8 1, .int .u8 28, .int .u8 2, .int .u8 29, .int .u8 14, .int .u8 24, .int .u8 3, .int .u8 30, .int .u8 22, .int .u8 20, .int .u8 15, .int .u8 25, .int .u8 17, .int .u8 4, .int .u8 8, .int .u8 31, .int .u8 27, .int .u8 13, .int .u8 23, .int .u8 21, .int .u8 19, .int .u8 16, .int .u8 7, .int .u8 26, .int .u8 12, .int .u8 18, .int .u8 6, .int .u8 11, .int .u8 5, .int .u8 10, .int .u8 9] t frozen
      | o => o).modify 6 fun
      | .cells _ t frozen => .cells #[.int .u8 0, .int .u8 1, .int .u8 56, .int .u8 2, .int .u8 57, .int .u8 49, .int .u8 28, .int .u8 3, .int .u8 61, .int .u8 58, .int .u8 42, .int .u8 50, .int .u8 38, .int .u8 29, .int .u8 17, .int .u8 4, .int .u8 62, .int .u8 47, .int .u8 59, .int .u8 36, .int .u8 45, .int .u8 43, .int .u8 51, .int .u8 22, .int .u8 53, .int .u8 39, .int .u8 33, .int .u8 30, .int .u8 24, .int .u8 18, .int .u8 12, .int .u8 5, .int .u8 63, .int .u8 55, .int .u8 48, .int .u8 27, .int .u8 60, .int .u8 41, .int .u8 37, .int .u8 16, .int .u8 46, .int .u8 35, .int .u8 44, .int .u8 21, .int .u8 52, .int .u8 32, .int .u8 23, .int .u8 11, .int .u8 54, .int .u8 26, .int .u8 40, .int .u8 15, .int .u8 34, .int .u8 20, .int .u8 31, .int .u8 10, .int .u8 25, .int .u8 14, .int .u8 19, .int .u8 9, .int .u8 13, .int .u8 8, .int .u8 7, .int .u8 6] t frozen
      | o => o).modify 4 fun
      | .cells _ t frozen => .cells #[.int .u64 1, .int .u64 10, .int .u64 100, .int .u64 1000, .int .u64 10000, .int .u64 100000, .int .u64 1000000, .int .u64 10000000, .int .u64 100000000, .int .u64 1000000000, .int .u64 10000000000, .int .u64 100000000000, .int .u64 1000000000000, .int .u64 10000000000000, .int .u64 100000000000000, .int .u64 1000000000000000, .int .u64 10000000000000000, .int .u64 100000000000000000, .int .u64 1000000000000000000, .int .u64 10000000000000000000] t frozen
      | o => o) }
theorem laid_met (os : Os) : laidMet Tryd.prog Rows.tokenAgainRow.laid ((laidWorld os).forCall (fun _ _ => 0) ⟨#[], #[.slice none 0 0], []⟩).memory := laidMet_of_run' 8 (by kernel_rfl) (by kernel_rfl)
theorem reads (os : Os) {H : Type} (enc : TypeId × Value → H) : DataW.whole enc Tryd.prog ((laidWorld os).forCall (fun _ _ => 0) ⟨#[], #[.slice none 0 0], []⟩).memory Tryd.f7.params.toList Rows.tokenAgainSpec.vars false #[.slice none 0 0].toList 8 = some ([.nil], [], []) := by kernel_rfl
set_option maxRecDepth 100000 in
theorem lifted (os : Os) (started : os.Started) (H : Type) (enc : TypeId × Value → H) (F : Stop.Interp) :
    ReturnsInHanded {} Tryd.checked os 7 .any ((OpenSpec.ofChange Rows.tokenAgainSpec).preRow enc Tryd.prog Tryd.f7 Rows.tokenAgainRow.domain false Rows.tokenAgainRow.laid) (((OpenSpec.ofChange Rows.tokenAgainSpec).at F).post enc Tryd.prog Tryd.f7 false true false false) := by
  have hx := reads os enc
  refine returnsInHanded_of_row (C := Tryd.checked) (s := OpenSpec.ofChange Rows.tokenAgainSpec) own started (by kernel_rfl) Tryd.func7
    (witness_row_at (enc := enc) (C := Tryd.checked) false (laidWorld os) #[.slice none 0 0] rfl (by kernel_rfl) (by kernel_rfl) (by kernel_rfl)
      (OpenSpec.preRow_of_cond 8 hx (by kernel_rfl) (fun k hk => by cases hk) (by kernel_rfl) (laid_met os))) ?_
  intro W base args ds gs before hval hW _ _ hsz hL _ _
  exact contract H enc W base args ds gs before hval hW hsz hL
theorem over : Rows.tokenAgainRow.holds Tryd.pinned (OpenSpec.ofChange Rows.tokenAgainSpec) :=
  OpenClaim.holds_of_cond 7 Tryd.f7 rfl rfl rfl rfl rfl rfl rfl ⟨rfl, rfl, rfl, rfl, rfl⟩ rfl rfl rfl rfl rfl (by kernel_rfl) Tryd.func7 (by kernel_rfl)
    (of_decide_eq_true (by kernel_rfl)) (by unfold Func.isWrapper; first | (rw [if_pos (by decide +kernel)]; kernel_rfl) | (rw [if_neg (by decide +kernel)]; exact ⟨rfl, rfl⟩))
    (fun os started H enc _ F => by rw [OpenClaim.pre_eq_preRow]; exact lifted os started H enc F)
theorem said : Rows.TokenAgainSaid := over
theorem plain (f : FuncId) (fn : Func) (hf : Tryd.pinned.checked.prog.funcNamed "timebound/timeboundlaw02.TokenAgain" = some f) (hfn : Tryd.pinned.checked.prog.funcs[f]? = some fn) :
    true = Tryd.pinned.checked.prog.looks [] ∧ ∀ (j : Nat) t, fn.params[j]? = some t → Tryd.pinned.checked.prog.wantsStandIn t = false := by
  obtain rfl : f = 7 := Option.some.inj ((show Tryd.prog.funcNamed "timebound/timeboundlaw02.TokenAgain" = some 7 by kernel_rfl).symm.trans hf) |>.symm
  obtain rfl : fn = Tryd.f7 := (Option.some.inj (Tryd.func7.symm.trans hfn)).symm
  refine ⟨by kernel_rfl, fun j t ht => ?_⟩
  rw [Tryd.params7] at ht
  have hm := Array.mem_of_getElem? ht
  obtain rfl : t = 22 := by simpa using hm
  exact (show Tryd.prog.wantsStandIn 22 = false by kernel_rfl)
/-- THE CARD. -/
theorem card : Rows.TokenAgainCardSaid :=
  Claim7.holds_tied_plain_at .later [] _ _ _ _ said (fun _ h => by cases h) (by kernel_rfl) (fun _ h => by cases h) tokenAgain_row_tie rfl ⟨rfl, rfl⟩ (by kernel_rfl) rfl plain (by kernel_rfl)
#print axioms card
end Go.Proofs.YtcnmejahighkfaaDoor.tokenAgain
namespace Go.Proofs.YtcnmejahighkfaaDoor
/-- The card, under a short name, for the claim. -/
theorem tokenAgain_holds : Rows.TokenAgainCardSaid := tokenAgain.card
end Go.Proofs.YtcnmejahighkfaaDoor
