/- At every text and every token, the program's scanner, its test for names and its words agree with the law's own, so TokenRaw answers true. No condition. -/
import Derived.Shelf.Strconv.Itoa0
import Derived.Shelf.Strconv.Itoa1
import Derived.Shelf.LaysM
import Derived.Shelf.Strconv.Itoa2
import Derived.Shelf.Strconv.Itoa3
import Derived.Shelf.Slices.Turned
import Derived.Test.YtcnmejahighkfaaDoorProg
import Derived.WalkKit
import Derived.WalkSmall
import Derived.Lib.AppendIntMem
import Derived.Lib.LaidTab
import Derived.MapKept
import Derived.Carry
import Derived.KernelRfl
import Derived.Below
import Derived.Deep.Draws
import Derived.Deep.AppendLies
import Derived.Maps.AppendAt
import Derived.OwnWalk
import Derived.Laws.BytesArg
import Derived.Laws.MakeOwn
import Derived.Laws.OwnMore
import Derived.Deep.OwnRows
import Derived.Tactics
import Derived.Lib.ConvBytes
import Derived.Laws.Slices
import Derived.RowKit3
import Derived.Deep.LoopGhost
import Derived.Deep.QuietTactic
import Derived.BigQuiet
import Derived.WideLaws
import Derived.Deep.DeepCutAuto
import Derived.Deep.CutBlock
import Derived.Deep.RegionHeld3
import Derived.Laws.Rows
import Derived.Lib.AppendStr
import Derived.ArgAppend
import Derived.Laws.IdiomCopy
import Derived.OrdersHeld
import Derived.Laws.BitsLemmas
import Derived.RowKit
import Derived.Test.YtcnmejahighkfaaDoorWWords
import Derived.Test.YtcnmejahighkfaaDoorWLast
import Derived.Test.YtcnmejahighkfaaDoorWTab
import Derived.Test.YtcnmejahighkfaaDoorWFour
import Derived.Test.YtcnmejahighkfaaDoorWQPut
import Derived.Test.YtcnmejahighkfaaDoorWApart
import Derived.Test.YtcnmejahighkfaaDoorWArr
import Derived.Test.YtcnmejahighkfaaDoorWZeros
import Derived.Test.YtcnmejahighkfaaDoorWFoot
import Derived.Test.YtcnmejahighkfaaDoorWKept
import Derived.Test.YtcnmejahighkfaaDoorWShare
import Derived.Test.YtcnmejahighkfaaDoorWN
import Derived.Test.YtcnmejahighkfaaDoorWFootNe
import Derived.Test.YtcnmejahighkfaaDoorWAt
import Derived.Test.YtcnmejahighkfaaDoorWEqStruct
import Derived.Test.YtcnmejahighkfaaDoorWRepsOne
import Derived.Test.YtcnmejahighkfaaDoorWInv
import Derived.Test.YtcnmejahighkfaaDoorWInvWords
import Derived.Test.YtcnmejahighkfaaDoorWGuard
import Derived.Test.YtcnmejahighkfaaDoorWNEv
import Derived.Test.YtcnmejahighkfaaDoorWMore
import Derived.OpenShut
import Derived.Lib.ItoaMem
import Derived.Test.YtcnmejahighkfaaDoorRows
import Derived.Test.YtcnmejahighkfaaDoorCards
import Derived.Test.YtcnmejahighkfaaDoorTie
import Derived.Deep.DeepHandedRow
import Derived.Deep.DeepWitnessRowRef
import Derived.Stop.LaidErr
import Derived.Lib.SmallJoins
import Derived.ProofKit
import Derived.ShutString
import Derived.ChangeOld
import Derived.SizedLaws
import Derived.Test.YtcnmejahighkfaaDoorMgTokenRaw2
-- TokA
/- The tokens of a text as a plain function of its bytes, and that both scanners compute it. -/
namespace Go.Proofs.YtcnmejahighkfaaDoor.Tok
open Go.RowKit Go.Proofs.YtcnmejahighkfaaDoor.P Go.Proofs.YtcnmejahighkfaaDoorW.PrintWords Go.Proofs.YtcnmejahighkfaaDoorW.PrintLast Go.Proofs.YtcnmejahighkfaaDoorW.PrintMore
set_option linter.unusedVariables false
set_option linter.unusedSimpArgs false

/-! ### bytes as numbers -/
theorem toList_data (s : ByteArray) : s.toList = s.data.toList := ByteArray.toList_eq s
theorem bytes_lt (s : ByteArray) : ∀ c ∈ bytesOf s, 0 ≤ c ∧ c ≤ 255 := by
  intro c hc
  simp only [bytesOf, List.mem_map] at hc
  obtain ⟨b, _, rfl⟩ := hc
  have := b.toNat_lt
  omega
theorem bytesOf_inj {a b : ByteArray} (h : bytesOf a = bytesOf b) : a = b := by
  have h2 : a.data.toList = b.data.toList := by
    unfold bytesOf at h
    refine List.map_inj_right ?_ |>.1 h
    intro x y hxy
    have : x.toNat = y.toNat := by omega
    exact UInt8.toNat_inj.1 this
  cases a; cases b
  simp at h2
  simp [h2]
theorem bytes_ext (s : ByteArray) (a b : Nat) : bytesOf (s.extract a b) = ((bytesOf s).drop a).take (b - a) := by
  unfold bytesOf
  rw [Lib.extract_data]
  simp [List.map_take, List.map_drop]
theorem bytes_strOfNums (l : List Int) (h : ∀ c ∈ l, 0 ≤ c ∧ c ≤ 255) : bytesOf (strOfNums l) = l := by
  unfold bytesOf strOfNums
  simp only [List.map_map]
  conv => rhs; rw [← List.map_id l]
  refine List.map_congr_left fun c hc => ?_
  have := h c hc
  simp [Function.comp]
  omega
theorem strOfNums_bytes (s : ByteArray) : strOfNums (bytesOf s) = s := bytesOf_inj (bytes_strOfNums _ (bytes_lt s))
theorem bt_get (s : ByteArray) (i : Nat) : bt s i = (bytesOf s).getD i 0 := by rw [← rd_bytesOf]; simp [rd]
theorem bt_cons {s : ByteArray} {i : Nat} {c : Int} {r : List Int} (h : (bytesOf s).drop i = c :: r) : i < s.size ∧ bt s i = c ∧ (bytesOf s).drop (i + 1) = r := by
  have hl : i < (bytesOf s).length := by
    rcases Nat.lt_or_ge i (bytesOf s).length with h1 | h1
    · exact h1
    · rw [List.drop_eq_nil_of_le h1] at h; cases h
  have e := List.drop_eq_getElem_cons hl
  rw [e] at h
  injection h with h1 h2
  refine ⟨by rw [bytesOf_length] at hl; exact hl, ?_, h2⟩
  rw [bt_get, List.getD_eq_getElem?_getD, List.getElem?_eq_getElem hl]
  exact h1
theorem bt_nil {s : ByteArray} {i : Nat} (h : (bytesOf s).drop i = []) : s.size ≤ i := by
  have := List.drop_eq_nil_iff.1 h
  rwa [bytesOf_length] at this
theorem wrap_small {i : Int} (h0 : -9000000000000000000 ≤ i) (h : i ≤ 9000000000000000000) : wrap64 i = i := by unfold wrap64; omega

/-! ### the model -/
def isL (c : Int) : Bool := decide (97 ≤ c) && decide (c ≤ 122)
def isD (c : Int) : Bool := decide (48 ≤ c) && decide (c ≤ 57)
def isA (c : Int) : Bool := isL c || isD c
def numv (l : List Int) (n : Int) : Int := l.foldl (fun n c => if 10 * n + (c - 48) ≤ 2147483648 then 10 * n + (c - 48) else 2147483648) n
def signC : List (List Int) := signList.map bytesOf
def signM (l : List Int) : Nat := if 2 ≤ l.length ∧ l.take 2 ∈ signC then 2 else if 1 ≤ l.length ∧ l.take 1 ∈ signC then 1 else 0
/-- The token that a text begins with: kind, number, text, and how many bytes it has. -/
def nextM (l : List Int) : Option (Int × Int × List Int × Nat) :=
  match l with
  | [] => none
  | c :: r =>
    if isL c then (if 12 < ((c :: r).takeWhile isA).length then none else some (1, 0, (c :: r).takeWhile isA, ((c :: r).takeWhile isA).length))
    else if isD c then (if 2147483647 < numv ((c :: r).takeWhile isD) 0 then none else some (2, numv ((c :: r).takeWhile isD) 0, [], ((c :: r).takeWhile isD).length))
    else if signM (c :: r) = 0 then none else some (3, 0, (c :: r).take (signM (c :: r)), signM (c :: r))
abbrev TS := S59
def scanM : Nat → List Int → List TS → Int → List TS × Int × Int
  | 0, _, out, _ => (out, 0, 0)
  | _ + 1, [], out, _ => (out, 0, 0)
  | f + 1, c :: r, out, line =>
    if c = 10 then scanM f r out (line + 1) else if c = 32 ∨ c = 9 then scanM f r out line else
      match nextM (c :: r) with
      | none => ([], line, 1)
      | some (k, v, t, n) => scanM f ((c :: r).drop n) (out ++ [⟨k, v, line, strOfNums t⟩]) line

/-! ### the inner loops -/
theorem letter_eq (c : Int) : token_letter.f c = some (isL c) := by
  unfold token_letter.f isL; split <;> simp_all <;> omega
theorem digit_eq (c : Int) : token_digit.f c = some (isD c) := by
  unfold token_digit.f isD; split <;> simp_all <;> omega
theorem name1_eq (c : Int) : token_name_1.f c = some (isA c) := by
  unfold token_name_1.f isA
  rw [letter_eq, digit_eq]
  cases isL c <;> simp
theorem run_digit (s : ByteArray) (hs : s.size ≤ 1000000) : ∀ (l : List Int) (i k : Nat), (bytesOf s).drop i = l → i ≤ s.size → l.length < k → token_run_at_token_digit.l0 k s i = some ((i + (l.takeWhile isD).length : Nat) : Int) := by
  intro l
  induction l with
  | nil =>
    intro i k h hi hk
    obtain ⟨k, rfl⟩ : ∃ m, k = m + 1 := ⟨k - 1, by omega⟩
    have := bt_nil h
    simp only [token_run_at_token_digit.l0]
    rw [if_neg (by omega)]
    simp
  | cons c r ih =>
    intro i k h hi hk
    obtain ⟨k, rfl⟩ : ∃ m, k = m + 1 := ⟨k - 1, by simp at hk; omega⟩
    obtain ⟨h1, h2, h3⟩ := bt_cons h
    simp only [token_run_at_token_digit.l0]
    rw [if_pos (by omega), if_pos (by omega), h2, digit_eq, wrap_small (by omega) (by omega)]
    simp only [Option.bind_some]
    cases hd : isD c with
    | true =>
      simp only [if_true]
      have := ih (i + 1) k h3 (by omega) (by simp at hk; omega)
      rw [show ((i : Int) + 1) = ((i + 1 : Nat) : Int) by omega, this]
      simp [List.takeWhile_cons, hd]
      omega
    | false => simp [List.takeWhile_cons, hd]
theorem run_name (s : ByteArray) (hs : s.size ≤ 1000000) : ∀ (l : List Int) (i k : Nat), (bytesOf s).drop i = l → i ≤ s.size → l.length < k → token_run_at_token_name_1.l0 k s i = some ((i + (l.takeWhile isA).length : Nat) : Int) := by
  intro l
  induction l with
  | nil =>
    intro i k h hi hk
    obtain ⟨k, rfl⟩ : ∃ m, k = m + 1 := ⟨k - 1, by omega⟩
    have := bt_nil h
    simp only [token_run_at_token_name_1.l0]
    rw [if_neg (by omega)]
    simp
  | cons c r ih =>
    intro i k h hi hk
    obtain ⟨k, rfl⟩ : ∃ m, k = m + 1 := ⟨k - 1, by simp at hk; omega⟩
    obtain ⟨h1, h2, h3⟩ := bt_cons h
    simp only [token_run_at_token_name_1.l0]
    rw [if_pos (by omega), if_pos (by omega), h2, name1_eq, wrap_small (by omega) (by omega)]
    simp only [Option.bind_some]
    cases hd : isA c with
    | true =>
      simp only [if_true]
      have := ih (i + 1) k h3 (by omega) (by simp at hk; omega)
      rw [show ((i : Int) + 1) = ((i + 1 : Nat) : Int) by omega, this]
      simp [List.takeWhile_cons, hd]
      omega
    | false => simp [List.takeWhile_cons, hd]
theorem numv_range (l : List Int) : ∀ n, 0 ≤ n → n ≤ 2147483648 → (∀ c ∈ l, 48 ≤ c ∧ c ≤ 57) → 0 ≤ numv l n ∧ numv l n ≤ 2147483648 := by
  induction l with
  | nil => intro n h0 h1 _; exact ⟨h0, h1⟩
  | cons c r ih =>
    intro n h0 h1 h
    have hc := h c (.head _)
    simp only [numv, List.foldl_cons]
    refine ih _ ?_ ?_ fun x hx => h x (.tail _ hx)
    · split <;> omega
    · split <;> omega
theorem number_eq (s : ByteArray) (hs : s.size ≤ 1000000) : ∀ (l : List Int) (i k : Nat) (n : Int), (bytesOf s).drop i = l → i ≤ s.size → l.length < k → (∀ c ∈ l, 48 ≤ c ∧ c ≤ 57) → 0 ≤ n → n ≤ 2147483648 → token_number.l0 k s n i = some (numv l n) := by
  intro l
  induction l with
  | nil =>
    intro i k n h hi hk _ _ _
    obtain ⟨k, rfl⟩ : ∃ m, k = m + 1 := ⟨k - 1, by omega⟩
    have := bt_nil h
    simp only [token_number.l0]
    rw [if_neg (by omega)]
    rfl
  | cons c r ih =>
    intro i k n h hi hk hd h0 hn
    obtain ⟨k, rfl⟩ : ∃ m, k = m + 1 := ⟨k - 1, by simp at hk; omega⟩
    obtain ⟨h1, h2, h3⟩ := bt_cons h
    have hc := hd c (.head _)
    simp only [token_number.l0]
    rw [if_pos (by omega), if_pos (by omega), h2, wrap_small (i := 10 * n) (by omega) (by omega), wrap_small (i := (i : Int) + 1) (by omega) (by omega), Int.emod_eq_of_lt (by omega) (by omega), wrap_small (by omega) (by omega)]
    have hm : mn (10 * n + (c - 48)) 2147483648 = if 10 * n + (c - 48) ≤ 2147483648 then 10 * n + (c - 48) else 2147483648 := by unfold mn; split <;> split <;> omega
    rw [show ((i : Int) + 1) = ((i + 1 : Nat) : Int) by omega, hm]
    have := ih (i + 1) k (if 10 * n + (c - 48) ≤ 2147483648 then 10 * n + (c - 48) else 2147483648) h3 (by omega) (by simp at hk; omega) (fun x hx => hd x (.tail _ hx)) (by split <;> omega) (by split <;> omega)
    rw [this]
    rfl

/-! ### name, sign, next -/
theorem take_tw {α : Type} (p : α → Bool) (l : List α) : l.take (l.takeWhile p).length = l.takeWhile p := by
  induction l with
  | nil => rfl
  | cons c r ih => simp only [List.takeWhile_cons]; split <;> simp [ih]
theorem tw_le {α : Type} (p : α → Bool) (l : List α) : (l.takeWhile p).length ≤ l.length := (List.takeWhile_sublist _).length_le
theorem tw_all {α : Type} (p : α → Bool) (l : List α) : ∀ c ∈ l.takeWhile p, p c = true := by
  induction l with
  | nil => intro c hc; cases hc
  | cons x r ih =>
    intro c hc
    simp only [List.takeWhile_cons] at hc
    split at hc
    · rename_i hx
      cases hc with
      | head => exact hx
      | tail _ h => exact ih c h
    · cases hc
theorem isD_range {c : Int} (h : isD c = true) : 48 ≤ c ∧ c ≤ 57 := by simpa [isD] using h
theorem isD_not_isL {c : Int} (h : isL c = true) : isD c = false := by
  simp only [isL, isD, Bool.and_eq_true, decide_eq_true_eq, Bool.and_eq_false_iff, decide_eq_false_iff_not] at *
  omega
theorem isL_isA {c : Int} (h : isL c = true) : isA c = true := by simp [isA, h]
theorem ext_text {s : ByteArray} {n : Nat} {t : List Int} (h : (bytesOf s).take n = t) : s.extract 0 n = strOfNums t := by
  refine bytesOf_inj ?_
  rw [bytes_ext, List.drop_zero, Nat.sub_zero, h, bytes_strOfNums]
  intro c hc
  rw [← h] at hc
  exact bytes_lt s c (List.mem_of_mem_take hc)
def nameM (l : List Int) : Nat := match l with | [] => 0 | c :: r => if isL c then ((c :: r).takeWhile isA).length else 0
theorem nil_iff (s : ByteArray) : s.toList = ([] : List UInt8) ↔ bytesOf s = [] := by
  rw [toList_data]; simp [bytesOf]
theorem name_eq (s : ByteArray) (hs : s.size ≤ 1000000) (k : Nat) (hk : s.size < k) : token_name.f k s = some (nameM (bytesOf s) : Int) := by
  unfold token_name.f
  cases h : bytesOf s with
  | nil => rw [if_pos ((nil_iff s).2 h)]; rfl
  | cons c r =>
    rw [if_neg (fun q => by rw [(nil_iff s).1 q] at h; cases h)]
    obtain ⟨h1, h2, h3⟩ := bt_cons (s := s) (i := 0) (by simpa using h)
    have h2' : bt s 0 = c := h2
    rw [if_pos (by omega), h2', letter_eq]
    simp only [Option.bind_some, nameM]
    cases hl : isL c with
    | false => simp
    | true =>
      simp only [if_true, token_run_at_token_name_1.f]
      have := run_name s hs (c :: r) 0 k (by simpa using h) (by omega) (by have := bytesOf_length s; rw [h] at this; omega)
      have e : token_run_at_token_name_1.l0 k s 0 = token_run_at_token_name_1.l0 k s ((0 : Nat) : Int) := rfl
      rw [e, this]
      simp
theorem mem_signC (s : ByteArray) (n : Nat) : isSign (s.extract 0 n) = decide ((bytesOf s).take n ∈ signC) := by
  unfold isSign signC
  have e : bytesOf (s.extract 0 n) = (bytesOf s).take n := by rw [bytes_ext]; simp
  rw [← e]
  have : s.extract 0 n ∈ signList ↔ bytesOf (s.extract 0 n) ∈ signList.map bytesOf := by
    rw [List.mem_map]
    exact ⟨fun h => ⟨_, h, rfl⟩, fun ⟨a, h, q⟩ => bytesOf_inj q ▸ h⟩
  by_cases h : s.extract 0 n ∈ signList
  · simp [h, this.1 h]
  · have h' := fun q => h (this.2 q)
    simp only [h, decide_false]
    exact (decide_eq_false h').symm
theorem sign_one (s : ByteArray) (k : Nat) (hk : 2 ≤ k) (h : 1 ≤ s.size) : token_sign.l0 k s 1 = some (if (bytesOf s).take 1 ∈ signC then 1 else 0 : Int) := by
  obtain ⟨k, rfl⟩ : ∃ m, k = m + 1 + 1 := ⟨k - 2, by omega⟩
  simp only [token_sign.l0]
  rw [if_pos (by omega), if_pos (by omega)]
  have e : (1 : Int).toNat = 1 := rfl
  rw [e, mem_signC]
  by_cases h1 : (bytesOf s).take 1 ∈ signC
  · simp [h1]
  · simp [h1]
theorem sign_eq (s : ByteArray) (k : Nat) (hk : 3 ≤ k) : token_sign.f k s = some (signM (bytesOf s) : Int) := by
  obtain ⟨k, rfl⟩ : ∃ m, k = m + 1 := ⟨k - 1, by omega⟩
  unfold token_sign.f signM
  have hl := bytesOf_length s
  rcases Nat.lt_or_ge s.size 2 with h2 | h2
  · rw [if_neg (by omega), if_neg (by omega)]
    rcases Nat.lt_or_ge s.size 1 with h1 | h1
    · have h0 : (s.size : Int) = 0 := by omega
      rw [h0, if_neg (by omega)]
      simp [token_sign.l0]
    · have h0 : (s.size : Int) = 1 := by omega
      rw [h0, sign_one s (k + 1) (by omega) h1]
      by_cases h : (bytesOf s).take 1 ∈ signC
      · rw [if_pos h, if_pos ⟨by omega, h⟩]; rfl
      · rw [if_neg h, if_neg (fun q => h q.2)]; rfl
  · rw [if_pos (by omega)]
    simp only [token_sign.l0]
    rw [if_pos (by omega), if_pos (by omega)]
    have e : (2 : Int).toNat = 2 := rfl
    rw [e, mem_signC]
    by_cases h : (bytesOf s).take 2 ∈ signC
    · rw [if_pos (by simpa using h), if_pos ⟨by omega, h⟩]; rfl
    · rw [if_neg (by simpa using h), if_neg (fun q => h q.2)]
      have e2 : (2 : Int) - 1 = 1 := rfl
      rw [e2, sign_one s k (by omega) (by omega)]
      by_cases h1 : (bytesOf s).take 1 ∈ signC
      · rw [if_pos h1, if_pos ⟨by omega, h1⟩]; rfl
      · rw [if_neg h1, if_neg (fun q => h1 q.2)]; rfl
theorem signM_le (l : List Int) : signM l ≤ l.length ∧ signM l ≤ 2 := by
  unfold signM
  split
  · omega
  · split <;> omega
theorem nextM_len {l : List Int} {x : Int × Int × List Int × Nat} (h : nextM l = some x) : 1 ≤ x.2.2.2 ∧ x.2.2.2 ≤ l.length := by
  unfold nextM at h
  cases l with
  | nil => cases h
  | cons c r =>
    simp only at h
    split at h
    · rename_i hc
      split at h
      · cases h
      · obtain rfl := Option.some.inj h
        have := tw_le isA (c :: r)
        simp only [List.takeWhile_cons, isL_isA hc, if_true] at *
        simp at *
        omega
    · split at h
      · rename_i hc
        split at h
        · cases h
        · obtain rfl := Option.some.inj h
          have := tw_le isD (c :: r)
          simp only [List.takeWhile_cons, hc, if_true] at *
          simp at *
          omega
      · split at h
        · cases h
        · obtain rfl := Option.some.inj h
          have := signM_le (c :: r)
          simp only
          omega
theorem next_eq (s : ByteArray) (hs : s.size ≤ 1000000) (k : Nat) (hk : s.size + 3 < k) (hne : bytesOf s ≠ []) :
    (∀ a b t n, nextM (bytesOf s) = some (a, b, t, n) → token_next.f k s = some (⟨a, b, 0, strOfNums t⟩, (n : Int))) ∧ (nextM (bytesOf s) = none → ∃ x, token_next.f k s = some (x, 0)) := by
  have hl := bytesOf_length s
  unfold token_next.f
  rw [name_eq s hs k (by omega)]
  simp only [Option.bind_some]
  cases hb : bytesOf s with
  | nil => exact absurd hb hne
  | cons c r =>
    have hrd := run_digit s hs (c :: r) 0 k (by simpa using hb) (by omega) (by rw [hb] at hl; omega)
    have hrd' : token_run_at_token_digit.f k s = some (((c :: r).takeWhile isD).length : Int) := by
      unfold token_run_at_token_digit.f
      have e : token_run_at_token_digit.l0 k s 0 = token_run_at_token_digit.l0 k s ((0 : Nat) : Int) := rfl
      rw [e, hrd]; simp
    by_cases hc : isL c = true
    · have htw : 1 ≤ ((c :: r).takeWhile isA).length := by simp [List.takeWhile_cons, isL_isA hc]
      have hnm : nameM (c :: r) = ((c :: r).takeWhile isA).length := by simp only [nameM, if_pos hc]
      rw [hnm]
      by_cases h12 : 12 < ((c :: r).takeWhile isA).length
      · have hm : nextM (c :: r) = none := by simp only [nextM, if_pos hc, if_pos h12]
        rw [hm, if_pos (by omega), if_pos (by omega)]
        exact ⟨fun a b t n h => (by cases h), fun _ => ⟨_, rfl⟩⟩
      · have hm : nextM (c :: r) = some (1, 0, (c :: r).takeWhile isA, ((c :: r).takeWhile isA).length) := by simp only [nextM, if_pos hc, if_neg h12]
        rw [hm, if_pos (by omega), if_neg (by omega), if_pos (by have := tw_le isA (c :: r); rw [hb] at hl; omega)]
        refine ⟨fun a b t n h => ?_, fun h => (by cases h)⟩
        simp only [Option.some.injEq, Prod.mk.injEq] at h
        obtain ⟨rfl, rfl, rfl, rfl⟩ := h
        rw [Int.toNat_natCast, ext_text (t := (c :: r).takeWhile isA) (by rw [hb]; exact take_tw _ _)]
    · have hnm : nameM (c :: r) = 0 := by simp only [nameM, if_neg hc]
      rw [hnm, if_neg (by omega), hrd']
      simp only [Option.bind_some]
      by_cases hd : isD c = true
      · have htw : 1 ≤ ((c :: r).takeWhile isD).length := by simp [List.takeWhile_cons, hd]
        have hle := tw_le isD (c :: r)
        have hle' : ((c :: r).takeWhile isD).length ≤ s.size := by rw [hb] at hl; omega
        rw [if_pos (by omega), if_pos (by omega), Int.toNat_natCast]
        have hx : bytesOf (s.extract 0 ((c :: r).takeWhile isD).length) = (c :: r).takeWhile isD := by rw [bytes_ext, hb]; simp [take_tw]
        have hnum : token_number.f k (s.extract 0 ((c :: r).takeWhile isD).length) = some (numv ((c :: r).takeWhile isD) 0) := by
          unfold token_number.f
          have := number_eq (s.extract 0 ((c :: r).takeWhile isD).length) (by simp; omega) ((c :: r).takeWhile isD) 0 k 0 (by rw [hx]; rfl) (by omega) (by omega) (fun x hx => isD_range (tw_all isD _ x hx)) (by omega) (by omega)
          exact this
        rw [hnum]
        simp only [Option.bind_some]
        by_cases hv : 2147483647 < numv ((c :: r).takeWhile isD) 0
        · have hm : nextM (c :: r) = none := by simp only [nextM, if_neg hc, if_pos hd, if_pos hv]
          rw [hm, if_pos (by omega)]
          exact ⟨fun a b t n h => (by cases h), fun _ => ⟨_, rfl⟩⟩
        · have hm : nextM (c :: r) = some (2, numv ((c :: r).takeWhile isD) 0, [], ((c :: r).takeWhile isD).length) := by simp only [nextM, if_neg hc, if_pos hd, if_neg hv]
          rw [hm, if_neg (by omega)]
          refine ⟨fun a b t n h => ?_, fun h => (by cases h)⟩
          simp only [Option.some.injEq, Prod.mk.injEq] at h
          obtain ⟨rfl, rfl, rfl, rfl⟩ := h
          rfl
      · have htw : ((c :: r).takeWhile isD).length = 0 := by simp [List.takeWhile_cons, hd]
        rw [if_neg (by omega), sign_eq s k (by omega)]
        simp only [Option.bind_some]
        have hsl := signM_le (bytesOf s)
        rw [if_pos (by omega), if_pos (by omega), Int.toNat_natCast]
        rw [hb] at hsl ⊢
        by_cases h0 : signM (c :: r) = 0
        · have hm : nextM (c :: r) = none := by simp only [nextM, if_neg hc, if_neg hd, if_pos h0]
          rw [hm, h0]
          exact ⟨fun a b t n h => (by cases h), fun _ => ⟨_, rfl⟩⟩
        · have hm : nextM (c :: r) = some (3, 0, (c :: r).take (signM (c :: r)), signM (c :: r)) := by simp only [nextM, if_neg hc, if_neg hd, if_neg h0]
          rw [hm]
          refine ⟨fun a b t n h => ?_, fun h => (by cases h)⟩
          simp only [Option.some.injEq, Prod.mk.injEq] at h
          obtain ⟨rfl, rfl, rfl, rfl⟩ := h
          rw [ext_text (by rw [hb])]

/-! ### Scan -/
theorem scan_eq (s : ByteArray) (hs : s.size ≤ 8192) : ∀ (f : Nat) (l : List Int) (i k : Nat) (out : List TS) (line : Int), (bytesOf s).drop i = l → i ≤ s.size → l.length ≤ f → l.length + 20 ≤ k → out.length ≤ i → 0 ≤ line → line ≤ i + 1 →
    token_Scan.l0 k s out line i = some (scanM f l out line) := by
  intro f
  induction f with
  | zero =>
    intro l i k out line h hi hf hk ho h0 h1
    obtain rfl := List.eq_nil_of_length_eq_zero (Nat.le_zero.1 hf)
    obtain ⟨k, rfl⟩ : ∃ m, k = m + 1 := ⟨k - 1, by omega⟩
    have := bt_nil h
    simp only [token_Scan.l0, scanM]
    rw [if_neg (by omega)]
  | succ f ih =>
    intro l i k out line h hi hf hk ho h0 h1
    obtain ⟨k, rfl⟩ : ∃ m, k = m + 1 := ⟨k - 1, by omega⟩
    cases l with
    | nil =>
      have := bt_nil h
      simp only [token_Scan.l0, scanM]
      rw [if_neg (by omega)]
    | cons c r =>
      obtain ⟨h2, h3, h4⟩ := bt_cons h
      simp only [List.length_cons] at hf hk
      simp only [token_Scan.l0, scanM]
      rw [if_pos (by omega), h3]
      have e1 : (i : Int) + 1 = ((i + 1 : Nat) : Int) := by omega
      by_cases c10 : c = 10
      · rw [if_pos c10, if_pos c10, wrap_small (by omega) (by omega), e1]
        exact ih r (i + 1) k out (line + 1) h4 (by omega) (by omega) (by omega) (by omega) (by omega) (by omega)
      · rw [if_neg c10, if_neg c10]
        by_cases c32 : c = 32
        · rw [if_pos c32, if_pos (.inl c32), e1]
          exact ih r (i + 1) k out line h4 (by omega) (by omega) (by omega) (by omega) (by omega) (by omega)
        · rw [if_neg c32]
          by_cases c9 : c = 9
          · rw [if_pos c9, if_pos (.inr c9), e1]
            exact ih r (i + 1) k out line h4 (by omega) (by omega) (by omega) (by omega) (by omega) (by omega)
          · rw [if_neg c9, if_neg (by omega), Int.toNat_natCast]
            have hx : bytesOf (s.extract i s.size) = c :: r := by rw [bytes_ext, h, List.take_of_length_le]; have := congrArg List.length h; simp only [List.length_drop, bytesOf_length] at this; omega
            have hz : (s.extract i s.size).size ≤ r.length + 1 := by have := bytesOf_length (s.extract i s.size); rw [hx, List.length_cons] at this; omega
            have hn := next_eq (s.extract i s.size) (by simp; omega) k (by omega) (by rw [hx]; simp)
            rw [hx] at hn
            cases hm : nextM (c :: r) with
            | none =>
              obtain ⟨x, hx2⟩ := hn.2 hm
              rw [hx2]
              simp
            | some y =>
              obtain ⟨a, b, t, n⟩ := y
              rw [hn.1 a b t n hm]
              have hlen := nextM_len hm
              simp only [List.length_cons] at hlen
              simp only [Option.bind_some]
              have hr : r.length + 1 = s.size - i := by have := congrArg List.length h; simp [bytesOf_length] at this; omega
              rw [if_neg (by omega), if_pos (by omega), if_pos (by omega), if_pos (by omega)]
              have e2 : (i : Int) + (n : Int) = ((i + n : Nat) : Int) := by omega
              rw [e2]
              exact ih ((c :: r).drop n) (i + n) k _ line (by rw [← h, List.drop_drop]) (by omega) (by simp; omega) (by simp; omega) (by simp; omega) (by omega) (by omega)
/-- What the scanner answers. -/
def scanA (s : ByteArray) : List TS × Int × Int := if 8192 < s.size then ([], 0, 4) else scanM s.size (bytesOf s) [] 1
theorem Scan_eq (s : ByteArray) : token_Scan.f s = some (scanA s) := by
  unfold token_Scan.f scanA
  by_cases h : 8192 < s.size
  · rw [if_pos (by omega), if_pos h]
  · rw [if_neg (by omega), if_neg h]
    have hl := bytesOf_length s
    have := scan_eq s (by omega) s.size (bytesOf s) 0 (s.size + 20) [] 1 rfl (by omega) (by omega) (by omega) (by simp) (by omega) (by omega)
    exact this

end Go.Proofs.YtcnmejahighkfaaDoor.Tok
-- TokB
/- The reference's scanner computes the same plain function. -/
namespace Go.Proofs.YtcnmejahighkfaaDoor.Tok
open Go.RowKit Go.Proofs.YtcnmejahighkfaaDoor.P Go.Proofs.YtcnmejahighkfaaDoorW.PrintWords Go.Proofs.YtcnmejahighkfaaDoorW.PrintLast Go.Proofs.YtcnmejahighkfaaDoorW.PrintMore
set_option linter.unusedVariables false
set_option linter.unusedSimpArgs false

/-! ### the reference's scanner -/
theorem rletter_eq (c : Int) : timeboundref02_letter.f c = some (isL c) := by
  unfold timeboundref02_letter.f isL; split <;> simp_all <;> omega
theorem rdigit_eq (c : Int) : timeboundref02_digit.f c = some (isD c) := by
  unfold timeboundref02_digit.f isD; split <;> simp_all <;> omega
theorem rvalue_eq (s : ByteArray) (hs : s.size ≤ 1000000) : ∀ (l : List Int) (i k : Nat) (n : Int), (bytesOf s).drop i = l → i ≤ s.size → l.length < k → (∀ c ∈ l, 48 ≤ c ∧ c ≤ 57) → 0 ≤ n → n ≤ 2147483647 → timeboundref02_value.l0 k s n i = some (if 2147483647 < numv l n then -1 else numv l n) := by
  intro l
  induction l with
  | nil =>
    intro i k n h hi hk _ _ _
    obtain ⟨k, rfl⟩ : ∃ m, k = m + 1 := ⟨k - 1, by omega⟩
    have := bt_nil h
    have e : numv [] n = n := rfl
    simp only [timeboundref02_value.l0]
    rw [if_neg (by omega), e, if_neg (by omega)]
  | cons c r ih =>
    intro i k n h hi hk hd h0 hn
    obtain ⟨k, rfl⟩ : ∃ m, k = m + 1 := ⟨k - 1, by simp at hk; omega⟩
    obtain ⟨h1, h2, h3⟩ := bt_cons h
    have hc := hd c (.head _)
    simp only [timeboundref02_value.l0]
    rw [if_pos (by omega), if_pos (by omega), h2, wrap_small (i := n * 10) (by omega) (by omega), wrap_small (i := (i : Int) + 1) (by omega) (by omega), Int.emod_eq_of_lt (by omega) (by omega), wrap_small (by omega) (by omega)]
    have hsat : ∀ l : List Int, (∀ c ∈ l, 48 ≤ c ∧ c ≤ 57) → numv l 2147483648 = 2147483648 := by
      intro l
      induction l with
      | nil => intro _; rfl
      | cons x r ih =>
        intro h
        have hx := h x (.head _)
        simp only [numv, List.foldl_cons]
        rw [if_neg (by omega)]
        exact ih fun y hy => h y (.tail _ hy)
    have hstep : numv (c :: r) n = numv r (if 10 * n + (c - 48) ≤ 2147483648 then 10 * n + (c - 48) else 2147483648) := rfl
    rw [hstep]
    by_cases hb : n * 10 + (c - 48) ≥ 2147483648
    · rw [if_pos hb]
      have e : (if 10 * n + (c - 48) ≤ 2147483648 then 10 * n + (c - 48) else 2147483648) = 2147483648 := by split <;> omega
      rw [e, hsat r fun x hx => hd x (.tail _ hx)]
      rfl
    · have e : (if 10 * n + (c - 48) ≤ 2147483648 then 10 * n + (c - 48) else 2147483648) = 10 * n + (c - 48) := if_pos (by omega)
      rw [e, if_neg hb, show ((i : Int) + 1) = ((i + 1 : Nat) : Int) by omega, ih (i + 1) k _ h3 (by omega) (by simp at hk; omega) (fun x hx => hd x (.tail _ hx)) (by omega) (by omega), show n * 10 + (c - 48) = 10 * n + (c - 48) by omega]
/-- The first text of a list with which a text begins. -/
def firstPre (s : List Int) : List (List Int) → Option (List Int)
  | [] => none
  | g :: r => if g.length ≤ s.length ∧ s.take g.length = g then some g else firstPre s r
theorem rsign_l0 (s : ByteArray) (hs : s.size ≤ 1000000) (L : List ByteArray) (hL : L.length ≤ 1000) : ∀ (r : List ByteArray) (i k : Nat), L.drop i = r → i ≤ L.length → r.length < k → timeboundref02_sign.l0 k s L i = some (strOfNums ((firstPre (bytesOf s) (r.map bytesOf)).getD [])) := by
  intro r
  induction r with
  | nil =>
    intro i k h hi hk
    obtain ⟨k, rfl⟩ : ∃ m, k = m + 1 := ⟨k - 1, by omega⟩
    have := List.drop_eq_nil_iff.1 h
    simp only [timeboundref02_sign.l0]
    rw [if_neg (by omega)]
    rfl
  | cons g r ih =>
    intro i k h hi hk
    obtain ⟨k, rfl⟩ : ∃ m, k = m + 1 := ⟨k - 1, by simp at hk; omega⟩
    have hl : i < L.length := by
      rcases Nat.lt_or_ge i L.length with h1 | h1
      · exact h1
      · rw [List.drop_eq_nil_of_le h1] at h; cases h
    have e := List.drop_eq_getElem_cons hl
    rw [e] at h
    injection h with h1 h2
    have hg : rdOf ByteArray.empty L (i : Int) = g := by simp [rdOf, hl, h1]
    simp only [timeboundref02_sign.l0]
    rw [if_pos (by omega), if_pos (by omega), hg, wrap_small (by omega) (by omega), show ((i : Int) + 1) = ((i + 1 : Nat) : Int) by omega]
    have hih := ih (i + 1) k h2 (by omega) (by simp at hk; omega)
    have hbl := bytesOf_length s
    have hgl := bytesOf_length g
    simp only [List.map_cons, firstPre]
    by_cases hsz : (s.size : Int) ≥ (g.size : Int)
    · rw [if_pos hsz, if_pos (by omega), if_pos hsz, Int.toNat_natCast, toList_data, toList_data]
      have hx : bytesOf (s.extract 0 g.size) = (bytesOf s).take g.size := by rw [bytes_ext]; simp
      by_cases hp : (s.extract 0 g.size).data.toList = g.data.toList
      · rw [if_pos hp]
        have hq : (bytesOf s).take g.size = bytesOf g := by rw [← hx]; unfold bytesOf; rw [hp]
        rw [if_pos ⟨by omega, by rw [hgl]; exact hq⟩]
        simp [strOfNums_bytes]
      · rw [if_neg hp, if_neg (fun q => hp ?_), hih]
        have hq : bytesOf (s.extract 0 g.size) = bytesOf g := by rw [hx, ← hgl]; exact q.2
        rw [bytesOf_inj hq]
    · rw [if_neg hsz, if_neg (fun q => by omega), hih]
def twoC : List (List Int) := [[60, 60], [62, 62], [60, 61], [61, 61], [33, 61]]
def oneC : List (List Int) := [[43], [45], [42], [47], [37], [38], [124], [94], [60], [61], [40], [41], [91], [93], [123], [125]]
theorem firstPre_app (s : List Int) (a b : List (List Int)) : firstPre s (a ++ b) = match firstPre s a with | some g => some g | none => firstPre s b := by
  induction a with
  | nil => rfl
  | cons g r ih => simp only [List.cons_append, firstPre]; split <;> simp [ih]
theorem firstPre_len (s : List Int) (n : Nat) : ∀ (L : List (List Int)), (∀ g ∈ L, g.length = n) → firstPre s L = if n ≤ s.length ∧ s.take n ∈ L then some (s.take n) else none := by
  intro L
  induction L with
  | nil => intro _; simp [firstPre]
  | cons g r ih =>
    intro h
    have hg := h g (.head _)
    simp only [firstPre]
    rw [hg, ih fun x hx => h x (.tail _ hx)]
    by_cases h1 : n ≤ s.length
    · by_cases h2 : s.take n = g
      · rw [if_pos ⟨h1, h2⟩, if_pos ⟨h1, by rw [h2]; exact .head _⟩, h2]
      · rw [if_neg (fun q => h2 q.2)]
        by_cases h3 : s.take n ∈ r
        · rw [if_pos ⟨h1, h3⟩, if_pos ⟨h1, .tail _ h3⟩]
        · rw [if_neg (fun q => h3 q.2), if_neg (fun q => by rcases List.mem_cons.1 q.2 with q | q; exact h2 q; exact h3 q)]
    · rw [if_neg (fun q => h1 q.1), if_neg (fun q => h1 q.1), if_neg (fun q => h1 q.1)]
theorem signC_eq : signC = [[43], [45], [42], [47], [37], [38], [124], [94], [60, 60], [62, 62], [60], [60, 61], [61, 61], [33, 61], [61], [40], [41], [91], [93], [123], [125]] := by decide +kernel
theorem mem_two (x : List Int) (h : x.length = 2) : x ∈ signC ↔ x ∈ twoC := by
  rw [signC_eq]
  simp only [twoC, List.mem_cons, List.not_mem_nil, or_false]
  constructor
  · intro q
    rcases q with q | q | q | q | q | q | q | q | q | q | q | q | q | q | q | q | q | q | q | q | q <;> subst q <;> simp at h ⊢
  · intro q
    rcases q with q | q | q | q | q <;> subst q <;> simp
theorem mem_one (x : List Int) (h : x.length = 1) : x ∈ signC ↔ x ∈ oneC := by
  rw [signC_eq]
  simp only [oneC, List.mem_cons, List.not_mem_nil, or_false]
  constructor
  · intro q
    rcases q with q | q | q | q | q | q | q | q | q | q | q | q | q | q | q | q | q | q | q | q | q <;> subst q <;> simp at h ⊢
  · intro q
    rcases q with q | q | q | q | q | q | q | q | q | q | q | q | q | q | q | q <;> subst q <;> simp
def rsigns : List ByteArray := (timeboundref02_Signs.f).getD []
theorem rsign_eq (s : ByteArray) (hs : s.size ≤ 1000000) (k : Nat) (hk : 21 < k) : timeboundref02_sign.f k s = some (strOfNums ((bytesOf s).take (signM (bytesOf s)))) := by
  unfold timeboundref02_sign.f
  have hS : timeboundref02_Signs.f = some rsigns := rfl
  rw [hS]
  simp only [Option.bind_some]
  have := rsign_l0 s hs rsigns (by decide +kernel) rsigns 0 k rfl (by decide +kernel) (Nat.lt_of_le_of_lt (by decide +kernel : rsigns.length ≤ 21) hk)
  rw [show (0 : Int) = ((0 : Nat) : Int) from rfl, this]
  refine congrArg (fun x => some (strOfNums x)) ?_
  have e : ∀ L : List ByteArray, L.map bytesOf = twoC ++ oneC → (firstPre (bytesOf s) (L.map bytesOf)).getD [] = (bytesOf s).take (signM (bytesOf s)) := by
    intro L hL
    have i2 : (2 ≤ (bytesOf s).length ∧ (bytesOf s).take 2 ∈ twoC) ↔ (2 ≤ (bytesOf s).length ∧ (bytesOf s).take 2 ∈ signC) := and_congr_right fun h => (mem_two _ (by simp; omega)).symm
    have i1 : (1 ≤ (bytesOf s).length ∧ (bytesOf s).take 1 ∈ oneC) ↔ (1 ≤ (bytesOf s).length ∧ (bytesOf s).take 1 ∈ signC) := and_congr_right fun h => (mem_one _ (by simp; omega)).symm
    rw [hL, firstPre_app, firstPre_len _ 2 twoC (by decide), firstPre_len _ 1 oneC (by decide)]
    unfold signM
    simp only [i2, i1]
    by_cases p2 : 2 ≤ (bytesOf s).length ∧ (bytesOf s).take 2 ∈ signC
    · simp only [if_pos p2, Option.getD_some]
    · simp only [if_neg p2]
      by_cases p1 : 1 ≤ (bytesOf s).length ∧ (bytesOf s).take 1 ∈ signC
      · simp only [if_pos p1, Option.getD_some]
      · simp only [if_neg p1, Option.getD_none, List.take_zero]
  exact e _ (by decide +kernel)

theorem rscan_name (s : ByteArray) (hs : s.size ≤ 8192) (out : List TS) (ho : out.length ≤ 8192) (line : Int) (i : Nat) (hi : i ≤ s.size) : ∀ (l : List Int) (j k : Nat), (bytesOf s).drop j = l → i ≤ j → j ≤ s.size → l.length < k →
    ∃ k', k' + (l.takeWhile isA).length + 1 = k ∧ timeboundref02_Scan.l1 k s out line i j = if 12 < j - i + (l.takeWhile isA).length then some ([], line, 1) else timeboundref02_Scan.l0 k' s (out ++ [(⟨1, 0, line, s.extract i (j + (l.takeWhile isA).length)⟩ : TS)]) line ((j + (l.takeWhile isA).length : Nat) : Int) := by
  intro l
  induction l with
  | nil =>
    intro j k h hij hj hk
    obtain ⟨k, rfl⟩ : ∃ m, k = m + 1 := ⟨k - 1, by omega⟩
    have := bt_nil h
    refine ⟨k, by simp, ?_⟩
    show timeboundref02_Scan.l1 (k + 1) s out line i j = if 12 < j - i then some ([], line, 1) else timeboundref02_Scan.l0 k s (out ++ [(⟨1, 0, line, s.extract i j⟩ : TS)]) line (j : Int)
    simp only [timeboundref02_Scan.l1]
    rw [if_neg (by omega), wrap_small (by omega) (by omega)]
    by_cases h12 : 12 < j - i
    · rw [if_pos (by omega), if_pos h12]
    · rw [if_neg (by omega), if_pos (by omega), if_pos (by omega), if_pos (by omega), if_pos (by omega), if_neg h12, Int.toNat_natCast, Int.toNat_natCast]
  | cons c r ih =>
    intro j k h hij hj hk
    obtain ⟨k, rfl⟩ : ∃ m, k = m + 1 := ⟨k - 1, by simp at hk; omega⟩
    obtain ⟨h1, h2, h3⟩ := bt_cons h
    simp only [timeboundref02_Scan.l1]
    rw [if_pos (by omega), if_pos (by omega), h2, rletter_eq]
    simp only [Option.bind_some]
    have e1 : wrap64 ((j : Int) + 1) = ((j + 1 : Nat) : Int) := by rw [wrap_small (by omega) (by omega)]; omega
    rw [e1]
    by_cases ha : isA c = true
    · obtain ⟨k', hk', hr⟩ := ih (j + 1) k h3 (by omega) (by omega) (by simp at hk; omega)
      have htw : ((c :: r).takeWhile isA).length = (r.takeWhile isA).length + 1 := by simp [List.takeWhile_cons, ha]
      refine ⟨k', by omega, ?_⟩
      have hgo : (if isL c = true then timeboundref02_Scan.l1 k s out line i ((j + 1 : Nat) : Int) else (timeboundref02_digit.f c).bind fun t => if t = true then timeboundref02_Scan.l1 k s out line i ((j + 1 : Nat) : Int) else if wrap64 ((j : Int) - i) > 12 then some ([], line, 1) else if 0 ≤ (i : Int) then if (i : Int) ≤ j then if (j : Int) ≤ s.size then if out.length < 3518437208883 then timeboundref02_Scan.l0 k s (out ++ [(⟨1, 0, line, s.extract (i : Int).toNat (j : Int).toNat⟩ : TS)]) line j else none else none else none else none) = timeboundref02_Scan.l1 k s out line i ((j + 1 : Nat) : Int) := by
        by_cases hl : isL c = true
        · rw [if_pos hl]
        · rw [if_neg hl, rdigit_eq]
          have hd : isD c = true := by simpa [isA, hl] using ha
          simp [hd]
      rw [hgo, hr, htw]
      have e2 : j + 1 - i + (r.takeWhile isA).length = j - i + ((r.takeWhile isA).length + 1) := by omega
      have e3 : j + 1 + (r.takeWhile isA).length = j + ((r.takeWhile isA).length + 1) := by omega
      rw [e2, e3]
    · have hl : ¬ isL c = true := fun q => ha (isL_isA q)
      have hd : isD c = false := by simp only [isA, Bool.or_eq_true, not_or] at ha; simpa using ha.2
      have htw : ((c :: r).takeWhile isA).length = 0 := by simp [List.takeWhile_cons, ha]
      refine ⟨k, by omega, ?_⟩
      rw [if_neg hl, rdigit_eq, htw, hd]
      simp only [Option.bind_some, Bool.false_eq_true, if_false, Nat.add_zero]
      rw [wrap_small (by omega) (by omega)]
      by_cases h12 : 12 < j - i
      · rw [if_pos (by omega), if_pos h12]
      · rw [if_neg (by omega), if_pos (by omega), if_pos (by omega), if_pos (by omega), if_pos (by omega), if_neg h12]
        simp
theorem rscan_num (s : ByteArray) (hs : s.size ≤ 8192) (out : List TS) (ho : out.length ≤ 8192) (line : Int) (i : Nat) (hi : i ≤ s.size) : ∀ (l : List Int) (j k : Nat), (bytesOf s).drop j = l → i ≤ j → j ≤ s.size → 2 * l.length + (j - i) + 2 < k → (∀ c ∈ ((bytesOf s).drop i).take (j - i), isD c = true) →
    ∃ k', k' + (l.takeWhile isD).length + 1 = k ∧ timeboundref02_Scan.l2 k s out line i j = if 2147483647 < numv (((bytesOf s).drop i).take (j - i) ++ l.takeWhile isD) 0 then some ([], line, 1) else timeboundref02_Scan.l0 k' s (out ++ [(⟨2, numv (((bytesOf s).drop i).take (j - i) ++ l.takeWhile isD) 0, line, ⟨#[]⟩⟩ : TS)]) line ((j + (l.takeWhile isD).length : Nat) : Int) := by
  have hend : ∀ (j k : Nat), i ≤ j → j ≤ s.size → (j - i) + 1 < k + 1 → (∀ c ∈ ((bytesOf s).drop i).take (j - i), isD c = true) →
      (if 0 ≤ (i : Int) then if (i : Int) ≤ j then if (j : Int) ≤ s.size then (timeboundref02_value.f k (s.extract (i : Int).toNat (j : Int).toNat)).bind fun t => if t < 0 then some ([], line, 1) else if out.length < 3518437208883 then timeboundref02_Scan.l0 k s (out ++ [(⟨2, t, line, ⟨#[]⟩⟩ : TS)]) line j else none else none else none else none) =
      if 2147483647 < numv (((bytesOf s).drop i).take (j - i)) 0 then some ([], line, 1) else timeboundref02_Scan.l0 k s (out ++ [(⟨2, numv (((bytesOf s).drop i).take (j - i)) 0, line, ⟨#[]⟩⟩ : TS)]) line (j : Int) := by
    intro j k hij hj hk hd
    rw [if_pos (by omega), if_pos (by omega), if_pos (by omega), Int.toNat_natCast, Int.toNat_natCast]
    have hx : bytesOf (s.extract i j) = ((bytesOf s).drop i).take (j - i) := bytes_ext s i j
    have hl : (((bytesOf s).drop i).take (j - i)).length ≤ j - i := List.length_take_le _ _
    have hv := rvalue_eq (s.extract i j) (by simp; omega) (((bytesOf s).drop i).take (j - i)) 0 k 0 (by rw [hx]; rfl) (by omega) (by omega) (fun c hc => isD_range (hd c hc)) (by omega) (by omega)
    have hv' : timeboundref02_value.f k (s.extract i j) = some (if 2147483647 < numv (((bytesOf s).drop i).take (j - i)) 0 then -1 else numv (((bytesOf s).drop i).take (j - i)) 0) := hv
    rw [hv']
    have hr := numv_range (((bytesOf s).drop i).take (j - i)) 0 (by omega) (by omega) (fun c hc => isD_range (hd c hc))
    simp only [Option.bind_some]
    by_cases hb : 2147483647 < numv (((bytesOf s).drop i).take (j - i)) 0
    · simp only [if_pos hb]
      rw [if_pos (by omega)]
    · simp only [if_neg hb]
      rw [if_neg (by omega), if_pos (by omega)]
  intro l
  induction l with
  | nil =>
    intro j k h hij hj hk hd
    obtain ⟨k, rfl⟩ : ∃ m, k = m + 1 := ⟨k - 1, by omega⟩
    have := bt_nil h
    refine ⟨k, by simp, ?_⟩
    simp only [timeboundref02_Scan.l2, List.takeWhile_nil, List.length_nil, Nat.add_zero, List.append_nil]
    rw [if_neg (by omega)]
    exact hend j k hij hj (by simp at hk; omega) hd
  | cons c r ih =>
    intro j k h hij hj hk hd
    obtain ⟨k, rfl⟩ : ∃ m, k = m + 1 := ⟨k - 1, by simp at hk; omega⟩
    obtain ⟨h1, h2, h3⟩ := bt_cons h
    simp only [timeboundref02_Scan.l2]
    rw [if_pos (by omega), if_pos (by omega), h2, rdigit_eq]
    simp only [Option.bind_some]
    have e1 : wrap64 ((j : Int) + 1) = ((j + 1 : Nat) : Int) := by rw [wrap_small (by omega) (by omega)]; omega
    rw [e1]
    by_cases ha : isD c = true
    · have hsucc : ((bytesOf s).drop i).take (j + 1 - i) = ((bytesOf s).drop i).take (j - i) ++ [c] := by
        have e : j + 1 - i = (j - i) + 1 := by omega
        have hg : ((bytesOf s).drop i)[j - i]? = some c := by
          rw [List.getElem?_drop, show i + (j - i) = j by omega, ← List.head?_drop, h]; rfl
        rw [e, List.take_add_one, hg]; rfl
      obtain ⟨k', hk', hr⟩ := ih (j + 1) k h3 (by omega) (by omega) (by simp only [List.length_cons] at hk; omega) (by rw [hsucc]; intro x hx; rcases List.mem_append.1 hx with hx | hx; exact hd x hx; simp at hx; rw [hx]; exact ha)
      have htw : (c :: r).takeWhile isD = c :: r.takeWhile isD := by simp [List.takeWhile_cons, ha]
      refine ⟨k', by rw [htw]; simp; omega, ?_⟩
      rw [if_pos ha, hr, htw, hsucc]
      simp only [List.append_assoc, List.singleton_append, List.length_cons]
      have e3 : j + 1 + (r.takeWhile isD).length = j + ((r.takeWhile isD).length + 1) := by omega
      rw [e3]
    · have htw : (c :: r).takeWhile isD = [] := by simp [List.takeWhile_cons, ha]
      refine ⟨k, by rw [htw]; simp, ?_⟩
      rw [if_neg ha, htw]
      simp only [List.append_nil, List.length_nil, Nat.add_zero]
      exact hend j k hij hj (by simp at hk; omega) hd
theorem rscan_eq (s : ByteArray) (hs : s.size ≤ 8192) : ∀ (f : Nat) (l : List Int) (i k : Nat) (out : List TS) (line : Int), (bytesOf s).drop i = l → i ≤ s.size → l.length ≤ f → 4 * l.length + 40 ≤ k → out.length ≤ i → 0 ≤ line → line ≤ i + 1 →
    timeboundref02_Scan.l0 k s out line i = some (scanM f l out line) := by
  intro f
  induction f with
  | zero =>
    intro l i k out line h hi hf hk ho h0 h1
    obtain rfl := List.eq_nil_of_length_eq_zero (Nat.le_zero.1 hf)
    obtain ⟨k, rfl⟩ : ∃ m, k = m + 1 := ⟨k - 1, by omega⟩
    have := bt_nil h
    simp only [timeboundref02_Scan.l0, scanM]
    rw [if_neg (by omega)]
  | succ f ih =>
    intro l i k out line h hi hf hk ho h0 h1
    obtain ⟨k, rfl⟩ : ∃ m, k = m + 1 := ⟨k - 1, by omega⟩
    cases l with
    | nil =>
      have := bt_nil h
      simp only [timeboundref02_Scan.l0, scanM]
      rw [if_neg (by omega)]
    | cons c r =>
      obtain ⟨h2, h3, h4⟩ := bt_cons h
      have hlen : r.length + 1 = s.size - i := by have := congrArg List.length h; simp only [List.length_drop, bytesOf_length, List.length_cons] at this; omega
      simp only [List.length_cons] at hf hk
      have e1 : wrap64 ((i : Int) + 1) = ((i + 1 : Nat) : Int) := by rw [wrap_small (by omega) (by omega)]; omega
      have E1 := Lib.hid e1
      clear e1
      have hsp : ∀ m, 4 * r.length + 40 ≤ m → timeboundref02_Scan.l0 m s out line ((i + 1 : Nat) : Int) = some (scanM f r out line) := by
        intro m hm
        have q1 : i + 1 ≤ s.size := h2
        have q2 : r.length ≤ f := Nat.le_of_succ_le_succ hf
        have q3 : out.length ≤ i + 1 := Nat.le_succ_of_le ho
        have q4 : line ≤ ((i + 1 : Nat) : Int) + 1 := by clear ih h h4 h3 hf hk; omega
        exact ih r (i + 1) m out line h4 q1 q2 hm q3 h0 q4
      simp only [timeboundref02_Scan.l0, scanM]
      rw [if_pos (by omega), if_pos (by omega), h3]
      by_cases c10 : c = 10
      · rw [if_pos c10, if_pos c10, wrap_small (i := line + 1) (by omega) (by omega), E1.out]
        exact ih r (i + 1) k out (line + 1) h4 (by omega) (by omega) (by omega) (by omega) (by omega) (by omega)
      · rw [if_neg c10, if_neg c10]
        obtain ⟨k, rfl⟩ : ∃ m, k = m + 1 := ⟨k - 1, by omega⟩
        by_cases c32 : c = 32
        · rw [if_pos c32, if_pos (.inl c32)]
          simp only [timeboundref02_Scan.j1, if_true]
          rw [E1.out]
          exact hsp k (by omega)
        · rw [if_neg c32]
          by_cases c9 : c = 9
          · rw [if_pos (.inr c9)]
            simp only [timeboundref02_Scan.j1]
            rw [if_pos (by simp [c9]), E1.out]
            exact hsp k (by omega)
          · rw [if_neg (by omega)]
            simp only [timeboundref02_Scan.j1]
            rw [if_neg (by simpa using c9), rletter_eq]
            simp only [Option.bind_some]
            by_cases hl : isL c = true
            · rw [if_pos hl]
              obtain ⟨k', hk', hr⟩ := rscan_name s hs out (by omega) line i hi (c :: r) i k h (by omega) hi (by simp; omega)
              rw [hr]
              have htw : 1 ≤ ((c :: r).takeWhile isA).length := by simp [List.takeWhile_cons, isL_isA hl]
              have hle := tw_le isA (c :: r)
              simp only [List.length_cons] at hle
              by_cases h12 : 12 < ((c :: r).takeWhile isA).length
              · have hm : nextM (c :: r) = none := by simp only [nextM, if_pos hl, if_pos h12]
                rw [if_pos (by omega), hm]
              · have hm : nextM (c :: r) = some (1, 0, (c :: r).takeWhile isA, ((c :: r).takeWhile isA).length) := by simp only [nextM, if_pos hl, if_neg h12]
                rw [if_neg (by omega), hm]
                have ht : s.extract i (i + ((c :: r).takeWhile isA).length) = strOfNums ((c :: r).takeWhile isA) := by
                  refine bytesOf_inj ?_
                  rw [bytes_ext, h, show i + ((c :: r).takeWhile isA).length - i = ((c :: r).takeWhile isA).length by omega, take_tw, bytes_strOfNums]
                  intro x hx
                  exact bytes_lt s x (List.mem_of_mem_drop (by rw [h]; exact (List.takeWhile_sublist _).subset hx))
                rw [ht]
                exact ih _ _ k' _ line (by rw [← h, List.drop_drop]) (by omega) (by simp; omega) (by simp; omega) (by simp; omega) (by omega) (by omega)
            · rw [if_neg hl, rdigit_eq]
              simp only [Option.bind_some]
              by_cases hd : isD c = true
              · rw [if_pos hd]
                obtain ⟨k', hk', hr⟩ := rscan_num s hs out (by omega) line i hi (c :: r) i k h (by omega) hi (by simp; omega) (by simp)
                rw [hr]
                have htw : 1 ≤ ((c :: r).takeWhile isD).length := by simp [List.takeWhile_cons, hd]
                have hle := tw_le isD (c :: r)
                simp only [List.length_cons] at hle
                have e0 : ((bytesOf s).drop i).take (i - i) ++ (c :: r).takeWhile isD = (c :: r).takeWhile isD := by simp
                rw [e0]
                by_cases hv : 2147483647 < numv ((c :: r).takeWhile isD) 0
                · have hm : nextM (c :: r) = none := by simp only [nextM, if_neg hl, if_pos hd, if_pos hv]
                  rw [if_pos hv, hm]
                · have hm : nextM (c :: r) = some (2, numv ((c :: r).takeWhile isD) 0, [], ((c :: r).takeWhile isD).length) := by simp only [nextM, if_neg hl, if_pos hd, if_neg hv]
                  rw [if_neg hv, hm]
                  exact ih _ _ k' _ line (by rw [← h, List.drop_drop]) (by omega) (by simp; omega) (by simp; omega) (by simp; omega) (by omega) (by omega)
              · rw [if_neg hd, if_pos (by omega), if_pos (by omega), Int.toNat_natCast]
                have hx : bytesOf (s.extract i s.size) = c :: r := by rw [bytes_ext, h, List.take_of_length_le]; simp only [List.length_cons]; omega
                rw [rsign_eq (s.extract i s.size) (by simp; omega) k (by omega), hx]
                simp only [Option.bind_some]
                have hsl := signM_le (c :: r)
                have hcb : ∀ x ∈ (c :: r).take (signM (c :: r)), 0 ≤ x ∧ x ≤ 255 := fun x hx => bytes_lt s x (List.mem_of_mem_drop (by rw [h]; exact List.mem_of_mem_take hx))
                have hbs := bytes_strOfNums _ hcb
                by_cases hz : signM (c :: r) = 0
                · have hm : nextM (c :: r) = none := by simp only [nextM, if_neg hl, if_neg hd, if_pos hz]
                  rw [hm, if_pos ((nil_iff _).2 (by rw [hbs, hz]; rfl))]
                · have hm : nextM (c :: r) = some (3, 0, (c :: r).take (signM (c :: r)), signM (c :: r)) := by simp only [nextM, if_neg hl, if_neg hd, if_neg hz]
                  have hsz : (strOfNums ((c :: r).take (signM (c :: r)))).size = signM (c :: r) := by rw [← bytesOf_length, hbs, List.length_take]; omega
                  rw [hm, if_neg (fun q => hz ?_), if_pos (by omega), hsz, wrap_small (by omega) (by simp only [List.length_cons] at hsl; omega)]
                  · have e2 : (i : Int) + (signM (c :: r) : Int) = ((i + signM (c :: r) : Nat) : Int) := by omega
                    rw [e2]
                    simp only [List.length_cons] at hsl
                    exact ih _ _ k _ line (by rw [← h, List.drop_drop]) (by omega) (by simp; omega) (by simp; omega) (by simp; omega) (by omega) (by omega)
                  · have := (nil_iff _).1 q
                    rw [hbs] at this
                    have := congrArg List.length this
                    simp only [List.length_take, List.length_cons, List.length_nil] at this hsl
                    omega
theorem rScan_eq (s : ByteArray) (k : Nat) (hk : 4 * s.size + 40 ≤ k) : timeboundref02_Scan.f k s = some (scanA s) := by
  unfold timeboundref02_Scan.f scanA
  by_cases h : 8192 < s.size
  · rw [if_pos (by omega), if_pos h]
  · rw [if_neg (by omega), if_neg h]
    have hl := bytesOf_length s
    exact rscan_eq s (by omega) s.size (bytesOf s) 0 k [] 1 rfl (by omega) (by omega) (by omega) (by simp) (by omega) (by omega)
end Go.Proofs.YtcnmejahighkfaaDoor.Tok
-- Pf31
namespace Go.Proofs.YtcnmejahighkfaaDoor.P
open Go.RowKit Go.Proofs.YtcnmejahighkfaaDoorW.PrintWords Go.Proofs.YtcnmejahighkfaaDoorW.PrintLast Go.Proofs.YtcnmejahighkfaaDoorW.PrintMore
attribute [local go_sem] max2_int min2_int max_two min_two max_three min_three max_four min_four   -- for this text's walks alone
set_option linter.unusedVariables false
set_option linter.unusedSimpArgs false

/-! ### timeboundlaw02_pieces: function 31 -/
def timeboundlaw02_pieces.l0 : Nat → List Int → List ByteArray → ByteArray → Int → Option (ByteArray)
  | 0, _, _, _, _ => none
  | k + 1, x0, x3, x4, x5 => if x5 < (x0.length : Int) then (if x5 < 60 then (if 0 ≤ x5 then (if (x3.length : Int) = 0 then (none) else (if 0 ≤ (Int.tmod (wrap64 (rd x0 x5)) (x3.length : Int)) then (if (Int.tmod (wrap64 (rd x0 x5)) (x3.length : Int)) < (x3.length : Int) then (if x4.size + (rdOf ByteArray.empty x3 (Int.tmod (wrap64 (rd x0 x5)) (x3.length : Int))).size ≤ 9223372036854775807 then (timeboundlaw02_pieces.l0 k x0 x3 (x4 ++ (rdOf ByteArray.empty x3 (Int.tmod (wrap64 (rd x0 x5)) (x3.length : Int)))) (wrap64 (x5 + 1))) else (none)) else (none)) else (none))) else (none)) else (some x4)) else (some x4)
def timeboundlaw02_pieces.f (k : Nat) (l0 : List Int) : Option (ByteArray) := timeboundlaw02_pieces.l0 k l0 (([(⟨#[97]⟩ : ByteArray), (⟨#[116, 97, 115, 107]⟩ : ByteArray), (⟨#[120, 57]⟩ : ByteArray), (⟨#[49, 50]⟩ : ByteArray), (⟨#[48]⟩ : ByteArray), (⟨#[48, 48, 55]⟩ : ByteArray), (⟨#[50, 49, 52, 55, 52, 56, 51, 54, 52, 55]⟩ : ByteArray), (⟨#[50, 49, 52, 55, 52, 56, 51, 54, 52, 56]⟩ : ByteArray), (⟨#[60]⟩ : ByteArray), (⟨#[60, 60]⟩ : ByteArray), (⟨#[61]⟩ : ByteArray), (⟨#[61, 61]⟩ : ByteArray), (⟨#[33]⟩ : ByteArray), (⟨#[33, 61]⟩ : ByteArray), (⟨#[62]⟩ : ByteArray), (⟨#[62, 62]⟩ : ByteArray), (⟨#[43]⟩ : ByteArray), (⟨#[45]⟩ : ByteArray), (⟨#[42]⟩ : ByteArray), (⟨#[47]⟩ : ByteArray), (⟨#[37]⟩ : ByteArray), (⟨#[38]⟩ : ByteArray), (⟨#[124]⟩ : ByteArray), (⟨#[94]⟩ : ByteArray), (⟨#[40]⟩ : ByteArray), (⟨#[41]⟩ : ByteArray), (⟨#[91]⟩ : ByteArray), (⟨#[93]⟩ : ByteArray), (⟨#[123]⟩ : ByteArray), (⟨#[125]⟩ : ByteArray), (⟨#[32]⟩ : ByteArray), (⟨#[32, 32]⟩ : ByteArray), (⟨#[9]⟩ : ByteArray), (⟨#[10]⟩ : ByteArray), (⟨#[65]⟩ : ByteArray), (⟨#[95]⟩ : ByteArray), (⟨#[97, 98, 99, 100, 101, 102, 103, 104, 105, 106, 107, 108]⟩ : ByteArray), (⟨#[109]⟩ : ByteArray), (⟨#[13]⟩ : ByteArray), (⟨#[195, 169]⟩ : ByteArray)] : List ByteArray)) (⟨#[]⟩ : ByteArray) 0
theorem timeboundlaw02_pieces.mono_l : ∀ k, (∀ y0 y1 y2 y3, LeO (timeboundlaw02_pieces.l0 k y0 y1 y2 y3) (timeboundlaw02_pieces.l0 (k + 1) y0 y1 y2 y3))
  | 0 => fun _ _ _ _ r h => by simp [timeboundlaw02_pieces.l0] at h
  | k + 1 => by
    have ih0 := timeboundlaw02_pieces.mono_l k
    · intro y0 y1 y2 y3
      unfold timeboundlaw02_pieces.l0
      repeat' first
      | (with_reducible exact ih0 _ _ _ _)
      | (with_reducible exact LeO.refl _)
      | (with_reducible exact LeO.none _)
      | (with_reducible refine LeO.ite ?_ ?_)
      | (with_reducible refine LeO.bind ?_ (fun _ => ?_))
      | exact ih0 _ _ _ _
      | exact LeO.none _
      | refine LeO.ite ?_ ?_
      | refine LeO.bind ?_ (fun _ => ?_)
theorem timeboundlaw02_pieces.mono : ∀ a0 k, LeO (timeboundlaw02_pieces.f k a0) (timeboundlaw02_pieces.f (k + 1) a0) := by
  intro a0 k
  have ih0 := timeboundlaw02_pieces.mono_l k
  unfold timeboundlaw02_pieces.f
  repeat' first
      | (with_reducible exact ih0 _ _ _ _)
      | (with_reducible exact LeO.refl _)
      | (with_reducible exact LeO.none _)
      | (with_reducible refine LeO.ite ?_ ?_)
      | (with_reducible refine LeO.bind ?_ (fun _ => ?_))
      | exact ih0 _ _ _ _
      | exact LeO.none _
      | refine LeO.ite ?_ ?_
      | refine LeO.bind ?_ (fun _ => ?_)
set_option maxHeartbeats 8000000 in
set_option maxRecDepth 100000 in
theorem timeboundlaw02_pieces.calls (k : Nat) (A0 : Option Addr) (c0 : Nat) (l0 : List Int) (r : ByteArray) (w : World) (hr0 : Kd.C (Kd.int .u8) w A0 l0.length l0) (hc0 : l0.length ≤ c0) (h : timeboundlaw02_pieces.f k l0 = some r) :
    Calls Tryd.prog 31 #[.slice A0 l0.length c0] w fun e w' => e = .returned (.string r) ∧ Below w.heap.size w w' := by
  have HR0 := Aside0.mk hr0
  have HC0 := Aside0.mk hc0
  clear hr0 hc0
  have HB := Aside0.mk (Below.refl w.heap.size w)
  have H : (timeboundlaw02_pieces.l0 k l0 (([(⟨#[97]⟩ : ByteArray), (⟨#[116, 97, 115, 107]⟩ : ByteArray), (⟨#[120, 57]⟩ : ByteArray), (⟨#[49, 50]⟩ : ByteArray), (⟨#[48]⟩ : ByteArray), (⟨#[48, 48, 55]⟩ : ByteArray), (⟨#[50, 49, 52, 55, 52, 56, 51, 54, 52, 55]⟩ : ByteArray), (⟨#[50, 49, 52, 55, 52, 56, 51, 54, 52, 56]⟩ : ByteArray), (⟨#[60]⟩ : ByteArray), (⟨#[60, 60]⟩ : ByteArray), (⟨#[61]⟩ : ByteArray), (⟨#[61, 61]⟩ : ByteArray), (⟨#[33]⟩ : ByteArray), (⟨#[33, 61]⟩ : ByteArray), (⟨#[62]⟩ : ByteArray), (⟨#[62, 62]⟩ : ByteArray), (⟨#[43]⟩ : ByteArray), (⟨#[45]⟩ : ByteArray), (⟨#[42]⟩ : ByteArray), (⟨#[47]⟩ : ByteArray), (⟨#[37]⟩ : ByteArray), (⟨#[38]⟩ : ByteArray), (⟨#[124]⟩ : ByteArray), (⟨#[94]⟩ : ByteArray), (⟨#[40]⟩ : ByteArray), (⟨#[41]⟩ : ByteArray), (⟨#[91]⟩ : ByteArray), (⟨#[93]⟩ : ByteArray), (⟨#[123]⟩ : ByteArray), (⟨#[125]⟩ : ByteArray), (⟨#[32]⟩ : ByteArray), (⟨#[32, 32]⟩ : ByteArray), (⟨#[9]⟩ : ByteArray), (⟨#[10]⟩ : ByteArray), (⟨#[65]⟩ : ByteArray), (⟨#[95]⟩ : ByteArray), (⟨#[97, 98, 99, 100, 101, 102, 103, 104, 105, 106, 107, 108]⟩ : ByteArray), (⟨#[109]⟩ : ByteArray), (⟨#[13]⟩ : ByteArray), (⟨#[195, 169]⟩ : ByteArray)] : List ByteArray)) (⟨#[]⟩ : ByteArray) 0) = some r := h
  clear h
  obtain ⟨y459, hy459⟩ : ∃ y_ : List ByteArray, y_ = (([(⟨#[97]⟩ : ByteArray), (⟨#[116, 97, 115, 107]⟩ : ByteArray), (⟨#[120, 57]⟩ : ByteArray), (⟨#[49, 50]⟩ : ByteArray), (⟨#[48]⟩ : ByteArray), (⟨#[48, 48, 55]⟩ : ByteArray), (⟨#[50, 49, 52, 55, 52, 56, 51, 54, 52, 55]⟩ : ByteArray), (⟨#[50, 49, 52, 55, 52, 56, 51, 54, 52, 56]⟩ : ByteArray), (⟨#[60]⟩ : ByteArray), (⟨#[60, 60]⟩ : ByteArray), (⟨#[61]⟩ : ByteArray), (⟨#[61, 61]⟩ : ByteArray), (⟨#[33]⟩ : ByteArray), (⟨#[33, 61]⟩ : ByteArray), (⟨#[62]⟩ : ByteArray), (⟨#[62, 62]⟩ : ByteArray), (⟨#[43]⟩ : ByteArray), (⟨#[45]⟩ : ByteArray), (⟨#[42]⟩ : ByteArray), (⟨#[47]⟩ : ByteArray), (⟨#[37]⟩ : ByteArray), (⟨#[38]⟩ : ByteArray), (⟨#[124]⟩ : ByteArray), (⟨#[94]⟩ : ByteArray), (⟨#[40]⟩ : ByteArray), (⟨#[41]⟩ : ByteArray), (⟨#[91]⟩ : ByteArray), (⟨#[93]⟩ : ByteArray), (⟨#[123]⟩ : ByteArray), (⟨#[125]⟩ : ByteArray), (⟨#[32]⟩ : ByteArray), (⟨#[32, 32]⟩ : ByteArray), (⟨#[9]⟩ : ByteArray), (⟨#[10]⟩ : ByteArray), (⟨#[65]⟩ : ByteArray), (⟨#[95]⟩ : ByteArray), (⟨#[97, 98, 99, 100, 101, 102, 103, 104, 105, 106, 107, 108]⟩ : ByteArray), (⟨#[109]⟩ : ByteArray), (⟨#[13]⟩ : ByteArray), (⟨#[195, 169]⟩ : ByteArray)] : List ByteArray)) := ⟨_, rfl⟩
  replace H : (timeboundlaw02_pieces.l0 k l0 y459 (⟨#[]⟩ : ByteArray) 0) = some r := by first | (rw [hy459]; with_reducible exact H) | (have H2_ := (Option.bind_some _ _).symm.trans H; rw [hy459]; with_reducible exact H2_) | (have H2_ := (Option.bind_some _ _).symm.trans H; with_reducible exact H2_) | with_reducible exact H | (rw [hy459]; exact H) | exact H
  have Ny459 := Aside0.mk hy459
  clear hy459
  have H' := Aside0.mk H
  clear H
  go_enter Tryd.func31, Tryd.ntmps31
  go_wp2_with (first | ((with_reducible refine gate_dst (N := 6) rfl ?_); refine Kd.R_lit Kd.string _ 9 ?hg (N := 6) ?hd (xs := ([(⟨#[97]⟩ : ByteArray), (⟨#[116, 97, 115, 107]⟩ : ByteArray), (⟨#[120, 57]⟩ : ByteArray), (⟨#[49, 50]⟩ : ByteArray), (⟨#[48]⟩ : ByteArray), (⟨#[48, 48, 55]⟩ : ByteArray), (⟨#[50, 49, 52, 55, 52, 56, 51, 54, 52, 55]⟩ : ByteArray), (⟨#[50, 49, 52, 55, 52, 56, 51, 54, 52, 56]⟩ : ByteArray), (⟨#[60]⟩ : ByteArray), (⟨#[60, 60]⟩ : ByteArray), (⟨#[61]⟩ : ByteArray), (⟨#[61, 61]⟩ : ByteArray), (⟨#[33]⟩ : ByteArray), (⟨#[33, 61]⟩ : ByteArray), (⟨#[62]⟩ : ByteArray), (⟨#[62, 62]⟩ : ByteArray), (⟨#[43]⟩ : ByteArray), (⟨#[45]⟩ : ByteArray), (⟨#[42]⟩ : ByteArray), (⟨#[47]⟩ : ByteArray), (⟨#[37]⟩ : ByteArray), (⟨#[38]⟩ : ByteArray), (⟨#[124]⟩ : ByteArray), (⟨#[94]⟩ : ByteArray), (⟨#[40]⟩ : ByteArray), (⟨#[41]⟩ : ByteArray), (⟨#[91]⟩ : ByteArray), (⟨#[93]⟩ : ByteArray), (⟨#[123]⟩ : ByteArray), (⟨#[125]⟩ : ByteArray), (⟨#[32]⟩ : ByteArray), (⟨#[32, 32]⟩ : ByteArray), (⟨#[9]⟩ : ByteArray), (⟨#[10]⟩ : ByteArray), (⟨#[65]⟩ : ByteArray), (⟨#[95]⟩ : ByteArray), (⟨#[97, 98, 99, 100, 101, 102, 103, 104, 105, 106, 107, 108]⟩ : ByteArray), (⟨#[109]⟩ : ByteArray), (⟨#[13]⟩ : ByteArray), (⟨#[195, 169]⟩ : ByteArray)] : List ByteArray)) (inner := [.string (⟨#[97]⟩ : ByteArray), .string (⟨#[116, 97, 115, 107]⟩ : ByteArray), .string (⟨#[120, 57]⟩ : ByteArray), .string (⟨#[49, 50]⟩ : ByteArray), .string (⟨#[48]⟩ : ByteArray), .string (⟨#[48, 48, 55]⟩ : ByteArray), .string (⟨#[50, 49, 52, 55, 52, 56, 51, 54, 52, 55]⟩ : ByteArray), .string (⟨#[50, 49, 52, 55, 52, 56, 51, 54, 52, 56]⟩ : ByteArray), .string (⟨#[60]⟩ : ByteArray), .string (⟨#[60, 60]⟩ : ByteArray), .string (⟨#[61]⟩ : ByteArray), .string (⟨#[61, 61]⟩ : ByteArray), .string (⟨#[33]⟩ : ByteArray), .string (⟨#[33, 61]⟩ : ByteArray), .string (⟨#[62]⟩ : ByteArray), .string (⟨#[62, 62]⟩ : ByteArray), .string (⟨#[43]⟩ : ByteArray), .string (⟨#[45]⟩ : ByteArray), .string (⟨#[42]⟩ : ByteArray), .string (⟨#[47]⟩ : ByteArray), .string (⟨#[37]⟩ : ByteArray), .string (⟨#[38]⟩ : ByteArray), .string (⟨#[124]⟩ : ByteArray), .string (⟨#[94]⟩ : ByteArray), .string (⟨#[40]⟩ : ByteArray), .string (⟨#[41]⟩ : ByteArray), .string (⟨#[91]⟩ : ByteArray), .string (⟨#[93]⟩ : ByteArray), .string (⟨#[123]⟩ : ByteArray), .string (⟨#[125]⟩ : ByteArray), .string (⟨#[32]⟩ : ByteArray), .string (⟨#[32, 32]⟩ : ByteArray), .string (⟨#[9]⟩ : ByteArray), .string (⟨#[10]⟩ : ByteArray), .string (⟨#[65]⟩ : ByteArray), .string (⟨#[95]⟩ : ByteArray), .string (⟨#[97, 98, 99, 100, 101, 102, 103, 104, 105, 106, 107, 108]⟩ : ByteArray), .string (⟨#[109]⟩ : ByteArray), .string (⟨#[13]⟩ : ByteArray), .string (⟨#[195, 169]⟩ : ByteArray)]) (ok := fun _ => True) (okp := fun _ => True) ?hr ?hp (fun _ hk => hk) trivial (Below.refl _ _) (Nat.le_refl _) (by simp) ?_; (case hd => rfl); (case hg => rfl); (case hr => first | (go_simp; done) | (go_simp; rfl)); (case hp => exact (Reps.one (show Kd.M Kd.string _ _ _ (⟨#[97]⟩ : ByteArray) [.string (⟨#[97]⟩ : ByteArray)] from rfl) (Reps.one (show Kd.M Kd.string _ _ _ (⟨#[116, 97, 115, 107]⟩ : ByteArray) [.string (⟨#[116, 97, 115, 107]⟩ : ByteArray)] from rfl) (Reps.one (show Kd.M Kd.string _ _ _ (⟨#[120, 57]⟩ : ByteArray) [.string (⟨#[120, 57]⟩ : ByteArray)] from rfl) (Reps.one (show Kd.M Kd.string _ _ _ (⟨#[49, 50]⟩ : ByteArray) [.string (⟨#[49, 50]⟩ : ByteArray)] from rfl) (Reps.one (show Kd.M Kd.string _ _ _ (⟨#[48]⟩ : ByteArray) [.string (⟨#[48]⟩ : ByteArray)] from rfl) (Reps.one (show Kd.M Kd.string _ _ _ (⟨#[48, 48, 55]⟩ : ByteArray) [.string (⟨#[48, 48, 55]⟩ : ByteArray)] from rfl) (Reps.one (show Kd.M Kd.string _ _ _ (⟨#[50, 49, 52, 55, 52, 56, 51, 54, 52, 55]⟩ : ByteArray) [.string (⟨#[50, 49, 52, 55, 52, 56, 51, 54, 52, 55]⟩ : ByteArray)] from rfl) (Reps.one (show Kd.M Kd.string _ _ _ (⟨#[50, 49, 52, 55, 52, 56, 51, 54, 52, 56]⟩ : ByteArray) [.string (⟨#[50, 49, 52, 55, 52, 56, 51, 54, 52, 56]⟩ : ByteArray)] from rfl) (Reps.one (show Kd.M Kd.string _ _ _ (⟨#[60]⟩ : ByteArray) [.string (⟨#[60]⟩ : ByteArray)] from rfl) (Reps.one (show Kd.M Kd.string _ _ _ (⟨#[60, 60]⟩ : ByteArray) [.string (⟨#[60, 60]⟩ : ByteArray)] from rfl) (Reps.one (show Kd.M Kd.string _ _ _ (⟨#[61]⟩ : ByteArray) [.string (⟨#[61]⟩ : ByteArray)] from rfl) (Reps.one (show Kd.M Kd.string _ _ _ (⟨#[61, 61]⟩ : ByteArray) [.string (⟨#[61, 61]⟩ : ByteArray)] from rfl) (Reps.one (show Kd.M Kd.string _ _ _ (⟨#[33]⟩ : ByteArray) [.string (⟨#[33]⟩ : ByteArray)] from rfl) (Reps.one (show Kd.M Kd.string _ _ _ (⟨#[33, 61]⟩ : ByteArray) [.string (⟨#[33, 61]⟩ : ByteArray)] from rfl) (Reps.one (show Kd.M Kd.string _ _ _ (⟨#[62]⟩ : ByteArray) [.string (⟨#[62]⟩ : ByteArray)] from rfl) (Reps.one (show Kd.M Kd.string _ _ _ (⟨#[62, 62]⟩ : ByteArray) [.string (⟨#[62, 62]⟩ : ByteArray)] from rfl) (Reps.one (show Kd.M Kd.string _ _ _ (⟨#[43]⟩ : ByteArray) [.string (⟨#[43]⟩ : ByteArray)] from rfl) (Reps.one (show Kd.M Kd.string _ _ _ (⟨#[45]⟩ : ByteArray) [.string (⟨#[45]⟩ : ByteArray)] from rfl) (Reps.one (show Kd.M Kd.string _ _ _ (⟨#[42]⟩ : ByteArray) [.string (⟨#[42]⟩ : ByteArray)] from rfl) (Reps.one (show Kd.M Kd.string _ _ _ (⟨#[47]⟩ : ByteArray) [.string (⟨#[47]⟩ : ByteArray)] from rfl) (Reps.one (show Kd.M Kd.string _ _ _ (⟨#[37]⟩ : ByteArray) [.string (⟨#[37]⟩ : ByteArray)] from rfl) (Reps.one (show Kd.M Kd.string _ _ _ (⟨#[38]⟩ : ByteArray) [.string (⟨#[38]⟩ : ByteArray)] from rfl) (Reps.one (show Kd.M Kd.string _ _ _ (⟨#[124]⟩ : ByteArray) [.string (⟨#[124]⟩ : ByteArray)] from rfl) (Reps.one (show Kd.M Kd.string _ _ _ (⟨#[94]⟩ : ByteArray) [.string (⟨#[94]⟩ : ByteArray)] from rfl) (Reps.one (show Kd.M Kd.string _ _ _ (⟨#[40]⟩ : ByteArray) [.string (⟨#[40]⟩ : ByteArray)] from rfl) (Reps.one (show Kd.M Kd.string _ _ _ (⟨#[41]⟩ : ByteArray) [.string (⟨#[41]⟩ : ByteArray)] from rfl) (Reps.one (show Kd.M Kd.string _ _ _ (⟨#[91]⟩ : ByteArray) [.string (⟨#[91]⟩ : ByteArray)] from rfl) (Reps.one (show Kd.M Kd.string _ _ _ (⟨#[93]⟩ : ByteArray) [.string (⟨#[93]⟩ : ByteArray)] from rfl) (Reps.one (show Kd.M Kd.string _ _ _ (⟨#[123]⟩ : ByteArray) [.string (⟨#[123]⟩ : ByteArray)] from rfl) (Reps.one (show Kd.M Kd.string _ _ _ (⟨#[125]⟩ : ByteArray) [.string (⟨#[125]⟩ : ByteArray)] from rfl) (Reps.one (show Kd.M Kd.string _ _ _ (⟨#[32]⟩ : ByteArray) [.string (⟨#[32]⟩ : ByteArray)] from rfl) (Reps.one (show Kd.M Kd.string _ _ _ (⟨#[32, 32]⟩ : ByteArray) [.string (⟨#[32, 32]⟩ : ByteArray)] from rfl) (Reps.one (show Kd.M Kd.string _ _ _ (⟨#[9]⟩ : ByteArray) [.string (⟨#[9]⟩ : ByteArray)] from rfl) (Reps.one (show Kd.M Kd.string _ _ _ (⟨#[10]⟩ : ByteArray) [.string (⟨#[10]⟩ : ByteArray)] from rfl) (Reps.one (show Kd.M Kd.string _ _ _ (⟨#[65]⟩ : ByteArray) [.string (⟨#[65]⟩ : ByteArray)] from rfl) (Reps.one (show Kd.M Kd.string _ _ _ (⟨#[95]⟩ : ByteArray) [.string (⟨#[95]⟩ : ByteArray)] from rfl) (Reps.one (show Kd.M Kd.string _ _ _ (⟨#[97, 98, 99, 100, 101, 102, 103, 104, 105, 106, 107, 108]⟩ : ByteArray) [.string (⟨#[97, 98, 99, 100, 101, 102, 103, 104, 105, 106, 107, 108]⟩ : ByteArray)] from rfl) (Reps.one (show Kd.M Kd.string _ _ _ (⟨#[109]⟩ : ByteArray) [.string (⟨#[109]⟩ : ByteArray)] from rfl) (Reps.one (show Kd.M Kd.string _ _ _ (⟨#[13]⟩ : ByteArray) [.string (⟨#[13]⟩ : ByteArray)] from rfl) (Reps.one (show Kd.M Kd.string _ _ _ (⟨#[195, 169]⟩ : ByteArray) [.string (⟨#[195, 169]⟩ : ByteArray)] from rfl) (Reps.none _ _)))))))))))))))))))))))))))))))))))))))))); intro v460 w2 ho3 hb hg_ hnew_; clear hg_ hnew_; (first | rw [← Ny459.out] at ho3 | (simp only [Int.reduceToNat] at ho3; rw [← Ny459.out] at ho3)); have n0_ := Aside0.mk (Kd.R_lower ho3 (below_size (by repeat (first | (with_reducible first | exact HB.out | apply below_alloc | apply pw_below_drewN | apply below_drew1) | exact HB.out)))); have n1_ := Aside0.mk (below_step (by repeat (first | (with_reducible first | exact HB.out | apply below_alloc | apply pw_below_drewN | apply below_drew1) | exact HB.out)) hb); clear HB; have HO461 := n0_; have HB := n1_; clear n0_ n1_; clear hb ho3))
  go_loopg [4, 5] k (fun kq v4 v5 w' => ∃ (x4_1 : ByteArray) (x5_1 : Int), v4 = .string x4_1 ∧ v5 = .int .i64 x5_1 ∧ Aside0 (timeboundlaw02_pieces.l0 kq l0 y459 x4_1 x5_1 = some r) ∧ Aside0 (kq ≤ k) ∧ Aside0 (Kd.R Kd.string 9 w' w.heap.size (fun _ => True) v460 y459) ∧ Aside0 (Below w.heap.size w w'))
  case atStart => exact ⟨((⟨#[]⟩ : ByteArray)), (0), (by first | rfl | (simp; done) | (simp [*]; done)), (by first | rfl | (simp; done) | (simp [*]; done)), H', ⟨Nat.le_refl _⟩, ⟨by (with_reducible repeat (first | apply Kd.R_alloc | apply Kd.R_drewN | apply Kd.R_drew)); exact HO461.out⟩, ⟨by repeat (first | (with_reducible first | exact HB.out | apply below_alloc | apply pw_below_drewN | apply below_drew1) | exact HB.out)⟩⟩
  case round =>
    clear H'
    try clear p2
    try clear c3
    obtain ⟨x4_1, x5_1, rfl, rfl, HA, HK1, HO_3, HB⟩ := hrel
    cases gk with
    | zero => exact absurd HA.out (by simp [timeboundlaw02_pieces.l0])
    | succ k1 =>
      have H := HA.out
      clear HA
      simp only [timeboundlaw02_pieces.l0] at H
      by_cases c4 : x5_1 < (l0.length : Int)
      · rw [if_pos c4] at H
        have c4b0 : decide (x5_1 < (l0.length : Int)) = true := decide_eq_true c4
        clear c4
        by_cases c5 : x5_1 < 60
        · rw [if_pos c5] at H
          have c5b0 : decide (x5_1 < 60) = true := decide_eq_true c5
          clear c5
          by_cases c6 : 0 ≤ x5_1
          · rw [if_pos c6] at H
            have c6b0 : decide (0 ≤ x5_1) = true := decide_eq_true c6
            clear c6
            by_cases c7 : (y459.length : Int) = 0
            · rw [if_pos c7] at H
              exact absurd H (by simp)
            · rw [if_neg c7] at H
              have c7b0 : ((y459.length : Int) == 0) = false := beq_eq_false_iff_ne.mpr c7
              have c7b1 : ((y459.length : Int) != 0) = true := bne_iff_ne.mpr c7
              have c7b2 : ¬ (y459 = []) := fun h_ => c7 (by rw [h_]; rfl)
              obtain ⟨ji8, hji8⟩ : ∃ j_ : Int, (Int.tmod (wrap64 (rd l0 x5_1)) (y459.length : Int)) = j_ := ⟨_, rfl⟩
              replace H : (if 0 ≤ (ji8) then (if (ji8) < (y459.length : Int) then (if x4_1.size + (rdOf ByteArray.empty y459 (ji8)).size ≤ 9223372036854775807 then (timeboundlaw02_pieces.l0 k1 l0 y459 (x4_1 ++ (rdOf ByteArray.empty y459 (ji8))) (wrap64 (x5_1 + 1))) else (none)) else (none)) else (none)) = some r := by first | (rw [hji8] at H; exact H) | (simp only [hji8] at H ⊢; exact H)
              by_cases c9 : 0 ≤ (ji8)
              · rw [if_pos c9] at H
                have c9b0 : decide (0 ≤ (ji8)) = true := decide_eq_true c9
                clear c9
                by_cases c10 : (ji8) < (y459.length : Int)
                · rw [if_pos c10] at H
                  have c10b0 : decide ((ji8) < (y459.length : Int)) = true := decide_eq_true c10
                  clear c10
                  by_cases c11 : x4_1.size + (rdOf ByteArray.empty y459 (ji8)).size ≤ 9223372036854775807
                  · rw [if_pos c11] at H
                    have c11b0 := eq_true c11
                    have c11b1 : decide (x4_1.size + (rdOf ByteArray.empty y459 (ji8)).size ≤ 9223372036854775807) = true := decide_eq_true c11
                    try have c11b2 : (9223372036854775807 < x4_1.size + (rdOf ByteArray.empty y459 (ji8)).size) = False := eq_false (Nat.not_lt.2 c11)
                    have H' := Aside0.mk H
                    clear H
                    have p462 : 0 ≤ (x5_1 : Int) := of_decide_eq_true (by first | (with_reducible assumption) | assumption)
                    have q462 : x5_1 < (l0.length : Int) := of_decide_eq_true (by first | (with_reducible assumption) | assumption)
                    obtain ⟨ad462, e462, hx462_0⟩ := Kd.at_int HR0.out x5_1 p462 q462
                    cases e462
                    replace hx462_0 := (HB.out.cell (World.block_lt_of_cell? w _ hx462_0)).trans hx462_0
                    replace p462 := eq_true p462
                    replace q462 := eq_true q462
                    obtain ⟨Ao12, co12, eo12⟩ := Kd.R_slice HO_3.out
                    subst eo12
                    have p463 : 0 ≤ ((ji8) : Int) := of_decide_eq_true (by first | (with_reducible assumption) | assumption)
                    have q463 : (ji8) < (y459.length : Int) := of_decide_eq_true (by first | (with_reducible assumption) | assumption)
                    obtain ⟨ad463, e463, hx463_0⟩ := Kd.at_string (Kd.R_reads' HO_3.out).2.2 (ji8) p463 q463
                    cases e463
                    replace p463 := eq_true p463
                    replace q463 := eq_true q463
                    go_wp2
                    go_roundg k1
                    case measure => have := HK1.out; omega
                    case rel => exact ⟨(x4_1 ++ (rdOf ByteArray.empty y459 (ji8))), (wrap64 (x5_1 + 1)), (by first | rfl | (simp; done) | (simp only [← hji8] <;> (first | rfl | simp)) | (simp [*]; done)), (by first | rfl | (simp; done) | (simp [*]; done)), H', ⟨by have := HK1.out; omega⟩, ⟨by (with_reducible repeat (first | apply Kd.R_alloc | apply Kd.R_drewN | apply Kd.R_drew)); exact HO_3.out⟩, ⟨by repeat (first | (with_reducible first | exact HB.out | apply below_alloc | apply pw_below_drewN | apply below_drew1) | exact HB.out)⟩⟩
                  · rw [if_neg c11] at H
                    exact absurd H (by simp)
                · rw [if_neg c10] at H
                  exact absurd H (by simp)
              · rw [if_neg c9] at H
                exact absurd H (by simp)
          · rw [if_neg c6] at H
            exact absurd H (by simp)
        · rw [if_neg c5] at H
          have c5b0 : decide (x5_1 < 60) = false := decide_eq_false c5
          clear c5
          obtain rfl := Option.some.inj H
          go_wp2
          go_ret
          exact ⟨by first | rfl | (simp [errW_none, errW_some] <;> rfl) | (simp [*, errW_none, errW_some] <;> rfl), by repeat (first | (with_reducible first | exact HB.out | apply below_alloc | apply pw_below_drewN | apply below_drew1) | exact HB.out)⟩
      · rw [if_neg c4] at H
        have c4b0 : decide (x5_1 < (l0.length : Int)) = false := decide_eq_false c4
        clear c4
        obtain rfl := Option.some.inj H
        go_wp2
        go_ret
        exact ⟨by first | rfl | (simp [errW_none, errW_some] <;> rfl) | (simp [*, errW_none, errW_some] <;> rfl), by repeat (first | (with_reducible first | exact HB.out | apply below_alloc | apply pw_below_drewN | apply below_drew1) | exact HB.out)⟩

end Go.Proofs.YtcnmejahighkfaaDoor.P
-- TokC
/- The parts of the laws on tokens. -/
namespace Go.Proofs.YtcnmejahighkfaaDoor.Tok
open Go.RowKit Go.Proofs.YtcnmejahighkfaaDoor.P Go.Proofs.YtcnmejahighkfaaDoorW.PrintWords Go.Proofs.YtcnmejahighkfaaDoorW.PrintLast Go.Proofs.YtcnmejahighkfaaDoorW.PrintMore
set_option linter.unusedVariables false
set_option linter.unusedSimpArgs false

theorem scan_awake : scanA (⟨#[105, 60, 61, 49, 48]⟩ : ByteArray) = ([⟨1, 0, 1, ⟨#[105]⟩⟩, ⟨3, 0, 1, ⟨#[60, 61]⟩⟩, ⟨2, 10, 1, ⟨#[]⟩⟩], 0, 0) := by kernel_rfl
theorem name_a1 : nameM (bytesOf (⟨#[97, 49]⟩ : ByteArray)) = 2 := by kernel_rfl
theorem itoa_10 : (⟨(Lib.itoa 10).toArray⟩ : ByteArray) = ⟨#[49, 48]⟩ := by kernel_rfl
theorem awake_eq (k : Nat) (hk : 5 ≤ k) : timeboundlaw02_awake.f k = some true := by
  obtain ⟨k, rfl⟩ : ∃ m, k = m + 1 := ⟨k - 1, by omega⟩
  obtain ⟨L, hL⟩ : ∃ L : List TS, L = [⟨1, 0, 1, ⟨#[105]⟩⟩, ⟨3, 0, 1, ⟨#[60, 61]⟩⟩, ⟨2, 10, 1, ⟨#[]⟩⟩] := ⟨_, rfl⟩
  have hlen : (L.length : Int) = 3 := by rw [hL]; rfl
  have e0 : (rd_T59 L 0).f3.toList = ([105] : List UInt8) := by rw [hL, toList_data]; rfl
  have e1 : (rd_T59 L 1).f3.toList = ([60, 61] : List UInt8) := by rw [hL, toList_data]; rfl
  have e2 : (rd_T59 L 2).f1 = 10 := by rw [hL]; rfl
  have e3 : (rd_T59 L 2).f0 = 2 := by rw [hL]; rfl
  have h1 : token_Name.f (k + 1) (⟨#[97, 49]⟩ : ByteArray) = some true := by
    unfold token_Name.f
    rw [if_neg (by rw [toList_data]; simp), if_pos (by decide), name_eq _ (by show 2 ≤ 1000000; omega) (k + 1) (by show 2 < k + 1; omega), name_a1]
    rfl
  have h2 : ∀ (a : Int) (b : ByteArray), token_Word.f (k + 1) 2 10 a b = some ⟨#[49, 48]⟩ := by
    intro a b
    unfold token_Word.f
    rw [if_neg (by omega)]
    simp only [token_Word.j0]
    rw [if_neg (by decide), if_pos trivial, if_neg (by omega), if_neg (by omega)]
    unfold strconv_Itoa.f
    rw [if_pos (by omega), if_pos (by omega), itoa_10]
    rfl
  unfold timeboundlaw02_awake.f
  rw [Scan_eq, scan_awake, ← hL]
  simp only [Option.bind_some]
  rw [if_pos trivial, if_pos trivial, if_pos hlen, if_pos (by omega), if_pos e0, if_pos (by omega), if_pos e1, if_pos (by omega), if_pos e2, h1]
  simp only [Option.bind_some, if_true]
  rw [e2, e3, h2]
  simp only [Option.bind_some]
  rw [toList_data]
  rfl
/-- Two lists of tokens are equal, but perhaps for the lines. -/
def eqTok (lines : Bool) (a b : TS) : Prop := a.f0 = b.f0 ∧ a.f1 = b.f1 ∧ a.f3 = b.f3 ∧ (lines = true → a.f2 = b.f2)
theorem rd_at (xs : List TS) (i : Nat) (h : i < xs.length) : rd_T59 xs (i : Int) = xs[i] := by simp [rd_T59, h]
theorem same_l0 (a b : List TS) (lines : Bool) (hl : a.length = b.length) (hb : a.length ≤ 1000000000) (h : ∀ (i : Nat) (h1 : i < a.length) (h2 : i < b.length), eqTok lines a[i] b[i]) : ∀ (d i k : Nat), a.length - i = d → i ≤ a.length → d < k → timeboundref02_Same.l0 k a b lines i = some true := by
  intro d
  induction d with
  | zero =>
    intro i k hd hi hk
    obtain ⟨k, rfl⟩ : ∃ m, k = m + 1 := ⟨k - 1, by omega⟩
    simp only [timeboundref02_Same.l0]
    rw [if_neg (by omega)]
  | succ d ih =>
    intro i k hd hi hk
    obtain ⟨k, rfl⟩ : ∃ m, k = m + 1 := ⟨k - 1, by omega⟩
    have h1 : i < a.length := by omega
    have h2 : i < b.length := by omega
    obtain ⟨e0, e1, e3, e2⟩ := h i h1 h2
    have hw : wrap64 ((i : Int) + 1) = ((i + 1 : Nat) : Int) := by rw [wrap_small (by omega) (by omega)]; omega
    have HW := Lib.hid hw
    clear hw
    have hn := ih (i + 1) k (by omega) (by omega) (by omega)
    simp only [timeboundref02_Same.l0]
    rw [if_pos (by omega), if_pos (by omega), if_pos (by omega), rd_at a i h1, rd_at b i h2, if_pos e0, if_pos e1, if_pos (by rw [e3]), HW.out]
    cases lines with
    | false => simpa using hn
    | true => rw [if_pos rfl, if_pos (e2 rfl)]; exact hn
theorem same_eq (a b : List TS) (lines : Bool) (hl : a.length = b.length) (hb : a.length ≤ 1000000000) (h : ∀ (i : Nat) (h1 : i < a.length) (h2 : i < b.length), eqTok lines a[i] b[i]) (k : Nat) (hk : a.length < k) : timeboundref02_Same.f k a b lines = some true := by
  unfold timeboundref02_Same.f
  rw [if_pos (by omega)]
  exact same_l0 a b lines hl hb h a.length 0 k (by omega) (by omega) hk
theorem same_self (a : List TS) (hb : a.length ≤ 1000000000) (k : Nat) (hk : a.length < k) : timeboundref02_Same.f k a a true = some true :=
  same_eq a a true rfl hb (fun i h1 h2 => ⟨rfl, rfl, rfl, fun _ => rfl⟩) k hk
theorem scanM_len : ∀ (f : Nat) (l : List Int) (out : List TS) (line : Int), (scanM f l out line).1.length ≤ out.length + f := by
  intro f
  induction f with
  | zero => intro l out line; simp [scanM]
  | succ f ih =>
    intro l out line
    cases l with
    | nil => simp [scanM]
    | cons c r =>
      simp only [scanM]
      split
      · have := ih r out (line + 1); omega
      · split
        · have := ih r out line; omega
        · cases nextM (c :: r) with
          | none => simp
          | some x =>
            obtain ⟨a, b, t, n⟩ := x
            have := ih ((c :: r).drop n) (out ++ [⟨a, b, line, strOfNums t⟩]) line
            simp at this ⊢
            omega
theorem scanA_len (s : ByteArray) : (scanA s).1.length ≤ 8192 := by
  unfold scanA
  split
  · simp
  · have := scanM_len s.size (bytesOf s) [] 1
    simp at this
    omega
def pieceList : List ByteArray := [⟨#[97]⟩, ⟨#[116, 97, 115, 107]⟩, ⟨#[120, 57]⟩, ⟨#[49, 50]⟩, ⟨#[48]⟩, ⟨#[48, 48, 55]⟩, ⟨#[50, 49, 52, 55, 52, 56, 51, 54, 52, 55]⟩, ⟨#[50, 49, 52, 55, 52, 56, 51, 54, 52, 56]⟩, ⟨#[60]⟩, ⟨#[60, 60]⟩, ⟨#[61]⟩, ⟨#[61, 61]⟩, ⟨#[33]⟩, ⟨#[33, 61]⟩, ⟨#[62]⟩, ⟨#[62, 62]⟩, ⟨#[43]⟩, ⟨#[45]⟩, ⟨#[42]⟩, ⟨#[47]⟩, ⟨#[37]⟩, ⟨#[38]⟩, ⟨#[124]⟩, ⟨#[94]⟩, ⟨#[40]⟩, ⟨#[41]⟩, ⟨#[91]⟩, ⟨#[93]⟩, ⟨#[123]⟩, ⟨#[125]⟩, ⟨#[32]⟩, ⟨#[32, 32]⟩, ⟨#[9]⟩, ⟨#[10]⟩, ⟨#[65]⟩, ⟨#[95]⟩, ⟨#[97, 98, 99, 100, 101, 102, 103, 104, 105, 106, 107, 108]⟩, ⟨#[109]⟩, ⟨#[13]⟩, ⟨#[195, 169]⟩]
theorem piece_len : pieceList.length = 40 := by decide +kernel
theorem piece_size : ∀ p ∈ pieceList, p.size ≤ 12 := by decide +kernel
theorem wf_range {x : Int} (h : (Lit.int .u8 x).wf = true) : 0 ≤ x ∧ x ≤ 255 := Go.bounds_u8 h
theorem pieces_l0 (l0 : List Int) (hw : ∀ x ∈ l0, 0 ≤ x ∧ x ≤ 255) (hlen : l0.length ≤ 140737488351232) : ∀ (d i k : Nat) (t : ByteArray), 60 - i = d → i ≤ 60 → d < k → t.size ≤ 12 * i → ∃ r, (∀ k, d < k → timeboundlaw02_pieces.l0 k l0 pieceList t i = some r) ∧ r.size ≤ 720 := by
  intro d
  induction d with
  | zero =>
    intro i k t hd hi hk ht
    refine ⟨t, fun k hk => ?_, by omega⟩
    obtain ⟨k, rfl⟩ : ∃ m, k = m + 1 := ⟨k - 1, by omega⟩
    simp only [timeboundlaw02_pieces.l0]
    split
    · rw [if_neg (by omega)]
    · rfl
  | succ d ih =>
    intro i k t hd hi hk ht
    by_cases hil : i < l0.length
    · have hx := hw l0[i] (List.getElem_mem hil)
      have hr : rd l0 (i : Int) = l0[i] := by simp [rd, hil]
      have hpl : (pieceList.length : Int) = 40 := by rw [piece_len]; rfl
      have htm : Int.tmod l0[i] 40 = l0[i] % 40 := Int.tmod_eq_emod_of_nonneg hx.1
      have hj0 : 0 ≤ l0[i] % 40 := by omega
      have hj1 : l0[i] % 40 < 40 := by omega
      have hmem : rdOf ByteArray.empty pieceList (l0[i] % 40) ∈ pieceList := by
        have hlt : (l0[i] % 40).toNat < pieceList.length := by rw [piece_len]; omega
        have e : rdOf ByteArray.empty pieceList (l0[i] % 40) = pieceList[(l0[i] % 40).toNat] := by simp only [rdOf, List.getD_eq_getElem?_getD, List.getElem?_eq_getElem hlt, Option.getD_some]
        rw [e]
        exact List.getElem_mem hlt
      have hps := piece_size _ hmem
      obtain ⟨r, hr2, hrs⟩ := ih (i + 1) (d + 1) (t ++ rdOf ByteArray.empty pieceList (l0[i] % 40)) (by omega) (by omega) (by omega) (by rw [ByteArray.size_append]; omega)
      refine ⟨r, fun k hk => ?_, hrs⟩
      obtain ⟨k, rfl⟩ : ∃ m, k = m + 1 := ⟨k - 1, by omega⟩
      have hw1 : wrap64 ((i : Int) + 1) = ((i + 1 : Nat) : Int) := by rw [wrap_small (by omega) (by omega)]; omega
      have HW := Lib.hid hw1
      clear hw1
      simp only [timeboundlaw02_pieces.l0]
      rw [if_pos (by omega), if_pos (by omega), if_pos (by omega), hr, wrap_small (by omega) (by omega), hpl, htm, if_neg (by omega), if_pos hj0, if_pos hj1, if_pos (by omega), HW.out]
      exact hr2 k (by omega)
    · refine ⟨t, fun k hk => ?_, by omega⟩
      obtain ⟨k, rfl⟩ : ∃ m, k = m + 1 := ⟨k - 1, by omega⟩
      simp only [timeboundlaw02_pieces.l0]
      rw [if_neg (by omega)]
theorem pieces_eq (l0 : List Int) (hw : ∀ x ∈ l0, (Lit.int .u8 x).wf = true) (hlen : l0.length ≤ 140737488351232) : ∃ r, (∀ k, 60 < k → timeboundlaw02_pieces.f k l0 = some r) ∧ r.size ≤ 720 := by
  have h0 : (⟨#[]⟩ : ByteArray).size = 0 := rfl
  obtain ⟨r, h, hs⟩ := pieces_l0 l0 (fun x hx => wf_range (hw x hx)) hlen 60 0 61 ⟨#[]⟩ rfl (by omega) (by omega) (by omega)
  exact ⟨r, fun k hk => h k hk, hs⟩
end Go.Proofs.YtcnmejahighkfaaDoor.Tok
-- TokD
/- Name and Word of both packages are one plain function each. -/
namespace Go.Proofs.YtcnmejahighkfaaDoor.Tok
open Go.RowKit Go.Proofs.YtcnmejahighkfaaDoor.P Go.Proofs.YtcnmejahighkfaaDoorW.PrintWords Go.Proofs.YtcnmejahighkfaaDoorW.PrintLast Go.Proofs.YtcnmejahighkfaaDoorW.PrintMore
set_option linter.unusedVariables false
set_option linter.unusedSimpArgs false

/-- A name: a letter, then letters and digits, twelve bytes at most. -/
def nameB (l : List Int) : Bool := decide (1 ≤ l.length) && (decide (l.length ≤ 12) && (isL (l.getD 0 0) && l.all isA))
theorem takeWhile_len (p : Int → Bool) (l : List Int) : (l.takeWhile p).length = l.length ↔ l.all p = true := by
  induction l with
  | nil => simp
  | cons c r ih =>
    simp only [List.takeWhile_cons, List.all_cons]
    cases h : p c with
    | true => simp only [if_true, List.length_cons, Bool.true_and]; rw [← ih]; omega
    | false => simp
theorem Name_eq (s : ByteArray) (k : Nat) (hk : 13 ≤ k) : token_Name.f k s = some (nameB (bytesOf s)) := by
  unfold token_Name.f
  have hb := bytesOf_length s
  cases h : bytesOf s with
  | nil => rw [if_pos ((nil_iff s).2 h)]; rfl
  | cons c r =>
    rw [if_neg (fun q => by rw [(nil_iff s).1 q] at h; cases h)]
    rw [h] at hb
    simp at hb
    by_cases hs : s.size ≤ 12
    · rw [if_pos (by omega), name_eq s (by omega) k (by omega), h]
      have e : nameB (c :: r) = (isL c && (c :: r).all isA) := by
        unfold nameB
        simp
        omega
      rw [e]
      simp only [Option.bind_some, nameM]
      cases hc : isL c with
      | false => simp; omega
      | true =>
        simp only [if_true, Bool.true_and]
        have ht := takeWhile_len isA (c :: r)
        congr 1
        rw [Bool.eq_iff_iff, ← ht]
        simp only [beq_iff_eq, List.length_cons]
        omega
    · rw [if_neg (by omega)]
      have e : nameB (c :: r) = false := by unfold nameB; simp; omega
      rw [e]
theorem rName_l0 (s : ByteArray) (hs : s.size ≤ 12) : ∀ (l : List Int) (i k : Nat), (bytesOf s).drop i = l → i ≤ s.size → l.length < k → timeboundref02_Name.l0 k s i = some (l.all isA) := by
  intro l
  induction l with
  | nil =>
    intro i k h hi hk
    obtain ⟨k, rfl⟩ : ∃ m, k = m + 1 := ⟨k - 1, by omega⟩
    have := bt_nil h
    simp only [timeboundref02_Name.l0]
    rw [if_neg (by omega)]
    rfl
  | cons c r ih =>
    intro i k h hi hk
    obtain ⟨k, rfl⟩ : ∃ m, k = m + 1 := ⟨k - 1, by simp at hk; omega⟩
    obtain ⟨h1, h2, h3⟩ := bt_cons h
    have hn := ih (i + 1) k h3 (by omega) (by simp at hk; omega)
    simp only [timeboundref02_Name.l0]
    rw [if_pos (by omega), if_pos (by omega), h2, rletter_eq, rdigit_eq, wrap_small (by omega) (by omega), show (i : Int) + 1 = ((i + 1 : Nat) : Int) by omega, hn]
    simp only [Option.bind_some, List.all_cons]
    cases hl : isL c with
    | true => simp [isA, hl]
    | false => cases hd : isD c <;> simp [isA, hl, hd]
theorem rName_eq (s : ByteArray) (k : Nat) (hk : 15 ≤ k) : timeboundref02_Name.f k s = some (nameB (bytesOf s)) := by
  obtain ⟨k, rfl⟩ : ∃ m, k = m + 1 := ⟨k - 1, by omega⟩
  unfold timeboundref02_Name.f
  have hb := bytesOf_length s
  by_cases h0 : (s.size : Int) < 1
  · rw [if_pos h0]
    simp only [timeboundref02_Name.j0, if_true]
    congr 1
    unfold nameB
    simp
    omega
  · rw [if_neg h0]
    by_cases h1 : (s.size : Int) > 12
    · rw [if_pos h1]
      simp only [timeboundref02_Name.j0, if_true]
      congr 1
      unfold nameB
      simp
      omega
    · rw [if_neg h1, if_pos (by omega), rletter_eq]
      have e : bt s 0 = (bytesOf s).getD 0 0 := bt_get s 0
      simp only [Option.bind_some, e]
      simp only [timeboundref02_Name.j0]
      have hn := rName_l0 s (by omega) (bytesOf s) 0 k (by simp) (by omega) (by omega)
      have e0 : timeboundref02_Name.l0 k s 0 = timeboundref02_Name.l0 k s ((0 : Nat) : Int) := rfl
      rw [e0, hn]
      unfold nameB
      rw [decide_eq_true (by omega : 1 ≤ (bytesOf s).length), decide_eq_true (by omega : (bytesOf s).length ≤ 12)]
      cases isL ((bytesOf s).getD 0 0) <;> simp
theorem bytesOf_of (l : List UInt8) : bytesOf (⟨l.toArray⟩ : ByteArray) = l.map fun b => (b.toNat : Int) := by simp [bytesOf]
theorem ba_app (a b : List UInt8) : (⟨a.toArray⟩ : ByteArray) ++ (⟨b.toArray⟩ : ByteArray) = ⟨(a ++ b).toArray⟩ := by
  apply ByteArray.ext
  rw [ByteArray.data_append]
  simp
theorem num_byte (d : Nat) (h : d ≤ 255) : strOfNums [(d : Int)] = ⟨#[UInt8.ofNat d]⟩ := by
  refine bytesOf_inj ?_
  rw [bytes_strOfNums _ (by intro c hc; simp at hc; omega)]
  simp [bytesOf, Nat.mod_eq_of_lt (by omega : d < 256)]
theorem digs_size : ∀ (n u : Nat), u < 10 ^ n → 1 ≤ n → (Lib.decDigits u).length ≤ n := by
  intro n
  induction n with
  | zero => intro u _ h; omega
  | succ n ih =>
    intro u h1 _
    rw [Lib.decDigits_length]
    by_cases h : u < 10
    · rw [Lib.nDigits_small h]; omega
    · rw [Lib.nDigits_big h]
      rw [Nat.pow_succ] at h1
      have hn : 1 ≤ n := by
        rcases n with _ | n
        · simp at h1; omega
        · omega
      have := ih (u / 10) (by omega) hn
      rw [Lib.decDigits_length] at this
      omega
theorem Decimal_eq : ∀ (n u k : Nat), u < 10 ^ n → u ≤ 1000000000000000000 → n ≤ 19 → n ≤ k → 1 ≤ k → timeboundref02_Decimal.f k u = some (⟨(Lib.decDigits u).toArray⟩ : ByteArray) := by
  intro n
  induction n with
  | zero =>
    intro u k h _ _ _ hk
    obtain ⟨k, rfl⟩ : ∃ m, k = m + 1 := ⟨k - 1, by omega⟩
    have : u = 0 := by simpa using h
    subst this
    simp only [timeboundref02_Decimal.f]
    rw [if_pos (by omega)]
    rw [Lib.decDigits, dif_pos (by omega), show (wrap64 (48 + ((0 : Nat) : Int)) % 256) = ((48 : Nat) : Int) by unfold wrap64; omega, num_byte _ (by omega)]
  | succ n ih =>
    intro u k h hu hn hnk hk
    obtain ⟨k, rfl⟩ : ∃ m, k = m + 1 := ⟨k - 1, by omega⟩
    simp only [timeboundref02_Decimal.f]
    rw [Lib.decDigits]
    by_cases h10 : u < 10
    · rw [if_pos (by omega), dif_pos h10, wrap_small (by omega) (by omega), Int.emod_eq_of_lt (by omega) (by omega), show (48 + (u : Int)) = ((48 + u : Nat) : Int) by omega, num_byte _ (by omega)]
    · have h2 : u / 10 < 10 ^ n := by rw [Nat.pow_succ] at h; omega
      have hk1 : 1 ≤ k := by
        rcases n with _ | n
        · simp at h; omega
        · omega
      have hd := ih (u / 10) k h2 (by omega) (by omega) (by omega) hk1
      have e1 : Int.tdiv (u : Int) 10 = ((u / 10 : Nat) : Int) := by rw [Int.tdiv_eq_ediv_of_nonneg (by omega)]; omega
      have e2 : Int.tmod (u : Int) 10 = ((u % 10 : Nat) : Int) := by rw [Int.tmod_eq_emod_of_nonneg (by omega)]; omega
      have hsz : (Lib.decDigits (u / 10)).length ≤ 19 := digs_size 19 _ (by omega) (by omega)
      rw [if_neg (by omega), dif_neg h10, e1, e2, wrap_small (by omega) (by omega), hd, wrap_small (by omega) (by omega), Int.emod_eq_of_lt (by omega) (by omega), show (48 + ((u % 10 : Nat) : Int)) = ((48 + u % 10 : Nat) : Int) by omega, Option.bind_some, Option.bind_some, num_byte _ (by omega), if_pos]
      · have := ba_app (Lib.decDigits (u / 10)) [UInt8.ofNat (48 + u % 10)]
        rw [← this]
      · show (⟨(Lib.decDigits (u / 10)).toArray⟩ : ByteArray).data.size + 1 ≤ _
        simp
        omega
/-- The source of a token. -/
def wordM (k v : Int) (t : ByteArray) : ByteArray := if k = 1 ∨ k = 3 then t else if k = 2 then (if v < 0 ∨ 2147483647 < v then ⟨#[48]⟩ else ⟨(Lib.decDigits v.toNat).toArray⟩) else ⟨#[]⟩
theorem Word_eq (k v l : Int) (t : ByteArray) (n : Nat) (hn : 1 ≤ n) : token_Word.f n k v l t = some (wordM k v t) := by
  obtain ⟨n, rfl⟩ : ∃ m, n = m + 1 := ⟨n - 1, by omega⟩
  unfold token_Word.f wordM
  by_cases h1 : k = 1
  · rw [if_pos h1, if_pos (.inl h1)]
    simp [token_Word.j0, h1]
  · rw [if_neg h1]
    simp only [token_Word.j0]
    by_cases h3 : k = 3
    · rw [if_pos (by simp [h3]), if_pos (.inr h3)]
    · rw [if_neg (by simp [h3]), if_neg (show ¬(k = 1 ∨ k = 3) by omega)]
      by_cases h2 : k = 2
      · rw [if_pos h2, if_pos h2]
        by_cases hv : v < 0
        · rw [if_pos hv, if_pos (.inl hv)]
        · rw [if_neg hv]
          by_cases hb : v > 2147483647
          · rw [if_pos hb, if_pos (.inr hb)]
          · rw [if_neg hb, if_neg (by omega)]
            unfold strconv_Itoa.f
            rw [if_pos (by omega), if_pos (by omega)]
            have := Lib.itoa_nonneg v.toNat
            rw [Int.toNat_of_nonneg (by omega)] at this
            rw [this]
            rfl
      · rw [if_neg h2, if_neg h2]
theorem rWord_eq (k v l : Int) (t : ByteArray) (n : Nat) (hn : 20 ≤ n) : timeboundref02_Word.f n k v l t = some (wordM k v t) := by
  obtain ⟨n, rfl⟩ : ∃ m, n = m + 1 := ⟨n - 1, by omega⟩
  unfold timeboundref02_Word.f wordM
  by_cases h1 : k = 1
  · rw [if_pos h1, if_pos (.inl h1)]
    simp [timeboundref02_Word.j0, h1]
  · rw [if_neg h1]
    simp only [timeboundref02_Word.j0]
    by_cases h3 : k = 3
    · rw [if_pos (by simp [h3]), if_pos (.inr h3)]
    · rw [if_neg (by simp [h3]), if_neg (show ¬(k = 1 ∨ k = 3) by omega)]
      by_cases h2 : k = 2
      · rw [if_pos h2, if_pos h2]
        by_cases hv : v < 0
        · rw [if_pos hv, if_pos (.inl hv)]
        · rw [if_neg hv]
          by_cases hb : v ≥ 2147483648
          · rw [if_pos hb, if_pos (.inr (by omega))]
          · rw [if_neg hb, if_neg (by omega)]
            have := Decimal_eq 10 v.toNat n (by omega) (by omega) (by omega) (by omega) (by omega)
            rw [Int.toNat_of_nonneg (by omega)] at this
            rw [this]
            rfl
      · rw [if_neg h2, if_neg h2]
end Go.Proofs.YtcnmejahighkfaaDoor.Tok
-- PureTokenRaw
namespace Go.Proofs.YtcnmejahighkfaaDoor.Pure
open Go.RowKit Go.Proofs.YtcnmejahighkfaaDoor.P Go.Proofs.YtcnmejahighkfaaDoorW.PrintWords Go.Proofs.YtcnmejahighkfaaDoorW.PrintLast Go.Proofs.YtcnmejahighkfaaDoor.Tok
theorem TokenRaw : timeboundlaw02_TokenRaw.Pure := by
  intro a0 a10 a11 a12 a13 _
  have hl := scanA_len a0
  refine ⟨60000, ?_⟩
  unfold timeboundlaw02_TokenRaw.f
  by_cases h : (a0.size : Int) > 10000
  · rw [if_pos h, awake_eq 60000 (by omega)]
    rfl
  · rw [if_neg h, Scan_eq, Option.bind_some, rScan_eq a0 60000 (by omega), Option.bind_some, if_pos rfl, if_pos rfl, same_self _ (by omega) 60000 (by omega), Option.bind_some, if_pos rfl,
      Name_eq a0 60000 (by omega), Option.bind_some, rName_eq a0 60000 (by omega), Option.bind_some, if_pos (by simp), Name_eq a13 60000 (by omega), Option.bind_some, rName_eq a13 60000 (by omega), Option.bind_some, if_pos (by simp),
      Word_eq a10 a11 a12 a13 60000 (by omega), Option.bind_some, rWord_eq a10 a11 a12 a13 60000 (by omega), Option.bind_some, if_pos rfl, awake_eq 60000 (by omega)]
    rfl
end Go.Proofs.YtcnmejahighkfaaDoor.Pure
-- LawTokenRaw
namespace Go.Proofs.YtcnmejahighkfaaDoor.tokenRaw
open Go.ChangeShapes Go.WideShapes Go.ChangeAt Go.RowKit
open Go.ChangeMaps (open_string shut_string)
set_option linter.unusedVariables false
theorem own : ownKnob Tryd.prog.godebug = none := by kernel_rfl
theorem laidPow {W : World} (h : laidMetH Tryd.prog Rows.tokenRawRow.laid W) : P.LaidPow W :=
  have e : laidMetH Tryd.prog Rows.tokenRawRow.laid W = laidMet Tryd.prog [("math/bits.deBruijn32tab", Rows.laid_math_bits_deBruijn32tab), ("math/bits.deBruijn64tab", Rows.laid_math_bits_deBruijn64tab), ("internal/strconv.uint64pow10", Rows.laid_internal_strconv_uint64pow10)] W := by kernel_rfl
  P.LaidPow.of_laid (by kernel_rfl) (laidMet.tail (laidMet.tail (e.mp h)))
set_option maxRecDepth 100000 in
theorem contract (H : Type) (enc : TypeId × Value → H) (W : World) (base : Nat) (args : Array Value) (ds gs : List (DataW H)) (before : List MemPlace)
    (hval0 : ∀ (j : Nat) t v, Tryd.f5.params[j]? = some t → args[j]? = some v → Value.okWide Tryd.prog W .any base t v)
    (hW : DataW.Whole enc Tryd.prog Tryd.f5.params.toList Rows.tokenRawSpec.vars false W args.toList ds gs before)
    (hsz0 : (DataW.weightsEach Tryd.prog (Tryd.f5.params.toList ++ Rows.tokenRawSpec.plain.varTypes Tryd.prog) (ds ++ gs)).all (· ≤ reachBytes) = true) (hL : laidMetH Tryd.prog Rows.tokenRawRow.laid W) :
    Calls Tryd.prog 5 args W fun e W' => ∃ v, e = .returned v ∧ Rows.tokenRawSpec.post enc Tryd.prog Tryd.f5 false true false false W args v W' := by
  have hsz : (DataW.weightsEach Tryd.prog (Tryd.f5.params.toList ++ Rows.tokenRawSpec.plain.varTypes Tryd.prog) (ds ++ gs)).all (· ≤ reachBytes) = true := hsz0
  have hval : ∀ (j : Nat) t v, Tryd.f5.params[j]? = some t → args[j]? = some v → Value.okWide Tryd.prog W .any base t v := hval0
  have hW' := hW
  obtain ⟨p, q, hA0, hV, rfl, hfz, hnd⟩ := hW
  have hA : DataW.TrodAll enc Tryd.prog W 0 (fun _ => true) true Tryd.f5.params.toList args.toList ds p := hA0
  rw [Tryd.params5] at hA hval hsz
  obtain ⟨v0, vs0, d0, ds0, p0, q0, hargs, rfl, rfl, h0, r0⟩ := trodAll_cons hA
  obtain ⟨v1, vs1, d1, ds1, p1, q1, rfl, rfl, rfl, h1, r1⟩ := trodAll_cons r0
  obtain ⟨rfl, rfl, rfl⟩ := trodAll_nil r1
  obtain rfl : args = #[v0, v1] := by cases args; simp_all
  obtain ⟨rfl, rfl⟩ := trodVars_none hV
  obtain ⟨a0, rfl, rfl, rfl, y0⟩ := open_string Tryd.underlying9 (hval 0 9 v0 rfl rfl) h0
  have w0 : a0.size ≤ 140737488351232 := by
    have z := sized_string hsz (j := 0) (t := 9) rfl rfl
    rw [Array.length_toList] at z
    exact z
  obtain ⟨c1_0, c1_1, c1_2, c1_3, y1_0, y1_1, y1_2, y1_3, n1, rfl, rfl, rfl, g1_0, g1_1, g1_2, g1_3⟩ := Joins.open_agg4 Tryd.underlying59 (by kernel_rfl) (by kernel_rfl) (hval 1 59 v1 rfl rfl) h1
  obtain ⟨a1_0, e1_0, f1_0, u1_0⟩ := DataW.trod_int Tryd.underlying3 g1_0
  obtain rfl := (List.cons.inj e1_0).1
  subst f1_0
  obtain ⟨a1_1, e1_1, f1_1, u1_1⟩ := DataW.trod_int Tryd.underlying3 g1_1
  obtain rfl := (List.cons.inj e1_1).1
  subst f1_1
  obtain ⟨a1_2, e1_2, f1_2, u1_2⟩ := DataW.trod_int Tryd.underlying3 g1_2
  obtain rfl := (List.cons.inj e1_2).1
  subst f1_2
  obtain ⟨a1_3, e1_3, f1_3, u1_3⟩ := DataW.trod_string Tryd.underlying9 g1_3
  obtain rfl := (List.cons.inj e1_3).1
  subst f1_3
  clear hA0 hval0 hsz0 hsz
  refine (P.timeboundlaw02_TokenRaw.walk Pure.TokenRaw a0 a1_0 a1_1 a1_2 a1_3 W w0 (laidPow hL)).mono fun e W' ⟨he, bel⟩ => ?_
  subst he
  exact ⟨_, rfl, _, _, _, [], _, [], hW', trodAll_mk1 (shut_bool Tryd.underlying4 _), (trodAll_cons_mk (shut_string Tryd.underlying9 y0) (trodAll_cons_mk (Joins.shut_agg4 Tryd.underlying59 (by kernel_rfl) (by kernel_rfl) (Joins.field_of_Trod (shut_int Tryd.underlying3 u1_0) rfl) (Joins.field_of_Trod (shut_int Tryd.underlying3 u1_1) rfl) (Joins.field_of_Trod (shut_int Tryd.underlying3 u1_2) rfl) (Joins.field_of_Trod (shut_string Tryd.underlying9 u1_3) rfl)) trodAll_mk0)), rfl, bel.frame _, fun h => by cases h⟩
/-- A world for the witness: the settled one, the listed variables holding what their initialisers lay. -/
noncomputable def laidWorld (os : Os) : World := { (World.holding Tryd.prog os ⟨#[], #[], []⟩) with heap := ((((World.holding Tryd.prog os ⟨#[], #[], []⟩).heap.modify 5 fun
      | .cells _ t frozen => .cells #[.int .u8 0, .int .u8 1, .int .u8 28, .int .u8 2, .int .u8 29, .int .u8 14, .int .u8 24, .int .u8 3, .int .u8 30, .int .u8 22, .int .u8 20, .int .u8 15, .int .u8 25, .int .u8 17, .int .u8 4, .int .u8 8, .int .u8 31, .int .u8 27, .int .u8 13, .int .u8 23, .int .u8 21, .int .u8 19, .int .u8 16, .int .u8 7, .int .u8 26, .int .u8 12, .int .u8 18, .int .u8 6, .int .u8 11, .int .u8 5, .int .u8 10, .int .u8 9] t frozen
      | o => o).modify 6 fun
      | .cells _ t frozen => .cells #[.int .u8 0, .int .u8 1, .int .u8 56, .int .u8 2, .int .u8 57, .int .u8 49, .int .u8 28, .int .u8 3, .int .u8 61, .int .u8 58, .int .u8 42, .int .u8 50, .int .u8 38, .int .u8 29, .int .u8 17, .int .u8 4, .int .u8 62, .int .u8 47, .int .u8 59, .int .u8 36, .int .u8 45, .int .u8 43, .int .u8 51, .int .u8 22, .int .u8 53, .int .u8 39, .int .u8 33, .int .u8 30, .int .u8 24, .int .u8 18, .int .u8 12, .int .u8 5, .int .u8 63, .int .u8 55, .int .u8 48, .int .u8 27, .int .u8 60, .int .u8 41, .int .u8 37, .int .u8 16, .int .u8 46, .int .u8 35, .int .u8 44, .int .u8 21, .int .u8 52, .int .u8 32, .int .u8 23, .int .u8 11, .int .u8 54, .int .u8 26, .int .u8 40, .int .u8 15, .int .u8 34, .int .u8 20, .int .u8 31, .int .u8 10, .int .u8 25, .int .u8 14, .int .u8 19, .int .u8 9, .int .u8 13, .int .u8 8, .int .u8 7, .int .u8 6] t frozen
      | o => o).modify 4 fun
      | .cells _ t frozen => .cells #[.int .u64 1, .int .u64 10, .int .u64 100, .int .u64 1000, .int .u64 10000, .int .u64 100000, .int .u64 1000000, .int .u64 10000000, .int .u64 100000000, .int .u64 1000000000, .int .u64 10000000000, .int .u64 100000000000, .int .u64 1000000000000, .int .u64 10000000000000, .int .u64 100000000000000, .int .u64 1000000000000000, .int .u64 10000000000000000, .int .u64 100000000000000000, .int .u64 1000000000000000000, .int .u64 10000000000000000000] t frozen
      | o => o) }
theorem laid_met (os : Os) : laidMet Tryd.prog Rows.tokenRawRow.laid ((laidWorld os).forCall (fun _ _ => 0) ⟨#[], #[.string ByteArray.empty, .agg #[.int .i64 0, .int .i64 0, .int .i64 0, .string ByteArray.empty]], []⟩).memory := laidMet_of_run' 8 (by kernel_rfl) (by kernel_rfl)
theorem reads (os : Os) {H : Type} (enc : TypeId × Value → H) : DataW.whole enc Tryd.prog ((laidWorld os).forCall (fun _ _ => 0) ⟨#[], #[.string ByteArray.empty, .agg #[.int .i64 0, .int .i64 0, .int .i64 0, .string ByteArray.empty]], []⟩).memory Tryd.f5.params.toList Rows.tokenRawSpec.vars false #[.string ByteArray.empty, .agg #[.int .i64 0, .int .i64 0, .int .i64 0, .string ByteArray.empty]].toList 8 = some ([.lit (.string []), .agg [.lit (.int .i64 0), .lit (.int .i64 0), .lit (.int .i64 0), .lit (.string [])]], [], []) := by kernel_rfl
set_option maxRecDepth 100000 in
theorem lifted (os : Os) (started : os.Started) (H : Type) (enc : TypeId × Value → H) (F : Stop.Interp) :
    ReturnsInHanded {} Tryd.checked os 5 .any ((OpenSpec.ofChange Rows.tokenRawSpec).preRow enc Tryd.prog Tryd.f5 Rows.tokenRawRow.domain false Rows.tokenRawRow.laid) (((OpenSpec.ofChange Rows.tokenRawSpec).at F).post enc Tryd.prog Tryd.f5 false true false false) := by
  have hx := reads os enc
  refine returnsInHanded_of_row (C := Tryd.checked) (s := OpenSpec.ofChange Rows.tokenRawSpec) own started (by kernel_rfl) Tryd.func5
    (witness_row_at (enc := enc) (C := Tryd.checked) false (laidWorld os) #[.string ByteArray.empty, .agg #[.int .i64 0, .int .i64 0, .int .i64 0, .string ByteArray.empty]] rfl (by kernel_rfl) (by kernel_rfl) (by kernel_rfl)
      (OpenSpec.preRow_of_cond 8 hx (by kernel_rfl) (fun k hk => by cases hk) (by kernel_rfl) (laid_met os))) ?_
  intro W base args ds gs before hval hW _ _ hsz hL _ _
  exact contract H enc W base args ds gs before hval hW hsz hL
theorem over : Rows.tokenRawRow.holds Tryd.pinned (OpenSpec.ofChange Rows.tokenRawSpec) :=
  OpenClaim.holds_of_cond 5 Tryd.f5 rfl rfl rfl rfl rfl rfl rfl ⟨rfl, rfl, rfl, rfl, rfl⟩ rfl rfl rfl rfl rfl (by kernel_rfl) Tryd.func5 (by kernel_rfl)
    (of_decide_eq_true (by kernel_rfl)) (by unfold Func.isWrapper; first | (rw [if_pos (by decide +kernel)]; kernel_rfl) | (rw [if_neg (by decide +kernel)]; exact ⟨rfl, rfl⟩))
    (fun os started H enc _ F => by rw [OpenClaim.pre_eq_preRow]; exact lifted os started H enc F)
theorem said : Rows.TokenRawSaid := over
theorem plain (f : FuncId) (fn : Func) (hf : Tryd.pinned.checked.prog.funcNamed "timebound/timeboundlaw02.TokenRaw" = some f) (hfn : Tryd.pinned.checked.prog.funcs[f]? = some fn) :
    true = Tryd.pinned.checked.prog.looks [] ∧ ∀ (j : Nat) t, fn.params[j]? = some t → Tryd.pinned.checked.prog.wantsStandIn t = false := by
  obtain rfl : f = 5 := Option.some.inj ((show Tryd.prog.funcNamed "timebound/timeboundlaw02.TokenRaw" = some 5 by kernel_rfl).symm.trans hf) |>.symm
  obtain rfl : fn = Tryd.f5 := (Option.some.inj (Tryd.func5.symm.trans hfn)).symm
  refine ⟨by kernel_rfl, fun j t ht => ?_⟩
  rw [Tryd.params5] at ht
  have hm := Array.mem_of_getElem? ht
  have hm' : t = 9 ∨ t = 59 := by simpa [or_assoc] using hm
  rcases hm' with rfl | rfl
  · exact (show Tryd.prog.wantsStandIn 9 = false by kernel_rfl)
  · exact (show Tryd.prog.wantsStandIn 59 = false by kernel_rfl)
/-- THE CARD. -/
theorem card : Rows.TokenRawCardSaid :=
  Claim7.holds_tied_plain_at .later [] _ _ _ _ said (fun _ h => by cases h) (by kernel_rfl) (fun _ h => by cases h) tokenRaw_row_tie rfl ⟨rfl, rfl⟩ (by kernel_rfl) rfl plain (by kernel_rfl)
#print axioms card
end Go.Proofs.YtcnmejahighkfaaDoor.tokenRaw
namespace Go.Proofs.YtcnmejahighkfaaDoor
/-- The card, under a short name, for the claim. -/
theorem tokenRaw_holds : Rows.TokenRawCardSaid := tokenRaw.card
end Go.Proofs.YtcnmejahighkfaaDoor
