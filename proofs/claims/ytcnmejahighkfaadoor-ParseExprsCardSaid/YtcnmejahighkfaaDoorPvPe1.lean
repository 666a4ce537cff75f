/- Part 1 of the texts for: parse.Expr and the specification of layer 3 read every list of tokens alike -/
import Derived.Orders
import Derived.Below
import Derived.Laws.Sem
import Derived.WalkKit
import Derived.Laws.CopyRow
import Derived.Laws.BytesString
import Derived.MapKept
import Derived.Laws.Append
import Derived.Test.YtcnmejahighkfaaDoorPvPe0
set_option autoImplicit false
set_option linter.unusedVariables false
set_option linter.unusedSimpArgs false
set_option linter.defProp false
-- PvMask
namespace Go.Pv
open Go Go.RowKit
variable {P : Program} {tt : TT} {G : Sett} {fl : Nat → Nat} {B : Nat} {s s' : Cf} {a : Act} {w : World}
/-! ### what is read depends on the operands alone -/
def isRop : Op → Bool
  | .load _ _ | .lookup _ _ _ _ | .call _ => true
  | _ => false
theorem evn_agr {x : Operand} (h : eval s x = eval s' x) (t : TypeId) : evn tt s t x = evn tt s' t x := by
  cases x <;> first | exact congrArg (norm tt t) h | exact h
theorem pbound_agr {d m : Nat} {x : Option Operand} (h : ∀ y ∈ x.toArray.toList, eval s y = eval s' y) : pbound s d m x = pbound s' d m x := by
  cases x with
  | none => rfl
  | some y => simp only [pbound, h y (by simp)]
theorem pparts_agr {ps : List (Nat × Operand)} (h : ∀ p ∈ ps, eval s p.2 = eval s' p.2) : pparts s ps = pparts s' ps := by
  simp only [pparts]
  apply List.map_congr_left
  intro p hp
  rw [h p hp]
theorem evals_agr {xs : List Operand} (h : ∀ x ∈ xs, eval s x = eval s' x) : xs.map (eval s) = xs.map (eval s') := List.map_congr_left h
theorem pslice_agr {t : TypeId} {v : PV} {lo hi : Option Operand} (h1 : ∀ d m, pbound s d m lo = pbound s' d m lo) (h2 : ∀ d m, pbound s d m hi = pbound s' d m hi) : pslice tt s t v lo hi = pslice tt s' t v lo hi := by
  unfold pslice
  simp only [h1, h2]
theorem pread_agr {ty : TypeId} {op : Op} (h : ∀ x ∈ op.operands.toList, eval s x = eval s' x)
    (hr : isRop op = true → s.σ.obj = s'.σ.obj ∧ ∀ x ∈ op.operands.toList, paddr s (eval s x) = paddr s' (eval s' x)) : pread tt s ty op = pread tt s' ty op := by
  cases op with
  | move x => simp only [pread]; rw [evn_agr (h x (by simp [Op.operands]))]
  | assign x => simp only [pread]; rw [evn_agr (h x (by simp [Op.operands]))]
  | pick c x y => simp only [pread, h c (by simp [Op.operands]), h x (by simp [Op.operands]), h y (by simp [Op.operands])]
  | nilCheck x => simp only [pread, h x (by simp [Op.operands])]
  | binOp op xt x y yt => simp only [pread, h x (by simp [Op.operands]), h y (by simp [Op.operands])]
  | unOp op xt x => simp only [pread, h x (by simp [Op.operands])]
  | convert a b x => simp only [pread, h x (by simp [Op.operands])]
  | makeInterface t x => simp only [pread, h x (by simp [Op.operands])]
  | makeFunc fn first cap =>
    have : cap.toList.map (eval s) = cap.toList.map (eval s') := evals_agr fun x hx => h x (by simp [Op.operands]; exact .inr (by simpa using hx))
    simp only [pread, this]
  | slice t x lo hi mx =>
    cases mx with
    | some m => rfl
    | none =>
      simp only [pread, h x (by simp [Op.operands])]
      exact pslice_agr (fun d m => pbound_agr fun y hy => h y (by simp [Op.operands]; simp at hy; simp [hy])) (fun d m => pbound_agr fun y hy => h y (by simp [Op.operands]; simp at hy; simp [hy]))
  | fieldAddr t x f => simp only [pread, h x (by simp [Op.operands])]
  | field t x f => simp only [pread, h x (by simp [Op.operands])]
  | indexAddr t x i => simp only [pread, h x (by simp [Op.operands]), h i (by simp [Op.operands])]
  | index t x i => simp only [pread, h x (by simp [Op.operands]), h i (by simp [Op.operands])]
  | load t x => simp only [pread, (hr rfl).2 x (by simp [Op.operands])]
  | lookup t x i ok =>
    simp only [pread, h x (by simp [Op.operands]), h i (by simp [Op.operands])]
    unfold plookup
    rw [(hr rfl).1]
  | typeAssert x a t ok => simp only [pread, h x (by simp [Op.operands])]
  | extract x i => simp only [pread, h x (by simp [Op.operands])]
  | build t ps =>
    simp only [pread]
    rw [pparts_agr fun p hp => h p.2 (by simp [Op.operands]; exact ⟨p.1, by simpa using hp⟩)]
  | call c =>
    obtain ⟨cal, args, tys⟩ := c
    simp only [pread]
    have ha : ∀ x ∈ args.toList, eval s x = eval s' x := fun x hx => h x (by simp [Op.operands, Call.operands]; exact .inr (by simpa using hx))
    cases cal with
    | builtin b =>
      cases b <;> first | rfl | skip
      case len =>
        cases hargs : args.toList with
        | nil => rfl
        | cons x xs =>
          cases xs with
          | nil =>
            cases tys.toList with
            | nil => rfl
            | cons t ts =>
              cases ts with
              | nil =>
                simp only [ha x (by simp [hargs])]
                unfold plen
                rw [(hr rfl).1]
              | cons => rfl
          | cons => rfl
      all_goals
        cases hargs : args.toList with
        | nil => rfl
        | cons x xs =>
          cases xs with
          | nil => rfl
          | cons y ys =>
            cases ys with
            | nil => simp only [ha x (by simp [hargs]), ha y (by simp [hargs])]
            | cons => rfl
    | _ => rfl
  | _ => rfl
/-! ### slots and local objects that are not there yet -/
def maskE {α : Type} (M : Nat → Bool) (env : List (Nat × α)) : List (Nat × α) := env.filter fun p => !M p.1
theorem get_mask (M : Nat → Bool) : ∀ (env : List (Nat × PV)) (t : Nat), get (maskE M env) t = if M t = true then .undef else get env t
  | [], t => by simp [maskE, get]
  | (s, v) :: r, t => by
    have ih := get_mask M r t
    simp only [maskE, List.filter] at ih ⊢
    cases hs : M s with
    | true =>
      simp only [Bool.not_true]
      rw [ih]
      simp only [get]
      by_cases q : s = t
      · subst q; simp [hs]
      · simp [q]
    | false =>
      simp only [Bool.not_false, get]
      by_cases q : s = t
      · subst q; simp [hs]
      · rw [if_neg q, ih, if_neg q]
theorem getL_mask (M : Nat → Bool) : ∀ (loc : List (Nat × List PV)) (t : Nat), getL (maskE M loc) t = if M t = true then none else getL loc t
  | [], t => by simp [maskE, getL]
  | (s, v) :: r, t => by
    have ih := getL_mask M r t
    simp only [maskE, List.filter] at ih ⊢
    cases hs : M s with
    | true =>
      simp only [Bool.not_true]
      rw [ih]
      simp only [getL]
      by_cases q : s = t
      · subst q; simp [hs]
      · simp [q]
    | false =>
      simp only [Bool.not_false, getL]
      by_cases q : s = t
      · subst q; simp [hs]
      · rw [if_neg q, ih, if_neg q]
def mask (M L : Nat → Bool) (s : Cf) : Cf := { s with env := maskE M s.env, loc := maskE L s.loc }
variable {M L : Nat → Bool}
/-- An operand that is there: its slot, and the object it points to. -/
structure Clear (M L : Nat → Bool) (s : Cf) (x : Operand) : Prop where
  slot : ∀ t, x = .tmp t → M t = false
  ptr : ∀ d off, eval s x = .lptr d off → L d = false
theorem Clear.eval {x : Operand} (h : Clear M L s x) : eval (mask M L s) x = eval s x := by
  cases x with
  | tmp t =>
    show get (maskE M s.env) t = get s.env t
    rw [get_mask, h.slot t rfl]
    rfl
  | const v => cases v <;> rfl
  | _ => rfl
theorem Clear.addr {x : Operand} (h : Clear M L s x) : paddr (mask M L s) (Go.Pv.eval (mask M L s) x) = paddr s (Go.Pv.eval s x) := by
  rw [h.eval]
  cases e : Go.Pv.eval s x with
  | lptr d off =>
    show (getL (maskE L s.loc) d).map _ = (getL s.loc d).map _
    rw [getL_mask, h.ptr d off e]
    rfl
  | val v =>
    cases v with
    | pointer p =>
      cases p with
      | none => rfl
      | some a => obtain ⟨b, o, sp⟩ := a; cases sp <;> rfl
    | _ => rfl
  | _ => rfl
theorem Clear.evn {x : Operand} (h : Clear M L s x) (t : TypeId) : evn tt (mask M L s) t x = evn tt s t x := evn_agr h.eval t
theorem pread_mask {ty : TypeId} {op : Op} (h : ∀ x ∈ op.operands.toList, Clear M L s x) : pread tt (mask M L s) ty op = pread tt s ty op :=
  pread_agr (fun x hx => (h x hx).eval) fun _ => ⟨rfl, fun x hx => (h x hx).addr⟩
def isStore : Op → Bool
  | .store _ _ _ => true
  | _ => false
/-- What an operation that is no new local variable leaves as it is. -/
structure Shape (o : Oper) (s s' : Cf) : Prop where
  env : s'.env = s.env
  n : s'.n = s.n
  loc : isStore o.op = false → s'.loc = s.loc
def maskK (M L : Nat → Bool) (o : Oper) (s : Cf) (K : PV → Cf → Prop) : PV → Cf → Prop := fun v s1 => ∃ s', K v s' ∧ s1 = mask M L s' ∧ Shape o s s'
theorem maskK_here {o : Oper} {K : PV → Cf → Prop} {v : PV} (h : K v s) : maskK M L o s K v (mask M L s) := ⟨s, h, rfl, rfl, rfl, fun _ => rfl⟩
theorem maskK_σ {o : Oper} {K : PV → Cf → Prop} {v : PV} {σ : St} (h : K v { s with σ := σ }) : maskK M L o s K v { mask M L s with σ := σ } := ⟨_, h, rfl, rfl, rfl, fun _ => rfl⟩
theorem maskK_store {o : Oper} {K : PV → Cf → Prop} {v : PV} {d : Nat} {cs : List PV} (hd : L d = false) (ho : isStore o.op = true) (h : K v { s with loc := (d, cs) :: s.loc }) : maskK M L o s K v { mask M L s with loc := (d, cs) :: (mask M L s).loc } := by
  refine ⟨_, h, ?_, rfl, rfl, fun q => by rw [ho] at q; cases q⟩
  simp [mask, maskE, List.filter, hd]
theorem pnew_mask {esc : List Nat} {o : Oper} {d : Nat} {cs : List PV} {K : PV → Cf → Prop} (he : esc.contains d = true) (h : pnew esc s d cs K) : pnew esc (mask M L s) d cs (maskK M L o s K) := by
  unfold pnew at h ⊢
  rw [if_pos he] at h ⊢
  intro b h1 h2
  exact maskK_σ (h b h1 h2)
theorem pargs_mask : ∀ (xs : List Operand) (ts : List TypeId), (∀ x ∈ xs, Clear M L s x) → pargs tt (mask M L s) xs ts = pargs tt s xs ts
  | [], _, _ => rfl
  | x :: xs, t :: ts, h => by
    simp only [pargs]
    rw [(h x (by simp)).evn, pargs_mask xs ts fun y hy => h y (by simp [hy])]
  | x :: xs, [], h => by
    simp only [pargs]
    rw [(h x (by simp)).eval, pargs_mask xs [] fun y hy => h y (by simp [hy])]
theorem pappend_mask {o : Oper} {t t2 : TypeId} {x y : PV} {K : PV → Cf → Prop} (h : pappend tt s t t2 x y K) : pappend tt (mask M L s) t t2 x y (maskK M L o s K) := by
  unfold pappend at h ⊢
  split at h
  · split at h
    · refine ⟨h.1, h.2.1, h.2.2.1, h.2.2.2.1, h.2.2.2.2.1, fun k' σ' hq => ?_⟩
      exact maskK_σ (h.2.2.2.2.2 k' σ' hq)
    · exact h.elim
  · exact h.elim
theorem pappendV_mask {o : Oper} {t t2 : TypeId} {x y : PV} {K : PV → Cf → Prop} (h : pappendV tt s t t2 x y K) : pappendV tt (mask M L s) t t2 x y (maskK M L o s K) := by
  unfold pappendV at h ⊢
  split at h
  · split at h
    · refine ⟨h.1, ?_⟩
      have h := h.2
      split at h
      · exact ⟨h.1, h.2.1, h.2.2.1, fun b c h1 h2 h3 => maskK_σ (h.2.2.2 b c h1 h2 h3)⟩
      · skip
        refine ⟨h.1, h.2.1, h.2.2.1, ?_⟩
        have h := h.2.2.2
        show match s.σ.obj _ with | some (.cells ds) => _ | _ => _
        split at h
        · rename_i ds ho
          rw [ho]
          exact ⟨h.1, fun q => maskK_σ (h.2.1 q), fun q b' c' h1 h2 h3 => maskK_σ (h.2.2 q b' c' h1 h2 h3)⟩
        · exact h.elim
      · exact h.elim
    · exact h.elim
  · exact h.elim
theorem peff_mask {esc : List Nat} {o : Oper} {K X : PV → Cf → Prop} (h : peff P tt esc s o K X) (hx : ∀ x ∈ o.op.operands.toList, Clear M L s x) (hla : isLA esc o = false) :
    peff P tt esc (mask M L s) o (maskK M L o s K) (maskK M L o s X) := by
  obtain ⟨dst, op, ty, pos, af, g⟩ := o
  unfold peff at h ⊢
  cases op with
  | store t ad x =>
    simp only [] at h ⊢
    have h1 := hx ad (by simp [Op.operands])
    have h2 := hx x (by simp [Op.operands])
    rw [h1.eval, h2.evn]
    unfold pstore at h ⊢
    cases hi : tt t with
    | none => rw [hi] at h; cases h
    | some i =>
      cases hc : cellsOf (evn tt s t x) with
      | none => rw [hi, hc] at h; cases h
      | some vs =>
        rw [hi, hc] at h
        simp only [] at h ⊢
        refine ⟨h.1, h.2.1, ?_⟩
        have h := h.2.2
        split at h
        · rename_i d off he
          have hd := h1.ptr d off he
          have e : getL (mask M L s).loc d = getL s.loc d := by show getL (maskE L s.loc) d = _; rw [getL_mask, hd]; rfl
          rw [e]
          split at h
          · exact ⟨h.1, maskK_store hd rfl h.2⟩
          · exact h.elim
        · show match s.σ.obj _ with | some (.cells cs) => _ | _ => _
          split at h
          · rename_i cs ho
            rw [ho]
            exact ⟨h.1, maskK_σ h.2⟩
          · exact h.elim
        · exact h.elim
  | alloc t =>
    simp only [] at h ⊢
    unfold palloc at h ⊢
    split at h
    · rename_i d i
      simp only [isLA, Bool.not_eq_false'] at hla
      split at h
      · exact pnew_mask hla h
      · exact h.elim
    · exact h.elim
  | box t x =>
    simp only [] at h ⊢
    have h1 := hx x (by simp [Op.operands])
    rw [h1.evn]
    unfold pbox at h ⊢
    split at h
    · simp only [isLA, Bool.not_eq_false'] at hla
      rename_i d cs hc
      exact pnew_mask hla h
    · exact h.elim
  | buildSlice t n ps =>
    simp only [] at h ⊢
    rw [pparts_agr (s := mask M L s) (s' := s) fun p hp => (hx p.2 (by simp [Op.operands]; exact ⟨p.1, by simpa using hp⟩)).eval]
    unfold pret at h ⊢
    split at h
    · exact maskK_here h
    · exact h.elim
  | makeMap t r =>
    cases r with
    | none =>
      simp only [] at h ⊢
      intro b h1 h2
      exact maskK_σ (h b h1 h2)
    | some r => exact h.elim
  | mapUpdate t m k v =>
    simp only [] at h ⊢
    rw [(hx m (by simp [Op.operands])).eval, (hx k (by simp [Op.operands])).eval, (hx v (by simp [Op.operands])).eval]
    unfold pmapUpdate at h ⊢
    split at h
    · split at h
      · refine ⟨h.1, ?_⟩
        have h := h.2
        show match s.σ.obj _ with | some (.map es) => _ | _ => _
        split at h
        · rename_i es ho
          rw [ho]
          split at h
          · rename_i es' hv
            simp only [hv]
            exact maskK_σ h
          · exact h.elim
        · exact h.elim
      · exact h.elim
    · exact h.elim
  | insert t m k v =>
    simp only [] at h ⊢
    rw [(hx m (by simp [Op.operands])).eval, (hx k (by simp [Op.operands])).eval, (hx v (by simp [Op.operands])).eval]
    unfold pmapUpdate at h ⊢
    split at h
    · split at h
      · refine ⟨h.1, ?_⟩
        have h := h.2
        show match s.σ.obj _ with | some (.map es) => _ | _ => _
        split at h
        · rename_i es ho
          rw [ho]
          split at h
          · rename_i es' hv
            simp only [hv]
            exact maskK_σ h
          · exact h.elim
        · exact h.elim
      · exact h.elim
    · exact h.elim
  | panic x =>
    simp only [] at h ⊢
    rw [(hx x (by simp [Op.operands])).eval]
    split at h
    · exact maskK_here h
    · exact h.elim
  | call c =>
    obtain ⟨cal, args, tys⟩ := c
    simp only [] at h ⊢
    have ha : ∀ x ∈ args.toList, Clear M L s x := fun x hq => hx x (by simp [Op.operands, Call.operands]; exact .inr (by simpa using hq))
    cases cal with
    | value f =>
      simp only [] at h ⊢
      rw [(hx f (by simp [Op.operands, Call.operands])).eval]
      unfold pcall at h ⊢
      split at h
      · simp only []
        rw [pargs_mask _ _ ha]
        refine ⟨h.1, h.2.mono fun r σ' hk => ?_⟩
        cases r with
        | ret v => exact maskK_σ hk
        | panic v => exact maskK_σ hk
      · exact h.elim
    | invoke r m => exact h.elim
    | builtin b =>
      cases b <;> first | exact h.elim | skip
      case append =>
        simp only [] at h ⊢
        split at h
        · rename_i x y t t2 e1 e2
          rw [(ha x (by simp [e1])).evn, (ha y (by simp [e1])).evn]
          unfold papp at h ⊢
          split at h
          · exact pappendV_mask h
          · exact pappend_mask h
        · exact h.elim
      case panic =>
        simp only [] at h ⊢
        split at h
        · rename_i x e1
          rw [(ha x (by simp [e1])).eval]
          split at h
          · exact maskK_here h
          · exact h.elim
        · exact h.elim
  | _ => exact h.elim
theorem pstep_mask {esc : List Nat} {o : Oper} {K X : PV → Cf → Prop} (h : pstep P tt esc s o K X) (hx : ∀ x ∈ o.op.operands.toList, Clear M L s x) (hla : isLA esc o = false) :
    pstep P tt esc (mask M L s) o (maskK M L o s K) (maskK M L o s X) := by
  unfold pstep at h ⊢
  rw [pread_mask hx]
  split at h
  · exact maskK_here h
  · exact peff_mask h hx hla
end Go.Pv
-- PvMany
namespace Go.Pv
open Go Go.RowKit
variable {P : Program} {tt : TT} {G : Sett} {fl : Nat → Nat} {B : Nat} {s s' : Cf} {a : Act} {w : World} {M L : Nat → Bool}
/-- The blocks of local objects: which ones they are is not asked for some of them. -/
def Off (L : Nat → Bool) (fl fl' : Nat → Nat) : Prop := ∀ d, L d = false → fl' d = fl d
theorem Off.refl (L : Nat → Bool) (fl : Nat → Nat) : Off L fl fl := fun _ _ => rfl
def RepM (L : Nat → Bool) (G : Sett) (fl : Nat → Nat) (B : Nat) (s : Cf) (a : Act) (w : World) : Prop := ∀ fl', Off L fl fl' → Rep G fl' B s a w
theorem RepM.rep (h : RepM L G fl B s a w) : Rep G fl B s a w := h fl (Off.refl _ _)
/-- A slot that is there points to an object that is there. -/
theorem RepM.ptr (h : RepM L G fl B s a w) {t d off : Nat} (e : get s.env t = .lptr d off) : L d = false := by
  cases q : L d with
  | false => rfl
  | true =>
    exfalso
    have h1 := (h fl (Off.refl _ _)).env t
    have h2 := (h (fun x => if x = d then fl d + 1 else fl x) (fun x hx => by
      simp only []
      rw [if_neg]
      intro z
      subst z
      rw [q] at hx
      cases hx)).env t
    rw [e] at h1 h2
    have h1 : a.tmps.getD t Go.undef = .pointer (some ⟨fl d, off, none⟩) := h1
    have h2 : a.tmps.getD t Go.undef = .pointer (some ⟨if d = d then fl d + 1 else fl d, off, none⟩) := h2
    rw [h1, if_pos rfl] at h2
    injection h2 with h2
    injection h2 with h2
    injection h2 with h2
    omega
theorem RepM.clear (h : RepM L G fl B (mask M L s) a w) {x : Operand} (hx : ∀ t, x = .tmp t → M t = false) : Clear M L s x where
  slot := hx
  ptr := fun d off e => by
    cases x with
    | tmp t =>
      have e : get s.env t = .lptr d off := e
      refine h.ptr (t := t) (off := off) ?_
      show get (maskE M s.env) t = _
      rw [get_mask, hx t rfl]
      simpa using e
    | const v => cases v <;> cases e
    | global g =>
      simp only [eval] at e
      split at e <;> cases e
    | func f => cases e
theorem Rep.same (r : Rep G fl B s a w) {G' : Sett} {w' : World} (r' : Rep G' fl B s' a w') (hs : Same fl s fl s') (hG : G.le G') {fl' : Nat → Nat} (ha : ∀ d, getL s.loc d ≠ none → fl' d = fl d) (rf : Rep G fl' B s a w) : Rep G' fl' B s' a w' where
  inv := r'.inv
  size := r'.size
  env := fun t => by rw [hs.env]; exact (rf.env t).mono hG
  loc := by
    have ha' : ∀ d, getL s'.loc d ≠ none → fl' d = fl d := fun d h => ha d fun q => h ((hs.loc d).2 q)
    refine ⟨fun d cs e => ?_, fun d d' h1 h2 e => ?_⟩
    · rw [ha' d (by rw [e]; simp)]
      exact r'.loc.at_ d cs e
    · rw [ha' d h1, ha' d' h2] at e
      exact r'.loc.inj d d' h1 h2 e
  defers := r'.defers
  base := r'.base
theorem Rel.slotAny {G : Sett} {fl fl' : Nat → Nat} {v : PV} {u : Value} (h : SlotRel G fl v u) (hn : notL v = true) : SlotRel G fl' v u := (h.rel hn).slot
/-- An operation that makes no local object, from a state of which not all is there yet. -/
theorem pstep_many (hT : TOk P tt) (r : RepM L G fl B s a w) (hk : ∀ d, getL s.loc d ≠ none → L d = false) {esc : List Nat} {o : Oper} {Kf X : PV → Cf → Prop} {next : Act → World → Prop} {Q : Exit → Act → World → Prop} (hla : isLA esc o = false) (h : pstep P tt esc s o Kf X)
    (hK : ∀ v s' G' w' u, Kf v s' → (∀ fl', Off L fl fl' → Rep G' fl' B s' a w' ∧ SlotRel G' fl' v u) → Step B G s.σ w G' s'.σ w' → s'.n = s.n → next (a.put o.dst u) w') (hX : XOk B G s w X Q) : o.wp P a w next Q := by
  unfold pstep at h
  split at h
  · rename_i v hv
    obtain ⟨u, hrun, _⟩ := pread_sound hT r.rep hv
    unfold Oper.wp Oper.upon
    rw [hrun]
    refine hK _ _ _ _ _ h (fun fl' hf => ⟨r fl' hf, ?_⟩) (Step.refl _ _ _ _) rfl
    obtain ⟨u', hrun', hs'⟩ := pread_sound hT (r fl' hf) hv
    rw [hrun] at hrun'
    cases hrun'
    exact hs'
  · have he := peff_sound hT r.rep h
    rw [hla] at he
    have key : ∀ {G' : Sett} {fl1 : Nat → Nat} {s' : Cf} {w' : World} {v : PV} {u : Value}, Rep G' fl1 B s' a w' → SlotRel G' fl1 v u → G.le G' → Same fl s fl1 s' ∧ notL v = true → ∀ fl', Off L fl fl' → Rep G' fl' B s' a w' ∧ SlotRel G' fl' v u := by
      intro G' fl1 s' w' v u hr hs hG ⟨hsame, hn⟩ fl' hf
      have e := hsame.fl
      subst e
      exact ⟨r.rep.same hr hsame hG (fun d hd => hf d (hk d hd)) (r fl' hf), Rel.slotAny hs hn⟩
    unfold Oper.wp Oper.upon
    rcases he with ⟨u, w', v, s', G', fl', hrun, hk', hr, hs, hst, hn, hsame⟩ | ⟨w', v, s', G', fl', hrun, hk', hr, rfl, hst, hn, hsame⟩ | ⟨u, v, s', hrun, hx, rfl, hr⟩ | ⟨g, args, hrun, hc⟩
    · rw [hrun]; exact hK _ _ _ _ _ hk' (key hr hs hst.le (hsame rfl)) hst hn
    · rw [hrun]; exact hK _ _ _ _ _ hk' (key hr rfl hst.le (hsame rfl)) hst hn
    · rw [hrun]; exact hX G s' a w v u hx hr r.rep.inv (Step.refl _ _ _ _) r.rep.defers
    · rw [hrun]
      refine hc.mono fun e w' hq => ?_
      obtain ⟨res, σ', G', hkr, hres, hi, hst⟩ := hq
      have hstB := step_base r.rep hst
      cases res with
      | ret v =>
        obtain ⟨u, rfl, hu⟩ := hres
        exact hK _ _ _ _ _ hkr (fun fl' hf => ⟨(r fl' hf).step hi hst, hu.slot⟩) hstB rfl
      | panic v =>
        obtain ⟨u, rfl, hu⟩ := hres
        exact hX G' _ a w' v u hkr hu hi hstB r.rep.defers
/-- What a new local object holds. -/
def lacells (tt : TT) (s : Cf) (op : Op) : Option (List PV) :=
  match op with
  | .alloc t => match tt t with | some i => cellsOf i.zero | none => none
  | .box t x => cellsOf (evn tt s t x)
  | _ => none
theorem la_run (hT : TOk P tt) (r : Rep G fl B s a w) {o : Oper} {cs : List PV} (h : lacells tt s o.op = some cs) :
    ∃ us T, RelL G cs us ∧ (execOp a.eval o).run P w = .ok (.value (.pointer (some ⟨w.heap.size, 0, none⟩))) (w.alloc (.cells us.toArray T)) := by
  unfold lacells at h
  split at h
  · rename_i t hop
    split at h
    · rename_i i hi
      obtain ⟨z, hz, hzc, hzr⟩ := tt_zero hT hi (w := w)
      have hr := cellsOf_sound (G := G) (fl := fl) h (Rel.slot (hzr G))
      refine ⟨_, t, hr, ?_⟩
      simp only [execOp, hop, Sem.run_bind, Instr.alloc, hz, Result.andThen_ok]
      rw [← cells_arr]
      rfl
    · cases h
  · rename_i t x hop
    have hr := cellsOf_sound (G := G) (fl := fl) h (evn_sound r t x)
    refine ⟨_, t, hr, ?_⟩
    simp only [execOp, hop, Sem.run_bind, Instr.box]
    rw [← cells_arr]
    rfl
  · cases h
theorem pnew_l {esc : List Nat} {d : Nat} {cs : List PV} {K : PV → Cf → Prop} (he : esc.contains d = false) (h : pnew esc s d cs K) : noL d s.env = true ∧ K (.lptr d 0) { s with loc := (d, cs) :: s.loc } := by
  unfold pnew at h
  rw [he, if_neg (by simp)] at h
  exact h
theorem peff_la {esc : List Nat} {o : Oper} {K X : PV → Cf → Prop} (hla : isLA esc o = true) (h : peff P tt esc s o K X) :
    ∃ d cs, o.dst = some d ∧ lacells tt s o.op = some cs ∧ noL d s.env = true ∧ K (.lptr d 0) { s with loc := (d, cs) :: s.loc } := by
  obtain ⟨dst, op, ty, pos, af, g⟩ := o
  cases op <;> try cases hla
  case alloc t =>
    cases dst with
    | none => cases hla
    | some d =>
      simp only [isLA, Bool.not_eq_true'] at hla
      simp only [peff, palloc] at h
      simp only [lacells]
      cases hi : tt t with
      | none => rw [hi] at h; exact h.elim
      | some i =>
        rw [hi] at h
        simp only [] at h ⊢
        cases hc : cellsOf i.zero with
        | none => rw [hc] at h; exact h.elim
        | some cs => rw [hc] at h; have h := pnew_l hla h; exact ⟨d, cs, rfl, rfl, h.1, h.2⟩
  case box t x =>
    cases dst with
    | none => cases hla
    | some d =>
      simp only [isLA, Bool.not_eq_true'] at hla
      simp only [peff, pbox] at h
      simp only [lacells]
      cases hc : cellsOf (evn tt s t x) with
      | none => rw [hc] at h; exact h.elim
      | some cs => rw [hc] at h; have h := pnew_l hla h; exact ⟨d, cs, rfl, rfl, h.1, h.2⟩
end Go.Pv
-- PvStat
namespace Go.Pv
open Go Go.RowKit
variable {P : Program} {tt : TT} {G : Sett} {fl : Nat → Nat} {B : Nat} {s s' : Cf} {a : Act} {w : World} {esc : List Nat} {ops : Array Oper} {A : List Nat}
/-- An operation that turns memory, calls or panics. -/
def isE (esc : List Nat) (o : Oper) : Bool :=
  match o.op with
  | .store _ _ _ | .mapUpdate _ _ _ _ | .insert _ _ _ _ | .makeMap _ _ | .panic _ | .assign _ => true
  | .alloc _ | .box _ _ => !isLA esc o
  | .call c => match c.callee with
    | .builtin .len | .builtin .max | .builtin .min => false
    | _ => true
  | _ => false
theorem isE_la {o : Oper} (h : isE esc o = true) : isLA esc o = false := by
  obtain ⟨dst, op, ty, pos, af, g⟩ := o
  cases op <;> first | rfl | skip
  all_goals
    simp only [isE, Bool.not_eq_true'] at h
    exact h
theorem nonE_step {o : Oper} {K X : PV → Cf → Prop} (hE : isE esc o = false) (h : pstep P tt esc s o K X) :
    (∃ v, pread tt s o.type o.op = some v ∧ K v s) ∨ (isLA esc o = true ∧ peff P tt esc s o K X) ∨ (∃ t n ps v, o.op = .buildSlice t n ps ∧ pbuildV tt t n (pparts s ps.toList) = some v ∧ K v s) := by
  unfold pstep at h
  split at h
  · exact .inl ⟨_, ‹_›, h⟩
  · right
    rename_i hn
    obtain ⟨dst, op, ty, pos, af, g⟩ := o
    have h0 := h
    unfold peff at h
    cases op <;> first | exact h.elim | (exfalso; simp [isE] at hE; done) | skip
    case alloc t => left; exact ⟨by simpa [isE] using hE, h0⟩
    case box t x => left; exact ⟨by simpa [isE] using hE, h0⟩
    case buildSlice t n ps =>
      right
      simp only [pret] at h
      split at h
      · exact ⟨t, n, ps, _, rfl, ‹_›, h⟩
      · exact h.elim
    case call c =>
      obtain ⟨cal, args, tys⟩ := c
      cases cal with
      | value f => simp [isE] at hE
      | invoke r m => exact h.elim
      | builtin b => cases b <;> first | exact h.elim | (exfalso; simp [isE] at hE; done)
/-! ### which operations are ahead of which -/
def dmask (A : List Nat) (es : List Edge) : Nat := es.foldl (fun m e => if Region.binds .any e then m ||| 2 ^ e.on ||| A.getD e.on 0 else m) 0
def ancs : List Oper → List Nat → List Nat
  | [], A => A
  | o :: os, A => ancs os (A ++ [dmask A o.after.toList])
def okA (ops : Array Oper) (A : List Nat) : Bool := (List.range ops.size).all fun i => match ops[i]? with
  | some o => (A.getD i 0 == dmask A o.after.toList) && o.after.toList.all (fun e => !Region.binds .any e || decide (e.on < i))
  | none => true
theorem dmask_bit (A : List Nat) (j : Nat) : ∀ (es : List Edge) (m : Nat), (es.foldl (fun m e => if Region.binds .any e then m ||| 2 ^ e.on ||| A.getD e.on 0 else m) m).testBit j = true →
    m.testBit j = true ∨ ∃ e ∈ es, Region.binds .any e = true ∧ (j = e.on ∨ (A.getD e.on 0).testBit j = true)
  | [], m, h => .inl h
  | e :: es, m, h => by
    simp only [List.foldl_cons] at h
    rcases dmask_bit A j es _ h with q | ⟨e', he', q⟩
    · by_cases hb : Region.binds .any e = true
      · rw [if_pos hb] at q
        simp only [Nat.testBit_or, Bool.or_eq_true, Nat.testBit_two_pow, decide_eq_true_eq] at q
        rcases q with (q | q) | q
        · exact .inl q
        · exact .inr ⟨e, by simp, hb, .inl q.symm⟩
        · exact .inr ⟨e, by simp, hb, .inr q⟩
      · rw [if_neg hb] at q
        exact .inl q
    · exact .inr ⟨e', by simp [he'], q⟩
theorem okA_at (h : okA ops A = true) {i : Nat} {o : Oper} (ho : ops[i]? = some o) : A.getD i 0 = dmask A o.after.toList ∧ ∀ e ∈ o.after, Region.binds .any e = true → e.on < i := by
  have hlt := (Array.getElem?_eq_some_iff.1 ho).1
  unfold okA at h
  have := List.all_eq_true.1 h i (List.mem_range.2 hlt)
  rw [ho] at this
  simp only [Bool.and_eq_true, beq_iff_eq, List.all_eq_true, Bool.or_eq_true, Bool.not_eq_true', decide_eq_true_eq] at this
  refine ⟨this.1, fun e he hb => ?_⟩
  rcases this.2 e (by simpa using he) with q | q
  · rw [hb] at q; cases q
  · exact q
/-- What is ahead of an operation that can be taken has been done. -/
theorem anc_done (hA : okA ops A = true) {D : Nat → Prop} (hD : ∀ i o, D i → ops[i]? = some o → ∀ e ∈ o.after, Region.binds .any e = true → D e.on) :
    ∀ (i : Nat) (o : Oper), ops[i]? = some o → (∀ e ∈ o.after, Region.binds .any e = true → D e.on) → ∀ j, (A.getD i 0).testBit j = true → D j := by
  intro i
  induction i using Nat.strongRecOn with
  | _ i ih =>
    intro o ho hafter j hj
    obtain ⟨h1, h2⟩ := okA_at hA ho
    rw [h1] at hj
    rcases dmask_bit A j _ 0 hj with q | ⟨e, he, hb, q⟩
    · simp at q
    · have he : e ∈ o.after := by simpa using he
      have hlt := h2 e he hb
      rcases q with q | q
      · rw [q]; exact hafter e he hb
      · have hsz := (Array.getElem?_eq_some_iff.1 ho).1
        have : ops[e.on]? = some (ops[e.on]'(by omega)) := Array.getElem?_eq_getElem _
        exact ih e.on hlt _ this (hD _ _ (hafter e he hb) this) j q
/-! ### what is looked at ahead of a region -/
def lookOk (esc : List Nat) (ops : Array Oper) (A : List Nat) (i : Nat) (o : Oper) (j : Nat) (oj : Oper) : Bool :=
  match oj.dst with
  | none => true
  | some d => (!(o.looksAt ops).contains d || (if j == i then isE esc o else ((A.getD i 0).testBit j || (isE esc oj && (A.getD j 0).testBit i)))) && (j == i || o.dst != some d || (isE esc o && isE esc oj))
def okPairs (esc : List Nat) (ops : Array Oper) (A : List Nat) : Bool := (List.range ops.size).all fun i => (List.range ops.size).all fun j => match ops[i]?, ops[j]? with
  | some o, some oj => lookOk esc ops A i o j oj
  | _, _ => true
structure LookOk (esc : List Nat) (ops : Array Oper) (A : List Nat) (i : Nat) (o : Oper) (j : Nat) (oj : Oper) : Prop where
  look : ∀ d, oj.dst = some d → d ∈ o.looksAt ops → j ≠ i → (A.getD i 0).testBit j = true ∨ (isE esc oj = true ∧ (A.getD j 0).testBit i = true)
  self : ∀ d, oj.dst = some d → d ∈ o.looksAt ops → j = i → isE esc o = true
  uniq : ∀ d, oj.dst = some d → o.dst = some d → j ≠ i → isE esc o = true ∧ isE esc oj = true
theorem lookOk_iff {i j : Nat} {o oj : Oper} (h : lookOk esc ops A i o j oj = true) : LookOk esc ops A i o j oj := by
  unfold lookOk at h
  refine ⟨fun d hd hl hne => ?_, fun d hd hl he => ?_, fun d hd ho hne => ?_⟩
  · rw [hd] at h
    simp only [Bool.and_eq_true, Bool.or_eq_true, Bool.not_eq_true', beq_iff_eq, hne, if_false] at h
    rcases h.1 with q | q
    · have : (o.looksAt ops).contains d = true := by simpa using hl
      rw [q] at this; cases this
    · exact q
  · rw [hd] at h
    simp only [Bool.and_eq_true, Bool.or_eq_true, Bool.not_eq_true', beq_iff_eq, he, if_true] at h
    rcases h.1 with q | q
    · have : (o.looksAt ops).contains d = true := by simpa using hl
      rw [q] at this; cases this
    · exact q
  · rw [hd] at h
    simp only [Bool.and_eq_true, Bool.or_eq_true, Bool.not_eq_true', beq_iff_eq, hne, if_false, bne_iff_ne, ne_eq, ho, not_true_eq_false, false_or] at h
    exact h.2
theorem okPairs_at (h : okPairs esc ops A = true) {i j : Nat} {o oj : Oper} (hi : ops[i]? = some o) (hj : ops[j]? = some oj) : LookOk esc ops A i o j oj := by
  have h1 := (Array.getElem?_eq_some_iff.1 hi).1
  have h2 := (Array.getElem?_eq_some_iff.1 hj).1
  have := List.all_eq_true.1 (List.all_eq_true.1 h i (List.mem_range.2 h1)) j (List.mem_range.2 h2)
  rw [hi, hj] at this
  exact lookOk_iff this
def turnOk (esc : List Nat) (A : List Nat) (dn em i : Nat) (cs : List Nat) (o : Oper) (j : Nat) (oj : Oper) : Bool :=
  (!(A.getD i 0).testBit j || dn.testBit j) && (!em.testBit j || (A.getD i 0).testBit j) &&
  (!(isE esc o && dn.testBit j && !isE esc oj && !(A.getD i 0).testBit j) || ((!isRop oj.op || cs.contains j) && (!isLA esc oj || !isStore o.op)))
structure TurnOk (esc : List Nat) (A : List Nat) (dn em i : Nat) (cs : List Nat) (o : Oper) (j : Nat) (oj : Oper) : Prop where
  anc : (A.getD i 0).testBit j = true → dn.testBit j = true
  em : em.testBit j = true → (A.getD i 0).testBit j = true
  again : isE esc o = true → dn.testBit j = true → isE esc oj = false → (A.getD i 0).testBit j = false → (isRop oj.op = true → j ∈ cs) ∧ (isLA esc oj = true → isStore o.op = false)
theorem turnOk_iff {dn em i j : Nat} {cs : List Nat} {o oj : Oper} (h : turnOk esc A dn em i cs o j oj = true) : TurnOk esc A dn em i cs o j oj := by
  simp only [turnOk, Bool.and_eq_true, Bool.or_eq_true, Bool.not_eq_true'] at h
  obtain ⟨⟨h1, h2⟩, h3⟩ := h
  refine ⟨fun q => ?_, fun q => ?_, fun q1 q2 q3 q4 => ?_⟩
  · rcases h1 with z | z
    · rw [q] at z; cases z
    · exact z
  · rcases h2 with z | z
    · rw [q] at z; cases z
    · exact z
  · rcases h3 with z | ⟨z1, z2⟩
    · rw [q1, q2, q3, q4] at z; cases z
    · refine ⟨fun y => ?_, fun y => ?_⟩
      · rcases z1 with z | z
        · rw [y] at z; cases z
        · simpa using z
      · rcases z2 with z | z
        · rw [y] at z; cases z
        · exact z
def opOk (esc : List Nat) (ops : Array Oper) (A : List Nat) (mx dn em i : Nat) (cs : List Nat) (o : Oper) : Bool :=
  !dn.testBit i && (!isLA esc o || o.guard.isNone) && (match o.dst with | some d => decide (d ≤ mx) | none => true) && (List.range ops.size).all fun j => match ops[j]? with
    | some oj => turnOk esc A dn em i cs o j oj
    | none => true
structure OpOk (esc : List Nat) (ops : Array Oper) (A : List Nat) (mx dn em i : Nat) (cs : List Nat) (o : Oper) : Prop where
  new : dn.testBit i = false
  free : isLA esc o = true → o.guard = none
  mx : ∀ d, o.dst = some d → d ≤ mx
  turn : ∀ j oj, ops[j]? = some oj → TurnOk esc A dn em i cs o j oj
theorem opOk_iff {mx dn em i : Nat} {cs : List Nat} {o : Oper} (h : opOk esc ops A mx dn em i cs o = true) : OpOk esc ops A mx dn em i cs o := by
  simp only [opOk, Bool.and_eq_true, Bool.not_eq_true', List.all_eq_true] at h
  obtain ⟨⟨⟨h1, h4⟩, h2⟩, h3⟩ := h
  refine ⟨h1, fun q => ?_, fun d hd => ?_, fun j oj hj => ?_⟩
  · rw [q] at h4; simpa using h4
  · rw [hd] at h2; simpa using h2
  · have := h3 j (List.mem_range.2 (Array.getElem?_eq_some_iff.1 hj).1)
    rw [hj] at this
    exact turnOk_iff this
def seqOk (esc : List Nat) (ops : Array Oper) (A : List Nat) (mx : Nat) : List (Nat × List Nat) → Nat → Nat → Bool
  | [], _, _ => true
  | (i, cs) :: l, dn, em => match ops[i]? with
    | none => false
    | some o => opOk esc ops A mx dn em i cs o && seqOk esc ops A mx l (dn ||| 2 ^ i) (if isE esc o then em ||| 2 ^ i else em)
theorem seqOk_cons {mx i dn em : Nat} {cs : List Nat} {l : List (Nat × List Nat)} (h : seqOk esc ops A mx ((i, cs) :: l) dn em = true) :
    ∃ o, ops[i]? = some o ∧ OpOk esc ops A mx dn em i cs o ∧ seqOk esc ops A mx l (dn ||| 2 ^ i) (if isE esc o then em ||| 2 ^ i else em) = true := by
  simp only [seqOk] at h
  split at h
  · cases h
  · rename_i o ho
    simp only [Bool.and_eq_true] at h
    exact ⟨o, ho, opOk_iff h.1, h.2⟩
theorem bit_or (dn i j : Nat) : (dn ||| 2 ^ i).testBit j = true ↔ dn.testBit j = true ∨ j = i := by
  simp only [Nat.testBit_or, Bool.or_eq_true, Nat.testBit_two_pow, decide_eq_true_eq]
  exact or_congr Iff.rfl eq_comm
/-- Behind an effect, all that is left comes after it. -/
theorem seqOk_em {mx : Nat} : ∀ (l : List (Nat × List Nat)) (dn em : Nat), seqOk esc ops A mx l dn em = true → ∀ k, k < ops.size → em.testBit k = true → ∀ i ∈ l.map (·.1), (A.getD i 0).testBit k = true
  | [], _, _, _, _, _, _, i, hi => by simp at hi
  | (i0, cs) :: l, dn, em, h, k, hk, he, i, hi => by
    obtain ⟨o, ho, hop, hl⟩ := seqOk_cons h
    simp only [List.map_cons, List.mem_cons] at hi
    rcases hi with rfl | hi
    · exact (hop.turn k _ (Array.getElem?_eq_getElem hk)).em he
    · refine seqOk_em l _ _ hl k hk ?_ i hi
      split
      · exact (bit_or _ _ _).2 (.inl he)
      · exact he
theorem seqOk_new {mx : Nat} : ∀ (l : List (Nat × List Nat)) (dn em : Nat), seqOk esc ops A mx l dn em = true → ∀ i ∈ l.map (·.1), dn.testBit i = false
  | [], _, _, _, i, hi => by simp at hi
  | (i0, cs) :: l, dn, em, h, i, hi => by
    obtain ⟨o, ho, hop, hl⟩ := seqOk_cons h
    simp only [List.map_cons, List.mem_cons] at hi
    rcases hi with rfl | hi
    · exact hop.new
    · have := seqOk_new l _ _ hl i hi
      cases q : dn.testBit i with
      | false => rfl
      | true => rw [(bit_or dn i0 i).2 (.inl q)] at this; cases this
/-- All that is checked of a region and of an order. -/
def okOrder (esc : List Nat) (ops : Array Oper) (mx : Nat) (l : List (Nat × List Nat)) : Bool :=
  let A := ancs ops.toList []
  okA ops A && okPairs esc ops A && (List.range ops.size).all (fun i => (l.map (·.1)).contains i) && seqOk esc ops A mx l 0 0
structure Stat (esc : List Nat) (ops : Array Oper) (A : List Nat) : Prop where
  anc : okA ops A = true
  look : ∀ i j o oj, ops[i]? = some o → ops[j]? = some oj → LookOk esc ops A i o j oj
end Go.Pv
