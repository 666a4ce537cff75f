/- Part 2 of the texts for: parse.Expr and the specification of layer 3 read every list of tokens alike -/
import Derived.Orders
import Derived.Below
import Derived.Laws.Sem
import Derived.WalkKit
import Derived.Laws.CopyRow
import Derived.Laws.BytesString
import Derived.MapKept
import Derived.Laws.Append
import Derived.LoopN
import Derived.Test.YtcnmejahighkfaaDoorPvPe1
set_option autoImplicit false
set_option linter.unusedVariables false
set_option linter.unusedSimpArgs false
set_option linter.defProp false
-- PvDraw
namespace Go.Pv
open Go Go.RowKit
variable {P : Program} {tt : TT} {G : Sett} {fl : Nat → Nat} {B : Nat} {s s' : Cf} {a : Act} {w : World} {esc : List Nat} {ops : Array Oper} {A : List Nat}
/-! ### guards -/
def gval (ops : Array Oper) (env : List (Nat × PV)) (o : Oper) : Option Bool :=
  match o.guard with
  | none => some true
  | some (j, want) => match (ops[j]?).bind (fun x => x.dst) with
    | some d => match get env d with
      | .val (.bool b) => some (b == want)
      | .val _ => some false
      | _ => none
    | none => none
theorem guarded_gval {o : Oper} {run skip : Prop} (h : guarded ops s o run skip) : (gval ops s.env o = some true ∧ run) ∨ (gval ops s.env o = some false ∧ skip) := by
  unfold guarded at h
  unfold gval
  split at h
  · rename_i hg; exact .inl ⟨by simp only [hg], h⟩
  · rename_i j want hg
    simp only [hg]
    split at h
    · rename_i d hd
      simp only [hd]
      split at h
      · rename_i b hb
        simp only [hb]
        by_cases q : b = want
        · exact .inl ⟨by simp [q], h.1 q⟩
        · refine .inr ⟨?_, h.2 ?_⟩
          · cases b <;> cases want <;> simp_all
          · cases b <;> cases want <;> simp_all
      · rename_i v hne hv
        simp only [hv]
        refine .inr ⟨?_, h⟩
        cases v <;> first | exact (hne _ rfl).elim | trivial | rfl
      · cases h
    · cases h
theorem gval_guarded {o : Oper} {run skip : Prop} (h : (gval ops s.env o = some true ∧ run) ∨ (gval ops s.env o = some false ∧ skip)) : guarded ops s o run skip := by
  unfold guarded
  unfold gval at h
  split
  · rename_i hg; simp only [hg] at h
    rcases h with h | h
    · exact h.2
    · exact absurd h.1 (by simp)
  · rename_i j want hg
    simp only [hg] at h
    split
    · rename_i d hd
      simp only [hd] at h
      split
      · rename_i b hb
        simp only [hb] at h
        rcases h with h | h
        · have e : b = want := by simpa using h.1
          exact ⟨fun _ => h.2, fun z => by subst e; cases b <;> simp at z⟩
        · have e : ¬ b = want := by simpa using h.1
          exact ⟨fun z => absurd z e, fun _ => h.2⟩
      · rename_i v hne hv
        rcases h with h | h
        · rw [hv] at h
          cases v <;> first | exact (hne _ rfl).elim | exact absurd h.1 (by simp)
        · exact h.2
      · rename_i hv1 hv2
        have : (match get s.env d with | .val (.bool b) => some (b == want) | .val _ => some false | _ => none) = (none : Option Bool) := by
          cases q : get s.env d with
          | val v => exact absurd q (hv2 v)
          | _ => rfl
        rw [this] at h
        rcases h with h | h <;> exact absurd h.1 (by simp)
    · rename_i hd
      simp only [hd] at h
      rcases h with h | h <;> exact absurd h.1 (by simp)
theorem gval_wanted (r : Rep G fl B s a w) {o : Oper} {b : Bool} (h : gval ops s.env o = some b) : Region.wanted o (yielded ops a.tmps) = b := by
  have hg : guarded ops s o (b = true) (b = false) := gval_guarded (by cases b <;> simp [h])
  rcases guarded_sound r hg with ⟨h1, h2⟩ | ⟨h1, h2⟩ <;> rw [h1, h2]
theorem gval_agr {env env' : List (Nat × PV)} {o : Oper} (h : ∀ t ∈ o.looksAt ops, get env' t = get env t) : gval ops env' o = gval ops env o := by
  unfold gval
  split
  · rfl
  · rename_i j want hg
    split
    · rename_i d hd
      have : d ∈ o.looksAt ops := by
        unfold Oper.looksAt
        rw [hg]
        simp only [List.mem_append]
        right
        rw [hd]
        simp
      rw [h d this]
    · rfl
theorem mem_looks {o : Oper} {t : Nat} (h : Operand.tmp t ∈ o.op.operands.toList) : t ∈ o.looksAt ops := by
  unfold Oper.looksAt
  simp only [List.mem_append, List.mem_filterMap]
  exact .inl ⟨_, h, rfl⟩
theorem eval_agr {o : Oper} (h : ∀ t ∈ o.looksAt ops, get s'.env t = get s.env t) (hgl : s'.σ.gl = s.σ.gl) {x : Operand} (hx : x ∈ o.op.operands.toList) : eval s' x = eval s x := by
  cases x with
  | tmp t => exact h t (mem_looks hx)
  | const v => cases v <;> rfl
  | global g => simp only [eval, hgl]
  | func f => rfl
/-! ### what has been gone through, and is not there yet -/
def RunOk (tt : TT) (esc : List Nat) (s : Cf) (o : Oper) : Prop :=
  (isLA esc o = true ∧ ∃ d cs, o.dst = some d ∧ lacells tt s o.op = some cs ∧ getL s.loc d = some cs ∧ get s.env d = .lptr d 0) ∨
  (isLA esc o = false ∧ ∃ v, pread tt s o.type o.op = some v ∧ ∀ d, o.dst = some d → get s.env d = v) ∨
  (∃ t n ps v, o.op = .buildSlice t n ps ∧ pbuildV tt t n (pparts s ps.toList) = some v ∧ ∀ d, o.dst = some d → get s.env d = v)
def PendOk (tt : TT) (esc : List Nat) (ops : Array Oper) (s : Cf) (o : Oper) : Prop :=
  (gval ops s.env o = some true ∧ RunOk tt esc s o) ∨ (gval ops s.env o = some false ∧ ∀ d, o.dst = some d → get s.env d = undefV)
theorem lacells_agr {op : Op} (h : ∀ x ∈ op.operands.toList, eval s' x = eval s x) : lacells tt s' op = lacells tt s op := by
  cases op <;> first | rfl | skip
  case box t x => simp only [lacells]; rw [evn_agr (h x (by simp [Op.operands]))]
theorem PendOk.agr {o : Oper} (h : PendOk tt esc ops s o) (he : ∀ t ∈ o.looksAt ops, get s'.env t = get s.env t) (hd : ∀ d, o.dst = some d → get s'.env d = get s.env d) (hgl : s'.σ.gl = s.σ.gl)
    (hla : isLA esc o = true → ∀ d, o.dst = some d → getL s'.loc d = getL s.loc d)
    (hR : isRop o.op = true → gval ops s.env o = some true → ∀ v, pread tt s o.type o.op = some v → (∀ d, o.dst = some d → get s.env d = v) → pread tt s' o.type o.op = some v) : PendOk tt esc ops s' o := by
  have hev := fun x hx => eval_agr (s := s) (s' := s') (o := o) (ops := ops) he hgl (x := x) hx
  rcases h with ⟨hg, h⟩ | ⟨hg, h⟩
  · refine .inl ⟨by rw [gval_agr he]; exact hg, ?_⟩
    rcases h with ⟨h1, d, cs, h2, h3, h4, h5⟩ | ⟨h1, v, h2, h3⟩ | ⟨t, n, ps, v, h1, h2, h3⟩
    · exact .inl ⟨h1, d, cs, h2, by rw [lacells_agr hev]; exact h3, by rw [hla h1 d h2]; exact h4, by rw [hd d h2]; exact h5⟩
    · refine .inr (.inl ⟨h1, v, ?_, fun d q => by rw [hd d q]; exact h3 d q⟩)
      cases q : isRop o.op with
      | true => exact hR q hg v h2 h3
      | false =>
        rw [pread_agr (s := s') (s' := s) hev fun z => by rw [q] at z; cases z]
        exact h2
    · refine .inr (.inr ⟨t, n, ps, v, h1, ?_, fun d q => by rw [hd d q]; exact h3 d q⟩)
      rw [pparts_agr (s := s') (s' := s) fun p hp => hev p.2 (by rw [h1]; simp [Op.operands]; exact ⟨p.1, by simpa using hp⟩)]
      exact h2
  · exact .inr ⟨by rw [gval_agr he]; exact hg, fun d q => by rw [hd d q]; exact h d q⟩
def pendM (ops : Array Oper) (dn : Nat) (ls : Array Bool) : Nat → Bool := fun t => (List.range ops.size).any fun j => dn.testBit j && !ls.getD j false && (match ops[j]? with | some o => o.dst == some t | none => false)
def pendL (esc : List Nat) (ops : Array Oper) (dn : Nat) (ls : Array Bool) : Nat → Bool := fun t => (List.range ops.size).any fun j => dn.testBit j && !ls.getD j false && (match ops[j]? with | some o => isLA esc o && o.dst == some t | none => false)
theorem pendM_iff {dn : Nat} {ls : Array Bool} {t : Nat} : pendM ops dn ls t = true ↔ ∃ j o, ops[j]? = some o ∧ dn.testBit j = true ∧ ls.getD j false = false ∧ o.dst = some t := by
  unfold pendM
  simp only [List.any_eq_true, List.mem_range, Bool.and_eq_true, Bool.not_eq_true']
  constructor
  · rintro ⟨j, hj, ⟨h1, h2⟩, h3⟩
    split at h3
    · rename_i o ho; exact ⟨j, o, ho, h1, h2, by simpa using h3⟩
    · cases h3
  · rintro ⟨j, o, ho, h1, h2, h3⟩
    exact ⟨j, (Array.getElem?_eq_some_iff.1 ho).1, ⟨h1, h2⟩, by simp [ho, h3]⟩
theorem pendL_iff {dn : Nat} {ls : Array Bool} {t : Nat} : pendL esc ops dn ls t = true ↔ ∃ j o, ops[j]? = some o ∧ dn.testBit j = true ∧ ls.getD j false = false ∧ isLA esc o = true ∧ o.dst = some t := by
  unfold pendL
  simp only [List.any_eq_true, List.mem_range, Bool.and_eq_true, Bool.not_eq_true']
  constructor
  · rintro ⟨j, hj, ⟨h1, h2⟩, h3⟩
    split at h3
    · rename_i o ho
      simp only [Bool.and_eq_true, beq_iff_eq] at h3
      exact ⟨j, o, ho, h1, h2, h3.1, h3.2⟩
    · cases h3
  · rintro ⟨j, o, ho, h1, h2, h3, h4⟩
    exact ⟨j, (Array.getElem?_eq_some_iff.1 ho).1, ⟨h1, h2⟩, by simp [ho, h3, h4]⟩
theorem bool_false_of {b : Bool} (h : b = true → False) : b = false := by cases b <;> simp_all
theorem get_put_ne (s : Cf) {d : Option Nat} {v : PV} {t : Nat} (h : d ≠ some t) : get (s.put d v).env t = get s.env t := by
  cases d with
  | none => rfl
  | some d =>
    simp only [Cf.put]
    split
    · simp only [get_pp]
      rw [if_neg]
      intro z; subst z; exact h rfl
    · rfl
theorem get_put_eq (s : Cf) {d : Nat} {v : PV} (h : d < s.n) : get (s.put (some d) v).env d = v := by
  simp only [Cf.put, if_pos h, get_pp, if_true]
theorem cf_put_loc (s : Cf) (d : Option Nat) (v : PV) : (s.put d v).loc = s.loc := by
  cases d with
  | none => rfl
  | some d => simp only [Cf.put]; split <;> rfl
/-- Where a drawing region stands. -/
structure DI (tt : TT) (esc : List Nat) (ops : Array Oper) (A : List Nat) (mx : Nat) (l : List (Nat × List Nat)) (dn em : Nat) (ls : Array Bool) (s : Cf) : Prop where
  size : ls.size = ops.size
  sub : ∀ i, ls.getD i false = true → dn.testBit i = true
  eff : ∀ i o, dn.testBit i = true → ops[i]? = some o → isE esc o = true → ls.getD i false = true
  closed : ∀ i o, ls.getD i false = true → ops[i]? = some o → ∀ e ∈ o.after, Region.binds .any e = true → ls.getD e.on false = true
  cover : ∀ i, i < ops.size → dn.testBit i = true ∨ i ∈ l.map (·.1)
  seq : seqOk esc ops A mx l dn em = true
  anc : ∀ i o, dn.testBit i = true → ops[i]? = some o → ∀ j oj, ops[j]? = some oj → (A.getD i 0).testBit j = true → dn.testBit j = true
  dst : ∀ i o, dn.testBit i = true → ops[i]? = some o → (∀ d, o.dst = some d → d ≤ mx) ∧ (isLA esc o = true → o.guard = none)
  mx : mx < s.n
  pend : ∀ i o, ops[i]? = some o → dn.testBit i = true → ls.getD i false = false → PendOk tt esc ops s o
end Go.Pv
-- PvDraw2
namespace Go.Pv
open Go Go.RowKit
variable {P : Program} {tt : TT} {G : Sett} {fl : Nat → Nat} {B : Nat} {s s' s2 : Cf} {a : Act} {w : World} {esc : List Nat} {ops : Array Oper} {A : List Nat} {mx dn em i : Nat} {l : List (Nat × List Nat)} {ls : Array Bool} {o : Oper}
theorem DI.nonE (d : DI tt esc ops A mx l dn em ls s) {j : Nat} {oj : Oper} (hj : ops[j]? = some oj) (h1 : dn.testBit j = true) (h2 : ls.getD j false = false) : isE esc oj = false :=
  bool_false_of fun q => by rw [d.eff j oj h1 hj q] at h2; cases h2
theorem DI.ahead (st : Stat esc ops A) (d : DI tt esc ops A mx l dn em ls s) (ho : ops[i]? = some o) (hr : ∀ e ∈ o.after, Region.binds .any e = true → ls.getD e.on false = true) {j : Nat} (hj : (A.getD i 0).testBit j = true) : ls.getD j false = true :=
  anc_done st.anc (D := fun k => ls.getD k false = true) d.closed i o ho hr j hj
theorem DI.slots (st : Stat esc ops A) (d : DI tt esc ops A mx l dn em ls s) (ho : ops[i]? = some o) (hr : ∀ e ∈ o.after, Region.binds .any e = true → ls.getD e.on false = true) : ∀ t ∈ o.looksAt ops, pendM ops dn ls t = false := by
  intro t ht
  refine bool_false_of fun q => ?_
  obtain ⟨j, oj, hj, h1, h2, h3⟩ := pendM_iff.1 q
  have hn := d.nonE hj h1 h2
  have hl := st.look i j o oj ho hj
  by_cases e : j = i
  · have := hl.self t h3 ht e
    subst e
    rw [ho] at hj
    cases hj
    rw [hn] at this
    cases this
  · rcases hl.look t h3 ht e with z | ⟨z, _⟩
    · rw [d.ahead st ho hr z] at h2; cases h2
    · rw [hn] at z; cases z
theorem paddr_σ (h : s2.σ = s.σ) (v : Value) : paddr s2 (.val v) = paddr s (.val v) := by
  cases v with
  | pointer p =>
    cases p with
    | none => rfl
    | some a =>
      obtain ⟨b, o, sp⟩ := a
      cases sp with
      | none =>
        show (match s2.σ.obj b with | some (.cells cs) => some (cs, o) | _ => none) = _
        rw [h]
        rfl
      | some _ => rfl
  | _ => rfl
theorem slot_fl {fl' : Nat → Nat} {v : PV} {u : Value} (h : SlotRel G fl v u) (hf : ∀ d off, v = .lptr d off → fl' d = fl d) : SlotRel G fl' v u := by
  cases v with
  | lptr d off =>
    have h : u = .pointer (some ⟨fl d, off, none⟩) := h
    show u = .pointer (some ⟨fl' d, off, none⟩)
    rw [hf d off rfl]
    exact h
  | _ => exact h
/-- An operation that turns nothing is gone through ahead of its time. -/
theorem DI.adv (st : Stat esc ops A) {cs : List Nat} (d : DI tt esc ops A mx ((i, cs) :: l) dn em ls s) (ho : ops[i]? = some o) (hE : isE esc o = false) (hn : s2.n = s.n) (hσ : s2.σ = s.σ) (henv : ∀ t, o.dst ≠ some t → get s2.env t = get s.env t)
    (hloc : ∀ k, getL s2.loc k = getL s.loc k ∨ (isLA esc o = true ∧ o.dst = some k)) (hno : isLA esc o = true → ∀ k, o.dst = some k → noL k s.env = true) (hp : PendOk tt esc ops s2 o) : DI tt esc ops A mx l (dn ||| 2 ^ i) em ls s2 := by
  obtain ⟨o', ho', hop, hl⟩ := seqOk_cons d.seq
  rw [ho] at ho'
  cases ho'
  rw [hE] at hl
  refine ⟨d.size, fun k hk => (bit_or _ _ _).2 (.inl (d.sub k hk)), fun k ok hk hok hke => ?_, d.closed, fun k hk => ?_, by simpa using hl, fun k ok hk hok j oj hoj hj => ?_, fun k ok hk hok => ?_, by rw [hn]; exact d.mx, fun k ok hok hk hls => ?_⟩
  · rcases (bit_or _ _ _).1 hk with q | q
    · exact d.eff k ok q hok hke
    · subst q; rw [ho] at hok; cases hok; rw [hE] at hke; cases hke
  · rcases d.cover k hk with q | q
    · exact .inl ((bit_or _ _ _).2 (.inl q))
    · simp only [List.map_cons, List.mem_cons] at q
      rcases q with q | q
      · exact .inl ((bit_or _ _ _).2 (.inr q))
      · exact .inr q
  · rcases (bit_or _ _ _).1 hk with q | q
    · exact (bit_or _ _ _).2 (.inl (d.anc k ok q hok j oj hoj hj))
    · subst q
      exact (bit_or _ _ _).2 (.inl ((hop.turn j oj hoj).anc hj))
  · rcases (bit_or _ _ _).1 hk with q | q
    · exact d.dst k ok q hok
    · subst q; rw [ho] at hok; cases hok; exact ⟨hop.mx, hop.free⟩
  · rcases (bit_or _ _ _).1 hk with q | q
    · have hne : i ≠ k := fun z => by subst z; rw [hop.new] at q; cases q
      have hl := st.look k i ok o hok ho
      have hdl : ∀ t ∈ ok.looksAt ops, o.dst ≠ some t := fun t ht z => by
        rcases hl.look t z ht hne with y | ⟨y, _⟩
        · have := d.anc k ok q hok i o ho y
          rw [hop.new] at this; cases this
        · rw [hE] at y; cases y
      have hdd : ∀ t, ok.dst = some t → o.dst ≠ some t := fun t ht z => by
        have := (hl.uniq t z ht hne).2
        rw [hE] at this; cases this
      have he : ∀ t ∈ ok.looksAt ops, get s2.env t = get s.env t := fun t ht => henv t (hdl t ht)
      refine (d.pend k ok hok q hls).agr he (fun t ht => henv t (hdd t ht)) (by rw [hσ]) (fun _ t ht => ?_) (fun hrop _ v hv _ => ?_)
      · rcases hloc t with y | ⟨_, y⟩
        · exact y
        · exact absurd y (hdd t ht)
      · rw [← hv]
        refine pread_agr (fun x hx => eval_agr he (by rw [hσ]) hx) fun _ => ⟨by rw [hσ], fun x hx => ?_⟩
        rw [eval_agr he (by rw [hσ]) hx]
        cases ev : eval s x with
        | lptr d' off =>
          show (getL s2.loc d').map _ = (getL s.loc d').map _
          rcases hloc d' with y | ⟨y1, y2⟩
          · rw [y]
          · cases x with
            | tmp t =>
              exact absurd rfl (get_noL (hno y1 d' y2) (t := t) (o := off) ev)
            | const v => cases v <;> cases ev
            | global g => simp only [eval] at ev; split at ev <;> cases ev
            | func f => cases ev
        | val v => exact paddr_σ hσ v
        | _ => rfl
    · subst q; rw [ho] at hok; cases hok; exact hp
theorem rep_adv {cs : List Nat} (d : DI tt esc ops A mx ((i, cs) :: l) dn em ls s) (ho : ops[i]? = some o) (hn : s2.n = s.n) (hσ : s2.σ = s.σ) (henv : ∀ t, o.dst ≠ some t → get s2.env t = get s.env t)
    (hloc : ∀ k, getL s2.loc k = getL s.loc k ∨ (isLA esc o = true ∧ o.dst = some k)) (hno : isLA esc o = true → ∀ k, o.dst = some k → noL k s.env = true)
    (r : RepM (pendL esc ops dn ls) G fl B (mask (pendM ops dn ls) (pendL esc ops dn ls) s) a w) :
    RepM (pendL esc ops (dn ||| 2 ^ i) ls) G fl B (mask (pendM ops (dn ||| 2 ^ i) ls) (pendL esc ops (dn ||| 2 ^ i) ls) s2) a w := by
  obtain ⟨o', ho', hop, _⟩ := seqOk_cons d.seq
  rw [ho] at ho'
  cases ho'
  have hun : ls.getD i false = false := bool_false_of fun q => by have := hop.new; rw [d.sub i q] at this; cases this
  have hM : ∀ t, pendM ops (dn ||| 2 ^ i) ls t = false → pendM ops dn ls t = false ∧ o.dst ≠ some t := fun t ht => by
    refine ⟨bool_false_of fun q => ?_, fun q => ?_⟩
    · obtain ⟨j, oj, hj, h1, h2, h3⟩ := pendM_iff.1 q
      rw [pendM_iff.2 ⟨j, oj, hj, (bit_or _ _ _).2 (.inl h1), h2, h3⟩] at ht; cases ht
    · rw [pendM_iff.2 ⟨i, o, ho, (bit_or _ _ _).2 (.inr rfl), hun, q⟩] at ht; cases ht
  have hL : ∀ t, pendL esc ops (dn ||| 2 ^ i) ls t = false → pendL esc ops dn ls t = false ∧ ¬ (isLA esc o = true ∧ o.dst = some t) := fun t ht => by
    refine ⟨bool_false_of fun q => ?_, fun q => ?_⟩
    · obtain ⟨j, oj, hj, h1, h2, h3⟩ := pendL_iff.1 q
      rw [pendL_iff.2 ⟨j, oj, hj, (bit_or _ _ _).2 (.inl h1), h2, h3⟩] at ht; cases ht
    · rw [pendL_iff.2 ⟨i, o, ho, (bit_or _ _ _).2 (.inr rfl), hun, q.1, q.2⟩] at ht; cases ht
  have hL2 : ∀ t, ¬ (isLA esc o = true ∧ o.dst = some t) → pendL esc ops dn ls t = false → pendL esc ops (dn ||| 2 ^ i) ls t = false := fun t ht hq => by
    refine bool_false_of fun q => ?_
    obtain ⟨j, oj, hj, h1, h2, h3, h4⟩ := pendL_iff.1 q
    rcases (bit_or _ _ _).1 h1 with z | z
    · rw [pendL_iff.2 ⟨j, oj, hj, z, h2, h3, h4⟩] at hq; cases hq
    · subst z; rw [ho] at hj; cases hj; exact ht ⟨h3, h4⟩
  intro fl2 hoff
  let fl1 : Nat → Nat := fun x => if pendL esc ops dn ls x = true then fl2 x else fl x
  have hoff1 : Off (pendL esc ops dn ls) fl fl1 := fun x hx => by
    show (if _ then _ else _) = _
    rw [hx, if_neg (by simp)]
  have r1 := r fl1 hoff1
  have hfl : ∀ x, ¬ (isLA esc o = true ∧ o.dst = some x) → fl2 x = fl1 x := fun x hx => by
    show _ = (if _ then _ else _)
    split
    · rfl
    · rename_i q
      exact hoff x (hL2 x hx (by simpa using q))
  refine ⟨by show Inv G s2.σ w; rw [hσ]; exact r1.inv, r1.size.trans hn.symm, fun t => ?_, ⟨fun k cs hk => ?_, fun k k' h1 h2 e => ?_⟩, r1.defers, r1.base⟩
  · show SlotRel G fl2 (get (maskE _ s2.env) t) _
    rw [get_mask]
    split
    · trivial
    · rename_i q
      obtain ⟨q1, q2⟩ := hM t (by simpa using q)
      rw [henv t q2]
      have := r1.env t
      have e : get (mask (pendM ops dn ls) (pendL esc ops dn ls) s).env t = get s.env t := by
        show get (maskE _ s.env) t = _
        rw [get_mask, q1]; rfl
      rw [e] at this
      refine slot_fl this fun d' off ev => hfl d' fun z => ?_
      exact absurd rfl (get_noL (hno z.1 d' z.2) ev)
  · have hk : getL (maskE _ s2.loc) k = some cs := hk
    rw [getL_mask] at hk
    split at hk
    · cases hk
    · rename_i q
      obtain ⟨q1, q2⟩ := hL k (by simpa using q)
      have e : getL (mask (pendM ops dn ls) (pendL esc ops dn ls) s).loc k = some cs := by
        show getL (maskE _ s.loc) k = _
        rw [getL_mask, q1]
        rcases hloc k with y | y
        · rw [y] at hk; simpa using hk
        · exact absurd y q2
      rw [hfl k q2]
      show _ ∧ ¬ s2.σ.vary _ ∧ _
      rw [hσ]
      exact r1.loc.at_ k cs e
  · have key : ∀ k, getL (mask (pendM ops (dn ||| 2 ^ i) ls) (pendL esc ops (dn ||| 2 ^ i) ls) s2).loc k ≠ none → getL (mask (pendM ops dn ls) (pendL esc ops dn ls) s).loc k ≠ none ∧ fl2 k = fl1 k := fun k hk => by
      have hk : getL (maskE _ s2.loc) k ≠ none := hk
      rw [getL_mask] at hk
      split at hk
      · exact absurd rfl hk
      · rename_i q
        obtain ⟨q1, q2⟩ := hL k (by simpa using q)
        refine ⟨?_, hfl k q2⟩
        show getL (maskE _ s.loc) k ≠ none
        rw [getL_mask, q1]
        rcases hloc k with y | y
        · rw [y] at hk; simpa using hk
        · exact absurd y q2
    obtain ⟨a1, a2⟩ := key k h1
    obtain ⟨b1, b2⟩ := key k' h2
    rw [a2, b2] at e
    exact r1.loc.inj k k' a1 b1 e
/-- All that turns nothing and can be gone through is. -/
theorem advance (st : Stat esc ops A) {K : Cf → Prop} {X : PV → Cf → Prop} {C : Prop} : ∀ (l : List (Nat × List Nat)) (dn em : Nat) (s : Cf), DI tt esc ops A mx l dn em ls s → RepM (pendL esc ops dn ls) G fl B (mask (pendM ops dn ls) (pendL esc ops dn ls) s) a w → pdseq P tt esc ops K X l s →
    (∀ l' dn' em' s', DI tt esc ops A mx l' dn' em' ls s' → RepM (pendL esc ops dn' ls) G fl B (mask (pendM ops dn' ls) (pendL esc ops dn' ls) s') a w → pdseq P tt esc ops K X l' s' → s'.σ = s.σ → s'.n = s.n → (∀ i cs l2, l' = (i, cs) :: l2 → ∃ o, ops[i]? = some o ∧ isE esc o = true) → C) → C
  | [], dn, em, s, d, r, h, hC => hC [] dn em s d r h rfl rfl fun i cs l2 q => by cases q
  | (i, cs) :: l, dn, em, s, d, r, h, hC => by
    obtain ⟨o, ho, hop, hl⟩ := seqOk_cons d.seq
    by_cases hE : isE esc o = true
    · exact hC _ dn em s d r h rfl rfl fun i' cs' l2 q => by cases q; exact ⟨o, ho, hE⟩
    · have hE : isE esc o = false := by simpa using hE
      simp only [pdseq, ho] at h
      have hmx : ∀ t, o.dst = some t → t < s.n := fun t ht => Nat.lt_of_le_of_lt (hop.mx t ht) d.mx
      -- a configuration that differs in the slot alone
      have plain : ∀ v, (gval ops s.env o = some true ∧ isLA esc o = false ∧ ((∃ v', pread tt s o.type o.op = some v' ∧ v = v') ∨ ∃ t n ps, o.op = .buildSlice t n ps ∧ pbuildV tt t n (pparts s ps.toList) = some v)) ∨ (gval ops s.env o = some false ∧ v = undefV) → pdseq P tt esc ops K X l (s.put o.dst v) → C := by
        intro v hv hnext
        have henv : ∀ t, o.dst ≠ some t → get (s.put o.dst v).env t = get s.env t := fun t ht => get_put_ne s ht
        have hloc : ∀ k, getL (s.put o.dst v).loc k = getL s.loc k := fun k => by rw [cf_put_loc]
        have hself : ∀ t ∈ o.looksAt ops, get (s.put o.dst v).env t = get s.env t := fun t ht => henv t fun z => by
          have := (st.look i i o o ho ho).self t z ht rfl
          rw [hE] at this; cases this
        have hgl : (s.put o.dst v).σ.gl = s.σ.gl := by rw [cf_put_σ]
        have hp : PendOk tt esc ops (s.put o.dst v) o := by
          rcases hv with ⟨hg, hla, hv⟩ | ⟨hg, hv⟩
          · refine .inl ⟨by rw [gval_agr hself]; exact hg, ?_⟩
            rcases hv with ⟨v', hv', rfl⟩ | ⟨t, n, ps, h1, h2⟩
            · refine .inr (.inl ⟨hla, v, ?_, fun t ht => by rw [ht]; exact get_put_eq s (hmx t ht)⟩)
              rw [← hv']
              refine pread_agr (fun x hx => eval_agr hself hgl hx) fun _ => ⟨by rw [cf_put_σ], fun x hx => ?_⟩
              rw [eval_agr hself hgl hx]
              unfold paddr
              rw [cf_put_loc, cf_put_σ]
            · refine .inr (.inr ⟨t, n, ps, v, h1, ?_, fun t ht => by rw [ht]; exact get_put_eq s (hmx t ht)⟩)
              rw [pparts_agr (s := s.put o.dst v) (s' := s) fun p hp => eval_agr hself hgl (by rw [h1]; simp [Op.operands]; exact ⟨p.1, by simpa using hp⟩)]
              exact h2
          · refine .inr ⟨by rw [gval_agr hself]; exact hg, fun t ht => ?_⟩
            rw [ht, hv]; exact get_put_eq s (hmx t ht)
        by_cases q : isLA esc o = true
        · -- it is skipped: the slot alone
          rcases hv with ⟨_, z, _⟩ | ⟨hg, hv⟩
          · rw [q] at z; cases z
          · unfold gval at hg
            rw [hop.free q] at hg
            cases hg
        · refine advance st l _ _ _ (d.adv st ho hE (cf_put_n _ _ _) (cf_put_σ _ _ _) henv (fun k => .inl (hloc k)) (fun z => absurd z q) hp) (rep_adv d ho (cf_put_n _ _ _) (cf_put_σ _ _ _) henv (fun k => .inl (hloc k)) (fun z => absurd z q) r) hnext ?_
          intro l' dn' em' s' d' r' h' e1 e2
          exact hC l' dn' em' s' d' r' h' (e1.trans (cf_put_σ _ _ _)) (e2.trans (cf_put_n _ _ _))
      rcases guarded_gval h with ⟨hg, h⟩ | ⟨hg, h⟩
      · rcases nonE_step hE h with ⟨v, hv, hk⟩ | ⟨hla, hk⟩ | ⟨t, n, ps, v, h1, h2, hk⟩
        · have hla : isLA esc o = false := bool_false_of fun q => by
            unfold isLA at q
            split at q <;> rename_i z
            · rw [z] at hv; cases hv
            · rw [z] at hv; cases hv
            · cases q
          exact plain v (.inl ⟨hg, hla, .inl ⟨v, hv, rfl⟩⟩) hk.2
        · obtain ⟨k, cells, hd, hc, hnl, hk⟩ := peff_la hla hk
          have hk := hk.2
          rw [hd] at hk
          have hself : ∀ t ∈ o.looksAt ops, o.dst ≠ some t := fun t ht z => by
            have := (st.look i i o o ho ho).self t z ht rfl
            rw [hE] at this; cases this
          have hgoal : ∀ s2 : Cf, s2 = ({ s with loc := (k, cells) :: s.loc } : Cf).put (some k) (.lptr k 0) → C := by
            intro s2 e2
            have hn2 : s2.n = s.n := by rw [e2, cf_put_n]
            have hσ2 : s2.σ = s.σ := by rw [e2, cf_put_σ]
            have henv : ∀ t, o.dst ≠ some t → get s2.env t = get s.env t := fun t ht => by
              rw [e2, get_put_ne _ (by rw [← hd]; exact ht)]
            have hloc2 : s2.loc = (k, cells) :: s.loc := by rw [e2, cf_put_loc]
            have hloc : ∀ k', getL s2.loc k' = getL s.loc k' ∨ (isLA esc o = true ∧ o.dst = some k') := fun k' => by
              rw [hloc2]
              simp only [getL]
              split
              · rename_i q; subst q; exact .inr ⟨hla, hd⟩
              · exact .inl rfl
            have hno : isLA esc o = true → ∀ k', o.dst = some k' → noL k' s.env = true := fun _ k' q => by rw [hd] at q; cases q; exact hnl
            have hse : ∀ t ∈ o.looksAt ops, get s2.env t = get s.env t := fun t ht => henv t (hself t ht)
            have hp : PendOk tt esc ops s2 o := by
              refine .inl ⟨by rw [gval_agr hse]; exact hg, .inl ⟨hla, k, cells, hd, ?_, by rw [hloc2]; simp [getL], ?_⟩⟩
              · rw [lacells_agr (fun x hx => eval_agr hse (by rw [hσ2]) hx)]; exact hc
              · rw [e2]; exact get_put_eq _ (hmx k hd)
            refine advance st l _ _ _ (d.adv st ho hE hn2 hσ2 henv hloc hno hp) (rep_adv d ho hn2 hσ2 henv hloc hno r) (e2 ▸ hk) ?_
            intro l' dn' em' s' d' r' h' e1 e3
            exact hC l' dn' em' s' d' r' h' (e1.trans hσ2) (e3.trans hn2)
          exact hgoal _ rfl
        · have hla : isLA esc o = false := by unfold isLA; rw [h1]
          exact plain v (.inl ⟨hg, hla, .inr ⟨t, n, ps, h1, h2⟩⟩) hk.2
      · exact plain undefV (.inr ⟨hg, rfl⟩) h
end Go.Pv
-- PvDraw3
namespace Go.Pv
open Go Go.RowKit
variable {P : Program} {tt : TT} {G : Sett} {fl : Nat → Nat} {B : Nat} {s s' s2 : Cf} {a : Act} {w : World} {esc : List Nat} {ops : Array Oper} {A : List Nat} {mx dn em i : Nat} {l : List (Nat × List Nat)} {ls : Array Bool} {o : Oper}
theorem set_self (hs : ls.size = ops.size) (ho : ops[i]? = some o) : (ls.setIfInBounds i true).getD i false = true := by
  have hlt : i < ls.size := by rw [hs]; exact (Array.getElem?_eq_some_iff.1 ho).1
  rw [Array.getD_eq_getD_getElem?, Array.getElem?_setIfInBounds_self_of_lt hlt]; rfl
theorem set_iff (hs : ls.size = ops.size) (ho : ops[i]? = some o) (j : Nat) : (ls.setIfInBounds i true).getD j false = true ↔ ls.getD j false = true ∨ j = i := by
  by_cases h : j = i
  · subst h
    simp only [set_self hs ho, or_true]
  · rw [getD_set_ne false (Ne.symm h)]
    simp [h]
theorem set_false (hs : ls.size = ops.size) (ho : ops[i]? = some o) (j : Nat) : (ls.setIfInBounds i true).getD j false = false ↔ ls.getD j false = false ∧ j ≠ i := by
  have := set_iff hs ho j
  constructor
  · intro h
    refine ⟨bool_false_of fun q => ?_, fun q => ?_⟩
    · rw [this.2 (.inl q)] at h; cases h
    · rw [this.2 (.inr q)] at h; cases h
  · rintro ⟨h1, h2⟩
    refine bool_false_of fun q => ?_
    rcases this.1 q with z | z
    · rw [z] at h1; cases h1
    · exact h2 z
/-- The slots ahead are as they will be. -/
theorem DI.take (d : DI tt esc ops A mx l dn em ls s) (ho : ops[i]? = some o) (hdn : dn.testBit i = true) (hr : ∀ e ∈ o.after, Region.binds .any e = true → ls.getD e.on false = true) : DI tt esc ops A mx l dn em (ls.setIfInBounds i true) s where
  size := by simp [d.size]
  sub := fun k hk => by
    rcases (set_iff d.size ho k).1 hk with q | q
    · exact d.sub k q
    · rw [q]; exact hdn
  eff := fun k ok h1 h2 h3 => (set_iff d.size ho k).2 (.inl (d.eff k ok h1 h2 h3))
  closed := fun k ok h1 h2 e he hb => by
    refine (set_iff d.size ho _).2 (.inl ?_)
    rcases (set_iff d.size ho k).1 h1 with q | q
    · exact d.closed k ok q h2 e he hb
    · subst q; rw [ho] at h2; cases h2; exact hr e he hb
  cover := d.cover
  seq := d.seq
  anc := d.anc
  dst := d.dst
  mx := d.mx
  pend := fun k ok h1 h2 h3 => d.pend k ok h1 h2 ((set_false d.size ho k).1 h3).1
/-- One that was gone through ahead of its time has its time. -/
theorem pending_step (hT : TOk P tt) (st : Stat esc ops A) (d : DI tt esc ops A mx l dn em ls s) (r : RepM (pendL esc ops dn ls) G fl B (mask (pendM ops dn ls) (pendL esc ops dn ls) s) a w) (ho : ops[i]? = some o) (hdn : dn.testBit i = true) (hun : ls.getD i false = false)
    (hr : ∀ e ∈ o.after, Region.binds .any e = true → ls.getD e.on false = true) {Q : Exit → Act → World → Prop} {next : Act → World → Prop}
    (hK : ∀ G' fl' a' w', RepM (pendL esc ops dn (ls.setIfInBounds i true)) G' fl' B (mask (pendM ops dn (ls.setIfInBounds i true)) (pendL esc ops dn (ls.setIfInBounds i true)) s) a' w' → Step B G s.σ w G' s.σ w' → next a' w') :
    wpOp P ops Q i next a w := by
  unfold wpOp
  rw [ho]
  simp only []
  have hE := d.nonE ho hdn hun
  have hslots := d.slots st ho hr
  have hmx : ∀ t, o.dst = some t → t < s.n := fun t ht => Nat.lt_of_le_of_lt ((d.dst i o hdn ho).1 t ht) d.mx
  have hM : ∀ t, pendM ops dn (ls.setIfInBounds i true) t = false → pendM ops dn ls t = false ∨ o.dst = some t := fun t ht => by
    cases q : pendM ops dn ls t with
    | false => exact .inl rfl
    | true =>
      right
      obtain ⟨j, oj, hj, h1, h2, h3⟩ := pendM_iff.1 q
      by_cases e : j = i
      · subst e; rw [ho] at hj; cases hj; exact h3
      · rw [pendM_iff.2 ⟨j, oj, hj, h1, (set_false d.size ho j).2 ⟨h2, e⟩, h3⟩] at ht; cases ht
  have hgv : ∀ {b}, gval ops s.env o = some b → Region.wanted o (yielded ops a.tmps) = b := fun {b} hb => by
    refine gval_wanted (s := mask (pendM ops dn ls) (pendL esc ops dn ls) s) r.rep ?_
    rw [gval_agr (env := s.env) fun t ht => ?_]
    · exact hb
    · show get (maskE _ s.env) t = _
      rw [get_mask, hslots t ht]; rfl
  have hL0 : isLA esc o = false → ∀ t, pendL esc ops dn (ls.setIfInBounds i true) t = pendL esc ops dn ls t := fun hla t => by
    rw [Bool.eq_iff_iff, pendL_iff, pendL_iff]
    constructor
    · rintro ⟨j, oj, hj, h1, h2, h3⟩
      exact ⟨j, oj, hj, h1, ((set_false d.size ho j).1 h2).1, h3⟩
    · rintro ⟨j, oj, hj, h1, h2, h3, h4⟩
      refine ⟨j, oj, hj, h1, (set_false d.size ho j).2 ⟨h2, fun e => ?_⟩, h3, h4⟩
      subst e; rw [ho] at hj; cases hj; rw [hla] at h3; cases h3
  -- a value for the slot, the world as it was or grown
  have plain : ∀ {v : PV} {G' : Sett} {w' : World} {u : Value}, (∀ t, o.dst = some t → get s.env t = v) → (isLA esc o = true → ∀ t, o.dst = some t → getL s.loc t = none ∨ True) → (∀ t, pendL esc ops dn (ls.setIfInBounds i true) t = pendL esc ops dn ls t) →
      (∀ fl', Off (pendL esc ops dn ls) fl fl' → Rep G' fl' B (mask (pendM ops dn ls) (pendL esc ops dn ls) s) a w' ∧ SlotRel G' fl' v u) → Step B G s.σ w G' s.σ w' → next (a.put o.dst u) w' := by
    intro v G' w' u hv _ hL hrep hst
    refine hK G' fl _ _ (fun fl' hoff => ?_) hst
    have hoff' : Off (pendL esc ops dn ls) fl fl' := fun x hx => hoff x (by rw [hL]; exact hx)
    obtain ⟨r1, hs⟩ := hrep fl' hoff'
    refine (r1.put o.dst hs).less ⟨by rw [cf_put_n]; rfl, fun t => ?_, fun k => ?_, by rw [cf_put_σ]; exact .refl _⟩
    · show get (maskE _ s.env) t = _ ∨ get (maskE _ s.env) t = _
      rw [get_mask]
      split
      · exact .inl rfl
      · right
        rename_i q
        by_cases e : o.dst = some t
        · rw [e, get_put_eq (mask (pendM ops dn ls) (pendL esc ops dn ls) s) (hmx t e)]
          exact hv t e
        · rw [get_put_ne _ e]
          show _ = get (maskE _ s.env) t
          rw [get_mask]
          rcases hM t (by simpa using q) with z | z
          · rw [z]; rfl
          · exact absurd z e
    · right
      show getL (maskE _ s.loc) k = _
      rw [cf_put_loc]
      show _ = getL (maskE _ s.loc) k
      rw [getL_mask, getL_mask, hL]
  rcases d.pend i o ho hdn hun with ⟨hg, hrun⟩ | ⟨hg, hv⟩
  · rw [hgv hg, if_pos rfl]
    left
    have hclear : ∀ x ∈ o.op.operands.toList, Clear (pendM ops dn ls) (pendL esc ops dn ls) s x := fun x hx => r.clear fun t e => hslots t (mem_looks (e ▸ hx))
    have hkeys : ∀ k, getL (mask (pendM ops dn ls) (pendL esc ops dn ls) s).loc k ≠ none → pendL esc ops dn ls k = false := fun k hk => bool_false_of fun q => by
      apply hk
      show getL (maskE _ s.loc) k = none
      rw [getL_mask, q]; rfl
    have many : ∀ v, isLA esc o = false → (pstep P tt esc (mask (pendM ops dn ls) (pendL esc ops dn ls) s) o (fun v' s1 => v' = v ∧ s1 = mask (pendM ops dn ls) (pendL esc ops dn ls) s) (fun _ _ => False)) → (∀ t, o.dst = some t → get s.env t = v) → o.wp P a w next Q := by
      intro v hla hp hv
      refine pstep_many hT r hkeys hla hp (fun v' s1 G' w' u hk hrep hst hn => ?_) (fun G' s1 a' w' v' u hx => hx.elim)
      obtain ⟨rfl, rfl⟩ := hk
      exact plain hv (fun _ _ _ => .inr trivial) (hL0 hla) hrep hst
    rcases hrun with ⟨hla, k, cells, h2, h3, h4, h5⟩ | ⟨hla, v, h2, h3⟩ | ⟨t, n, ps, v, h1, h2, h3⟩
    · -- a new local object
      have hcells : lacells tt (mask (pendM ops dn ls) (pendL esc ops dn ls) s) o.op = some cells := by
        rw [lacells_agr (s := s) fun x hx => (hclear x hx).eval]; exact h3
      obtain ⟨us, T, hus, hrunk⟩ := la_run (P := P) hT r.rep hcells
      unfold Oper.wp Oper.upon
      rw [hrunk]
      have hkL : pendL esc ops dn ls k = true := pendL_iff.2 ⟨i, o, ho, hdn, hun, hla, h2⟩
      have hkM : pendM ops dn ls k = true := pendM_iff.2 ⟨i, o, ho, hdn, hun, h2⟩
      have hL' : ∀ t, pendL esc ops dn (ls.setIfInBounds i true) t = false → t ≠ k → pendL esc ops dn ls t = false := fun t ht hne => bool_false_of fun q => by
        obtain ⟨j, oj, hj, q1, q2, q3, q4⟩ := pendL_iff.1 q
        have hji : j ≠ i := fun z => by subst z; rw [ho] at hj; cases hj; rw [h2] at q4; cases q4; exact hne rfl
        rw [pendL_iff.2 ⟨j, oj, hj, q1, (set_false d.size ho j).2 ⟨q2, hji⟩, q3, q4⟩] at ht; cases ht
      have hLk : pendL esc ops dn (ls.setIfInBounds i true) k = false := bool_false_of fun q => by
        obtain ⟨j, oj, hj, q1, q2, q3, q4⟩ := pendL_iff.1 q
        have q2 := (set_false d.size ho j).1 q2
        have := ((st.look i j o oj ho hj).uniq k q4 h2 q2.2).1
        rw [hE] at this; cases this
      have hL2 : ∀ t, t ≠ k → pendL esc ops dn ls t = false → pendL esc ops dn (ls.setIfInBounds i true) t = false := fun t _ ht => bool_false_of fun q => by
        obtain ⟨j, oj, hj, q1, q2, q3, q4⟩ := pendL_iff.1 q
        rw [pendL_iff.2 ⟨j, oj, hj, q1, ((set_false d.size ho j).1 q2).1, q3, q4⟩] at ht; cases ht
      refine hK G (fun x => if x = k then w.heap.size else fl x) _ _ (fun fl' hoff => ?_) (step_base r.rep (step_alloc _))
      have hk' : fl' k = w.heap.size := by rw [hoff k hLk]; exact if_pos rfl
      have hoff' : Off (pendL esc ops dn ls) fl fl' := fun x hx => by
        have hne : x ≠ k := fun z => by subst z; rw [hkL] at hx; cases hx
        rw [hoff x (hL2 x hne hx)]; exact if_neg hne
      have r1 := (r fl' hoff').localNew k T hus
      have e : (fun x => if x = k then w.heap.size else fl' x) = fl' := by
        funext x
        split
        · rename_i q; subst q; exact hk'.symm
        · rfl
      rw [e] at r1
      have r2 := r1.put o.dst (v := .lptr k 0) (u := .pointer (some ⟨w.heap.size, 0, none⟩)) (by show _ = Value.pointer (some ⟨fl' k, 0, none⟩); rw [hk'])
      refine r2.less ⟨by rw [cf_put_n]; rfl, fun t => ?_, fun t => ?_, by rw [cf_put_σ]; exact .refl _⟩
      · show get (maskE _ s.env) t = _ ∨ get (maskE _ s.env) t = _
        rw [get_mask]
        split
        · exact .inl rfl
        · right
          rename_i q
          by_cases ek : o.dst = some t
          · rw [h2] at ek; cases ek
            rw [h2, h5]
            refine (get_put_eq _ ?_).symm
            exact hmx k h2
          · rw [get_put_ne _ ek]
            show _ = get (kill k (maskE _ s.env)) t
            rw [get_kill, get_mask]
            rcases hM t (by simpa using q) with z | z
            · rw [z, if_neg (by simp)]
              cases ev : get s.env t with
              | lptr d' off =>
                have hd' : pendL esc ops dn ls d' = false := r.ptr (t := t) (off := off) (by
                  show get (maskE _ s.env) t = _
                  rw [get_mask, z, if_neg (by simp)]; exact ev)
                have hne : d' ≠ k := fun z => by subst z; rw [hkL] at hd'; cases hd'
                simp only [kill1, if_neg hne]
              | _ => rfl
            · exact absurd z ek
      · show getL (maskE _ s.loc) t = none ∨ getL (maskE _ s.loc) t = _
        rw [cf_put_loc, getL_mask]
        split
        · exact .inl rfl
        · right
          rename_i q
          show _ = if k = t then some cells else getL (maskE _ s.loc) t
          split
          · rename_i z; subst z; exact h4
          · rename_i z
            rw [getL_mask, hL' t (by simpa using q) (fun y => z y.symm)]; rfl
    · refine many v hla ?_ h3
      unfold pstep
      rw [pread_mask hclear, h2]
      exact ⟨rfl, rfl⟩
    · have hla : isLA esc o = false := by unfold isLA; rw [h1]
      refine many v hla ?_ h3
      unfold pstep
      have hn : pread tt (mask (pendM ops dn ls) (pendL esc ops dn ls) s) o.type o.op = none := by rw [h1]; rfl
      rw [hn]
      simp only [peff, h1, pret]
      rw [pparts_agr (s := mask (pendM ops dn ls) (pendL esc ops dn ls) s) (s' := s) fun p hp => (hclear p.2 (by rw [h1]; simp [Op.operands]; exact ⟨p.1, by simpa using hp⟩)).eval, h2]
      simp
  · rw [hgv hg, if_neg (by simp)]
    by_cases hla : isLA esc o = true
    · exfalso
      unfold gval at hg
      rw [(d.dst i o hdn ho).2 hla] at hg
      cases hg
    · have hla : isLA esc o = false := by simpa using hla
      exact plain (v := undefV) (u := Go.undef) hv (fun _ _ _ => .inr trivial) (hL0 hla) (fun fl' hf => ⟨r fl' hf, rfl⟩) (Step.refl _ _ _ _)
end Go.Pv
-- PvDraw4
namespace Go.Pv
open Go Go.RowKit
variable {P : Program} {tt : TT} {G : Sett} {fl : Nat → Nat} {B : Nat} {s s' s2 : Cf} {a : Act} {w : World} {esc : List Nat} {ops : Array Oper} {A : List Nat} {mx dn em i : Nat} {l : List (Nat × List Nat)} {ls : Array Bool} {o : Oper}
theorem rechecks_at : ∀ (cs : List Nat) (k : Nat), rechecks tt ops s cs → k ∈ cs → recheck tt ops s k
  | [], _, _, h => by simp at h
  | c :: cs, k, h, hk => by
    simp only [List.mem_cons] at hk
    rcases hk with rfl | hk
    · exact h.1
    · exact rechecks_at cs k h.2 hk
/-- What stands behind an effect. -/
theorem DI.eff_next (st : Stat esc ops A) {cs : List Nat} (d : DI tt esc ops A mx ((i, cs) :: l) dn em ls s) (ho : ops[i]? = some o) (hE : isE esc o = true) (hr : ∀ e ∈ o.after, Region.binds .any e = true → ls.getD e.on false = true)
    (hn : s2.n = s.n) (hgl : s2.σ.gl = s.σ.gl) (henv : ∀ t, o.dst ≠ some t → get s2.env t = get s.env t) (hloc : isStore o.op = false → s2.loc = s.loc)
    (hagain : ∀ k ok, k ∈ cs → ops[k]? = some ok → gval ops s.env ok = some true → (∀ t ∈ ok.looksAt ops, o.dst ≠ some t) → (∀ t, ok.dst = some t → o.dst ≠ some t) → ∀ v, pread tt s ok.type ok.op = some v → (∀ t, ok.dst = some t → get s.env t = v) → pread tt s2 ok.type ok.op = some v) :
    DI tt esc ops A mx l (dn ||| 2 ^ i) (em ||| 2 ^ i) (ls.setIfInBounds i true) s2 := by
  obtain ⟨o', ho', hop, hl⟩ := seqOk_cons d.seq
  rw [ho] at ho'
  cases ho'
  rw [hE, if_pos rfl] at hl
  refine ⟨by simp [d.size], fun k hk => ?_, fun k ok h1 h2 h3 => ?_, fun k ok h1 h2 e he hb => ?_, fun k hk => ?_, hl, fun k ok hk hok j oj hoj hj => ?_, fun k ok hk hok => ?_, by rw [hn]; exact d.mx, fun k ok hok hk hls => ?_⟩
  · rcases (set_iff d.size ho k).1 hk with q | q
    · exact (bit_or _ _ _).2 (.inl (d.sub k q))
    · exact (bit_or _ _ _).2 (.inr q)
  · rcases (bit_or _ _ _).1 h1 with q | q
    · exact (set_iff d.size ho k).2 (.inl (d.eff k ok q h2 h3))
    · exact (set_iff d.size ho k).2 (.inr q)
  · refine (set_iff d.size ho _).2 (.inl ?_)
    rcases (set_iff d.size ho k).1 h1 with q | q
    · exact d.closed k ok q h2 e he hb
    · subst q; rw [ho] at h2; cases h2; exact hr e he hb
  · rcases d.cover k hk with q | q
    · exact .inl ((bit_or _ _ _).2 (.inl q))
    · simp only [List.map_cons, List.mem_cons] at q
      rcases q with q | q
      · exact .inl ((bit_or _ _ _).2 (.inr q))
      · exact .inr q
  · rcases (bit_or _ _ _).1 hk with q | q
    · exact (bit_or _ _ _).2 (.inl (d.anc k ok q hok j oj hoj hj))
    · subst q
      exact (bit_or _ _ _).2 (.inl ((hop.turn j oj hoj).anc hj))
  · rcases (bit_or _ _ _).1 hk with q | q
    · exact d.dst k ok q hok
    · subst q; rw [ho] at hok; cases hok; exact ⟨hop.mx, hop.free⟩
  · obtain ⟨hls1, hne⟩ := (set_false d.size ho k).1 hls
    have hkd : dn.testBit k = true := ((bit_or _ _ _).1 hk).resolve_right hne
    have hokE := d.nonE hok hkd hls1
    have hna : (A.getD i 0).testBit k = false := bool_false_of fun q => by rw [d.ahead st ho hr q] at hls1; cases hls1
    have hl := st.look k i ok o hok ho
    have hdl : ∀ t ∈ ok.looksAt ops, o.dst ≠ some t := fun t ht z => by
      rcases hl.look t z ht (Ne.symm hne) with y | ⟨_, y⟩
      · have := d.anc k ok hkd hok i o ho y
        rw [hop.new] at this; cases this
      · rw [hna] at y; cases y
    have hdd : ∀ t, ok.dst = some t → o.dst ≠ some t := fun t ht z => by
      have := (hl.uniq t z ht (Ne.symm hne)).1
      rw [hokE] at this; cases this
    have hag := (hop.turn k ok hok).again hE hkd hokE hna
    refine (d.pend k ok hok hkd hls1).agr (fun t ht => henv t (hdl t ht)) (fun t ht => henv t (hdd t ht)) hgl (fun hla t ht => by rw [hloc (hag.2 hla)]) (fun hrop hg v hv hvs => ?_)
    exact hagain k ok (hag.1 hrop) hok hg hdl hdd v hv hvs
theorem eff_step (hT : TOk P tt) (st : Stat esc ops A) {cs : List Nat} (d : DI tt esc ops A mx ((i, cs) :: l) dn em ls s) (r : RepM (pendL esc ops dn ls) G fl B (mask (pendM ops dn ls) (pendL esc ops dn ls) s) a w) (ho : ops[i]? = some o) (hE : isE esc o = true)
    (hr : ∀ e ∈ o.after, Region.binds .any e = true → ls.getD e.on false = true) {K : Cf → Prop} {X : PV → Cf → Prop} {Q : Exit → Act → World → Prop} {next : Act → World → Prop} (h : pdseq P tt esc ops K X ((i, cs) :: l) s)
    (hK : ∀ G' fl' s2 a' w', DI tt esc ops A mx l (dn ||| 2 ^ i) (em ||| 2 ^ i) (ls.setIfInBounds i true) s2 → RepM (pendL esc ops (dn ||| 2 ^ i) (ls.setIfInBounds i true)) G' fl' B (mask (pendM ops (dn ||| 2 ^ i) (ls.setIfInBounds i true)) (pendL esc ops (dn ||| 2 ^ i) (ls.setIfInBounds i true)) s2) a' w' →
      pdseq P tt esc ops K X l s2 → Step B G s.σ w G' s2.σ w' → s2.n = s.n → next a' w') (hX : XOk B G s w X Q) : wpOp P ops Q i next a w := by
  obtain ⟨o', ho', hop, hl⟩ := seqOk_cons d.seq
  rw [ho] at ho'
  cases ho'
  unfold wpOp
  rw [ho]
  simp only [pdseq, ho] at h ⊢
  have hla := isE_la hE
  have hslots := d.slots st ho hr
  have hmx : ∀ t, o.dst = some t → t < s.n := fun t ht => Nat.lt_of_le_of_lt (hop.mx t ht) d.mx
  have hM : pendM ops (dn ||| 2 ^ i) (ls.setIfInBounds i true) = pendM ops dn ls := by
    funext t
    rw [Bool.eq_iff_iff, pendM_iff, pendM_iff]
    constructor
    · rintro ⟨j, oj, hj, h1, h2, h3⟩
      obtain ⟨q1, q2⟩ := (set_false d.size ho j).1 h2
      exact ⟨j, oj, hj, ((bit_or _ _ _).1 h1).resolve_right q2, q1, h3⟩
    · rintro ⟨j, oj, hj, h1, h2, h3⟩
      exact ⟨j, oj, hj, (bit_or _ _ _).2 (.inl h1), (set_false d.size ho j).2 ⟨h2, fun z => by subst z; rw [hop.new] at h1; cases h1⟩, h3⟩
  have hL : pendL esc ops (dn ||| 2 ^ i) (ls.setIfInBounds i true) = pendL esc ops dn ls := by
    funext t
    rw [Bool.eq_iff_iff, pendL_iff, pendL_iff]
    constructor
    · rintro ⟨j, oj, hj, h1, h2, h3⟩
      obtain ⟨q1, q2⟩ := (set_false d.size ho j).1 h2
      exact ⟨j, oj, hj, ((bit_or _ _ _).1 h1).resolve_right q2, q1, h3⟩
    · rintro ⟨j, oj, hj, h1, h2, h3⟩
      exact ⟨j, oj, hj, (bit_or _ _ _).2 (.inl h1), (set_false d.size ho j).2 ⟨h2, fun z => by subst z; rw [hop.new] at h1; cases h1⟩, h3⟩
  rw [hM, hL] at hK
  have hdstM : ∀ t, o.dst = some t → pendM ops dn ls t = false := fun t ht => bool_false_of fun q => by
    obtain ⟨j, oj, hj, q1, q2, q3⟩ := pendM_iff.1 q
    have hne : j ≠ i := fun z => by subst z; rw [hop.new] at q1; cases q1
    have := ((st.look i j o oj ho hj).uniq t q3 ht hne).2
    rw [d.nonE hj q1 q2] at this; cases this
  have hgv : ∀ {b}, gval ops s.env o = some b → Region.wanted o (yielded ops a.tmps) = b := fun {b} hb => by
    refine gval_wanted (s := mask (pendM ops dn ls) (pendL esc ops dn ls) s) r.rep ?_
    rw [gval_agr (env := s.env) fun t ht => ?_]
    · exact hb
    · show get (maskE _ s.env) t = _
      rw [get_mask, hslots t ht]; rfl
  -- behind it, with a value for the slot
  have close : ∀ {v : PV} {s' : Cf} {G' : Sett} {w' : World} {u : Value}, Shape o s s' → (∀ k ok, k ∈ cs → ops[k]? = some ok → gval ops s.env ok = some true → (∀ t ∈ ok.looksAt ops, o.dst ≠ some t) → ∀ v', pread tt s ok.type ok.op = some v' → (∀ t, ok.dst = some t → get s.env t = v') → pread tt s' ok.type ok.op = some v') →
      pdseq P tt esc ops K X l (s'.put o.dst v) → (∀ fl', Off (pendL esc ops dn ls) fl fl' → Rep G' fl' B (mask (pendM ops dn ls) (pendL esc ops dn ls) s') a w' ∧ SlotRel G' fl' v u) → Step B G s.σ w G' s'.σ w' → next (a.put o.dst u) w' := by
    intro v s' G' w' u hsh hag hnext hrep hst
    have henv : ∀ t, o.dst ≠ some t → get (s'.put o.dst v).env t = get s.env t := fun t ht => by rw [get_put_ne _ ht, hsh.env]
    have hn2 : (s'.put o.dst v).n = s.n := (cf_put_n _ _ _).trans hsh.n
    have hσ : (s'.put o.dst v).σ = s'.σ := cf_put_σ _ _ _
    refine hK G' fl (s'.put o.dst v) _ _ (d.eff_next st ho hE hr hn2 (by rw [hσ]; exact hst.gl) henv (fun q => by rw [cf_put_loc]; exact hsh.loc q) ?_) ?_ hnext (by rw [hσ]; exact hst) hn2
    · intro k ok hk hok hg hdl hdd v' hv0 hv'
      rw [← hag k ok hk hok hg hdl v' hv0 hv']
      have he : ∀ t ∈ ok.looksAt ops, get (s'.put o.dst v).env t = get s'.env t := fun t ht => get_put_ne _ (hdl t ht)
      refine pread_agr (fun x hx => eval_agr he (by rw [hσ]) hx) fun _ => ⟨by rw [hσ], fun x hx => ?_⟩
      rw [eval_agr he (by rw [hσ]) hx]
      unfold paddr
      rw [cf_put_loc, hσ]
    · intro fl' hoff
      obtain ⟨r1, hs⟩ := hrep fl' hoff
      refine (r1.put o.dst hs).less ⟨by rw [cf_put_n]; exact cf_put_n _ _ _, fun t => ?_, fun k => ?_, by rw [cf_put_σ]; show (s'.put o.dst v).σ.sub s'.σ; rw [hσ]; exact .refl _⟩
      · show get (maskE _ (s'.put o.dst v).env) t = _ ∨ get (maskE _ (s'.put o.dst v).env) t = _
        rw [get_mask]
        split
        · exact .inl rfl
        · rename_i q
          right
          by_cases e : o.dst = some t
          · have ht := hmx t e
            rw [e, get_put_eq s' (by rw [hsh.n]; exact ht)]
            refine (get_put_eq _ ?_).symm
            show t < s'.n
            rw [hsh.n]; exact ht
          · rw [get_put_ne _ e, get_put_ne _ e]
            show _ = get (maskE _ s'.env) t
            rw [get_mask, if_neg q]
      · right
        show getL (maskE _ (s'.put o.dst v).loc) k = _
        rw [cf_put_loc, cf_put_loc]
        rfl
  rcases guarded_gval h with ⟨hg, h⟩ | ⟨hg, h⟩
  · rw [hgv hg, if_pos rfl]
    left
    have hclear : ∀ x ∈ o.op.operands.toList, Clear (pendM ops dn ls) (pendL esc ops dn ls) s x := fun x hx => r.clear fun t e => hslots t (mem_looks (e ▸ hx))
    have hkeys : ∀ k, getL (mask (pendM ops dn ls) (pendL esc ops dn ls) s).loc k ≠ none → pendL esc ops dn ls k = false := fun k hk => bool_false_of fun q => by
      apply hk
      show getL (maskE _ s.loc) k = none
      rw [getL_mask, q]; rfl
    refine pstep_many hT r hkeys hla (pstep_mask h hclear hla) (fun v s1 G' w' u hk hrep hst hn => ?_) (fun G' s1 a' w' v u hx hrel hinv hst hd => ?_)
    · obtain ⟨s', ⟨hrc, hnext⟩, rfl, hsh⟩ := hk
      refine close hsh (fun k ok hk hok hg hdl v' _ hv' => ?_) hnext hrep hst
      have hc := rechecks_at cs k hrc hk
      unfold recheck at hc
      rw [hok] at hc
      have he : gval ops s'.env ok = gval ops s.env ok := by rw [hsh.env]
      rcases guarded_gval hc with ⟨_, q⟩ | ⟨q, _⟩
      · split at q
        · rename_i t ht
          rw [q, hsh.env, hv' t ht]
        · exact q.elim
      · rw [he, hg] at q; cases q
    · obtain ⟨s', hx, rfl, hsh⟩ := hx
      exact hX G' s' a' w' v u hx hrel hinv hst hd
  · rw [hgv hg, if_neg (by simp)]
    refine close (v := undefV) (s' := s) (u := Go.undef) ⟨rfl, rfl, fun _ => rfl⟩ (fun k ok hk hok hg' hdl v' hv0 _ => hv0) h (fun fl' hf => ⟨r fl' hf, rfl⟩) (Step.refl _ _ _ _)
theorem count_lt {ls : Array Bool} {n i : Nat} (hi : i < n) (h : ls.getD i false = false) (hs : i < ls.size) :
    ((List.range n).filter fun j => !(ls.setIfInBounds i true).getD j false).length < ((List.range n).filter fun j => !ls.getD j false).length := by
  have gen : ∀ l : List Nat, (l.filter fun j => !(ls.setIfInBounds i true).getD j false).length ≤ (l.filter fun j => !ls.getD j false).length ∧ (i ∈ l → (l.filter fun j => !(ls.setIfInBounds i true).getD j false).length < (l.filter fun j => !ls.getD j false).length) := by
    intro l
    induction l with
    | nil => exact ⟨Nat.le_refl _, fun h => by simp at h⟩
    | cons x l ih =>
      simp only [List.filter_cons]
      by_cases e : x = i
      · subst e
        have h1 : (ls.setIfInBounds x true).getD x false = true := by
          rw [Array.getD_eq_getD_getElem?, Array.getElem?_setIfInBounds_self_of_lt hs]; rfl
        rw [h1, h]
        simp only [Bool.not_true, Bool.not_false, if_true, List.length_cons]
        have := ih.1
        simp only [Bool.false_eq_true, if_false]
        exact ⟨by omega, fun _ => by omega⟩
      · rw [getD_set_ne false (Ne.symm e)]
        split
        · simp only [List.length_cons, List.mem_cons]
          refine ⟨by have := ih.1; omega, fun hm => ?_⟩
          rcases hm with z | z
          · exact absurd z.symm e
          · have := ih.2 z; omega
        · refine ⟨ih.1, fun hm => ?_⟩
          simp only [List.mem_cons] at hm
          rcases hm with z | z
          · exact absurd z.symm e
          · exact ih.2 z
  exact (gen (List.range n)).2 (List.mem_range.2 hi)
theorem ready_any (st : Stat esc ops A) (d : DI tt esc ops A mx l dn em ls s) (h : Region.ready .any ops ls = []) : ∀ i, i < ops.size → ls.getD i false = true := by
  intro i
  induction i using Nat.strongRecOn with
  | _ i ih =>
    intro hi
    cases q : ls.getD i false with
    | true => rfl
    | false =>
      exfalso
      have ho : ops[i]? = some ops[i] := Array.getElem?_eq_getElem hi
      have : i ∈ Region.ready .any ops ls := mem_ready.2 ⟨by
        rw [Array.getD_eq_getD_getElem?] at q ⊢
        have : i < ls.size := by rw [d.size]; exact hi
        rw [Array.getElem?_eq_getElem this] at q ⊢
        exact q, _, ho, fun e he hb => ih _ ((okA_at st.anc ho).2 e he hb) (by have := (okA_at st.anc ho).2 e he hb; omega)⟩
      rw [h] at this
      cases this
/-- All of it has been done. -/
theorem draw_done (d : DI tt esc ops A mx l dn em ls s) (r : RepM (pendL esc ops dn ls) G fl B (mask (pendM ops dn ls) (pendL esc ops dn ls) s) a w) {K : Cf → Prop} {X : PV → Cf → Prop} {Q : Exit → Act → World → Prop} (h : pdseq P tt esc ops K X l s)
    (hall : ∀ i, i < ops.size → ls.getD i false = true) (hQ : QOk B G s w K (Q .normal)) : Q .normal a w := by
  cases l with
  | cons p l =>
    obtain ⟨i, cs⟩ := p
    obtain ⟨o, ho, hop, _⟩ := seqOk_cons d.seq
    have := d.sub i (hall i (Array.getElem?_eq_some_iff.1 ho).1)
    rw [hop.new] at this
    cases this
  | nil =>
    refine hQ G fl s a w h (r.rep.less ⟨rfl, fun t => .inr ?_, fun k => .inr ?_, .refl _⟩) (Step.refl _ _ _ _) rfl
    · show _ = get (maskE _ s.env) t
      rw [get_mask, if_neg]
      intro q
      obtain ⟨j, oj, hj, _, q2, _⟩ := pendM_iff.1 q
      rw [hall j (Array.getElem?_eq_some_iff.1 hj).1] at q2
      cases q2
    · show _ = getL (maskE _ s.loc) k
      rw [getL_mask, if_neg]
      intro q
      obtain ⟨j, oj, hj, _, q2, _⟩ := pendL_iff.1 q
      rw [hall j (Array.getElem?_eq_some_iff.1 hj).1] at q2
      cases q2
theorem draw_main (hT : TOk P tt) (st : Stat esc ops A) {K : Cf → Prop} {X : PV → Cf → Prop} {Q : Exit → Act → World → Prop} : ∀ (fuel : Nat) (l : List (Nat × List Nat)) (dn em : Nat) (ls : Array Bool) (G : Sett) (fl : Nat → Nat) (s : Cf) (a : Act) (w : World),
    DI tt esc ops A mx l dn em ls s → RepM (pendL esc ops dn ls) G fl B (mask (pendM ops dn ls) (pendL esc ops dn ls) s) a w → pdseq P tt esc ops K X l s → (∀ i cs l2, l = (i, cs) :: l2 → ∃ o, ops[i]? = some o ∧ isE esc o = true) →
    ((List.range ops.size).filter fun j => !ls.getD j false).length ≤ fuel → QOk B G s w K (Q .normal) → XOk B G s w X Q → wpAny P .any ops Q fuel ls a w := by
  intro fuel
  induction fuel with
  | zero =>
    intro l dn em ls G fl s a w d r h hhead hf hQ hX
    have hall : ∀ i, i < ops.size → ls.getD i false = true := fun i hi => by
      cases q : ls.getD i false with
      | true => rfl
      | false =>
        have : i ∈ (List.range ops.size).filter fun j => !ls.getD j false := List.mem_filter.2 ⟨List.mem_range.2 hi, by rw [q]; rfl⟩
        have := List.length_pos_of_mem this
        omega
    refine ⟨?_, draw_done d r h hall hQ⟩
    apply List.eq_nil_iff_forall_not_mem.2
    intro i hi
    obtain ⟨h0, o, ho, _⟩ := mem_ready.1 hi
    have hlt := (Array.getElem?_eq_some_iff.1 ho).1
    have := hall i hlt
    have hl : i < ls.size := by rw [d.size]; exact hlt
    rw [Array.getD_eq_getD_getElem?, Array.getElem?_eq_getElem hl] at h0 this
    simp at h0 this
    rw [h0] at this
    cases this
  | succ fuel ih =>
    intro l dn em ls G fl s a w d r h hhead hf hQ hX
    refine ⟨fun hnone => draw_done d r h (ready_any st d hnone) hQ, fun i hi => ?_⟩
    obtain ⟨h0, o, ho, hafter⟩ := mem_ready.1 hi
    have hlt := (Array.getElem?_eq_some_iff.1 ho).1
    have hl : i < ls.size := by rw [d.size]; exact hlt
    have hun : ls.getD i false = false := by
      rw [Array.getD_eq_getD_getElem?, Array.getElem?_eq_getElem hl] at h0 ⊢
      exact h0
    have hlen := count_lt hlt hun hl
    cases hdn : dn.testBit i with
    | true =>
      refine pending_step hT st d r ho hdn hun hafter fun G' fl' a' w' hrep hst => ?_
      exact ih l dn em _ G' fl' s a' w' (d.take ho hdn hafter) hrep h hhead (by omega) (hQ.step hst rfl) (hX.step hst)
    | false =>
      have hmem : i ∈ l.map (·.1) := (d.cover i hlt).resolve_left (by rw [hdn]; simp)
      cases l with
      | nil => simp at hmem
      | cons p l =>
        obtain ⟨e, cs⟩ := p
        obtain ⟨oe, hoe, hEe⟩ := hhead e cs l rfl
        obtain ⟨oe', hoe', hop, hseq⟩ := seqOk_cons d.seq
        rw [hoe] at hoe'
        cases hoe'
        have hie : i = e := by
          simp only [List.map_cons, List.mem_cons] at hmem
          rcases hmem with q | q
          · exact q
          · exfalso
            rw [hEe, if_pos rfl] at hseq
            have hlte := (Array.getElem?_eq_some_iff.1 hoe).1
            have := d.ahead st ho hafter (seqOk_em l _ _ hseq e hlte ((bit_or _ _ _).2 (.inr rfl)) i q)
            have := d.sub e this
            rw [hop.new] at this
            cases this
        subst hie
        rw [hoe] at ho
        cases ho
        refine eff_step hT st d r hoe hEe hafter h (fun G' fl' s2 a' w' d2 r2 h2 hst hn => ?_) hX
        refine advance st l _ _ s2 d2 r2 h2 fun l' dn' em' s3 d3 r3 h3 e1 e2 hhead3 => ?_
        have hst3 : Step B G s.σ w G' s3.σ w' := by rw [e1]; exact hst
        exact ih l' dn' em' _ G' fl' s3 a' w' d3 r3 h3 hhead3 (by omega) (hQ.step hst3 (e2.trans hn)) (hX.step hst3)
theorem Inv.drew {σ : St} (i : Inv G σ w) (n : Nat) : Inv G σ { w with drawn := n } := ⟨i.cell, i.size, i.obj, i.own, i.gl⟩
theorem Rep.drew (r : Rep G fl B s a w) (n : Nat) : Rep G fl B s a { w with drawn := n } := ⟨r.inv.drew n, r.size, r.env, ⟨r.loc.at_, r.loc.inj⟩, r.defers, r.base⟩
/-- A DRAWING REGION: one of its orders stands for all. -/
theorem pdraw_sound (hT : TOk P tt) (hmix : P.follows .mixedOrders = true) {q : Nat × List (Nat × List Nat)} (hok : okOrder esc ops q.1 q.2 = true) {id : Nat} {K : Cf → Prop} {X : PV → Cf → Prop} {Q : Exit → Act → World → Prop} (r : Rep G fl B s a w)
    (h : pdraw P tt esc ops K X s q) (hQ : QOk B G s w K (Q .normal)) (hX : XOk B G s w X Q) : (Code.region id ops true).wp P Q a w := by
  obtain ⟨mx, l⟩ := q
  obtain ⟨hmx, h⟩ := h
  simp only [okOrder, Bool.and_eq_true, List.all_eq_true, List.mem_range] at hok
  obtain ⟨⟨⟨hA, hP⟩, hcov⟩, hseq⟩ := hok
  have st : Stat esc ops (ancs ops.toList []) := ⟨hA, fun i j o oj hi hj => okPairs_at hP hi hj⟩
  refine wp_region_any hmix ?_
  have hfalse : ∀ i, (Array.replicate ops.size false).getD i false = false := fun i => by
    rw [Array.getD_eq_getD_getElem?, Array.getElem?_replicate]
    split <;> rfl
  have hz : ∀ i, (0 : Nat).testBit i = false := fun i => by simp
  have d : DI tt esc ops (ancs ops.toList []) mx l 0 0 (Array.replicate ops.size false) s := by
    refine ⟨by simp, fun i hi => (by rw [hfalse] at hi; cases hi), fun i o hi => (by rw [hz] at hi; cases hi), fun i o hi => (by rw [hfalse] at hi; cases hi), fun i hi => .inr (by simpa using hcov i hi), hseq, fun i o hi => (by rw [hz] at hi; cases hi), fun i o hi => (by rw [hz] at hi; cases hi), hmx, fun i o _ hi => (by rw [hz] at hi; cases hi)⟩
  have hst : Step B G s.σ w G s.σ { w with drawn := w.drawn + 1 } := ⟨Sett.le.refl _, Nat.le_refl _, rfl, rfl, rfl, fun _ _ _ => ⟨rfl, fun _ => rfl⟩, fun _ _ h => h, rfl⟩
  have hL : pendL esc ops 0 (Array.replicate ops.size false) = fun _ => false := by
    funext t
    exact bool_false_of fun q => by obtain ⟨j, oj, _, q1, _⟩ := pendL_iff.1 q; rw [hz] at q1; cases q1
  have hrep : RepM (pendL esc ops 0 (Array.replicate ops.size false)) G fl B (mask (pendM ops 0 (Array.replicate ops.size false)) (pendL esc ops 0 (Array.replicate ops.size false)) s) a { w with drawn := w.drawn + 1 } := by
    intro fl' hoff
    have e : fl' = fl := by funext x; exact hoff x (by rw [hL])
    subst e
    refine (r.drew _).less ⟨rfl, fun t => ?_, fun k => ?_, .refl _⟩
    · show get (maskE _ s.env) t = _ ∨ get (maskE _ s.env) t = _
      rw [get_mask]
      split
      · exact .inl rfl
      · exact .inr rfl
    · show getL (maskE _ s.loc) k = none ∨ getL (maskE _ s.loc) k = _
      rw [getL_mask]
      split
      · exact .inl rfl
      · exact .inr rfl
  refine advance st l 0 0 s d hrep h fun l' dn' em' s' d' r' h' e1 e2 hhead => ?_
  refine draw_main hT st ops.size l' dn' em' _ G fl s' a _ d' r' h' hhead ?_ (hQ.step (by rw [e1]; exact hst) e2) (hX.step (by rw [e1]; exact hst))
  exact Nat.le_trans (List.length_filter_le _ _) (by simp)
def codeOk (esc : List Nat) (ord : Ords) : Code → Bool
  | .region id ops true => okOrder esc ops (ordOf ord id).1 (ordOf ord id).2
  | .seq x y => codeOk esc ord x && codeOk esc ord y
  | .cond _ x y => codeOk esc ord x && codeOk esc ord y
  | .block _ x => codeOk esc ord x
  | .loop x => codeOk esc ord x
  | _ => true
end Go.Pv
-- PvBody
namespace Go.Pv
open Go Go.RowKit
variable {P : Program} {tt : TT} {G : Sett} {fl : Nat → Nat} {B : Nat} {s : Cf} {a : Act} {w : World}
structure KtOk (B : Nat) (G : Sett) (s : Cf) (w : World) (K : Kt) (Q : Exit → Act → World → Prop) : Prop where
  norm : QOk B G s w (K .normal) (Q .normal)
  exit : ∀ id, QOk B G s w (K (.exit id)) (Q (.exit id))
  ret : QOk B G s w (K .ret) (Q .ret)
  panic : XOk B G s w (fun v s => K (.panic v) s) Q
theorem KtOk.step {G' : Sett} {s' : Cf} {w' : World} {K : Kt} {Q : Exit → Act → World → Prop} (h : KtOk B G s w K Q) (st : Step B G s.σ w G' s'.σ w') (hn : s'.n = s.n) : KtOk B G' s' w' K Q :=
  ⟨h.norm.step st hn, fun id => (h.exit id).step st hn, h.ret.step st hn, h.panic.step st⟩
theorem Step.from {G' : Sett} {σ σ0 σ' : St} {w' : World} (h : σ0.sub σ) (st : Step B G σ0 w G' σ' w') : Step B G σ w G' σ' w' :=
  { st with keep := fun b hb hm => st.keep b hb fun q => hm (h.vary b q), vary := fun b hb q => h.vary b (st.vary b hb q), gl := st.gl.trans h.gl }
theorem KtOk.less {s0 : Cf} {K : Kt} {Q : Exit → Act → World → Prop} (h : KtOk B G s w K Q) (hl : s0.less s) : KtOk B G s0 w K Q where
  norm := fun G' fl' s' a' w' hk hr hs hn => h.norm G' fl' s' a' w' hk hr (hs.from hl.σ) (hn.trans hl.n)
  exit := fun id G' fl' s' a' w' hk hr hs hn => h.exit id G' fl' s' a' w' hk hr (hs.from hl.σ) (hn.trans hl.n)
  ret := fun G' fl' s' a' w' hk hr hs hn => h.ret G' fl' s' a' w' hk hr (hs.from hl.σ) (hn.trans hl.n)
  panic := fun G' s' a' w' v u hx hr hi hs hd => h.panic G' s' a' w' v u hx hr hi (hs.from hl.σ) hd
theorem ploop_sound {f : Cf → Kt → Prop} {c : Code} (hf : ∀ {G : Sett} {fl : Nat → Nat} {s : Cf} {a : Act} {w : World} {K : Kt} {Q : Exit → Act → World → Prop}, Rep G fl B s a w → f s K → KtOk B G s w K Q → c.wp P Q a w) :
    ∀ (n : Nat) {G : Sett} {fl : Nat → Nat} {s : Cf} {a : Act} {w : World} {K : Kt} {Q : Exit → Act → World → Prop}, Rep G fl B s a w → ploop f n s K → KtOk B G s w K Q → Code.rounds P c Q n a w
  | 0, _, _, _, _, _, _, _, _, h, _ => h.elim
  | n + 1, G, fl, s, a, w, K, Q, r, h, hk => by
    obtain ⟨s0, hl, h⟩ := h
    have hk0 := hk.less hl
    refine hf (K := kthen (ploop f n) K) (r.less hl) h ⟨?_, fun id => hk0.exit id, hk0.ret, hk0.panic⟩
    intro G' fl' s' a' w' hp hr hs hn
    exact ploop_sound hf n hr hp (hk0.step hs hn)
theorem pwp_sound (hT : TOk P tt) (hmix : P.follows .mixedOrders = true) {esc : List Nat} {ord : Ords} : ∀ (c : Code), codeOk esc ord c = true → ∀ {G : Sett} {fl : Nat → Nat} {s : Cf} {a : Act} {w : World} {K : Kt} {Q : Exit → Act → World → Prop},
    Rep G fl B s a w → pwp P tt esc ord c s K → KtOk B G s w K Q → c.wp P Q a w
  | .skip, _, G, fl, s, a, w, K, Q, r, h, hk => wp_skip (hk.norm _ _ _ _ _ h r (Step.refl _ _ _ _) rfl)
  | .region id ops false, _, G, fl, s, a, w, K, Q, r, h, hk => wp_region_list (pseq_sound hT ops.toList r h hk.norm hk.panic)
  | .region id ops true, hok, G, fl, s, a, w, K, Q, r, h, hk => pdraw_sound hT hmix hok r h hk.norm hk.panic
  | .seq x y, hok, G, fl, s, a, w, K, Q, r, h, hk => by
    simp only [codeOk, Bool.and_eq_true] at hok
    refine wp_seq (pwp_sound hT hmix x hok.1 (K := kthen (pwp P tt esc ord y) K) r h ⟨?_, fun id => hk.exit id, hk.ret, hk.panic⟩)
    intro G' fl' s' a' w' hp hr hs hn
    exact pwp_sound hT hmix y hok.2 hr hp (hk.step hs hn)
  | .cond c x y, hok, G, fl, s, a, w, K, Q, r, h, hk => by
    simp only [codeOk, Bool.and_eq_true] at hok
    simp only [pwp] at h
    split at h
    · rename_i b hb
      have he := eval_sound r c
      rw [hb] at he
      have he : a.eval c = .bool b := he
      exact wp_cond_split he (fun q => pwp_sound hT hmix x hok.1 r (h.1 q) hk) (fun q => pwp_sound hT hmix y hok.2 r (h.2 q) hk)
    · cases h
  | .block id x, hok, G, fl, s, a, w, K, Q, r, h, hk => by
    refine wp_block (pwp_sound hT hmix x hok (K := kblock id K) r h ⟨hk.norm, fun i => ?_, hk.ret, hk.panic⟩)
    intro G' fl' s' a' w' hp hr hs hn
    simp only [kblock] at hp
    simp only [Exit.inBlock]
    by_cases q : i = id
    · rw [if_pos q] at hp ⊢
      exact hk.norm _ _ _ _ _ hp hr hs hn
    · rw [if_neg q] at hp ⊢
      exact hk.exit i _ _ _ _ _ hp hr hs hn
  | .loop x, hok, G, fl, s, a, w, K, Q, r, h, hk => by
    obtain ⟨n, h⟩ := h
    exact wp_loop_rounds n (ploop_sound (fun hr hp hq => pwp_sound hT hmix x hok hr hp hq) n r h hk)
  | .exit id, _, G, fl, s, a, w, K, Q, r, h, hk => wp_exit (hk.exit id _ _ _ _ _ h r (Step.refl _ _ _ _) rfl)
  | .ret, _, G, fl, s, a, w, K, Q, r, h, hk => wp_ret (hk.ret _ _ _ _ _ h r (Step.refl _ _ _ _) rfl)
  | .rangeFunc _ _ _ _, _, _, _, _, _, _, _, _, _, h, _ => h.elim
  | .scope _, _, _, _, _, _, _, _, _, _, h, _ => h.elim
  | .label _, _, _, _, _, _, _, _, _, _, h, _ => h.elim
  | .goto _, _, _, _, _, _, _, _, _, _, h, _ => h.elim
  | .refuse _, _, _, _, _, _, _, _, _, _, h, _ => h.elim
/-! ### a function's body -/
def presult (tt : TT) (s : Cf) : ResultVar → Option PV
  | .tmp t => if notL (get s.env t) then some (get s.env t) else none
  | .cell t T => match paddr s (get s.env t) with
    | some (cs, off) => pcut tt T cs off
    | none => none
def presults (tt : TT) (s : Cf) : List ResultVar → Option (List PV)
  | [] => some []
  | x :: xs => match presult tt s x, presults tt s xs with
    | some v, some vs => some (v :: vs)
    | _, _ => none
def pone : List PV → PV
  | [v] => v
  | vs => .tuple vs
def kret (K : Res → St → Prop) (σ : St) (r : Res) : Prop := ∃ τ, τ.sub σ ∧ K r τ
def kbody (tt : TT) (rs : List ResultVar) (K : Res → St → Prop) : Kt
  | .normal, s | .ret, s => match presults tt s rs with
    | some vs => kret K s.σ (.ret (pone vs))
    | none => False
  | .panic v, s => kret K s.σ (.panic v)
  | .exit _, _ => False
theorem presult_sound (hT : TOk P tt) (r : Rep G fl B s a w) {x : ResultVar} {v : PV} (h : presult tt s x = some v) :
    ∃ u, ((match x with | .tmp t => pure (a.tmps.getD t Go.undef) | .cell d t => do loadVar t (← asAddr (a.tmps.getD d Go.undef)) : Sem Value)).run P w = .ok u w ∧ Rel G v u := by
  cases x with
  | tmp t =>
    simp only [presult] at h
    split at h
    · rename_i hn
      cases h
      exact ⟨_, rfl, (r.env t).rel hn⟩
    · cases h
  | cell t T =>
    simp only [presult] at h
    split at h
    · rename_i cs off hp
      obtain ⟨ad, us, e, hr, hc⟩ := paddr_sound r hp (r.env t)
      obtain ⟨u, hu, hv⟩ := load_sound (P := P) hT h hr hc
      refine ⟨u, ?_, hv⟩
      simp only [Sem.run_bind, e, asAddr, Sem.run_pure, Result.andThen_ok, hu]
    · cases h
theorem presults_sound (hT : TOk P tt) (r : Rep G fl B s a w) : ∀ (xs : List ResultVar) (vs : List PV), presults tt s xs = some vs →
    ∃ us, (xs.mapM (fun | .tmp t => pure (a.tmps.getD t Go.undef) | .cell d t => do loadVar t (← asAddr (a.tmps.getD d Go.undef)) : ResultVar → Sem Value)).run P w = .ok us w ∧ RelL G vs us
  | [], _, h => by cases h; exact ⟨[], by simp, rfl⟩
  | x :: xs, vs, h => by
    simp only [presults] at h
    split at h
    · rename_i v vs' h1 h2
      cases h
      obtain ⟨u, hu, hr⟩ := presult_sound hT r h1
      obtain ⟨us, hus, hrs⟩ := presults_sound hT r xs vs' h2
      refine ⟨u :: us, ?_, u, us, rfl, hr, hrs⟩
      simp only [List.mapM_cons, Sem.run_bind]
      cases x <;> simp only [hu, Result.andThen_ok, hus, Sem.run_pure]
    · cases h
theorem pone_rel : ∀ (vs : List PV) (us : List Value), RelL G vs us → Rel G (pone vs) (if h : us.toArray.size = 1 then us.toArray[0] else .tuple us.toArray)
  | [], _, h => by cases h; exact ⟨[], rfl, rfl⟩
  | [v], _, ⟨u, r, e, p, q⟩ => by cases q; subst e; exact p
  | v :: v2 :: vs, _, ⟨u, r, e, p, u2, r2, e2, q⟩ => by
    subst e2 e
    refine ⟨u :: u2 :: r2, ?_, u, _, rfl, p, u2, r2, rfl, q⟩
    simp
def penv : Nat → List PV → List (Nat × PV)
  | _, [] => []
  | i, v :: vs => (i, v) :: penv (i + 1) vs
theorem get_penv (G : Sett) (fl : Nat → Nat) : ∀ (vs : List PV) (us : List Value) (i t : Nat), RelL G vs us → SlotRel G fl (get (penv i vs) t) (if t < i then Go.undef else us.getD (t - i) Go.undef)
  | [], _, _, _, _ => trivial
  | v :: vs, _, i, t, ⟨u, r, e, p, q⟩ => by
    subst e
    simp only [penv, get]
    by_cases h : i = t
    · subst h
      simp only [if_true, Nat.lt_irrefl, if_false, Nat.sub_self, List.getD_cons_zero]
      exact p.slot
    · rw [if_neg h]
      have ih := get_penv G fl vs r (i + 1) t q
      by_cases h2 : t < i
      · rw [if_pos (by omega)] at ih; rw [if_pos h2]; exact ih
      · rw [if_neg (by omega)] at ih
        rw [if_neg h2, show t - i = (t - (i + 1)) + 1 by omega, List.getD_cons_succ]
        exact ih
/-- THE RULE OF A BODY. -/
theorem PCalls.of_body (hT : TOk P tt) (hmix : P.follows .mixedOrders = true) {f : FuncId} {fn : Func} {c : Code} {args : List PV} {σ : St} {K : Res → St → Prop} (hf : P.funcs[f]? = some fn) (hb : fn.body = some c)
    (hname : (fn.name == "runtime.NumGoroutine") = false) (esc : List Nat) (ord : Ords) (hok : codeOk esc ord c = true) {n : Nat} (hn : fn.ntmps = n) (hnt : Nat.ble args.length n = true) {rs : List ResultVar} (hrs : fn.results.toList = rs)
    (h : pwp P tt esc ord c { n := n, env := penv 0 args, loc := [], σ := σ } (kbody tt rs K)) : PCalls P f args σ K := by
  subst hn hrs
  have hnt := Nat.le_of_ble_eq_true hnt
  refine ⟨⟨fn, hf, hname, by rw [hb]; rfl⟩, fun G w us hi hr => ?_⟩
  have hlen := RelL.length _ _ hr
  refine calls_of_wp hf hb ?_
  have hrep : Rep G (fun x => x) w.heap.size { n := fn.ntmps, env := penv 0 args, loc := [], σ := σ } { tmps := us.toArray ++ Array.replicate (fn.ntmps - us.toArray.size) Go.undef, defers := [] } w := by
    refine ⟨hi, ?_, fun t => ?_, ⟨fun d cs e => (by cases e), fun d d' e => absurd rfl e⟩, rfl, Nat.le_refl _⟩
    · simp; omega
    · have := get_penv G (fun x => x) args us 0 t hr
      simp only [Nat.not_lt_zero, if_false, Nat.sub_zero] at this
      have e : (us.toArray ++ Array.replicate (fn.ntmps - us.toArray.size) Go.undef).getD t Go.undef = us.getD t Go.undef := by
        rw [Array.getD_eq_getD_getElem?, Array.getElem?_append, List.getD_eq_getElem?_getD]
        split
        · simp
        · rename_i q
          simp at q
          rw [List.getElem?_eq_none q]
          by_cases z : t - us.toArray.size < fn.ntmps - us.toArray.size
          · rw [Array.getElem?_replicate, if_pos z]; rfl
          · rw [Array.getElem?_replicate, if_neg z]
      rw [e]
      exact this
  refine pwp_sound hT hmix c hok hrep h ⟨?_, fun id => ?_, ?_, ?_⟩
  · intro G' fl' s' a' w' hk hr' hs hn
    simp only [kbody] at hk
    split at hk
    · rename_i vs hvs
      obtain ⟨τ, ht, hk⟩ := hk
      obtain ⟨us', hus, hrel⟩ := presults_sound hT hr' _ _ hvs
      refine ⟨hr'.defers, _, ?_, _, τ, G', hk, ⟨_, rfl, pone_rel _ _ hrel⟩, hr'.inv.sub ht, hs.sub ht⟩
      simp only [results, Sem.run_bind]
      rw [Array.mapM_eq_mapM_toList]
      simp only [Sem.run_map, Sem.run_pure]
      erw [hus]
      rfl
    · cases hk
  · intro G' fl' s' a' w' hk
    exact hk.elim
  · intro G' fl' s' a' w' hk hr' hs hn
    simp only [kbody] at hk
    split at hk
    · rename_i vs hvs
      obtain ⟨τ, ht, hk⟩ := hk
      obtain ⟨us', hus, hrel⟩ := presults_sound hT hr' _ _ hvs
      refine ⟨hr'.defers, _, ?_, _, τ, G', hk, ⟨_, rfl, pone_rel _ _ hrel⟩, hr'.inv.sub ht, hs.sub ht⟩
      simp only [results, Sem.run_bind]
      rw [Array.mapM_eq_mapM_toList]
      simp only [Sem.run_map, Sem.run_pure]
      erw [hus]
      rfl
    · cases hk
  · intro G' s' a' w' v u hk hr' hi' hs hd
    obtain ⟨τ, ht, hk⟩ := hk
    exact ⟨hd, _, τ, G', hk, ⟨u, rfl, hr'⟩, hi'.sub ht, hs.sub ht⟩
/-- What follows a round: another one, or what is behind the loop. -/
def kround (R : Cf → Prop) (K : Kt) : Kt
  | .normal, s => R s
  | e, s => K e s
/-- The rule of a loop: each round may forget. -/
theorem loop_rule {f : Cf → Kt → Prop} {s : Cf} {K : Kt} (I : Cf → Prop) (m : Cf → Nat) (h0 : ∃ s0 : Cf, s0.less s ∧ I s0)
    (h : ∀ s, I s → ∀ R : Cf → Prop, (∀ s' s'' : Cf, s'.less s'' → I s' → m s' < m s → R s'') → f s (kround R K)) : ∃ n, ploop f n s K := by
  have key : ∀ n s s1, m s ≤ n → I s → s.less s1 → ploop f (n + 1) s1 K := by
    intro n
    induction n with
    | zero =>
      intro s s1 hn hI hl
      have := h s hI (fun s' => ploop f 0 s' K) (fun s' s'' _ _ hm => by omega)
      have e : kround (fun s' => ploop f 0 s' K) K = kthen (ploop f 0) K := by funext e s; cases e <;> rfl
      rw [e] at this
      exact ⟨s, hl, this⟩
    | succ n ih =>
      intro s s1 hn hI hl
      have := h s hI (fun s' => ploop f (n + 1) s' K) (fun s' s'' hl' hI' hm => ih s' s'' (by omega) hI' hl')
      have e : kround (fun s' => ploop f (n + 1) s' K) K = kthen (ploop f (n + 1)) K := by funext e s; cases e <;> rfl
      rw [e] at this
      exact ⟨s, hl, this⟩
  obtain ⟨s0, hl, hI⟩ := h0
  exact ⟨_, key (m s0) s0 s (Nat.le_refl _) hI hl⟩
/-- Less is known slot by slot. -/
theorem less_nil {n : Nat} {env : List (Nat × PV)} {loc : List (Nat × List PV)} {σ τ : St} (h : τ.sub σ) : Cf.less ⟨n, [], [], τ⟩ ⟨n, env, loc, σ⟩ := ⟨rfl, fun _ => .inl rfl, fun _ => .inl rfl, h⟩
theorem less_env {n : Nat} {env : List (Nat × PV)} {loc : List (Nat × List PV)} {τ : St} {s : Cf} {t : Nat} {v : PV} (hv : get s.env t = v) (h : Cf.less ⟨n, env, loc, τ⟩ s) : Cf.less ⟨n, (t, v) :: env, loc, τ⟩ s := by
  refine ⟨h.n, fun t' => ?_, h.loc, h.σ⟩
  show get ((t, v) :: env) t' = _ ∨ _
  simp only [get_pp]
  split
  · rename_i q; subst q; exact .inr hv.symm
  · exact h.env t'
theorem less_loc {n : Nat} {env : List (Nat × PV)} {loc : List (Nat × List PV)} {τ : St} {s : Cf} {d : Nat} {cs : List PV} (hv : getL s.loc d = some cs) (h : Cf.less ⟨n, env, loc, τ⟩ s) : Cf.less ⟨n, env, (d, cs) :: loc, τ⟩ s := by
  refine ⟨h.n, h.env, fun d' => ?_, h.σ⟩
  show getL ((d, cs) :: loc) d' = _ ∨ getL ((d, cs) :: loc) d' = _
  simp only [getL]
  split
  · rename_i q; subst q; exact .inr hv.symm
  · exact h.loc d'
end Go.Pv
-- PvTypes
namespace Go.Pv
open Go Go.RowKit
/-! ### the table of a program's types -/
def zcells (P : Program) : Nat → TypeId → Option (List PV)
  | 0, _ => none
  | n + 1, t => match P.underlying t with
    | some (.int k) => some [.val (.int k 0)]
    | some .bool => some [.val (.bool false)]
    | some .string => some [.val (.string ⟨#[]⟩)]
    | some (.pointer _) => some [.val (.pointer none)]
    | some (.map _ _) => some [.val (.map none)]
    | some (.func _ _ _) => some [.val .nilFunc]
    | some (.interface _) => some [.val .nilIface]
    | some (.slice e) => (P.info? e).map fun i => [.list .full i.size []]
    | some (.struct fs) => fs.toList.foldr (fun f r => match zcells P n f.type, r with | some x, some y => some (x ++ y) | _, _ => none) (some [])
    | some (.array m e) => (zcells P n e).map fun x => (List.replicate m x).flatten
    | _ => none
def zeq : PV → Value → Bool
  | .val (.int k a), .int k' b => decide (k = k') && decide (a = b)
  | .val (.bool a), .bool b => a == b
  | .val (.string a), .string b => decide (a.data = b.data)
  | .val (.pointer none), .pointer none => true
  | .val (.map none), .map none => true
  | .val .nilFunc, .nilFunc => true
  | .val .nilIface, .nilIface => true
  | .list .full _ [], .slice none 0 0 => true
  | _, _ => false
theorem zeq_rel {x : PV} {u : Value} (h : zeq x u = true) (G : Sett) : Rel G x u := by
  unfold zeq at h
  split at h
  · simp at h; obtain ⟨rfl, rfl⟩ := h; rfl
  · simp at h; subst h; rfl
  · simp at h
    rename_i a b
    cases a; cases b
    simp at h
    subst h
    rfl
  all_goals first
    | rfl
    | exact rel_nil G _
    | cases h
def zeqs : List PV → List Value → Bool
  | [], [] => true
  | x :: xs, u :: us => zeq x u && zeqs xs us
  | _, _ => false
theorem zeqs_rel (G : Sett) : ∀ (xs : List PV) (us : List Value), zeqs xs us = true → RelL G xs us
  | [], [], _ => rfl
  | x :: xs, u :: us, h => by
    simp only [zeqs, Bool.and_eq_true] at h
    exact ⟨u, us, rfl, zeq_rel h.1 G, zeqs_rel G xs us h.2⟩
  | [], _ :: _, h => by cases h
  | _ :: _, [], h => by cases h
def ztype (i : TypeInfo) (d : TypeDesc) (cs : List PV) : Value → Option TI
  | .agg us => if isAggD d && zeqs cs us.toList && us.size == i.size then some ⟨i.size, i.bytes, .agg cs, d⟩ else none
  | u => match cs with
    | [x] => if !isAggD d && zeq x u && i.size == 1 then some ⟨i.size, i.bytes, x, d⟩ else none
    | _ => none
def ttOf (P : Program) (t : TypeId) : Option TI :=
  match P.info? t, P.underlying t with
  | some i, some d => match i.zero, zcells P 30 t with
    | some z, some cs => ztype i d cs z
    | _, _ => none
  | _, _ => none
theorem ztype_ok {i : TypeInfo} {d : TypeDesc} {cs : List PV} {z : Value} {x : TI} (h : ztype i d cs z = some x) : x.desc = d ∧ x.size = i.size ∧ x.bytes = i.bytes ∧ z.cells.size = x.size ∧ ∀ G, Rel G x.zero z := by
  unfold ztype at h
  split at h
  · split at h
    · rename_i hc
      simp only [Bool.and_eq_true, beq_iff_eq] at hc
      cases h
      exact ⟨rfl, rfl, rfl, hc.2, fun G => ⟨_, by simp, zeqs_rel G _ _ hc.1.2⟩⟩
    · cases h
  · rename_i hne
    split at h
    · split at h
      · rename_i hc
        simp only [Bool.and_eq_true, beq_iff_eq] at hc
        cases h
        refine ⟨rfl, rfl, rfl, ?_, fun G => zeq_rel hc.1.2 G⟩
        have : z.cells = #[z] := by cases z <;> first | rfl | exact absurd rfl (hne _)
        rw [this, hc.2]; rfl
      · cases h
    · cases h
theorem tOk (P : Program) : TOk P (ttOf P) where
  und := fun t i h => by
    unfold ttOf at h
    split at h
    · rename_i inf d h1 h2
      split at h
      · rw [h2, (ztype_ok h).1]
      · cases h
    · cases h
  info := fun t i h => by
    unfold ttOf at h
    split at h
    · rename_i inf d h1 h2
      split at h
      · rename_i z cs h3 h4
        obtain ⟨_, q1, q2, q3, q4⟩ := ztype_ok h
        exact ⟨inf, h1, q1.symm, q2.symm, z, h3, q3, q4⟩
      · cases h
    · cases h
end Go.Pv
-- PvSimp
namespace Go.Pv
open Go Go.RowKit
/-! ### queries of the types' table, and what the operations come to by them -/
def tsz (tt : TT) (t : TypeId) : Option (Nat × Bool) := (tt t).map fun i => (i.size, isAggD i.desc)
/-- A slice's element: its cells, its bytes. -/
def slz (tt : TT) (t : TypeId) : Option (Nat × Nat) := match dsc tt t with
  | some (.slice e) => (tt e).map fun i => (i.size, i.bytes)
  | _ => none
/-- An array: its length, its element's type and cells. -/
def arz (tt : TT) (t : TypeId) : Option (Nat × TypeId × Nat) := match dsc tt t with
  | some (.array n e) => (tt e).map fun i => (n, e, i.size)
  | _ => none
def zcs (tt : TT) (t : TypeId) : Option (List PV) := match tt t with
  | some i => cellsOf i.zero
  | none => none
/-- A slice's element: its cells, its zero value. -/
def bsl (tt : TT) (t : TypeId) : Option (Nat × PV) := match dsc tt t with
  | some (.slice e) => match tt e with
    | some ie => if 0 < ie.size ∧ storE ie.zero = true then some (ie.size, forget ie.zero) else none
    | none => none
  | _ => none
def bld (tt : TT) (t : TypeId) : Option (List (Nat × Nat) × List PV) := match tt t with
  | some i => match cellsOf i.zero, i.desc with
    | some z, .struct fs => (placesOf tt fs.toList).map fun p => (p, z)
    | _, _ => none
  | none => none
def isIfc (tt : TT) (t : TypeId) : Option Bool := (dsc tt t).map fun d => match d with | .interface _ => true | _ => false
variable {tt : TT} {s : Cf}
theorem slz_some {t : TypeId} {n b : Nat} (h : slz tt t = some (n, b)) : ∃ e i, dsc tt t = some (.slice e) ∧ tt e = some i ∧ i.size = n ∧ i.bytes = b := by
  unfold slz at h
  split at h
  · rename_i e hd
    cases q : tt e with
    | none => simp [q] at h
    | some i => simp [q] at h; exact ⟨e, i, hd, q, h.1, h.2⟩
  · cases h
theorem arz_some {t : TypeId} {n m : Nat} {e : TypeId} (h : arz tt t = some (n, e, m)) : ∃ i, dsc tt t = some (.array n e) ∧ tt e = some i ∧ i.size = m := by
  unfold arz at h
  split at h
  · rename_i n' e' hd
    cases q : tt e' with
    | none => simp [q] at h
    | some i => simp [q] at h; obtain ⟨rfl, rfl, rfl⟩ := h; exact ⟨i, hd, q, rfl⟩
  · cases h
theorem norm_nil {t : TypeId} {n b : Nat} (h : slz tt t = some (n, b)) : norm tt t (.val (.slice none 0 0)) = .list .full n [] := by
  obtain ⟨e, i, h1, h2, rfl, _⟩ := slz_some h
  unfold dsc at h1
  simp only [norm, h1, h2]
theorem norm_int (t : TypeId) (k : IntKind) (n : Int) : norm tt t (.val (.int k n)) = .val (.int k n) := (rfl)
theorem norm_bool (t : TypeId) (b : Bool) : norm tt t (.val (.bool b)) = .val (.bool b) := (rfl)
theorem norm_str (t : TypeId) (b : ByteArray) : norm tt t (.val (.string b)) = .val (.string b) := (rfl)
theorem norm_ptr (t : TypeId) (p : Option Addr) : norm tt t (.val (.pointer p)) = .val (.pointer p) := (rfl)
theorem norm_func (t : TypeId) (f : Fn) (x y : Array Value) : norm tt t (.val (.func f x y)) = .val (.func f x y) := (rfl)
theorem norm_agg (t : TypeId) (cs : List PV) : norm tt t (.agg cs) = .agg cs := (rfl)
theorem pcut_agg {t : TypeId} {n : Nat} (h : tsz tt t = some (n, true)) (cs : List PV) (off : Nat) : pcut tt t cs off = if off + n ≤ cs.length then some (.agg ((cs.drop off).take n)) else none := by
  unfold tsz at h
  unfold pcut
  cases q : tt t with
  | none => simp [q] at h
  | some i => simp [q] at h; simp [h.1, h.2]
theorem pcut_one {t : TypeId} {n : Nat} (h : tsz tt t = some (n, false)) (cs : List PV) (off : Nat) : pcut tt t cs off = cs[off]? := by
  unfold tsz at h
  unfold pcut
  cases q : tt t with
  | none => simp [q] at h
  | some i => simp [q] at h; simp [h.2]
theorem pia_list {t : TypeId} {n b : Nat} (h : slz tt t = some (n, b)) (k : Cap) (sz : Nat) (xs : List PV) (kk : IntKind) (i : Int) :
    pindexAddr tt t (.list k sz xs) (.val (.int kk i)) = if sz = n ∧ 0 ≤ i then (match xs[i.toNat]? with | some y => (cellsOf y).map .eptr | none => none) else none := by
  obtain ⟨e, ie, h1, h2, rfl, _⟩ := slz_some h
  simp only [pindexAddr, h1, h2] <;> rfl
theorem pia_val {t : TypeId} {n b : Nat} (h : slz tt t = some (n, b)) (bk off len c : Nat) (kk : IntKind) (i : Int) :
    pindexAddr tt t (.val (.slice (some ⟨bk, off, none⟩) len c)) (.val (.int kk i)) = if 0 ≤ i ∧ i < len then some (.val (.pointer (some ⟨bk, off + i.toNat * n, none⟩))) else none := by
  obtain ⟨e, ie, h1, h2, rfl, _⟩ := slz_some h
  simp only [pindexAddr, h1, h2] <;> rfl
theorem pia_arr {t : TypeId} {n m : Nat} {e : TypeId} (h : arz tt t = some (n, e, m)) (x : PV) (kk : IntKind) (i : Int) :
    pindexAddr tt t x (.val (.int kk i)) = if 0 ≤ i ∧ i < n then pfieldAddr (i.toNat * m) x else none := by
  obtain ⟨ie, h1, h2, rfl⟩ := arz_some h
  simp only [pindexAddr, h1, h2] <;> rfl
theorem pix_arr {t : TypeId} {n m : Nat} {e : TypeId} (h : arz tt t = some (n, e, m)) (cs : List PV) (kk : IntKind) (i : Int) :
    pindex tt t (.agg cs) (.val (.int kk i)) = if 0 ≤ i ∧ i < n then pcut tt e cs (i.toNat * m) else none := by
  obtain ⟨ie, h1, h2, rfl⟩ := arz_some h
  simp only [pindex, h1, h2] <;> rfl
theorem pix_str {t : TypeId} (h : dsc tt t = some .string) (z : ByteArray) (kk : IntKind) (i : Int) :
    pindex tt t (.val (.string z)) (.val (.int kk i)) = if 0 ≤ i ∧ i < z.size then some (.val (.int .u8 (byt z i))) else none := by
  simp only [pindex, h] <;> rfl
theorem psl_str {t : TypeId} (h : dsc tt t = some .string) (z : ByteArray) (lo hi : Option Operand) :
    pslice tt s t (.val (.string z)) lo hi = (match pbound s z.size z.size hi with | some h => (match pbound s 0 h lo with | some l => some (.val (.string (z.extract l h))) | none => none) | none => none) := by
  simp only [pslice, h] <;> rfl
theorem psl_list {t : TypeId} {n b : Nat} (h : slz tt t = some (n, b)) (k : Cap) (sz : Nat) (xs : List PV) (lo hi : Option Operand) :
    pslice tt s t (.list k sz xs) lo hi = if sz = n then (match pbound s xs.length xs.length hi with | some h => (match pbound s 0 h lo with | some l => some (.list (k.cut sz l h xs.length) sz ((xs.take h).drop l)) | none => none) | none => none) else none := by
  obtain ⟨e, ie, h1, h2, rfl, _⟩ := slz_some h
  simp only [pslice, h1, h2] <;> rfl
theorem pln_str {t : TypeId} (h : dsc tt t = some .string) (z : ByteArray) : plen tt s t (.val (.string z)) = some (.val (.int .i64 z.size)) := by simp only [plen, h]
theorem pln_list {t : TypeId} {n b : Nat} (h : slz tt t = some (n, b)) (k : Cap) (sz : Nat) (xs : List PV) : plen tt s t (.list k sz xs) = some (.val (.int .i64 xs.length)) := by
  obtain ⟨e, ie, h1, h2, rfl, _⟩ := slz_some h
  simp only [plen, h1]
theorem pln_val {t : TypeId} {n b : Nat} (h : slz tt t = some (n, b)) (a : Option Addr) (l c : Nat) : plen tt s t (.val (.slice a l c)) = some (.val (.int .i64 l)) := by
  obtain ⟨e, ie, h1, h2, rfl, _⟩ := slz_some h
  simp only [plen, h1]
theorem pbl_struct {t : TypeId} {pl : List (Nat × Nat)} {z : List PV} (h : bld tt t = some (pl, z)) (ps : List (Nat × PV)) : pbuild tt t ps = (pfill (pl[·]?) z ps).map .agg := by
  unfold bld at h
  unfold pbuild
  split at h
  · rename_i i hi
    simp only [hi]
    split at h
    · rename_i z' fs hz hd
      cases q : placesOf tt fs.toList with
      | none => simp [q] at h
      | some p => simp [q] at h; simp only [hz, hd, q]; rw [h.1, h.2]
    · cases h
  · cases h
theorem pal_some {esc : List Nat} {d : Nat} {t : TypeId} {cs : List PV} (h : zcs tt t = some cs) (K : PV → Cf → Prop) : palloc tt esc s (some d) t K = pnew esc s d cs K := by
  unfold zcs at h
  unfold palloc
  split at h
  · rename_i i hi; simp only [hi, h]
  · cases h
theorem pbv_some {t : TypeId} {n : Nat} {z : PV} (h : bsl tt t = some (n, z)) (m : Nat) (ps : List (Nat × PV)) :
    pbuildV tt t m ps = (match pfillE tt n (List.replicate m z) ps with | some xs => if m * n ≤ 16777216 then some (.list .full n xs) else none | none => none) := by
  unfold bsl at h
  unfold pbuildV
  split at h
  · rename_i e hd
    simp only [hd]
    split at h
    · rename_i ie hie
      simp only [hie]
      split at h
      · rename_i hc
        simp at h
        obtain ⟨rfl, rfl⟩ := h
        simp only [hc.1, hc.2, and_true]
        rfl
      · cases h
    · cases h
  · cases h
theorem pst_loc {t : TypeId} {n : Nat} {g : Bool} (h : tsz tt t = some (n, g)) {v : PV} {vs : List PV} (hv : cellsOf v = some vs) (d off : Nat) (K : PV → Cf → Prop) :
    pstore tt s t (.lptr d off) v K = (vs.length = n ∧ vs.all stor = true ∧ match getL s.loc d with | some cs => off + vs.length ≤ cs.length ∧ K undefV { s with loc := (d, pset cs off vs) :: s.loc } | none => False) := by
  unfold tsz at h
  unfold pstore
  cases q : tt t with
  | none => simp [q] at h
  | some i => simp [q] at h; simp only [hv, h.1] <;> rfl
theorem pst_obj {t : TypeId} {n : Nat} {g : Bool} (h : tsz tt t = some (n, g)) {v : PV} {vs : List PV} (hv : cellsOf v = some vs) (b off : Nat) (K : PV → Cf → Prop) :
    pstore tt s t (.val (.pointer (some ⟨b, off, none⟩))) v K = (vs.length = n ∧ vs.all stor = true ∧ match s.σ.obj b with | some (.cells cs) => off + vs.length ≤ cs.length ∧ K undefV { s with σ := s.σ.set b (.cells (pset cs off vs)) } | _ => False) := by
  unfold tsz at h
  unfold pstore
  cases q : tt t with
  | none => simp [q] at h
  | some i => simp [q] at h; simp only [hv, h.1] <;> rfl
theorem pel_list {t2 : TypeId} {n b : Nat} (h : slz tt t2 = some (n, b)) (k : Cap) (sz : Nat) (ys : List PV) : pelems tt t2 (.list k sz ys) = some (sz, ys) := by
  obtain ⟨e, ie, h1, h2, rfl, _⟩ := slz_some h
  simp only [pelems, h1]
theorem pel_str {t2 : TypeId} (h : dsc tt t2 = some .string) (z : ByteArray) : pelems tt t2 (.val (.string z)) = some (1, bytesP z) := by
  simp only [pelems, h]
theorem pap_list {t t2 : TypeId} {n b : Nat} (h : slz tt t = some (n, b)) {k : Cap} {sz : Nat} {xs : List PV} {y : PV} {sz2 : Nat} {ys : List PV} (hy : pelems tt t2 y = some (sz2, ys)) (K : PV → Cf → Prop) :
    pappend tt s t t2 (.list k sz xs) y K = (sz = n ∧ sz2 = n ∧ (xs.length + ys.length) * b ≤ 140737488355328 ∧ xs.length + ys.length ≤ 9223372036854775807 ∧ Owns s.σ xs.length sz k ∧
        ∀ k' σ', Appended s.σ k (xs.length + ys.length) sz k' σ' → K (.list k' sz (xs ++ ys)) { s with σ := σ' }) := by
  obtain ⟨e, ie, h1, h2, rfl, rfl⟩ := slz_some h
  simp only [pappend, h1, h2, hy]
theorem piface_q {t : TypeId} (h : isIfc tt t = some false) (x : PV) : piface tt t x = if notL x then some (.iface t x) else none := by
  unfold isIfc at h
  unfold piface
  cases q : dsc tt t with
  | none => simp [q] at h
  | some d => cases d <;> simp_all
theorem passert_q {t : TypeId} (h : isIfc tt t = some false) (t' : TypeId) (v : PV) (ok : Bool) : passert tt t (.iface t' v) ok = if t' = t then some (if ok then .tuple [v, .val (.bool true)] else v) else none := by
  unfold isIfc at h
  unfold passert
  cases q : dsc tt t with
  | none => simp [q] at h
  | some d => cases d <;> simp_all
theorem pconv_int {a b : TypeId} {k : IntKind} (ha : (dsc tt a).isSome = true) (hb : dsc tt b = some (.int k)) (k' : IntKind) (n : Int) : pconv tt a b (.val (.int k' n)) = some (.val (.int k (k.wrap n))) := by
  cases q : dsc tt a with
  | none => simp [q] at ha
  | some d => cases d <;> simp_all [pconv]
/-! ### what follows -/
theorem kthen_norm (f : Cf → Kt → Prop) (K : Kt) (s : Cf) : kthen f K .normal s = f s K := (rfl)
theorem kthen_exit (f : Cf → Kt → Prop) (K : Kt) (i : Nat) (s : Cf) : kthen f K (.exit i) s = K (.exit i) s := (rfl)
theorem kthen_ret (f : Cf → Kt → Prop) (K : Kt) (s : Cf) : kthen f K .ret s = K .ret s := (rfl)
theorem kthen_panic (f : Cf → Kt → Prop) (K : Kt) (v : PV) (s : Cf) : kthen f K (.panic v) s = K (.panic v) s := (rfl)
theorem kblock_norm (i : Nat) (K : Kt) (s : Cf) : kblock i K .normal s = K .normal s := (rfl)
theorem kblock_exit (i j : Nat) (K : Kt) (s : Cf) : kblock i K (.exit j) s = if j = i then K .normal s else K (.exit j) s := (rfl)
theorem kblock_ret (i : Nat) (K : Kt) (s : Cf) : kblock i K .ret s = K .ret s := (rfl)
theorem kblock_panic (i : Nat) (K : Kt) (v : PV) (s : Cf) : kblock i K (.panic v) s = K (.panic v) s := (rfl)
theorem kround_norm (R : Cf → Prop) (K : Kt) (s : Cf) : kround R K .normal s = R s := (rfl)
theorem kround_exit (R : Cf → Prop) (K : Kt) (i : Nat) (s : Cf) : kround R K (.exit i) s = K (.exit i) s := (rfl)
theorem kround_ret (R : Cf → Prop) (K : Kt) (s : Cf) : kround R K .ret s = K .ret s := (rfl)
theorem kround_panic (R : Cf → Prop) (K : Kt) (v : PV) (s : Cf) : kround R K (.panic v) s = K (.panic v) s := (rfl)
theorem knorm_q (K : Kt) (s : Cf) : knorm K s = K .normal s := (rfl)
theorem kpan_q (K : Kt) (v : PV) (s : Cf) : kpan K v s = K (.panic v) s := (rfl)
theorem knext_q (f : Cf → Prop) (d : Option Nat) (v : PV) (s : Cf) : knext f d v s = f (s.put d v) := (rfl)
theorem dnext_q (tt : TT) (ops : Array Oper) (cs : List Nat) (f : Cf → Prop) (d : Option Nat) (v : PV) (s : Cf) : dnext tt ops cs f d v s = (rechecks tt ops s cs ∧ f (s.put d v)) := (rfl)
theorem put_some (n : Nat) (env : List (Nat × PV)) (loc : List (Nat × List PV)) (σ : St) (d : Nat) (v : PV) (h : d < n) : Cf.put ⟨n, env, loc, σ⟩ (some d) v = ⟨n, (d, v) :: env, loc, σ⟩ := by simp [Cf.put, h]
theorem put_none (s : Cf) (v : PV) : Cf.put s none v = s := (rfl)
theorem kret_q (K : Res → St → Prop) (σ : St) (r : Res) : kret K σ r = ∃ τ, τ.sub σ ∧ K r τ := (rfl)
/-! ### the steps of a walk -/
section
variable {P : Program} {esc : List Nat} {ord : Ords} {K : Kt}
/-- What is behind a piece of code. -/
def kseq (P : Program) (tt : TT) (esc : List Nat) (ord : Ords) (y : Code) (K : Kt) : Kt := kthen (pwp P tt esc ord y) K
/-- The operations behind one. -/
def kops (P : Program) (tt : TT) (esc : List Nat) (ops : Array Oper) (K : Cf → Prop) (X : PV → Cf → Prop) (os : List Oper) (dst : Option Nat) : PV → Cf → Prop := knext (pseq P tt esc ops K X os) dst
def kdops (P : Program) (tt : TT) (esc : List Nat) (ops : Array Oper) (K : Cf → Prop) (X : PV → Cf → Prop) (l : List (Nat × List Nat)) (cs : List Nat) (dst : Option Nat) : PV → Cf → Prop := dnext tt ops cs (pdseq P tt esc ops K X l) dst
theorem w_skip (s : Cf) : pwp P tt esc ord .skip s K = K .normal s := (rfl)
theorem w_reg (i : Nat) (ops : List Oper) (s : Cf) : pwp P tt esc ord (.region i ⟨ops⟩ false) s K = pseq P tt esc ⟨ops⟩ (knorm K) (kpan K) ops s := (rfl)
theorem w_draw (i : Nat) (ops : Array Oper) (s : Cf) : pwp P tt esc ord (.region i ops true) s K = pdraw P tt esc ops (knorm K) (kpan K) s (ordOf ord i) := (rfl)
theorem pdraw_q (ops : Array Oper) (K : Cf → Prop) (X : PV → Cf → Prop) (n : Nat) (env : List (Nat × PV)) (loc : List (Nat × List PV)) (σ : St) (mx : Nat) (l : List (Nat × List Nat)) : pdraw P tt esc ops K X ⟨n, env, loc, σ⟩ (mx, l) = (mx < n ∧ pdseq P tt esc ops K X l ⟨n, env, loc, σ⟩) := (rfl)
theorem w_seq (x y : Code) (s : Cf) : pwp P tt esc ord (.seq x y) s K = pwp P tt esc ord x s (kseq P tt esc ord y K) := (rfl)
theorem w_block (i : Nat) (x : Code) (s : Cf) : pwp P tt esc ord (.block i x) s K = pwp P tt esc ord x s (kblock i K) := (rfl)
theorem w_exit (i : Nat) (s : Cf) : pwp P tt esc ord (.exit i) s K = K (.exit i) s := (rfl)
theorem w_ret (s : Cf) : pwp P tt esc ord .ret s K = K .ret s := (rfl)
theorem w_cond {c : Operand} {x y : Code} {s : Cf} {b : Bool} (h : eval s c = .val (.bool b)) : pwp P tt esc ord (.cond c x y) s K = ((b = true → pwp P tt esc ord x s K) ∧ (b = false → pwp P tt esc ord y s K)) := by
  simp only [pwp, h]
theorem w_cond_t {c : Operand} {x y : Code} {s : Cf} (h : eval s c = .val (.bool true)) : pwp P tt esc ord (.cond c x y) s K = pwp P tt esc ord x s K := by
  simp [pwp, h]
theorem w_cond_f {c : Operand} {x y : Code} {s : Cf} (h : eval s c = .val (.bool false)) : pwp P tt esc ord (.cond c x y) s K = pwp P tt esc ord y s K := by
  simp [pwp, h]
theorem w_ops_nil {ops : Array Oper} {K : Cf → Prop} {X : PV → Cf → Prop} (s : Cf) : pseq P tt esc ops K X [] s = K s := (rfl)
theorem w_ops {ops : Array Oper} {K : Cf → Prop} {X : PV → Cf → Prop} (d : Option Nat) (op : Op) (t : TypeId) (p : String) (af : Array Edge) (os : List Oper) (s : Cf) :
    pseq P tt esc ops K X (⟨d, op, t, p, af, none⟩ :: os) s = pstep P tt esc s ⟨d, op, t, p, af, none⟩ (kops P tt esc ops K X os d) X := rfl
/-- A guarded operation: what it is guarded by is known. -/
theorem w_ops_g {ops : Array Oper} {K : Cf → Prop} {X : PV → Cf → Prop} (d : Option Nat) (op : Op) (t : TypeId) (p : String) (af : Array Edge) (j : Nat) (want : Bool) (os : List Oper) (s : Cf) {e : Nat} (he : (ops[j]?).bind (fun x => x.dst) = some e) {b : Bool} (hb : get s.env e = .val (.bool b)) :
    pseq P tt esc ops K X (⟨d, op, t, p, af, some (j, want)⟩ :: os) s = ((b = want → pstep P tt esc s ⟨d, op, t, p, af, none⟩ (kops P tt esc ops K X os d) X) ∧ (b = !want → pseq P tt esc ops K X os (s.put d undefV))) := by
  have hs : ∀ (Kf : PV → Cf → Prop), pstep P tt esc s ⟨d, op, t, p, af, some (j, want)⟩ Kf X = pstep P tt esc s ⟨d, op, t, p, af, none⟩ Kf X := fun _ => rfl
  simp only [pseq, guarded, he, hb, hs]
  rfl
theorem w_ops_run {ops : Array Oper} {K : Cf → Prop} {X : PV → Cf → Prop} (d : Option Nat) (op : Op) (t : TypeId) (p : String) (af : Array Edge) (j : Nat) (want : Bool) (os : List Oper) (s : Cf) {e : Nat} (he : (ops[j]?).bind (fun x => x.dst) = some e) (hb : get s.env e = .val (.bool want)) :
    pseq P tt esc ops K X (⟨d, op, t, p, af, some (j, want)⟩ :: os) s = pstep P tt esc s ⟨d, op, t, p, af, none⟩ (kops P tt esc ops K X os d) X := by
  rw [w_ops_g (he := he) (hb := hb)]
  simp
theorem w_ops_skip {ops : Array Oper} {K : Cf → Prop} {X : PV → Cf → Prop} (d : Option Nat) (op : Op) (t : TypeId) (p : String) (af : Array Edge) (j : Nat) (want : Bool) (os : List Oper) (s : Cf) {e : Nat} (he : (ops[j]?).bind (fun x => x.dst) = some e) (hb : get s.env e = .val (.bool (!want))) :
    pseq P tt esc ops K X (⟨d, op, t, p, af, some (j, want)⟩ :: os) s = pseq P tt esc ops K X os (s.put d undefV) := by
  rw [w_ops_g (he := he) (hb := hb)]
  simp
theorem w_ops_undef {ops : Array Oper} {K : Cf → Prop} {X : PV → Cf → Prop} (d : Option Nat) (op : Op) (t : TypeId) (p : String) (af : Array Edge) (j : Nat) (want : Bool) (os : List Oper) (s : Cf) {e : Nat} (he : (ops[j]?).bind (fun x => x.dst) = some e) (hb : get s.env e = undefV) :
    pseq P tt esc ops K X (⟨d, op, t, p, af, some (j, want)⟩ :: os) s = pseq P tt esc ops K X os (s.put d undefV) := by
  simp only [pseq, guarded, he, hb, undefV, Go.undef]
theorem kops_q {ops : Array Oper} {K : Cf → Prop} {X : PV → Cf → Prop} (os : List Oper) (d : Option Nat) (v : PV) (s : Cf) : kops P tt esc ops K X os d v s = pseq P tt esc ops K X os (s.put d v) := (rfl)
theorem kseq_norm (y : Code) (s : Cf) : kseq P tt esc ord y K .normal s = pwp P tt esc ord y s K := (rfl)
theorem kseq_exit (y : Code) (i : Nat) (s : Cf) : kseq P tt esc ord y K (.exit i) s = K (.exit i) s := (rfl)
theorem kseq_ret (y : Code) (s : Cf) : kseq P tt esc ord y K .ret s = K .ret s := (rfl)
theorem kseq_panic (y : Code) (v : PV) (s : Cf) : kseq P tt esc ord y K (.panic v) s = K (.panic v) s := (rfl)
theorem kdops_q {ops : Array Oper} {K : Cf → Prop} {X : PV → Cf → Prop} (l : List (Nat × List Nat)) (d : Option Nat) (cs : List Nat) (v : PV) (s : Cf) : kdops P tt esc ops K X l cs d v s = (rechecks tt ops s cs ∧ pdseq P tt esc ops K X l (s.put d v)) := (rfl)
theorem kdops_nil {ops : Array Oper} {K : Cf → Prop} {X : PV → Cf → Prop} (l : List (Nat × List Nat)) (d : Option Nat) (v : PV) (s : Cf) : kdops P tt esc ops K X l [] d v s = pdseq P tt esc ops K X l (s.put d v) := by
  rw [kdops_q]; simp [rechecks]
theorem w_dops_nil {ops : Array Oper} {K : Cf → Prop} {X : PV → Cf → Prop} (s : Cf) : pdseq P tt esc ops K X [] s = K s := (rfl)
theorem w_dops {ops : Array Oper} {K : Cf → Prop} {X : PV → Cf → Prop} {i : Nat} {d : Option Nat} {op : Op} {t : TypeId} {p : String} {af : Array Edge} (h : ops[i]? = some ⟨d, op, t, p, af, none⟩) (cs : List Nat) (l : List (Nat × List Nat)) (s : Cf) :
    pdseq P tt esc ops K X ((i, cs) :: l) s = pstep P tt esc s ⟨d, op, t, p, af, none⟩ (kdops P tt esc ops K X l cs d) X := by
  simp only [pdseq, h]; rfl
theorem w_dops_g {ops : Array Oper} {K : Cf → Prop} {X : PV → Cf → Prop} {i : Nat} {d : Option Nat} {op : Op} {t : TypeId} {p : String} {af : Array Edge} {j : Nat} {want : Bool} (h : ops[i]? = some ⟨d, op, t, p, af, some (j, want)⟩) (cs : List Nat) (l : List (Nat × List Nat)) (s : Cf)
    {e : Nat} (he : (ops[j]?).bind (fun x => x.dst) = some e) {b : Bool} (hb : get s.env e = .val (.bool b)) :
    pdseq P tt esc ops K X ((i, cs) :: l) s = ((b = want → pstep P tt esc s ⟨d, op, t, p, af, none⟩ (kdops P tt esc ops K X l cs d) X) ∧ (b = !want → pdseq P tt esc ops K X l (s.put d undefV))) := by
  have hs : ∀ (Kf : PV → Cf → Prop), pstep P tt esc s ⟨d, op, t, p, af, some (j, want)⟩ Kf X = pstep P tt esc s ⟨d, op, t, p, af, none⟩ Kf X := fun _ => rfl
  simp only [pdseq, h, guarded, he, hb, hs]
  rfl
theorem w_dops_run {ops : Array Oper} {K : Cf → Prop} {X : PV → Cf → Prop} {i : Nat} {d : Option Nat} {op : Op} {t : TypeId} {p : String} {af : Array Edge} {j : Nat} {want : Bool} (h : ops[i]? = some ⟨d, op, t, p, af, some (j, want)⟩) (cs : List Nat) (l : List (Nat × List Nat)) (s : Cf)
    {e : Nat} (he : (ops[j]?).bind (fun x => x.dst) = some e) (hb : get s.env e = .val (.bool want)) :
    pdseq P tt esc ops K X ((i, cs) :: l) s = pstep P tt esc s ⟨d, op, t, p, af, none⟩ (kdops P tt esc ops K X l cs d) X := by
  rw [w_dops_g (h := h) (he := he) (hb := hb)]
  simp
theorem w_dops_skip {ops : Array Oper} {K : Cf → Prop} {X : PV → Cf → Prop} {i : Nat} {d : Option Nat} {op : Op} {t : TypeId} {p : String} {af : Array Edge} {j : Nat} {want : Bool} (h : ops[i]? = some ⟨d, op, t, p, af, some (j, want)⟩) (cs : List Nat) (l : List (Nat × List Nat)) (s : Cf)
    {e : Nat} (he : (ops[j]?).bind (fun x => x.dst) = some e) (hb : get s.env e = .val (.bool (!want))) :
    pdseq P tt esc ops K X ((i, cs) :: l) s = pdseq P tt esc ops K X l (s.put d undefV) := by
  rw [w_dops_g (h := h) (he := he) (hb := hb)]
  simp
theorem w_dops_undef {ops : Array Oper} {K : Cf → Prop} {X : PV → Cf → Prop} {i : Nat} {d : Option Nat} {op : Op} {t : TypeId} {p : String} {af : Array Edge} {j : Nat} {want : Bool} (h : ops[i]? = some ⟨d, op, t, p, af, some (j, want)⟩) (cs : List Nat) (l : List (Nat × List Nat)) (s : Cf)
    {e : Nat} (he : (ops[j]?).bind (fun x => x.dst) = some e) (hb : get s.env e = undefV) :
    pdseq P tt esc ops K X ((i, cs) :: l) s = pdseq P tt esc ops K X l (s.put d undefV) := by
  simp only [pdseq, h, guarded, he, hb, undefV, Go.undef]
/-- An operation that reads. -/
theorem st_read {o : Oper} {s : Cf} {v : PV} (h : pread tt s o.type o.op = some v) (Kf X : PV → Cf → Prop) : pstep P tt esc s o Kf X = Kf v s := by
  simp only [pstep, h]
theorem st_eff {o : Oper} {s : Cf} (h : pread tt s o.type o.op = none) (Kf X : PV → Cf → Prop) : pstep P tt esc s o Kf X = peff P tt esc s o Kf X := by
  simp only [pstep, h]
end
end Go.Pv
-- PvRun
namespace Go.Pv
open Go Go.RowKit
/-! ### a walk by rewriting: every step's parts are arguments of what follows -/
variable {P : Program} {tt : TT} {esc : List Nat} {ord : Ords} {K : Kt} {s : Cf}
def kopt (v : Option PV) (Kf : PV → Cf → Prop) (s : Cf) : Prop := match v with | some v => Kf v s | none => False
theorem kopt_some (v : PV) (Kf : PV → Cf → Prop) (s : Cf) : kopt (some v) Kf s = Kf v s := (rfl)
/- types -/
def isStr (tt : TT) (t : TypeId) : Bool := match dsc tt t with | some .string => true | _ => false
theorem isStr_iff {t : TypeId} (h : isStr tt t = true) : dsc tt t = some .string := by
  unfold isStr at h
  split at h
  · assumption
  · cases h
def pcutQ : Option (Nat × Bool) → List PV → Nat → Option PV
  | some (n, true), cs, off => if off + n ≤ cs.length then some (.agg ((cs.drop off).take n)) else none
  | some (_, false), cs, off => cs[off]?
  | none, _, _ => none
theorem pcut_q (t : TypeId) (cs : List PV) (off : Nat) : pcut tt t cs off = pcutQ (tsz tt t) cs off := by
  unfold pcut tsz
  cases tt t with
  | none => rfl
  | some i => cases q : isAggD i.desc <;> simp [pcutQ, q]
theorem pcutQ_agg (n : Nat) (cs : List PV) (off : Nat) : pcutQ (some (n, true)) cs off = if off + n ≤ cs.length then some (.agg ((cs.drop off).take n)) else none := (rfl)
theorem pcutQ_one (n : Nat) (cs : List PV) (off : Nat) : pcutQ (some (n, false)) cs off = cs[off]? := (rfl)
def nilQ : Option (Nat × Nat) → PV
  | some (n, _) => .list .full n []
  | none => .val (.slice none 0 0)
theorem norm_q (t : TypeId) : norm tt t (.val (.slice none 0 0)) = nilQ (slz tt t) := by
  cases h : slz tt t with
  | some p => obtain ⟨n, b⟩ := p; exact norm_nil h
  | none =>
    unfold slz at h
    unfold norm nilQ
    have e : ((tt t).map (fun i => i.desc) : Option TypeDesc) = dsc tt t := rfl
    rw [e]
    cases hd : dsc tt t with
    | none => rfl
    | some d =>
      rw [hd] at h
      cases d <;> first | rfl | skip
      rename_i el
      cases hq : tt el with
      | none => simp only [hq]
      | some i => simp [hq] at h
theorem nilQ_q (n b : Nat) : nilQ (some (n, b)) = .list .full n [] := (rfl)
def piaQ (sl : Option (Nat × Nat)) (ar : Option (Nat × TypeId × Nat)) (x ix : PV) : Option PV :=
  match ix with
  | .val (.int _ i) => match sl, ar with
    | some (n, _), _ => match x with
      | .list _ sz xs => if sz = n ∧ 0 ≤ i then (match xs[i.toNat]? with | some y => (cellsOf y).map .eptr | none => none) else none
      | .val (.slice (some ⟨b, off, none⟩) len _) => if 0 ≤ i ∧ i < len then some (.val (.pointer (some ⟨b, off + i.toNat * n, none⟩))) else none
      | _ => none
    | none, some (len, _, m) => if 0 ≤ i ∧ i < len then pfieldAddr (i.toNat * m) x else none
    | none, none => none
  | _ => none
theorem pia_q (t : TypeId) (x ix : PV) : pindexAddr tt t x ix = piaQ (slz tt t) (arz tt t) x ix := by
  unfold pindexAddr piaQ slz arz
  split
  · cases hd : dsc tt t with
    | none => rfl
    | some d =>
      cases d <;> first | rfl | skip
      all_goals
        rename_i el
        cases hq : tt el with
        | none => simp [hq]
        | some i => simp [hq] <;> rfl
  · rename_i hne
    cases ix with
    | val v => cases v <;> first | rfl | exact absurd rfl (hne _ _)
    | _ => rfl
/-- An element of a list, as cells. -/
def pelt : Option PV → Option PV
  | some y => (cellsOf y).map .eptr
  | none => none
theorem piaQ_list (n b : Nat) (ar : Option (Nat × TypeId × Nat)) (k : Cap) (sz : Nat) (xs : List PV) (kk : IntKind) (i : Int) : piaQ (some (n, b)) ar (.list k sz xs) (.val (.int kk i)) = if sz = n ∧ 0 ≤ i then pelt xs[i.toNat]? else none := by
  simp only [piaQ]
  rfl
theorem piaQ_val (n b : Nat) (ar : Option (Nat × TypeId × Nat)) (bk off len c : Nat) (kk : IntKind) (i : Int) : piaQ (some (n, b)) ar (.val (.slice (some ⟨bk, off, none⟩) len c)) (.val (.int kk i)) = if 0 ≤ i ∧ i < len then some (.val (.pointer (some ⟨bk, off + i.toNat * n, none⟩))) else none := (rfl)
theorem piaQ_arr (len m : Nat) (e : TypeId) (x : PV) (kk : IntKind) (i : Int) : piaQ none (some (len, e, m)) x (.val (.int kk i)) = if 0 ≤ i ∧ i < len then pfieldAddr (i.toNat * m) x else none := (rfl)
theorem pelt_some (y : PV) : pelt (some y) = (cellsOf y).map .eptr := (rfl)
/- strings, arrays -/
def pixQ (st : Bool) (ar : Option (Nat × TypeId × Nat)) (tt : TT) (x ix : PV) : Option PV :=
  match ix with
  | .val (.int _ i) => match st, ar, x with
    | true, _, .val (.string z) => if 0 ≤ i ∧ i < z.size then some (.val (.int .u8 (byt z i))) else none
    | false, some (n, e, m), .agg cs => if 0 ≤ i ∧ i < n then pcut tt e cs (i.toNat * m) else none
    | _, _, _ => none
  | _ => none
theorem pix_q (t : TypeId) (x ix : PV) : pindex tt t x ix = pixQ (isStr tt t) (arz tt t) tt x ix := by
  unfold pindex pixQ isStr arz
  split
  · cases hd : dsc tt t with
    | none => rfl
    | some d =>
      cases d <;> first | rfl | skip
      all_goals first
        | (cases x <;> first | rfl | (rename_i v; cases v <;> rfl))
        | skip
      all_goals
        rename_i el
        cases hq : tt el with
        | none => cases x <;> simp [hq]
        | some i => cases x <;> simp [hq] <;> rfl
  · rename_i hne
    cases ix with
    | val v => cases v <;> first | rfl | exact absurd rfl (hne _ _)
    | _ => rfl
theorem pixQ_str (ar : Option (Nat × TypeId × Nat)) (z : ByteArray) (kk : IntKind) (i : Int) : pixQ true ar tt (.val (.string z)) (.val (.int kk i)) = if 0 ≤ i ∧ i < z.size then some (.val (.int .u8 (byt z i))) else none := (rfl)
theorem pixQ_arr (n m : Nat) (e : TypeId) (cs : List PV) (kk : IntKind) (i : Int) : pixQ false (some (n, e, m)) tt (.agg cs) (.val (.int kk i)) = if 0 ≤ i ∧ i < n then pcut tt e cs (i.toNat * m) else none := (rfl)
def plnQ (st : Bool) (sl : Option (Nat × Nat)) (s : Cf) (x : PV) : Option PV :=
  match st, sl, x with
  | true, _, .val (.string z) => some (.val (.int .i64 z.size))
  | false, some _, .list _ _ xs => some (.val (.int .i64 xs.length))
  | false, some _, .val (.slice _ n _) => some (.val (.int .i64 n))
  | _, _, _ => none
theorem plnQ_str (sl : Option (Nat × Nat)) (z : ByteArray) : plnQ true sl s (.val (.string z)) = some (.val (.int .i64 z.size)) := (rfl)
theorem plnQ_list (p : Nat × Nat) (k : Cap) (sz : Nat) (xs : List PV) : plnQ false (some p) s (.list k sz xs) = some (.val (.int .i64 xs.length)) := (rfl)
theorem plnQ_val (p : Nat × Nat) (a : Option Addr) (n c : Nat) : plnQ false (some p) s (.val (.slice a n c)) = some (.val (.int .i64 n)) := (rfl)
def kbdQ : Option Nat → Nat → (Nat → Option PV) → Option PV
  | some h, _, f => f h
  | none, _, _ => none
def pslS (s : Cf) (z : ByteArray) (lo : Option Operand) : Option Nat → Option PV
  | some h => match pbound s 0 h lo with | some l => some (.val (.string (z.extract l h))) | none => none
  | none => none
def pslL (s : Cf) (k : Cap) (sz : Nat) (xs : List PV) (lo : Option Operand) : Option Nat → Option PV
  | some h => match pbound s 0 h lo with | some l => some (.list (k.cut sz l h xs.length) sz ((xs.take h).drop l)) | none => none
  | none => none
def pslS2 (z : ByteArray) (h : Nat) : Option Nat → Option PV
  | some l => some (.val (.string (z.extract l h)))
  | none => none
def pslL2 (k : Cap) (sz : Nat) (xs : List PV) (h : Nat) : Option Nat → Option PV
  | some l => some (.list (k.cut sz l h xs.length) sz ((xs.take h).drop l))
  | none => none
theorem pslS_q (z : ByteArray) (lo : Option Operand) (h : Nat) : pslS s z lo (some h) = pslS2 z h (pbound s 0 h lo) := by
  simp only [pslS, pslS2] <;> rfl
theorem pslL_q (k : Cap) (sz : Nat) (xs : List PV) (lo : Option Operand) (h : Nat) : pslL s k sz xs lo (some h) = pslL2 k sz xs h (pbound s 0 h lo) := by
  simp only [pslL, pslL2] <;> rfl
theorem pslS2_q (z : ByteArray) (h l : Nat) : pslS2 z h (some l) = some (.val (.string (z.extract l h))) := (rfl)
theorem pslL2_q (k : Cap) (sz : Nat) (xs : List PV) (h l : Nat) : pslL2 k sz xs h (some l) = some (.list (k.cut sz l h xs.length) sz ((xs.take h).drop l)) := (rfl)
def pslQ (st : Bool) (sl : Option (Nat × Nat)) (s : Cf) (x : PV) (lo hi : Option Operand) : Option PV :=
  match st, sl, x with
  | true, _, .val (.string z) => pslS s z lo (pbound s z.size z.size hi)
  | false, some (n, _), .list k sz xs => if sz = n then pslL s k sz xs lo (pbound s xs.length xs.length hi) else none
  | _, _, _ => none
theorem pslQ_str (sl : Option (Nat × Nat)) (z : ByteArray) (lo hi : Option Operand) : pslQ true sl s (.val (.string z)) lo hi = pslS s z lo (pbound s z.size z.size hi) := (rfl)
theorem pslQ_list (n b : Nat) (k : Cap) (sz : Nat) (xs : List PV) (lo hi : Option Operand) : pslQ false (some (n, b)) s (.list k sz xs) lo hi = if sz = n then pslL s k sz xs lo (pbound s xs.length xs.length hi) else none := (rfl)
def pbnQ (most : Nat) : PV → Option Nat
  | .val (.int _ i) => if 0 ≤ i ∧ i ≤ most then some i.toNat else none
  | _ => none
theorem pbound_none (d m : Nat) : pbound s d m none = some d := (rfl)
theorem pbound_some (d m : Nat) (x : Operand) : pbound s d m (some x) = pbnQ m (eval s x) := by
  unfold pbound pbnQ
  rfl
theorem pbnQ_q (m : Nat) (k : IntKind) (i : Int) : pbnQ m (.val (.int k i)) = if 0 ≤ i ∧ i ≤ m then some i.toNat else none := (rfl)
/- literals -/
def pbdQ (b : Option (List (Nat × Nat) × List PV)) (ps : List (Nat × PV)) : Option PV :=
  match b with
  | some (pl, z) => (pfill (pl[·]?) z ps).map .agg
  | none => none
theorem pbdQ_q (pl : List (Nat × Nat)) (z : List PV) (ps : List (Nat × PV)) : pbdQ (some (pl, z)) ps = (pfill (pl[·]?) z ps).map .agg := (rfl)
def pfl1 (place : Nat → Option (Nat × Nat)) (cs : List PV) (rest : List (Nat × PV)) (p : Option (Nat × Nat)) (v : Option (List PV)) : Option (List PV) :=
  match p, v with
  | some (off, size), some vs => if vs.length = size ∧ off + size ≤ cs.length then pfill place (pset cs off vs) rest else none
  | _, _ => none
theorem pfill_nil (place : Nat → Option (Nat × Nat)) (cs : List PV) : pfill place cs [] = some cs := (rfl)
theorem pfill_cons (place : Nat → Option (Nat × Nat)) (cs : List PV) (i : Nat) (v : PV) (rest : List (Nat × PV)) : pfill place cs ((i, v) :: rest) = pfl1 place cs rest (place i) (cellsOf v) := by
  simp only [pfill, pfl1] <;> rfl
theorem pfl1_q (place : Nat → Option (Nat × Nat)) (cs : List PV) (rest : List (Nat × PV)) (off size : Nat) (vs : List PV) : pfl1 place cs rest (some (off, size)) (some vs) = if vs.length = size ∧ off + size ≤ cs.length then pfill place (pset cs off vs) rest else none := (rfl)
theorem pset_q {α : Type} (cs : List α) (off : Nat) (vs : List α) : pset cs off vs = cs.take off ++ (vs ++ cs.drop (off + vs.length)) := (rfl)
def pbvQ (tt : TT) (b : Option (Nat × PV)) (m : Nat) (ps : List (Nat × PV)) : Option PV :=
  match b with
  | some (n, z) => match pfillE tt n (List.replicate m z) ps with
    | some xs => if m * n ≤ 16777216 then some (.list .full n xs) else none
    | none => none
  | none => none
def pbv1 (n m : Nat) : Option (List PV) → Option PV
  | some xs => if m * n ≤ 16777216 then some (.list .full n xs) else none
  | none => none
theorem pbv_q (t : TypeId) (m : Nat) (ps : List (Nat × PV)) {b : Nat × PV} (h : bsl tt t = some b) : pbuildV tt t m ps = pbvQ tt (some b) m ps := by
  obtain ⟨n, z⟩ := b
  rw [pbv_some h]
  rfl
theorem pbvQ_q (n : Nat) (z : PV) (m : Nat) (ps : List (Nat × PV)) : pbvQ tt (some (n, z)) m ps = pbv1 n m (pfillE tt n (List.replicate m z) ps) := by
  simp only [pbvQ, pbv1] <;> rfl
theorem pbv1_q (n m : Nat) (xs : List PV) : pbv1 n m (some xs) = if m * n ≤ 16777216 then some (.list .full n xs) else none := (rfl)
def pfe1 (tt : TT) (sz : Nat) (xs : List PV) (i : Nat) (v : PV) (r : List (Nat × PV)) : Option (List PV) → Option (List PV)
  | some cs => if i < xs.length ∧ cs.length = sz ∧ cs.all stor = true then pfillE tt sz (xs.set i (forget v)) r else none
  | none => none
theorem pfillE_nil (sz : Nat) (xs : List PV) : pfillE tt sz xs [] = some xs := (rfl)
theorem pfillE_cons (sz : Nat) (xs : List PV) (i : Nat) (v : PV) (r : List (Nat × PV)) : pfillE tt sz xs ((i, v) :: r) = pfe1 tt sz xs i v r (cellsOf v) := by
  simp only [pfillE, pfe1] <;> rfl
theorem pfe1_q (sz : Nat) (xs : List PV) (i : Nat) (v : PV) (r : List (Nat × PV)) (cs : List PV) : pfe1 tt sz xs i v r (some cs) = if i < xs.length ∧ cs.length = sz ∧ cs.all stor = true then pfillE tt sz (xs.set i (forget v)) r else none := (rfl)
/- fields -/
def pfaQ : Option (Nat × TypeId) → PV → Option PV
  | some (o, _), v => pfieldAddr o v
  | none, _ => none
theorem pfaQ_q (o : Nat) (t : TypeId) (v : PV) : pfaQ (some (o, t)) v = pfieldAddr o v := (rfl)
theorem pfa_l (o d off : Nat) : pfieldAddr o (.lptr d off) = some (.lptr d (off + o)) := (rfl)
theorem pfa_e (o : Nat) (cs : List PV) : pfieldAddr o (.eptr cs) = some (.eptr (cs.drop o)) := (rfl)
theorem pfa_v (o b off : Nat) : pfieldAddr o (.val (.pointer (some ⟨b, off, none⟩))) = some (.val (.pointer (some ⟨b, off + o, none⟩))) := (rfl)
def pfdQ (tt : TT) : Option (Nat × TypeId) → PV → Option PV
  | some (o, ft), .agg cs => pcut tt ft cs o
  | _, _ => none
theorem pfd_q (T : TypeId) (f : Nat) (x : PV) : pfield tt T f x = pfdQ tt (fieldOf tt T f) x := by
  unfold pfield pfdQ
  rfl
theorem pfdQ_q (o : Nat) (ft : TypeId) (cs : List PV) : pfdQ tt (some (o, ft)) (.agg cs) = pcut tt ft cs o := (rfl)
/- addresses -/
def pobQ (off : Nat) : Option Ob → Option (List PV × Nat)
  | some (.cells cs) => some (cs, off)
  | _ => none
theorem paddr_l (d off : Nat) : paddr s (.lptr d off) = (getL s.loc d).map fun cs => (cs, off) := (rfl)
theorem paddr_e (cs : List PV) : paddr s (.eptr cs) = some (cs, 0) := (rfl)
theorem paddr_v (b off : Nat) : paddr s (.val (.pointer (some ⟨b, off, none⟩))) = pobQ off (s.σ.obj b) := by
  unfold paddr pobQ
  rfl
theorem pobQ_q (off : Nat) (cs : List PV) : pobQ off (some (.cells cs)) = some (cs, off) := (rfl)
def pldQ (tt : TT) (t : TypeId) : Option (List PV × Nat) → Option PV
  | some (cs, off) => pcut tt t cs off
  | none => none
theorem pldQ_q (t : TypeId) (cs : List PV) (off : Nat) : pldQ tt t (some (cs, off)) = pcut tt t cs off := (rfl)
/- conversions -/
def intOf (tt : TT) (t : TypeId) : Option IntKind := match dsc tt t with | some (.int k) => some k | _ => none
def pcvQ : Option IntKind → PV → Option PV
  | some k, .val (.int _ n) => some (.val (.int k (k.wrap n)))
  | _, _ => none
theorem pcvQ_q (k k' : IntKind) (n : Int) : pcvQ (some k) (.val (.int k' n)) = some (.val (.int k (k.wrap n))) := (rfl)
/- stores -/
def psto (s : Cf) (vs : List PV) (Kf : PV → Cf → Prop) : PV → Prop
  | .lptr d off => match getL s.loc d with
    | some cs => off + vs.length ≤ cs.length ∧ Kf undefV { s with loc := (d, pset cs off vs) :: s.loc }
    | none => False
  | .val (.pointer (some ⟨b, off, none⟩)) => match s.σ.obj b with
    | some (.cells cs) => off + vs.length ≤ cs.length ∧ Kf undefV { s with σ := s.σ.set b (.cells (pset cs off vs)) }
    | _ => False
  | _ => False
def psto1 (s : Cf) (vs : List PV) (Kf : PV → Cf → Prop) (d off : Nat) : Option (List PV) → Prop
  | some cs => off + vs.length ≤ cs.length ∧ Kf undefV { s with loc := (d, pset cs off vs) :: s.loc }
  | none => False
def psto2 (s : Cf) (vs : List PV) (Kf : PV → Cf → Prop) (b off : Nat) : Option Ob → Prop
  | some (.cells cs) => off + vs.length ≤ cs.length ∧ Kf undefV { s with σ := s.σ.set b (.cells (pset cs off vs)) }
  | _ => False
theorem psto_l (vs : List PV) (Kf : PV → Cf → Prop) (d off : Nat) : psto s vs Kf (.lptr d off) = psto1 s vs Kf d off (getL s.loc d) := by
  simp only [psto, psto1] <;> rfl
theorem psto_v (vs : List PV) (Kf : PV → Cf → Prop) (b off : Nat) : psto s vs Kf (.val (.pointer (some ⟨b, off, none⟩))) = psto2 s vs Kf b off (s.σ.obj b) := by
  simp only [psto, psto2] <;> rfl
theorem psto1_q (n : Nat) (env : List (Nat × PV)) (loc : List (Nat × List PV)) (σ : St) (vs : List PV) (Kf : PV → Cf → Prop) (d off : Nat) (cs : List PV) : psto1 ⟨n, env, loc, σ⟩ vs Kf d off (some cs) = (off + vs.length ≤ cs.length ∧ Kf undefV ⟨n, env, (d, pset cs off vs) :: loc, σ⟩) := (rfl)
theorem psto2_q (n : Nat) (env : List (Nat × PV)) (loc : List (Nat × List PV)) (σ : St) (vs : List PV) (Kf : PV → Cf → Prop) (b off : Nat) (cs : List PV) : psto2 ⟨n, env, loc, σ⟩ vs Kf b off (some (.cells cs)) = (off + vs.length ≤ cs.length ∧ Kf undefV ⟨n, env, loc, σ.set b (.cells (pset cs off vs))⟩) := (rfl)
def pstQ (sz : Option (Nat × Bool)) (vs : Option (List PV)) (s : Cf) (ad : PV) (Kf : PV → Cf → Prop) : Prop :=
  match sz, vs with
  | some (n, _), some vs => vs.length = n ∧ vs.all stor = true ∧ psto s vs Kf ad
  | _, _ => False
theorem pst_q (t : TypeId) (ad v : PV) (Kf : PV → Cf → Prop) : pstore tt s t ad v Kf = pstQ (tsz tt t) (cellsOf v) s ad Kf := by
  unfold pstore pstQ tsz
  cases tt t with
  | none => rfl
  | some i => cases cellsOf v <;> rfl
theorem pstQ_q (n : Nat) (g : Bool) (vs : List PV) (ad : PV) (Kf : PV → Cf → Prop) : pstQ (some (n, g)) (some vs) s ad Kf = (vs.length = n ∧ vs.all stor = true ∧ psto s vs Kf ad) := (rfl)
/- new variables -/
def palQ (esc : List Nat) (s : Cf) (d : Nat) (Kf : PV → Cf → Prop) : Option (List PV) → Prop
  | some cs => pnew esc s d cs Kf
  | none => False
theorem palQ_q (d : Nat) (Kf : PV → Cf → Prop) (cs : List PV) : palQ esc s d Kf (some cs) = pnew esc s d cs Kf := (rfl)
theorem pal_q (d : Nat) (t : TypeId) (Kf : PV → Cf → Prop) : palloc tt esc s (some d) t Kf = palQ esc s d Kf (zcs tt t) := by
  unfold palloc palQ zcs
  cases tt t with
  | none => rfl
  | some i => cases cellsOf i.zero <;> rfl
theorem pbox_q (d : Nat) (v : PV) (Kf : PV → Cf → Prop) : pbox esc s (some d) v Kf = palQ esc s d Kf (cellsOf v) := by
  unfold pbox palQ
  cases cellsOf v <;> rfl
def pnewQ (n : Nat) (env : List (Nat × PV)) (loc : List (Nat × List PV)) (σ : St) (d : Nat) (cs : List PV) (Kf : PV → Cf → Prop) : Bool → Prop
  | true => ∀ b, σ.obj b = none → σ.own b = none → Kf (.val (.pointer (some ⟨b, 0, none⟩))) ⟨n, env, loc, σ.set b (.cells cs)⟩
  | false => noL d env = true ∧ Kf (.lptr d 0) ⟨n, env, (d, cs) :: loc, σ⟩
theorem pnew_q (n : Nat) (env : List (Nat × PV)) (loc : List (Nat × List PV)) (σ : St) (d : Nat) (cs : List PV) (Kf : PV → Cf → Prop) : pnew esc ⟨n, env, loc, σ⟩ d cs Kf = pnewQ n env loc σ d cs Kf (esc.contains d) := by
  unfold pnew pnewQ
  cases esc.contains d <;> rfl
theorem pnewQ_t (n : Nat) (env : List (Nat × PV)) (loc : List (Nat × List PV)) (σ : St) (d : Nat) (cs : List PV) (Kf : PV → Cf → Prop) : pnewQ n env loc σ d cs Kf true = ∀ b, σ.obj b = none → σ.own b = none → Kf (.val (.pointer (some ⟨b, 0, none⟩))) ⟨n, env, loc, σ.set b (.cells cs)⟩ := (rfl)
theorem pnewQ_f (n : Nat) (env : List (Nat × PV)) (loc : List (Nat × List PV)) (σ : St) (d : Nat) (cs : List PV) (Kf : PV → Cf → Prop) : pnewQ n env loc σ d cs Kf false = (noL d env = true ∧ Kf (.lptr d 0) ⟨n, env, (d, cs) :: loc, σ⟩) := (rfl)
theorem noL_nil (d : Nat) : noL d [] = true := (rfl)
theorem noL_cons (d t : Nat) (v : PV) (r : List (Nat × PV)) : noL d ((t, v) :: r) = (noL1 d v && noL d r) := (rfl)
theorem noL1_v (d : Nat) (v : Value) : noL1 d (.val v) = true := (rfl)
theorem noL1_l (d : Nat) (k : Cap) (z : Nat) (xs : List PV) : noL1 d (.list k z xs) = true := (rfl)
theorem noL1_e (d : Nat) (xs : List PV) : noL1 d (.eptr xs) = true := (rfl)
theorem noL1_a (d : Nat) (xs : List PV) : noL1 d (.agg xs) = true := (rfl)
theorem noL1_t (d : Nat) (xs : List PV) : noL1 d (.tuple xs) = true := (rfl)
theorem noL1_i (d : Nat) (t : TypeId) (v : PV) : noL1 d (.iface t v) = true := (rfl)
theorem noL1_u (d : Nat) : noL1 d .undef = true := (rfl)
theorem noL1_p (d e o : Nat) : noL1 d (.lptr e o) = (e != d) := (rfl)
/- append -/
def pelQ (st : Bool) (sl : Option (Nat × Nat)) (y : PV) : Option (Nat × List PV) :=
  match st, sl, y with
  | false, some _, .list _ sz ys => some (sz, ys)
  | true, _, .val (.string z) => some (1, bytesP z)
  | _, _, _ => none
theorem pelQ_list (p : Nat × Nat) (k : Cap) (sz : Nat) (ys : List PV) : pelQ false (some p) (.list k sz ys) = some (sz, ys) := (rfl)
theorem pelQ_str (sl : Option (Nat × Nat)) (z : ByteArray) : pelQ true sl (.val (.string z)) = some (1, bytesP z) := (rfl)
def papQ (s : Cf) (Kf : PV → Cf → Prop) (sl : Option (Nat × Nat)) (x : PV) (ys : Option (Nat × List PV)) : Prop :=
  match sl, x, ys with
  | some (n, b), .list k sz xs, some (sz2, ys) => sz = n ∧ sz2 = n ∧ (xs.length + ys.length) * b ≤ 140737488355328 ∧ xs.length + ys.length ≤ 9223372036854775807 ∧ Owns s.σ xs.length sz k ∧
        ∀ k' σ', Appended s.σ k (xs.length + ys.length) sz k' σ' → Kf (.list k' sz (xs ++ ys)) { s with σ := σ' }
  | _, _, _ => False
theorem papQ_q (n : Nat) (env : List (Nat × PV)) (loc : List (Nat × List PV)) (σ : St) (Kf : PV → Cf → Prop) (m b : Nat) (k : Cap) (sz : Nat) (xs : List PV) (sz2 : Nat) (ys : List PV) :
    papQ ⟨n, env, loc, σ⟩ Kf (some (m, b)) (.list k sz xs) (some (sz2, ys)) = (sz = m ∧ sz2 = m ∧ (xs.length + ys.length) * b ≤ 140737488355328 ∧ xs.length + ys.length ≤ 9223372036854775807 ∧ Owns σ xs.length sz k ∧
        ∀ k' σ', Appended σ k (xs.length + ys.length) sz k' σ' → Kf (.list k' sz (xs ++ ys)) ⟨n, env, loc, σ'⟩) := rfl
/-! ### the queries of a type, one after the other -/
theorem slz_none_of_str {t : TypeId} (h : isStr tt t = true) : slz tt t = none := by
  have := isStr_iff h
  simp only [slz, this]
theorem isStr_of_slz {t : TypeId} {p : Nat × Nat} (h : slz tt t = some p) : isStr tt t = false := by
  obtain ⟨n, b⟩ := p
  obtain ⟨e, i, h1, _⟩ := slz_some h
  simp only [isStr, h1]
/-! ### operations, by their kinds -/
section
variable (d : Option Nat) (t : TypeId) (p : String) (af : Array Edge) (g : Option (Nat × Bool)) (Kf X : PV → Cf → Prop)
theorem st_move (x : Operand) : pstep P tt esc s ⟨d, .move x, t, p, af, g⟩ Kf X = Kf (evn tt s t x) s := (rfl)
theorem st_assign (x : Operand) : pstep P tt esc s ⟨d, .assign x, t, p, af, g⟩ Kf X = Kf (evn tt s t x) s := (rfl)
theorem kopt_step {o : Oper} {v : Option PV} (h1 : pread tt s o.type o.op = v) (h2 : peff P tt esc s o Kf X = False) : pstep P tt esc s o Kf X = kopt v Kf s := by
  unfold pstep kopt
  rw [h1, h2]
  cases v <;> rfl
theorem st_pick (c x y : Operand) : pstep P tt esc s ⟨d, .pick c x y, t, p, af, g⟩ Kf X = kopt (ppick (eval s c) (eval s x) (eval s y)) Kf s := kopt_step (Kf := Kf) (X := X) rfl rfl
theorem st_nil (x : Operand) : pstep P tt esc s ⟨d, .nilCheck x, t, p, af, g⟩ Kf X = kopt (pnil (eval s x)) Kf s := kopt_step (Kf := Kf) (X := X) rfl rfl
theorem st_bin (op : BinOp) (xt yt : TypeId) (x y : Operand) : pstep P tt esc s ⟨d, .binOp op xt x y yt, t, p, af, g⟩ Kf X = kopt (pbin tt op xt (eval s x) (eval s y)) Kf s := kopt_step (Kf := Kf) (X := X) rfl rfl
theorem st_un (op : UnOp) (xt : TypeId) (x : Operand) : pstep P tt esc s ⟨d, .unOp op xt x, t, p, af, g⟩ Kf X = kopt (pun op (eval s x)) Kf s := kopt_step (Kf := Kf) (X := X) rfl rfl
theorem st_conv (a b : TypeId) (x : Operand) : pstep P tt esc s ⟨d, .convert a b x, t, p, af, g⟩ Kf X = kopt (pconv tt a b (eval s x)) Kf s := kopt_step (Kf := Kf) (X := X) rfl rfl
theorem st_iface (a : TypeId) (x : Operand) : pstep P tt esc s ⟨d, .makeInterface a x, t, p, af, g⟩ Kf X = kopt (piface tt a (eval s x)) Kf s := kopt_step (Kf := Kf) (X := X) rfl rfl
def pfn (fn : Fn) : Option (List Value) → Option PV
  | some vs => some (.val (.func fn #[] vs.toArray))
  | none => none
theorem st_func (fn : Fn) (cap : List Operand) : pstep P tt esc s ⟨d, .makeFunc fn #[] ⟨cap⟩, t, p, af, g⟩ Kf X = kopt (pfn fn (pvals (cap.map (eval s)))) Kf s := by
  refine kopt_step (Kf := Kf) (X := X) ?_ rfl
  simp only [pread, pfn]
  cases pvals (cap.map (eval s)) <;> rfl
theorem pfn_q (fn : Fn) (vs : List Value) : pfn fn (some vs) = some (.val (.func fn #[] vs.toArray)) := (rfl)
theorem st_slice (a : TypeId) (x : Operand) (lo hi : Option Operand) : pstep P tt esc s ⟨d, .slice a x lo hi none, t, p, af, g⟩ Kf X = kopt (pslice tt s a (eval s x) lo hi) Kf s := kopt_step (Kf := Kf) (X := X) rfl rfl
theorem st_fa (a : TypeId) (x : Operand) (f : Nat) : pstep P tt esc s ⟨d, .fieldAddr a x f, t, p, af, g⟩ Kf X = kopt (pfaQ (fieldOf tt a f) (eval s x)) Kf s := by
  refine kopt_step (Kf := Kf) (X := X) ?_ rfl
  simp only [pread]
  cases fieldOf tt a f <;> rfl
theorem st_fd (a : TypeId) (x : Operand) (f : Nat) : pstep P tt esc s ⟨d, .field a x f, t, p, af, g⟩ Kf X = kopt (pfield tt a f (eval s x)) Kf s := kopt_step (Kf := Kf) (X := X) rfl rfl
theorem st_ia (a : TypeId) (x i : Operand) : pstep P tt esc s ⟨d, .indexAddr a x i, t, p, af, g⟩ Kf X = kopt (pindexAddr tt a (eval s x) (eval s i)) Kf s := kopt_step (Kf := Kf) (X := X) rfl rfl
theorem st_ix (a : TypeId) (x i : Operand) : pstep P tt esc s ⟨d, .index a x i, t, p, af, g⟩ Kf X = kopt (pindex tt a (eval s x) (eval s i)) Kf s := kopt_step (Kf := Kf) (X := X) rfl rfl
theorem st_ld (a : TypeId) (x : Operand) : pstep P tt esc s ⟨d, .load a x, t, p, af, g⟩ Kf X = kopt (pldQ tt a (paddr s (eval s x))) Kf s := by
  refine kopt_step (Kf := Kf) (X := X) ?_ rfl
  simp only [pread]
  cases paddr s (eval s x) <;> rfl
theorem st_lk (a : TypeId) (x i : Operand) (ok : Bool) : pstep P tt esc s ⟨d, .lookup a x i ok, t, p, af, g⟩ Kf X = kopt (plookup tt s a (eval s x) (eval s i) ok) Kf s := kopt_step (Kf := Kf) (X := X) rfl rfl
theorem st_as (x : Operand) (a b : TypeId) (ok : Bool) : pstep P tt esc s ⟨d, .typeAssert x a b ok, t, p, af, g⟩ Kf X = kopt (passert tt b (eval s x) ok) Kf s := kopt_step (Kf := Kf) (X := X) rfl rfl
theorem st_ex (x : Operand) (i : Nat) : pstep P tt esc s ⟨d, .extract x i, t, p, af, g⟩ Kf X = kopt (pextract (eval s x) i) Kf s := kopt_step (Kf := Kf) (X := X) rfl rfl
theorem st_bld (a : TypeId) (ps : List (Nat × Operand)) : pstep P tt esc s ⟨d, .build a ⟨ps⟩, t, p, af, g⟩ Kf X = kopt (pbuild tt a (pparts s ps)) Kf s := kopt_step (Kf := Kf) (X := X) rfl rfl
theorem st_len (x : Operand) (a : TypeId) : pstep P tt esc s ⟨d, .call ⟨.builtin .len, #[x], #[a]⟩, t, p, af, g⟩ Kf X = kopt (plen tt s a (eval s x)) Kf s := kopt_step (Kf := Kf) (X := X) rfl rfl
theorem st_max (x y : Operand) (a : Array TypeId) : pstep P tt esc s ⟨d, .call ⟨.builtin .max, #[x, y], a⟩, t, p, af, g⟩ Kf X = kopt (pmax (eval s x) (eval s y)) Kf s := kopt_step (Kf := Kf) (X := X) rfl rfl
theorem st_min (x y : Operand) (a : Array TypeId) : pstep P tt esc s ⟨d, .call ⟨.builtin .min, #[x, y], a⟩, t, p, af, g⟩ Kf X = kopt (pmin (eval s x) (eval s y)) Kf s := kopt_step (Kf := Kf) (X := X) rfl rfl
theorem st_store (a : TypeId) (x y : Operand) : pstep P tt esc s ⟨d, .store a x y, t, p, af, g⟩ Kf X = pstore tt s a (eval s x) (evn tt s a y) Kf := (rfl)
theorem st_alloc (a : TypeId) : pstep P tt esc s ⟨d, .alloc a, t, p, af, g⟩ Kf X = palloc tt esc s d a Kf := (rfl)
theorem st_box (a : TypeId) (x : Operand) : pstep P tt esc s ⟨d, .box a x, t, p, af, g⟩ Kf X = pbox esc s d (evn tt s a x) Kf := (rfl)
theorem st_bs (a : TypeId) (n : Nat) (ps : List (Nat × Operand)) : pstep P tt esc s ⟨d, .buildSlice a n ⟨ps⟩, t, p, af, g⟩ Kf X = kopt (pbuildV tt a n (pparts s ps)) Kf s := by
  show pret s (pbuildV tt a n (pparts s ps)) Kf = _
  cases pbuildV tt a n (pparts s ps) <;> rfl
theorem st_map (a : TypeId) : pstep P tt esc s ⟨d, .makeMap a none, t, p, af, g⟩ Kf X = ∀ b, s.σ.obj b = none → s.σ.own b = none → Kf (.val (.map (some b))) { s with σ := s.σ.set b (.map []) } := (rfl)
theorem st_mu (a : TypeId) (m k v : Operand) : pstep P tt esc s ⟨d, .mapUpdate a m k v, t, p, af, g⟩ Kf X = pmapUpdate tt s a (eval s m) (eval s k) (eval s v) Kf := (rfl)
theorem st_ins (a : TypeId) (m k v : Operand) : pstep P tt esc s ⟨d, .insert a m k v, t, p, af, g⟩ Kf X = pmapUpdate tt s a (eval s m) (eval s k) (eval s v) Kf := (rfl)
theorem st_call (f : Operand) (args : List Operand) (tys : List TypeId) : pstep P tt esc s ⟨d, .call ⟨.value f, ⟨args⟩, ⟨tys⟩⟩, t, p, af, g⟩ Kf X = pcall P tt s ⟨.value f, ⟨args⟩, ⟨tys⟩⟩ (eval s f) Kf X := (rfl)
theorem st_app (x y : Operand) (a b : TypeId) : pstep P tt esc s ⟨d, .call ⟨.builtin .append, #[x, y], #[a, b]⟩, t, p, af, g⟩ Kf X = papp tt esc s d a b (evn tt s a x) (evn tt s b y) Kf := (rfl)
def ppan (s : Cf) (X : PV → Cf → Prop) : PV → Prop
  | .iface t v => X (.iface t v) s
  | _ => False
theorem ppan_q (t : TypeId) (v : PV) : ppan s X (.iface t v) = X (.iface t v) s := (rfl)
theorem st_panic (x : Operand) : pstep P tt esc s ⟨d, .panic x, t, p, af, g⟩ Kf X = ppan s X (eval s x) := by
  show (match eval s x with | .iface t v => X (.iface t v) s | _ => False) = _
  unfold ppan
  rfl
theorem st_bpanic (x : Operand) (a : Array TypeId) : pstep P tt esc s ⟨d, .call ⟨.builtin .panic, #[x], a⟩, t, p, af, g⟩ Kf X = ppan s X (eval s x) := by
  show (match eval s x with | .iface t v => X (.iface t v) s | _ => False) = _
  unfold ppan
  rfl
theorem pcall_q (c : Call) (f : FuncId) (fst caps : List Value) : pcall P tt s c (.val (.func (.func f) ⟨fst⟩ ⟨caps⟩)) Kf X = ((pargs tt s c.args.toList c.argTypes.toList).all notL = true ∧
      PCalls P f (fst.map .val ++ pargs tt s c.args.toList c.argTypes.toList ++ caps.map .val) s.σ (resK s Kf X)) := rfl
end
theorem pargs_nil (ts : List TypeId) : pargs tt s [] ts = [] := (rfl)
theorem pargs_cons (x : Operand) (xs : List Operand) (t : TypeId) (ts : List TypeId) : pargs tt s (x :: xs) (t :: ts) = evn tt s t x :: pargs tt s xs ts := (rfl)
theorem pparts_nil : pparts s [] = [] := (rfl)
theorem pparts_cons (i : Nat) (x : Operand) (ps : List (Nat × Operand)) : pparts s ((i, x) :: ps) = (i, eval s x) :: pparts s ps := (rfl)
theorem resK_ret (Kf X : PV → Cf → Prop) (v : PV) (σ' : St) : resK s Kf X (.ret v) σ' = Kf v { s with σ := σ' } := (rfl)
theorem resK_panic (Kf X : PV → Cf → Prop) (v : PV) (σ' : St) : resK s Kf X (.panic v) σ' = X v { s with σ := σ' } := (rfl)
/- operands -/
theorem evn_tmp (t : TypeId) (x : Nat) : evn tt s t (.tmp x) = get s.env x := (rfl)
theorem evn_func (t : TypeId) (f : FuncId) : evn tt s t (.func f) = .val (.func (.func f) #[] #[]) := (rfl)
theorem evn_int (t : TypeId) (k : IntKind) (n : Int) : evn tt s t (.const (.int k n)) = .val (.int k n) := (rfl)
theorem evn_bool (t : TypeId) (b : Bool) : evn tt s t (.const (.bool b)) = .val (.bool b) := (rfl)
theorem evn_str (t : TypeId) (z : ByteArray) : evn tt s t (.const (.string z)) = .val (.string z) := (rfl)
theorem evn_ptr (t : TypeId) (a : Option Addr) : evn tt s t (.const (.pointer a)) = .val (.pointer a) := (rfl)
theorem evn_nil (t : TypeId) : evn tt s t (.const (.slice none 0 0)) = norm tt t (.val (.slice none 0 0)) := (rfl)
theorem evn_map (t : TypeId) (a : Option Nat) : evn tt s t (.const (.map a)) = .val (.map a) := (rfl)
theorem evn_nfn (t : TypeId) : evn tt s t (.const .nilFunc) = .val .nilFunc := (rfl)
theorem evn_agg (t : TypeId) (cs : List Value) : evn tt s t (.const (.agg ⟨cs⟩)) = .agg (cs.map .val) := (rfl)
theorem evn_g (t : TypeId) (i : Nat) : evn tt s t (.global i) = eval s (.global i) := (rfl)
theorem eval_tmp (x : Nat) : eval s (.tmp x) = get s.env x := (rfl)
theorem eval_func (f : FuncId) : eval s (.func f) = .val (.func (.func f) #[] #[]) := (rfl)
theorem eval_int (k : IntKind) (n : Int) : eval s (.const (.int k n)) = .val (.int k n) := (rfl)
theorem eval_bool (b : Bool) : eval s (.const (.bool b)) = .val (.bool b) := (rfl)
theorem eval_str (z : ByteArray) : eval s (.const (.string z)) = .val (.string z) := (rfl)
theorem eval_nil : eval s (.const (.slice none 0 0)) = .val (.slice none 0 0) := (rfl)
theorem eval_map (a : Option Nat) : eval s (.const (.map a)) = .val (.map a) := (rfl)
theorem eval_agg (cs : List Value) : eval s (.const (.agg ⟨cs⟩)) = .agg (cs.map .val) := (rfl)
def pgl : Option (List PV) → PV
  | some cs => .eptr cs
  | none => .undef
theorem eval_g (i : Nat) : eval s (.global i) = pgl (s.σ.gl i) := by
  unfold eval pgl
  rfl
theorem pgl_q (cs : List PV) : pgl (some cs) = .eptr cs := (rfl)
theorem get_cons (a : Nat) (v : PV) (r : List (Nat × PV)) (t : Nat) : get ((a, v) :: r) t = if a = t then v else get r t := (rfl)
theorem getL_cons (a : Nat) (v : List PV) (r : List (Nat × List PV)) (t : Nat) : getL ((a, v) :: r) t = if a = t then some v else getL r t := (rfl)
/- conditions, guards -/
def kbool (f : Bool → Prop) : PV → Prop
  | .val (.bool b) => f b
  | _ => False
theorem kbool_q (f : Bool → Prop) (b : Bool) : kbool f (.val (.bool b)) = f b := (rfl)
def kcond (P : Program) (tt : TT) (esc : List Nat) (ord : Ords) (x y : Code) (s : Cf) (K : Kt) (b : Bool) : Prop := (b = true → pwp P tt esc ord x s K) ∧ (b = false → pwp P tt esc ord y s K)
theorem w_cnd (c : Operand) (x y : Code) : pwp P tt esc ord (.cond c x y) s K = kbool (kcond P tt esc ord x y s K) (eval s c) := by
  simp only [pwp, kbool, kcond]
  cases eval s c with
  | val v => cases v <;> rfl
  | _ => rfl
theorem kcond_t (x y : Code) : kcond P tt esc ord x y s K true = pwp P tt esc ord x s K := by simp [kcond]
theorem kcond_f (x y : Code) : kcond P tt esc ord x y s K false = pwp P tt esc ord y s K := by simp [kcond]
theorem kcond_i {x y : Code} {b : Bool} (h1 : b = true → pwp P tt esc ord x s K) (h2 : b = false → pwp P tt esc ord y s K) : kcond P tt esc ord x y s K b := ⟨h1, h2⟩
/-- A guard: what it reads. -/
def kgd (want : Bool) (run skip : Unit → Prop) : PV → Prop
  | .val (.bool b) => (b = want → run ()) ∧ (b = !want → skip ())
  | .val _ => skip ()
  | _ => False
def krun (P : Program) (tt : TT) (esc : List Nat) (s : Cf) (o : Oper) (Kf X : PV → Cf → Prop) : Unit → Prop := fun _ => pstep P tt esc s o Kf X
def kskp (P : Program) (tt : TT) (esc : List Nat) (ops : Array Oper) (K : Cf → Prop) (X : PV → Cf → Prop) (os : List Oper) (s : Cf) (d : Option Nat) : Unit → Prop := fun _ => pseq P tt esc ops K X os (s.put d undefV)
def kdskp (P : Program) (tt : TT) (esc : List Nat) (ops : Array Oper) (K : Cf → Prop) (X : PV → Cf → Prop) (l : List (Nat × List Nat)) (s : Cf) (d : Option Nat) : Unit → Prop := fun _ => pdseq P tt esc ops K X l (s.put d undefV)
theorem krun_q (o : Oper) (Kf X : PV → Cf → Prop) : krun P tt esc s o Kf X () = pstep P tt esc s o Kf X := (rfl)
theorem kskp_q (ops : Array Oper) (K : Cf → Prop) (X : PV → Cf → Prop) (os : List Oper) (d : Option Nat) : kskp P tt esc ops K X os s d () = pseq P tt esc ops K X os (s.put d undefV) := (rfl)
theorem kdskp_q (ops : Array Oper) (K : Cf → Prop) (X : PV → Cf → Prop) (l : List (Nat × List Nat)) (d : Option Nat) : kdskp P tt esc ops K X l s d () = pdseq P tt esc ops K X l (s.put d undefV) := (rfl)
theorem kgd_tt (run skip : Unit → Prop) : kgd true run skip (.val (.bool true)) = run () := by simp [kgd]
theorem kgd_tf (run skip : Unit → Prop) : kgd true run skip (.val (.bool false)) = skip () := by simp [kgd]
theorem kgd_ft (run skip : Unit → Prop) : kgd false run skip (.val (.bool true)) = skip () := by simp [kgd]
theorem kgd_ff (run skip : Unit → Prop) : kgd false run skip (.val (.bool false)) = run () := by simp [kgd]
theorem kgd_u (want : Bool) (run skip : Unit → Prop) : kgd want run skip undefV = skip () := by simp [kgd, undefV, Go.undef]
/-- The slot of an operation. -/
def gsl (ops : Array Oper) (j : Nat) : Option Nat := (ops[j]?).bind (fun x => x.dst)
def kgs (want : Bool) (run skip : Unit → Prop) (env : List (Nat × PV)) : Option Nat → Prop
  | some d => kgd want run skip (get env d)
  | none => False
theorem kgs_q (want : Bool) (run skip : Unit → Prop) (env : List (Nat × PV)) (d : Nat) : kgs want run skip env (some d) = kgd want run skip (get env d) := (rfl)
def nth : List Oper → Nat → Option Oper
  | [], _ => none
  | o :: _, 0 => some o
  | _ :: os, n + 1 => nth os n
theorem nth_eq : ∀ (ops : List Oper) (j : Nat), nth ops j = ops[j]?
  | [], _ => by simp [nth]
  | o :: _, 0 => by simp [nth]
  | _ :: os, n + 1 => by simp [nth, nth_eq os n]
def odst : Option Oper → Option Nat
  | some o => o.dst
  | none => none
theorem gsl_q (ops : List Oper) (j : Nat) : gsl ⟨ops⟩ j = odst (nth ops j) := by
  rw [nth_eq]
  simp only [gsl, List.getElem?_toArray, odst]
  cases ops[j]? <;> rfl
theorem odst_q (d : Option Nat) (op : Op) (t : TypeId) (p : String) (af : Array Edge) (g : Option (Nat × Bool)) : odst (some ⟨d, op, t, p, af, g⟩) = d := (rfl)
theorem w_opg (ops : Array Oper) (K : Cf → Prop) (X : PV → Cf → Prop) (d : Option Nat) (op : Op) (t : TypeId) (p : String) (af : Array Edge) (j : Nat) (want : Bool) (os : List Oper) :
    pseq P tt esc ops K X (⟨d, op, t, p, af, some (j, want)⟩ :: os) s = kgs want (krun P tt esc s ⟨d, op, t, p, af, none⟩ (kops P tt esc ops K X os d) X) (kskp P tt esc ops K X os s d) s.env (gsl ops j) := by
  have hs : ∀ (Kf : PV → Cf → Prop), pstep P tt esc s ⟨d, op, t, p, af, some (j, want)⟩ Kf X = pstep P tt esc s ⟨d, op, t, p, af, none⟩ Kf X := fun _ => rfl
  simp only [pseq, guarded, gsl, kgs, hs]
  cases (ops[j]?).bind (fun x => x.dst) with
  | none => rfl
  | some e =>
    simp only [kgd]
    cases get s.env e with
    | val v => cases v <;> rfl
    | _ => rfl
def kdo (P : Program) (tt : TT) (esc : List Nat) (ops : Array Oper) (K : Cf → Prop) (X : PV → Cf → Prop) (l : List (Nat × List Nat)) (cs : List Nat) (s : Cf) : Option Oper → Prop
  | none => False
  | some ⟨d, op, t, p, af, none⟩ => pstep P tt esc s ⟨d, op, t, p, af, none⟩ (kdops P tt esc ops K X l cs d) X
  | some ⟨d, op, t, p, af, some (j, want)⟩ => kgs want (krun P tt esc s ⟨d, op, t, p, af, none⟩ (kdops P tt esc ops K X l cs d) X) (kdskp P tt esc ops K X l s d) s.env (gsl ops j)
theorem w_do (ops : List Oper) (K : Cf → Prop) (X : PV → Cf → Prop) (i : Nat) (cs : List Nat) (l : List (Nat × List Nat)) : pdseq P tt esc ⟨ops⟩ K X ((i, cs) :: l) s = kdo P tt esc ⟨ops⟩ K X l cs s (nth ops i) := by
  simp only [pdseq, nth_eq, List.getElem?_toArray]
  cases ops[i]? with
  | none => rfl
  | some o =>
    obtain ⟨d, op, t, p, af, g⟩ := o
    cases g with
    | none => rfl
    | some g =>
      obtain ⟨j, want⟩ := g
      have hs : ∀ (Kf : PV → Cf → Prop), pstep P tt esc s ⟨d, op, t, p, af, some (j, want)⟩ Kf X = pstep P tt esc s ⟨d, op, t, p, af, none⟩ Kf X := fun _ => rfl
      simp only [guarded, gsl, kgs, hs, kdo]
      cases ((⟨ops⟩ : Array Oper)[j]?).bind (fun x => x.dst) with
      | none => rfl
      | some e =>
        simp only [kgd]
        cases get s.env e with
        | val v => cases v <;> rfl
        | _ => rfl
theorem kdo_n (ops : Array Oper) (K : Cf → Prop) (X : PV → Cf → Prop) (l : List (Nat × List Nat)) (cs : List Nat) (d : Option Nat) (op : Op) (t : TypeId) (p : String) (af : Array Edge) :
    kdo P tt esc ops K X l cs s (some ⟨d, op, t, p, af, none⟩) = pstep P tt esc s ⟨d, op, t, p, af, none⟩ (kdops P tt esc ops K X l cs d) X := rfl
theorem kdo_g (ops : Array Oper) (K : Cf → Prop) (X : PV → Cf → Prop) (l : List (Nat × List Nat)) (cs : List Nat) (d : Option Nat) (op : Op) (t : TypeId) (p : String) (af : Array Edge) (j : Nat) (want : Bool) :
    kdo P tt esc ops K X l cs s (some ⟨d, op, t, p, af, some (j, want)⟩) = kgs want (krun P tt esc s ⟨d, op, t, p, af, none⟩ (kdops P tt esc ops K X l cs d) X) (kdskp P tt esc ops K X l s d) s.env (gsl ops j) := rfl
theorem nth_0 (o : Oper) (os : List Oper) : nth (o :: os) 0 = some o := (rfl)
theorem nth_s (o : Oper) (os : List Oper) (n : Nat) : nth (o :: os) (n + 1) = nth os n := (rfl)
end Go.Pv
-- PvRun2
namespace Go.Pv
open Go Go.RowKit
variable {P : Program} {tt : TT} {esc : List Nat} {ord : Ords} {K : Kt} {s : Cf}
def ifS {α β : Type} (o : Option β) (f : β → α) (y : α) : α := match o with | some b => f b | none => y
theorem ifS_s {α β : Type} (b : β) (f : β → α) (y : α) : ifS (some b) f y = f b := (rfl)
def ifB {α : Type} (b : Bool) (x y : α) : α := match b with | true => x | false => y
theorem ifB_t {α : Type} (x y : α) : ifB true x y = x := (rfl)
/- length -/
def plen0 (tt : TT) (s : Cf) (t : TypeId) (x : PV) : Option PV := plen tt s t x
theorem pln_l (t : TypeId) (k : Cap) (sz : Nat) (xs : List PV) : plen tt s t (.list k sz xs) = ifS (slz tt t) (fun _ => some (.val (.int .i64 xs.length))) (plen0 tt s t (.list k sz xs)) := by
  cases h : slz tt t with
  | none => rfl
  | some p => exact pln_list h k sz xs
theorem pln_v (t : TypeId) (a : Option Addr) (l c : Nat) : plen tt s t (.val (.slice a l c)) = ifS (slz tt t) (fun _ => some (.val (.int .i64 l))) (plen0 tt s t (.val (.slice a l c))) := by
  cases h : slz tt t with
  | none => rfl
  | some p => exact pln_val h a l c
theorem pln_s (t : TypeId) (z : ByteArray) : plen tt s t (.val (.string z)) = ifB (isStr tt t) (some (.val (.int .i64 z.size))) (plen0 tt s t (.val (.string z))) := by
  cases h : isStr tt t with
  | false => rfl
  | true => exact pln_str (isStr_iff h) z
/- parts of strings and lists -/
def psl0 (tt : TT) (s : Cf) (t : TypeId) (x : PV) (lo hi : Option Operand) : Option PV := pslice tt s t x lo hi
theorem psl_s (t : TypeId) (z : ByteArray) (lo hi : Option Operand) : pslice tt s t (.val (.string z)) lo hi = ifB (isStr tt t) (pslS s z lo (pbound s z.size z.size hi)) (psl0 tt s t (.val (.string z)) lo hi) := by
  cases h : isStr tt t with
  | false => rfl
  | true => rw [psl_str (isStr_iff h)]; simp only [ifB, pslS] <;> rfl
theorem psl_l (t : TypeId) (k : Cap) (sz : Nat) (xs : List PV) (lo hi : Option Operand) : pslice tt s t (.list k sz xs) lo hi = ifS (slz tt t) (fun p => if sz = p.1 then pslL s k sz xs lo (pbound s xs.length xs.length hi) else none) (psl0 tt s t (.list k sz xs) lo hi) := by
  cases h : slz tt t with
  | none => rfl
  | some p => rw [psl_list h]; simp only [ifS, pslL] <;> rfl
def arq : Option (Nat × TypeId × Nat) → Option (Nat × Nat)
  | some (n, _, m) => some (n, m)
  | none => none
theorem arq_s (n m : Nat) (e : TypeId) : arq (some (n, e, m)) = some (n, m) := (rfl)
theorem pslA_q (cs : List PV) (n m : Nat) : pslA cs (some (n, m)) = if m = 1 ∧ n = cs.length ∧ 0 < n ∧ cs.all stor = true then some (.list .any 1 cs) else none := (rfl)
theorem psl_e (t : TypeId) (cs : List PV) : pslice tt s t (.eptr cs) none none = pslA cs (arq (arz tt t)) := by
  unfold pslice arz
  cases hd : dsc tt t with
  | none => rfl
  | some d =>
    cases d <;> first | rfl | skip
    rename_i n e
    cases hq : tt e with
    | none => simp [hq, arq, pslA]
    | some i => simp [hq, arq]
/- append -/
def pel0 (tt : TT) (t : TypeId) (x : PV) : Option (Nat × List PV) := pelems tt t x
theorem pel_l (t : TypeId) (k : Cap) (sz : Nat) (xs : List PV) : pelems tt t (.list k sz xs) = ifS (slz tt t) (fun _ => some (sz, xs)) (pel0 tt t (.list k sz xs)) := by
  cases h : slz tt t with
  | none => rfl
  | some p => exact pel_list h k sz xs
theorem pel_s (t : TypeId) (z : ByteArray) : pelems tt t (.val (.string z)) = ifB (isStr tt t) (some (1, bytesP z)) (pel0 tt t (.val (.string z))) := by
  cases h : isStr tt t with
  | false => rfl
  | true => exact pel_str (isStr_iff h) z
theorem pap_q (t t2 : TypeId) (x y : PV) (Kf : PV → Cf → Prop) : pappend tt s t t2 x y Kf = papQ s Kf (slz tt t) x (pelems tt t2 y) := by
  unfold pappend papQ slz
  cases hd : dsc tt t with
  | none => cases x <;> cases pelems tt t2 y <;> rfl
  | some d =>
    cases d <;> first | (cases x <;> cases pelems tt t2 y <;> rfl) | skip
    rename_i e
    cases hq : tt e with
    | none => cases x <;> cases pelems tt t2 y <;> simp [hq]
    | some i => cases x <;> cases pelems tt t2 y <;> simp [hq]
def pappB (tt : TT) (s : Cf) (t t2 : TypeId) (x y : PV) (K : PV → Cf → Prop) : Bool → Prop
  | true => pappendV tt s t t2 x y K
  | false => pappend tt s t t2 x y K
theorem papp_n (t t2 : TypeId) (x y : PV) (Kf : PV → Cf → Prop) : papp tt esc s none t t2 x y Kf = pappend tt s t t2 x y Kf := (rfl)
theorem papp_s (d : Nat) (t t2 : TypeId) (x y : PV) (Kf : PV → Cf → Prop) : papp tt esc s (some d) t t2 x y Kf = pappB tt s t t2 x y Kf (esc.contains d) := by
  unfold papp pappB inEsc
  rfl
theorem pappB_t (t t2 : TypeId) (x y : PV) (Kf : PV → Cf → Prop) : pappB tt s t t2 x y Kf true = pappendV tt s t t2 x y Kf := (rfl)
theorem pappB_f (t t2 : TypeId) (x y : PV) (Kf : PV → Cf → Prop) : pappB tt s t t2 x y Kf false = pappend tt s t t2 x y Kf := (rfl)
/-- Append to a slice of the state, by its kinds. -/
def pavQ (s : Cf) (x : PV) (Kf : PV → Cf → Prop) (sl : Option (Nat × Nat)) (ys : Option (Nat × List PV)) : Prop :=
  match sl, ys with
  | some (n, b), some (sz2, ys) => sz2 = n ∧ (match cellsAll ys with
    | some cs => (match x with
      | .list .full _ [] => 0 < ys.length ∧ ys.length * b ≤ 140737488355328 ∧ ys.length ≤ 9223372036854775807 ∧
          ∀ bb c, s.σ.obj bb = none → s.σ.own bb = none → ys.length ≤ c → Kf (.val (.slice (some ⟨bb, 0, none⟩) ys.length c)) { s with σ := s.σ.set bb (.cells (cs ++ List.replicate ((c - ys.length) * n) .undef)) }
      | .val (.slice (some ⟨bb, 0, none⟩) m c) => (m + ys.length) * b ≤ 140737488355328 ∧ m + ys.length ≤ 9223372036854775807 ∧ m ≤ c ∧ match s.σ.obj bb with
        | some (.cells ds) => ds.length = c * n ∧
            (m + ys.length ≤ c → Kf (.val (.slice (some ⟨bb, 0, none⟩) (m + ys.length) c)) { s with σ := s.σ.set bb (.cells (pset ds (m * n) cs)) }) ∧
            (c < m + ys.length → ∀ b' c', s.σ.obj b' = none → s.σ.own b' = none → m + ys.length ≤ c' → Kf (.val (.slice (some ⟨b', 0, none⟩) (m + ys.length) c')) { s with σ := s.σ.set b' (.cells (ds.take (m * n) ++ cs ++ List.replicate ((c' - (m + ys.length)) * n) .undef)) })
        | _ => False
      | _ => False)
    | none => False)
  | _, _ => False
theorem pav_q (t t2 : TypeId) (x y : PV) (Kf : PV → Cf → Prop) : pappendV tt s t t2 x y Kf = pavQ s x Kf (slz tt t) (pelems tt t2 y) := by
  unfold pappendV pavQ slz
  cases hd : dsc tt t with
  | none => cases pelems tt t2 y <;> rfl
  | some d =>
    cases d <;> first | (cases pelems tt t2 y <;> rfl) | skip
    rename_i e
    cases hq : tt e with
    | none => cases pelems tt t2 y <;> simp [hq]
    | some i =>
      cases pelems tt t2 y with
      | none => simp [hq]
      | some p =>
        obtain ⟨sz2, ys⟩ := p
        simp only [hq, Option.map_some]
        cases cellsAll ys with
        | none => simp
        | some cs => rfl
/- interfaces -/
def pifQ (t : TypeId) (x : PV) (n : Bool) : Option Bool → Option PV
  | some false => if n then some (.iface t x) else none
  | _ => none
theorem pif_q (t : TypeId) (x : PV) : piface tt t x = pifQ t x (notL x) (isIfc tt t) := by
  unfold piface pifQ isIfc
  cases dsc tt t with
  | none => rfl
  | some d => cases d <;> rfl
theorem pifQ_q (t : TypeId) (x : PV) : pifQ t x true (some false) = some (.iface t x) := (rfl)
def pasQ (t t' : TypeId) (v : PV) (ok : Bool) : Option Bool → Option PV
  | some false => if t' = t then some (if ok then .tuple [v, .val (.bool true)] else v) else none
  | _ => none
theorem pas_q (t t' : TypeId) (v : PV) (ok : Bool) : passert tt t (.iface t' v) ok = pasQ t t' v ok (isIfc tt t) := by
  unfold passert pasQ isIfc
  cases dsc tt t with
  | none => rfl
  | some d => cases d <;> rfl
theorem pasQ_q (t t' : TypeId) (v : PV) (ok : Bool) : pasQ t t' v ok (some false) = if t' = t then some (if ok then .tuple [v, .val (.bool true)] else v) else none := (rfl)
/- conversions -/
def cvI (tt : TT) (a b : TypeId) : Option IntKind := match dsc tt a, dsc tt b with | some _, some (.int k) => some k | _, _ => none
def pcvI (n : Int) : Option IntKind → Option PV
  | some k => some (.val (.int k (k.wrap n)))
  | none => none
theorem pcv_i (a b : TypeId) (k : IntKind) (n : Int) : pconv tt a b (.val (.int k n)) = pcvI n (cvI tt a b) := by
  unfold pconv cvI pcvI
  cases dsc tt a with
  | none => rfl
  | some d =>
    cases dsc tt b with
    | none => cases d <;> rfl
    | some e => cases d <;> cases e <;> rfl
theorem pcvI_q (n : Int) (k : IntKind) : pcvI n (some k) = some (.val (.int k (k.wrap n))) := (rfl)
theorem pcv_s (a b : TypeId) (z : ByteArray) : pconv tt a b (.val (.string z)) = ifB (isStr tt a && isStr tt b) (some (.val (.string z))) none := by
  unfold pconv isStr ifB
  cases dsc tt a with
  | none => rfl
  | some d =>
    cases dsc tt b with
    | none => cases d <;> rfl
    | some e => cases d <;> cases e <;> rfl
/- bytes to a string -/
def bsq (tt : TT) (a b : TypeId) : Bool := match dsc tt a, dsc tt b with
  | some (.slice e), some .string => match dsc tt e with | some (.int .u8) => true | _ => false
  | _, _ => false
def pcv0 (tt : TT) (a b : TypeId) (x : PV) : Option PV := pconv tt a b x
def bsQ : Nat → Option (List Int) → Option PV
  | 1, some ns => some (.val (.string (bstr ns)))
  | _, _ => none
theorem bsQ_q (ns : List Int) : bsQ 1 (some ns) = some (.val (.string (bstr ns))) := (rfl)
theorem u8s_nil : u8s [] = some [] := (rfl)
theorem u8s_cons (n : Int) (r : List PV) : u8s (.val (.int .u8 n) :: r) = (u8s r).map (n :: ·) := (rfl)
theorem pcv_l (a b : TypeId) (k : Cap) (sz : Nat) (xs : List PV) : pconv tt a b (.list k sz xs) = ifB (bsq tt a b) (bsQ sz (u8s xs)) (pcv0 tt a b (.list k sz xs)) := by
  cases h : bsq tt a b with
  | false => rfl
  | true =>
    unfold bsq at h
    split at h
    · rename_i e h1 h2
      split at h
      · rename_i h3
        simp only [pconv, h1, h2, pconvB, h3, ifB]
        cases u8s xs with
        | none =>
          cases sz with
          | zero => rfl
          | succ n => cases n <;> rfl
        | some ns =>
          cases sz with
          | zero => rfl
          | succ n => cases n <;> rfl
      · cases h
    · cases h
/- literals -/
def pbd0 (tt : TT) (t : TypeId) (ps : List (Nat × PV)) : Option PV := pbuild tt t ps
def pbdF (ps : List (Nat × PV)) (p : List (Nat × Nat) × List PV) : Option PV := (pfill (p.1[·]?) p.2 ps).map .agg
theorem pbdF_q (ps : List (Nat × PV)) (pl : List (Nat × Nat)) (z : List PV) : pbdF ps (pl, z) = (pfill (pl[·]?) z ps).map .agg := (rfl)
theorem pbd_q (t : TypeId) (ps : List (Nat × PV)) : pbuild tt t ps = ifS (bld tt t) (pbdF ps) (pbd0 tt t ps) := by
  cases h : bld tt t with
  | none => rfl
  | some p => exact pbl_struct h ps
def pbv0 (tt : TT) (t : TypeId) (m : Nat) (ps : List (Nat × PV)) : Option PV := pbuildV tt t m ps
theorem pbv_qq (t : TypeId) (m : Nat) (ps : List (Nat × PV)) : pbuildV tt t m ps = ifS (bsl tt t) (fun b => pbv1 b.1 m (pfillE tt b.1 (List.replicate m b.2) ps)) (pbv0 tt t m ps) := by
  cases h : bsl tt t with
  | none => rfl
  | some p => rw [pbv_q _ _ _ h, pbvQ_q]; rfl
/-- Parts one after the other, from a place on. -/
def fillS (sz : Nat) : Nat → List (Nat × PV) → Option (List PV)
  | _, [] => some []
  | i, (j, v) :: r => if j = i then (match cellsOf v with | some cs => if cs.length = sz ∧ cs.all stor = true then (fillS sz (i + 1) r).map (forget v :: ·) else none | none => none) else none
def fsc (sz : Nat) (v : PV) (o : Option (List PV)) : Option (List PV) → Option (List PV)
  | some cs => if cs.length = sz ∧ cs.all stor = true then o.map (forget v :: ·) else none
  | none => none
theorem fillS_nil (sz i : Nat) : fillS sz i [] = some [] := (rfl)
theorem fillS_cons (sz i j : Nat) (v : PV) (r : List (Nat × PV)) : fillS sz i ((j, v) :: r) = if j = i then fsc sz v (fillS sz (i + 1) r) (cellsOf v) else none := by
  simp only [fillS, fsc] <;> rfl
theorem fsc_q (sz : Nat) (v : PV) (o : Option (List PV)) (cs : List PV) : fsc sz v o (some cs) = if cs.length = sz ∧ cs.all stor = true then o.map (forget v :: ·) else none := (rfl)
theorem fillS_len (sz : Nat) : ∀ (ps : List (Nat × PV)) (i : Nat) (xs : List PV), fillS sz i ps = some xs → xs.length = ps.length
  | [], _, _, h => by cases h; rfl
  | (j, v) :: r, i, xs, h => by
    simp only [fillS] at h
    split at h
    · split at h
      · split at h
        · cases q : fillS sz (i + 1) r with
          | none => simp [q] at h
          | some ys => simp [q] at h; subst h; simp [fillS_len sz r _ _ q]
        · cases h
      · cases h
    · cases h
theorem fillS_ok (sz : Nat) : ∀ (ps : List (Nat × PV)) (pre post xs : List PV), fillS sz pre.length ps = some xs → post.length = ps.length → pfillE tt sz (pre ++ post) ps = some (pre ++ xs)
  | [], pre, post, xs, h, hl => by
    cases h
    have : post = [] := List.eq_nil_of_length_eq_zero (by simpa using hl)
    subst this
    rfl
  | (j, v) :: r, pre, post, xs, h, hl => by
    simp only [fillS] at h
    split at h
    · rename_i hj
      subst hj
      split at h
      · rename_i cs hc
        split at h
        · rename_i hk
          cases q : fillS sz (pre.length + 1) r with
          | none => simp [q] at h
          | some ys =>
            simp [q] at h
            subst h
            cases post with
            | nil => simp at hl
            | cons y post =>
              simp only [List.length_cons] at hl
              have := fillS_ok sz r (pre ++ [forget v]) post ys (by simpa using q) (by omega)
              simp only [pfillE, hc]
              rw [if_pos ⟨by simp, hk.1, hk.2⟩]
              have e : (pre ++ y :: post).set pre.length (forget v) = pre ++ [forget v] ++ post := by simp
              rw [e, this]
              simp
        · cases h
      · cases h
    · cases h
def pbvM (tt : TT) (n : Nat) (z : PV) (m : Nat) (ps : List (Nat × PV)) (o : Option (List PV)) : Option PV :=
  match o with
  | some xs => if ps.length = m then pbv1 n m (some xs) else pbv1 n m (pfillE tt n (List.replicate m z) ps)
  | none => pbv1 n m (pfillE tt n (List.replicate m z) ps)
theorem pbvM_s (n : Nat) (z : PV) (m : Nat) (ps : List (Nat × PV)) (xs : List PV) : pbvM tt n z m ps (some xs) = if ps.length = m then pbv1 n m (some xs) else pbv1 n m (pfillE tt n (List.replicate m z) ps) := (rfl)
theorem pbvM_n (n : Nat) (z : PV) (m : Nat) (ps : List (Nat × PV)) : pbvM tt n z m ps none = pbv1 n m (pfillE tt n (List.replicate m z) ps) := (rfl)
def pbvF (tt : TT) (m : Nat) (ps : List (Nat × PV)) (b : Nat × PV) : Option PV := pbvM tt b.1 b.2 m ps (fillS b.1 0 ps)
theorem pbvF_q (m : Nat) (ps : List (Nat × PV)) (n : Nat) (z : PV) : pbvF tt m ps (n, z) = pbvM tt n z m ps (fillS n 0 ps) := (rfl)
theorem pbv_n (t : TypeId) (m : Nat) (ps : List (Nat × PV)) : pbuildV tt t m ps = ifS (bsl tt t) (pbvF tt m ps) (pbv0 tt t m ps) := by
  rw [pbv_qq]
  cases h : bsl tt t with
  | none => rfl
  | some p =>
    obtain ⟨n, z⟩ := p
    simp only [ifS, pbvF]
    cases hf : fillS n 0 ps with
    | none => rfl
    | some xs =>
      rw [pbvM_s]
      split
      · rename_i hm
        have := fillS_ok (tt := tt) n ps [] (List.replicate m z) xs hf (by simp [hm])
        simp only [List.nil_append] at this
        rw [this]
      · rfl
/- arithmetic -/
section
variable (k : IntKind) (a b : Int) (t : TypeId)
theorem pb_add : pbin tt .add t (.val (.int k a)) (.val (.int k b)) = some (.val (.int k (k.wrap (a + b)))) := by simp [pbin, pint]
theorem pb_sub : pbin tt .sub t (.val (.int k a)) (.val (.int k b)) = some (.val (.int k (k.wrap (a - b)))) := by simp [pbin, pint]
theorem pb_mul : pbin tt .mul t (.val (.int k a)) (.val (.int k b)) = some (.val (.int k (k.wrap (a * b)))) := by simp [pbin, pint]
theorem pb_quo : pbin tt .quo t (.val (.int k a)) (.val (.int k b)) = if b = 0 then none else some (.val (.int k (k.wrap (a.tdiv b)))) := by simp [pbin, pint]
theorem pb_rem : pbin tt .rem t (.val (.int k a)) (.val (.int k b)) = if b = 0 then none else some (.val (.int k (a.tmod b))) := by simp [pbin, pint]
theorem pb_eql : pbin tt .eql t (.val (.int k a)) (.val (.int k b)) = some (.val (.bool (a == b))) := by simp [pbin, pint]
theorem pb_neq : pbin tt .neq t (.val (.int k a)) (.val (.int k b)) = some (.val (.bool (a != b))) := by simp [pbin, pint]
theorem pb_lss : pbin tt .lss t (.val (.int k a)) (.val (.int k b)) = some (.val (.bool (decide (a < b)))) := by simp [pbin, pint]
theorem pb_leq : pbin tt .leq t (.val (.int k a)) (.val (.int k b)) = some (.val (.bool (decide (a ≤ b)))) := by simp [pbin, pint]
theorem pb_gtr : pbin tt .gtr t (.val (.int k a)) (.val (.int k b)) = some (.val (.bool (decide (a > b)))) := by simp [pbin, pint]
theorem pb_geq : pbin tt .geq t (.val (.int k a)) (.val (.int k b)) = some (.val (.bool (decide (a ≥ b)))) := by simp [pbin, pint]
theorem pb_shl (k' : IntKind) : pbin tt .shl t (.val (.int k a)) (.val (.int k' b)) = if b < 0 then none else some (.val (.int k (k.wrap (a * 2 ^ (min b.toNat k.bits))))) := by simp [pbin, pint]
theorem pb_str (op : BinOp) (x y : ByteArray) : pbin tt op t (.val (.string x)) (.val (.string y)) = pstr op x y := (rfl)
theorem ps_add (x y : ByteArray) : pstr .add x y = if x.size + y.size ≤ 9223372036854775807 then some (.val (.string (x ++ y))) else none := (rfl)
theorem ps_eql (x y : ByteArray) : pstr .eql x y = some (.val (.bool (x.toList == y.toList))) := (rfl)
theorem ps_neq (x y : ByteArray) : pstr .neq x y = some (.val (.bool (!(x.toList == y.toList)))) := (rfl)
def isBool (tt : TT) (t : TypeId) : Bool := match dsc tt t with | some .bool => true | _ => false
theorem pb_beq (x y : Bool) : pbin tt .eql t (.val (.bool x)) (.val (.bool y)) = ifB (isBool tt t) (some (.val (.bool (x == y)))) none := by
  simp only [pbin, isBool, ifB]
  cases dsc tt t with
  | none => rfl
  | some d => cases d <;> rfl
theorem pb_bne (x y : Bool) : pbin tt .neq t (.val (.bool x)) (.val (.bool y)) = ifB (isBool tt t) (some (.val (.bool (!(x == y))))) none := by
  simp only [pbin, isBool, ifB]
  cases dsc tt t with
  | none => rfl
  | some d => cases d <;> rfl
theorem pu_not (x : Bool) : pun .not (.val (.bool x)) = some (.val (.bool (!x))) := (rfl)
theorem pu_neg : pun .neg (.val (.int k a)) = some (.val (.int k (k.wrap (0 - a)))) := (rfl)
theorem pmax_q (k' : IntKind) : pmax (.val (.int k a)) (.val (.int k' b)) = some (.val (.int k (if b > a then b else a))) := (rfl)
theorem pmin_q (k' : IntKind) : pmin (.val (.int k a)) (.val (.int k' b)) = some (.val (.int k (if b < a then b else a))) := (rfl)
theorem ppick_t (x y : PV) : ppick (.val (.bool true)) x y = some x := (rfl)
theorem ppick_f (x y : PV) : ppick (.val (.bool false)) x y = some y := (rfl)
theorem ppick_b (c : Bool) (x y : PV) : ppick (.val (.bool c)) x y = some (if c then x else y) := by cases c <;> rfl
theorem pnil_l (d o : Nat) : pnil (.lptr d o) = some (.lptr d o) := (rfl)
theorem pnil_e (cs : List PV) : pnil (.eptr cs) = some (.eptr cs) := (rfl)
theorem pnil_v (p : Addr) : pnil (.val (.pointer (some p))) = some (.val (.pointer (some p))) := (rfl)
theorem pnil_f (f : FuncId) (x y : Array Value) : pnil (.val (.func (.func f) x y)) = some (.val (.func (.func f) x y)) := (rfl)
theorem pextract_q (vs : List PV) (i : Nat) : pextract (.tuple vs) i = vs[i]? := (rfl)
theorem pvals_nil : pvals [] = some [] := (rfl)
theorem pvals_cons (v : Value) (r : List PV) : pvals (.val v :: r) = (pvals r).map (v :: ·) := (rfl)
end
theorem noL1_w (d : Nat) : noL1 d undefV = true := (rfl)
/- cells -/
theorem cellsOf_agg (cs : List PV) : cellsOf (.agg cs) = some cs := (rfl)
theorem cellsOf_list (k : Cap) (z : Nat) (xs : List PV) : cellsOf (.list k z xs) = some [.list k z xs] := (rfl)
theorem cellsOf_eptr (xs : List PV) : cellsOf (.eptr xs) = some [.eptr xs] := (rfl)
theorem cellsOf_iface (t : TypeId) (v : PV) : cellsOf (.iface t v) = some [.iface t v] := (rfl)
theorem cellsOf_int (k : IntKind) (n : Int) : cellsOf (.val (.int k n)) = some [.val (.int k n)] := (rfl)
theorem cellsOf_bool (b : Bool) : cellsOf (.val (.bool b)) = some [.val (.bool b)] := (rfl)
theorem cellsOf_str (z : ByteArray) : cellsOf (.val (.string z)) = some [.val (.string z)] := (rfl)
theorem cellsOf_ptr (a : Option Addr) : cellsOf (.val (.pointer a)) = some [.val (.pointer a)] := (rfl)
theorem cellsOf_sl (a : Option Addr) (n c : Nat) : cellsOf (.val (.slice a n c)) = some [.val (.slice a n c)] := (rfl)
theorem cellsOf_map (a : Option Nat) : cellsOf (.val (.map a)) = some [.val (.map a)] := (rfl)
theorem cellsOf_func (f : Fn) (x y : Array Value) : cellsOf (.val (.func f x y)) = some [.val (.func f x y)] := (rfl)
theorem cellsOf_nfn : cellsOf (.val .nilFunc) = some [.val .nilFunc] := (rfl)
theorem stor_int (k : IntKind) (n : Int) : stor (.val (.int k n)) = true := (rfl)
theorem stor_bool (b : Bool) : stor (.val (.bool b)) = true := (rfl)
theorem stor_str (z : ByteArray) : stor (.val (.string z)) = true := (rfl)
theorem stor_ptr (a : Option Addr) : stor (.val (.pointer a)) = true := (rfl)
theorem stor_sl (a : Option Addr) (n c : Nat) : stor (.val (.slice a n c)) = true := (rfl)
theorem stor_map (a : Option Nat) : stor (.val (.map a)) = true := (rfl)
theorem stor_func (f : Fn) (x y : Array Value) : stor (.val (.func f x y)) = true := (rfl)
theorem stor_nfn : stor (.val .nilFunc) = true := (rfl)
theorem stor_list (k : Cap) (z : Nat) (xs : List PV) : stor (.list k z xs) = true := (rfl)
theorem stor_eptr (xs : List PV) : stor (.eptr xs) = true := (rfl)
theorem stor_iface (t : TypeId) (v : PV) : stor (.iface t v) = true := (rfl)
theorem forget_val (v : Value) : forget (.val v) = .val v := (rfl)
theorem forget_list (k : Cap) (z : Nat) (xs : List PV) : forget (.list k z xs) = .list .any z (forgets xs) := by simp only [forget]
theorem forget_eptr (xs : List PV) : forget (.eptr xs) = .eptr (forgets xs) := by simp only [forget]
theorem forget_agg (xs : List PV) : forget (.agg xs) = .agg (forgets xs) := by simp only [forget]
theorem forget_iface (t : TypeId) (v : PV) : forget (.iface t v) = .iface t (forget v) := by simp only [forget]
theorem notL_v (v : Value) : notL (.val v) = true := (rfl)
theorem notL_l (k : Cap) (z : Nat) (xs : List PV) : notL (.list k z xs) = true := (rfl)
theorem notL_e (xs : List PV) : notL (.eptr xs) = true := (rfl)
theorem notL_a (xs : List PV) : notL (.agg xs) = true := (rfl)
theorem notL_i (t : TypeId) (v : PV) : notL (.iface t v) = true := (rfl)
theorem notL_t (xs : List PV) : notL (.tuple xs) = true := (rfl)
/- results -/
theorem presults_nil : presults tt s [] = some [] := (rfl)
def prs1 (tt : TT) (s : Cf) (xs : List ResultVar) : Option PV → Option (List PV)
  | some v => (presults tt s xs).map (v :: ·)
  | none => none
theorem presults_cons (x : ResultVar) (xs : List ResultVar) : presults tt s (x :: xs) = prs1 tt s xs (presult tt s x) := by
  simp only [presults, prs1]
  cases presult tt s x <;> cases presults tt s xs <;> rfl
theorem prs1_q (xs : List ResultVar) (v : PV) : prs1 tt s xs (some v) = (presults tt s xs).map (v :: ·) := (rfl)
def prt (v : PV) (b : Bool) : Option PV := if b then some v else none
theorem presult_t (t : Nat) : presult tt s (.tmp t) = prt (get s.env t) (notL (get s.env t)) := (rfl)
theorem presult_c (t : Nat) (T : TypeId) : presult tt s (.cell t T) = pldQ tt T (paddr s (get s.env t)) := by
  simp only [presult, pldQ] <;> (cases paddr s (get s.env t) <;> rfl)
theorem prt_q (v : PV) : prt v true = some v := (rfl)
def kbodyR (K : Res → St → Prop) (σ : St) : Option (List PV) → Prop
  | some vs => kret K σ (.ret (pone vs))
  | none => False
theorem kbody_n (rs : List ResultVar) (K : Res → St → Prop) (s : Cf) : kbody tt rs K .normal s = kbodyR K s.σ (presults tt s rs) := by
  simp only [kbody, kbodyR] <;> rfl
theorem kbody_r (rs : List ResultVar) (K : Res → St → Prop) (s : Cf) : kbody tt rs K .ret s = kbodyR K s.σ (presults tt s rs) := by
  simp only [kbody, kbodyR] <;> rfl
theorem kbody_p (rs : List ResultVar) (K : Res → St → Prop) (v : PV) (s : Cf) : kbody tt rs K (.panic v) s = kret K s.σ (.panic v) := (rfl)
theorem kbodyR_q (K : Res → St → Prop) (σ : St) (vs : List PV) : kbodyR K σ (some vs) = kret K σ (.ret (pone vs)) := (rfl)
theorem pone_1 (v : PV) : pone [v] = v := (rfl)
theorem pone_0 : pone [] = .tuple [] := (rfl)
theorem pone_2 (v w : PV) (r : List PV) : pone (v :: w :: r) = .tuple (v :: w :: r) := (rfl)
theorem σset_obj (σ : St) (b : Nat) (o : Ob) (x : Nat) : (σ.set b o).obj x = if x = b then some o else σ.obj x := (rfl)
theorem σset_own (σ : St) (b : Nat) (o : Ob) : (σ.set b o).own = σ.own := (rfl)
theorem σset_gl (σ : St) (b : Nat) (o : Ob) : (σ.set b o).gl = σ.gl := (rfl)
theorem penv_nil (i : Nat) : penv i [] = [] := (rfl)
theorem penv_cons (i : Nat) (v : PV) (vs : List PV) : penv i (v :: vs) = (i, v) :: penv (i + 1) vs := (rfl)
theorem ordOf_nil (k : Nat) : ordOf [] k = (0, []) := (rfl)
theorem ordOf_cons (i : Nat) (l : Nat × List (Nat × List Nat)) (r : Ords) (k : Nat) : ordOf ((i, l) :: r) k = if i = k then l else ordOf r k := (rfl)
theorem omap_some {α β : Type} (f : α → β) (a : α) : Option.map f (some a) = some (f a) := (rfl)
theorem geq_0 {α : Type} (x : α) (xs : List α) : (x :: xs)[0]? = some x := (rfl)
theorem geq_s {α : Type} (x : α) (xs : List α) (n : Nat) : (x :: xs)[n + 1]? = xs[n]? := (rfl)
def putQ (n : Nat) (env : List (Nat × PV)) (loc : List (Nat × List PV)) (σ : St) (d : Nat) (v : PV) : Bool → Cf
  | true => ⟨n, (d, v) :: env, loc, σ⟩
  | false => ⟨n, env, loc, σ⟩
theorem put_q (n : Nat) (env : List (Nat × PV)) (loc : List (Nat × List PV)) (σ : St) (d : Nat) (v : PV) : Cf.put ⟨n, env, loc, σ⟩ (some d) v = putQ n env loc σ d v (decide (d < n)) := by
  unfold Cf.put putQ
  by_cases h : d < n <;> simp [h]
theorem putQ_t (n : Nat) (env : List (Nat × PV)) (loc : List (Nat × List PV)) (σ : St) (d : Nat) (v : PV) : putQ n env loc σ d v true = ⟨n, (d, v) :: env, loc, σ⟩ := (rfl)
/- what is read again -/
theorem rechecks_nil (ops : Array Oper) (s : Cf) : rechecks tt ops s [] = True := (rfl)
theorem rechecks_cons (ops : Array Oper) (s : Cf) (i : Nat) (l : List Nat) : rechecks tt ops s (i :: l) = (recheck tt ops s i ∧ rechecks tt ops s l) := (rfl)
def rck (tt : TT) (ops : Array Oper) (s : Cf) : Option Oper → Prop
  | none => False
  | some ⟨some d, op, t, p, af, none⟩ => pread tt s t op = some (get s.env d)
  | some ⟨some d, op, t, p, af, some (j, want)⟩ => kgs want (fun _ => pread tt s t op = some (get s.env d)) (fun _ => True) s.env (gsl ops j)
  | some ⟨none, _, _, _, _, _⟩ => False
def kT : Unit → Prop := fun _ => True
def kR (tt : TT) (s : Cf) (op : Op) (t : TypeId) (d : Nat) : Unit → Prop := fun _ => pread tt s t op = some (get s.env d)
theorem kT_q : kT () = True := (rfl)
theorem kR_q (s : Cf) (op : Op) (t : TypeId) (d : Nat) : kR tt s op t d () = (pread tt s t op = some (get s.env d)) := (rfl)
def rck0 (tt : TT) (ops : Array Oper) (s : Cf) (i : Nat) : Prop := recheck tt ops s i
def rckQ (tt : TT) (ops : Array Oper) (s : Cf) (i : Nat) : Option Oper → Prop
  | some ⟨some d, op, t, p, af, none⟩ => pread tt s t op = some (get s.env d)
  | some ⟨some d, op, t, p, af, some (j, want)⟩ => kgs want (kR tt s op t d) kT s.env (gsl ops j)
  | _ => rck0 tt ops s i
theorem recheck_q (ops : List Oper) (s : Cf) (i : Nat) : recheck tt ⟨ops⟩ s i = rckQ tt ⟨ops⟩ s i (nth ops i) := by
  simp only [nth_eq]
  unfold rckQ
  split
  · rename_i d op t p af h
    simp only [recheck, List.getElem?_toArray, h, guarded]
  · rename_i d op t p af j want h
    simp only [recheck, List.getElem?_toArray, h, guarded, gsl, kgs, kgd, kR, kT]
    cases ((⟨ops⟩ : Array Oper)[j]?).bind (fun x => x.dst) with
    | none => rfl
    | some e =>
      cases get s.env e with
      | val v => cases v <;> rfl
      | _ => rfl
  · rfl
theorem rckQ_n (ops : Array Oper) (s : Cf) (i d : Nat) (op : Op) (t : TypeId) (p : String) (af : Array Edge) : rckQ tt ops s i (some ⟨some d, op, t, p, af, none⟩) = (pread tt s t op = some (get s.env d)) := (rfl)
theorem rckQ_g (ops : Array Oper) (s : Cf) (i d : Nat) (op : Op) (t : TypeId) (p : String) (af : Array Edge) (j : Nat) (want : Bool) : rckQ tt ops s i (some ⟨some d, op, t, p, af, some (j, want)⟩) = kgs want (kR tt s op t d) kT s.env (gsl ops j) := (rfl)
theorem pread_ld (t : TypeId) (a : TypeId) (x : Operand) : pread tt s t (.load a x) = pldQ tt a (paddr s (eval s x)) := by
  simp only [pread]
  cases paddr s (eval s x) <;> rfl
theorem pread_len (t a : TypeId) (x : Operand) : pread tt s t (.call ⟨.builtin .len, #[x], #[a]⟩) = plen tt s a (eval s x) := (rfl)
theorem pread_lk (t a : TypeId) (x i : Operand) (ok : Bool) : pread tt s t (.lookup a x i ok) = plookup tt s a (eval s x) (eval s i) ok := (rfl)
end Go.Pv
