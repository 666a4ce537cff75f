/- Part 0 of the texts for: parse.Expr and the specification of layer 3 read every list of tokens alike -/
import Derived.Orders
import Derived.Below
import Derived.Laws.Sem
import Derived.WalkKit
import Derived.Laws.CopyRow
import Derived.Laws.BytesString
import Derived.MapKept
import Derived.Laws.Append
set_option autoImplicit false
set_option linter.unusedVariables false
set_option linter.unusedSimpArgs false
set_option linter.defProp false
-- PvBase
namespace Go.Pv
open Go Go.RowKit
inductive Cap where
  | any
  | full
  | known (a : Option Addr) (c : Nat)
inductive PV where
  | val (v : Value)
  | list (k : Cap) (sz : Nat) (xs : List PV)
  | lptr (d off : Nat)
  | eptr (cs : List PV)
  | iface (t : TypeId) (v : PV)
  | agg (cs : List PV)
  | tuple (vs : List PV)
  | undef
instance : Inhabited PV := ⟨.undef⟩
structure Sett where
  cell : Nat → Nat → Option Value
  size : Nat → Option Nat
structure Sett.le (G G' : Sett) : Prop where
  cell : ∀ b o v, G.cell b o = some v → G'.cell b o = some v
  size : ∀ b s, G.size b = some s → G'.size b = some s
theorem Sett.le.refl (G : Sett) : G.le G := ⟨fun _ _ _ h => h, fun _ _ h => h⟩
theorem Sett.le.trans {A B C : Sett} (h : A.le B) (k : B.le C) : A.le C := ⟨fun _ _ _ e => k.cell _ _ _ (h.cell _ _ _ e), fun _ _ e => k.size _ _ (h.size _ _ e)⟩
def At (G : Sett) (a : Addr) (us : List Value) : Prop :=
  ∃ b off, a = ⟨b, off, none⟩ ∧ ∀ (i : Nat) v, us[i]? = some v → G.cell b (off + i) = some v
def Cap.ok (G : Sett) (sz : Nat) (a : Option Addr) (n c : Nat) : Cap → Prop
  | .any => True
  | .full => c = n
  | .known a' c' => a' = a ∧ c' = c ∧ ((a = none ∧ c = 0) ∨ ∃ b off s, a = some ⟨b, off, none⟩ ∧ G.size b = some s ∧ off + c * sz ≤ s)
mutual
def Rel (G : Sett) : PV → Value → Prop
  | .val v, u => u = v
  | .list k sz xs, u => ∃ a c, u = .slice a xs.length c ∧ xs.length ≤ c ∧ k.ok G sz a xs.length c ∧ ∃ us, RelE G sz xs us ∧ (xs = [] ∨ ∃ ad, a = some ad ∧ At G ad us)
  | .lptr _ _, _ => False
  | .eptr cs, u => ∃ a us, u = .pointer (some a) ∧ RelL G cs us ∧ At G a us
  | .iface t v, u => ∃ u', u = .iface t u' ∧ Rel G v u'
  | .agg cs, u => ∃ us, u = .agg us.toArray ∧ RelL G cs us
  | .tuple cs, u => ∃ us, u = .tuple us.toArray ∧ RelL G cs us
  | .undef, _ => True
def RelL (G : Sett) : List PV → List Value → Prop
  | [], us => us = []
  | x :: xs, us => ∃ u r, us = u :: r ∧ Rel G x u ∧ RelL G xs r
def RelE (G : Sett) (sz : Nat) : List PV → List Value → Prop
  | [], us => us = []
  | x :: xs, us => ∃ u r, us = u.cells.toList ++ r ∧ (u.cells.size = sz ∧ ∀ c ∈ u.cells.toList, c.oneCell' = true) ∧ Rel G x u ∧ RelE G sz xs r
end
theorem At.mono {G G' : Sett} (h : G.le G') {a : Addr} {us : List Value} (p : At G a us) : At G' a us := by
  obtain ⟨b, off, e, q⟩ := p
  exact ⟨b, off, e, fun i v hi => h.cell _ _ _ (q i v hi)⟩
theorem Cap.ok.mono {G G' : Sett} (h : G.le G') {sz : Nat} {a : Option Addr} {n c : Nat} {k : Cap} (p : k.ok G sz a n c) : k.ok G' sz a n c := by
  cases k with
  | any => trivial
  | full => exact p
  | known a' c' =>
    obtain ⟨e1, e2, p⟩ := p
    refine ⟨e1, e2, ?_⟩
    rcases p with p | ⟨b, off, s, e, hs, hl⟩
    · exact .inl p
    · exact .inr ⟨b, off, s, e, h.size _ _ hs, hl⟩
mutual
theorem Rel.mono {G G' : Sett} (h : G.le G') : ∀ (x : PV) (u : Value), Rel G x u → Rel G' x u
  | .val _, _, r => r
  | .list _ _ xs, _, ⟨a, c, e, l, k, us, r, p⟩ => ⟨a, c, e, l, k.mono h, us, RelE.mono h xs us r, p.imp id fun ⟨ad, e, q⟩ => ⟨ad, e, q.mono h⟩⟩
  | .lptr _ _, _, r => r
  | .eptr cs, _, ⟨a, us, e, r, p⟩ => ⟨a, us, e, RelL.mono h cs us r, p.mono h⟩
  | .iface _ v, _, ⟨u', e, r⟩ => ⟨u', e, Rel.mono h v u' r⟩
  | .agg cs, _, ⟨us, e, r⟩ => ⟨us, e, RelL.mono h cs us r⟩
  | .tuple cs, _, ⟨us, e, r⟩ => ⟨us, e, RelL.mono h cs us r⟩
  | .undef, _, _ => trivial
theorem RelL.mono {G G' : Sett} (h : G.le G') : ∀ (xs : List PV) (us : List Value), RelL G xs us → RelL G' xs us
  | [], _, r => r
  | x :: xs, _, ⟨u, r, e, p, q⟩ => ⟨u, r, e, Rel.mono h x u p, RelL.mono h xs r q⟩
theorem RelE.mono {G G' : Sett} (h : G.le G') {sz : Nat} : ∀ (xs : List PV) (us : List Value), RelE G sz xs us → RelE G' sz xs us
  | [], _, r => r
  | x :: xs, _, ⟨u, r, e, s, p, q⟩ => ⟨u, r, e, s, Rel.mono h x u p, RelE.mono h xs r q⟩
end
mutual
def forget : PV → PV
  | .list _ sz xs => .list .any sz (forgets xs)
  | .eptr cs => .eptr (forgets cs)
  | .iface t v => .iface t (forget v)
  | .agg cs => .agg (forgets cs)
  | .tuple cs => .tuple (forgets cs)
  | v => v
def forgets : List PV → List PV
  | [] => []
  | x :: xs => forget x :: forgets xs
end
theorem forgets_map (xs : List PV) : forgets xs = xs.map forget := by induction xs <;> simp_all [forgets]
theorem forgets_length (xs : List PV) : (forgets xs).length = xs.length := by simp [forgets_map]
mutual
theorem Rel.forget {G : Sett} : ∀ (x : PV) (u : Value), Rel G x u → Rel G (forget x) u
  | .val _, _, r => r
  | .list _ _ xs, _, ⟨a, c, e, l, k, us, r, p⟩ => ⟨a, c, by rw [forgets_length]; exact e, by rw [forgets_length]; exact l, trivial, us, RelE.forget xs us r, p.imp (fun h => by subst h; rfl) id⟩
  | .lptr _ _, _, r => r
  | .eptr cs, _, ⟨a, us, e, r, p⟩ => ⟨a, us, e, RelL.forget cs us r, p⟩
  | .iface _ v, _, ⟨u', e, r⟩ => ⟨u', e, Rel.forget v u' r⟩
  | .agg cs, _, ⟨us, e, r⟩ => ⟨us, e, RelL.forget cs us r⟩
  | .tuple cs, _, ⟨us, e, r⟩ => ⟨us, e, RelL.forget cs us r⟩
  | .undef, _, _ => trivial
theorem RelL.forget {G : Sett} : ∀ (xs : List PV) (us : List Value), RelL G xs us → RelL G (forgets xs) us
  | [], _, r => r
  | x :: xs, _, ⟨u, r, e, p, q⟩ => ⟨u, r, e, Rel.forget x u p, RelL.forget xs r q⟩
theorem RelE.forget {G : Sett} {sz : Nat} : ∀ (xs : List PV) (us : List Value), RelE G sz xs us → RelE G sz (forgets xs) us
  | [], _, r => r
  | x :: xs, _, ⟨u, r, e, s, p, q⟩ => ⟨u, r, e, s, Rel.forget x u p, RelE.forget xs r q⟩
end
end Go.Pv
-- PvState
namespace Go.Pv
open Go Go.RowKit
inductive Ob where
  | cells (cs : List PV)
  | map (es : List (Value × Value))
structure St where
  obj : Nat → Option Ob
  own : Nat → Option Nat
  gl : Nat → Option (List PV)
def St.vary (σ : St) (b : Nat) : Prop := σ.obj b ≠ none ∨ σ.own b ≠ none
def St.set (σ : St) (b : Nat) (o : Ob) : St := { σ with obj := fun x => if x = b then some o else σ.obj x }
def St.fill (σ : St) (b : Nat) (n : Nat) : St := { σ with own := fun x => if x = b then some n else σ.own x }
def ObRel (G : Sett) : Ob → Option Obj → Prop
  | .cells cs, h => ∃ us t, h = some (.cells us t (0, 0)) ∧ RelL G cs us.toList
  | .map es, h => ∃ en cl, h = some (.map en cl) ∧ en.toList.map (fun e => (e.key, e.val)) = es
theorem ObRel.mono {G G' : Sett} (h : G.le G') {o : Ob} {x : Option Obj} (r : ObRel G o x) : ObRel G' o x := by
  cases o with
  | cells cs => obtain ⟨us, t, e, q⟩ := r; exact ⟨us, t, e, RelL.mono h _ _ q⟩
  | map es => exact r
structure Inv (G : Sett) (σ : St) (w : World) : Prop where
  cell : ∀ b o v, G.cell b o = some v → w.cell? ⟨b, o, none⟩ = some v
  size : ∀ b s, G.size b = some s → ∃ us t, w.heap[b]? = some (.cells us t (0, 0)) ∧ us.size = s
  obj : ∀ b o, σ.obj b = some o → ObRel G o w.heap[b]? ∧ ∀ k, G.cell b k = none
  own : ∀ b n, σ.own b = some n → (∃ us t, w.heap[b]? = some (.cells us t (0, 0))) ∧ (∀ k, n ≤ k → G.cell b k = none) ∧ σ.obj b = none
  gl : ∀ g cs, σ.gl g = some cs → ∃ us, RelL G cs us ∧ ∀ (i : Nat) v, us[i]? = some v → G.cell g i = some v
structure Step (B : Nat) (G : Sett) (σ : St) (w : World) (G' : Sett) (σ' : St) (w' : World) : Prop where
  le : G.le G'
  size : w.heap.size ≤ w'.heap.size
  os : w'.os = w.os
  tape : w'.tape = w.tape
  output : w'.output = w.output
  keep : ∀ b, b < B → ¬ σ.vary b → w'.heap[b]? = w.heap[b]? ∧ ∀ k, G'.cell b k = G.cell b k
  vary : ∀ b, b < B → σ'.vary b → σ.vary b
  gl : σ'.gl = σ.gl
theorem Step.refl (B : Nat) (G : Sett) (σ : St) (w : World) : Step B G σ w G σ w := ⟨Sett.le.refl _, Nat.le_refl _, rfl, rfl, rfl, fun _ _ _ => ⟨rfl, fun _ => rfl⟩, fun _ _ h => h, rfl⟩
theorem Step.trans {B : Nat} {G1 G2 G3 : Sett} {s1 s2 s3 : St} {w1 w2 w3 : World} (h : Step B G1 s1 w1 G2 s2 w2) (k : Step B G2 s2 w2 G3 s3 w3) : Step B G1 s1 w1 G3 s3 w3 where
  le := h.le.trans k.le
  size := Nat.le_trans h.size k.size
  os := k.os.trans h.os
  tape := k.tape.trans h.tape
  output := k.output.trans h.output
  keep := fun b hb hm => by
    have h1 := h.keep b hb hm
    have h2 := k.keep b hb (fun q => hm (h.vary b hb q))
    exact ⟨h2.1.trans h1.1, fun i => (h2.2 i).trans (h1.2 i)⟩
  vary := fun b hb q => h.vary b hb (k.vary b hb q)
  gl := k.gl.trans h.gl
theorem Step.mono {B B' : Nat} (hB : B' ≤ B) {G1 G2 : Sett} {s1 s2 : St} {w1 w2 : World} (h : Step B G1 s1 w1 G2 s2 w2) : Step B' G1 s1 w1 G2 s2 w2 :=
  { h with keep := fun b hb => h.keep b (Nat.lt_of_lt_of_le hb hB), vary := fun b hb => h.vary b (Nat.lt_of_lt_of_le hb hB) }
/-- σ' knows no more than σ does. -/
structure St.sub (σ' σ : St) : Prop where
  obj : ∀ b o, σ'.obj b = some o → σ.obj b = some o
  own : ∀ b n, σ'.own b = some n → σ.own b = some n
  gl : σ'.gl = σ.gl
theorem St.sub.refl (σ : St) : σ.sub σ := ⟨fun _ _ h => h, fun _ _ h => h, rfl⟩
theorem St.sub.vary {σ' σ : St} (h : σ'.sub σ) (b : Nat) (m : σ'.vary b) : σ.vary b := by
  rcases m with m | m
  · refine .inl fun e => m ?_
    cases q : σ'.obj b with
    | none => rfl
    | some o => rw [h.obj b o q] at e; cases e
  · refine .inr fun e => m ?_
    cases q : σ'.own b with
    | none => rfl
    | some o => rw [h.own b o q] at e; cases e
theorem Inv.sub {G : Sett} {σ' σ : St} {w : World} (i : Inv G σ w) (h : σ'.sub σ) : Inv G σ' w where
  cell := i.cell
  size := i.size
  obj := fun b o e => i.obj b o (h.obj b o e)
  own := fun b n e => by
    obtain ⟨p, q, r⟩ := i.own b n (h.own b n e)
    refine ⟨p, q, ?_⟩
    cases z : σ'.obj b with
    | none => rfl
    | some o => rw [h.obj b o z] at r; cases r
  gl := fun g cs e => i.gl g cs (by rw [← h.gl]; exact e)
theorem Step.sub {B : Nat} {G G' : Sett} {σ σ1 σ2 : St} {w w' : World} (s : Step B G σ w G' σ1 w') (h : σ2.sub σ1) : Step B G σ w G' σ2 w' :=
  { s with vary := fun b hb m => s.vary b hb (h.vary b m), gl := h.gl.trans s.gl }
def get : List (Nat × PV) → Nat → PV
  | [], _ => .undef
  | (s, v) :: r, t => if s = t then v else get r t
def getL : List (Nat × List PV) → Nat → Option (List PV)
  | [], _ => none
  | (s, v) :: r, t => if s = t then some v else getL r t
structure Cf where
  n : Nat
  env : List (Nat × PV)
  loc : List (Nat × List PV)
  σ : St
def SlotRel (G : Sett) (fl : Nat → Nat) : PV → Value → Prop
  | .lptr d off, u => u = .pointer (some ⟨fl d, off, none⟩)
  | v, u => Rel G v u
structure LocRel (G : Sett) (σ : St) (w : World) (B : Nat) (fl : Nat → Nat) (loc : List (Nat × List PV)) : Prop where
  at_ : ∀ d cs, getL loc d = some cs → (∃ us t, w.heap[fl d]? = some (.cells us t (0, 0)) ∧ RelL G cs us.toList) ∧ ¬ σ.vary (fl d) ∧ (∀ k, G.cell (fl d) k = none) ∧ B ≤ fl d
  inj : ∀ d d', getL loc d ≠ none → getL loc d' ≠ none → fl d = fl d' → d = d'
/-- What an activation and a world are to a configuration; B: how many blocks there were when the call began. -/
structure Rep (G : Sett) (fl : Nat → Nat) (B : Nat) (s : Cf) (a : Act) (w : World) : Prop where
  inv : Inv G s.σ w
  size : a.tmps.size = s.n
  env : ∀ t, SlotRel G fl (get s.env t) (a.tmps.getD t undef)
  loc : LocRel G s.σ w B fl s.loc
  defers : a.defers = []
  base : B ≤ w.heap.size
theorem SlotRel.mono {G G' : Sett} (h : G.le G') {fl : Nat → Nat} {v : PV} {u : Value} (r : SlotRel G fl v u) : SlotRel G' fl v u := by
  cases v <;> first | exact r | exact Rel.mono h _ _ r
theorem block_lt {w : World} {b : Nat} {o : Obj} (h : w.heap[b]? = some o) : b < w.heap.size := (Array.getElem?_eq_some_iff.1 h).1
theorem LocRel.step {G G' : Sett} {σ σ' : St} {w w' : World} {B : Nat} {fl : Nat → Nat} {loc : List (Nat × List PV)} (l : LocRel G σ w B fl loc) (s : Step w.heap.size G σ w G' σ' w') : LocRel G' σ' w' B fl loc where
  at_ := fun d cs e => by
    obtain ⟨⟨us, t, hb, r⟩, m, g, hB⟩ := l.at_ d cs e
    have hlt := block_lt hb
    obtain ⟨k1, k2⟩ := s.keep _ hlt m
    exact ⟨⟨us, t, k1.trans hb, RelL.mono s.le _ _ r⟩, fun q => m (s.vary _ hlt q), fun k => (k2 k).trans (g k), hB⟩
  inj := l.inj
theorem get_pp (env : List (Nat × PV)) (s t : Nat) (v : PV) : get ((s, v) :: env) t = if s = t then v else get env t := rfl
def Cf.put (s : Cf) (dst : Option Nat) (v : PV) : Cf :=
  match dst with
  | some d => if d < s.n then { s with env := (d, v) :: s.env } else s
  | none => s
theorem Rep.put {G : Sett} {fl : Nat → Nat} {B : Nat} {s : Cf} {a : Act} {w : World} (r : Rep G fl B s a w) (dst : Option Nat) {v : PV} {u : Value} (h : SlotRel G fl v u) : Rep G fl B (s.put dst v) (a.put dst u) w := by
  cases dst with
  | none => exact r
  | some d =>
    unfold Cf.put Act.put
    by_cases hd : d < s.n
    · simp only [hd, if_true]
      refine ⟨r.inv, by simpa using r.size, fun t => ?_, r.loc, r.defers, r.base⟩
      simp only [get_pp]
      by_cases e : d = t
      · subst e
        rw [if_pos rfl]
        have : (a.tmps.setIfInBounds d u).getD d Go.undef = u := by
          rw [Array.getD_eq_getD_getElem?, Array.getElem?_setIfInBounds_self_of_lt (by rw [r.size]; exact hd)]; rfl
        rw [this]; exact h
      · rw [if_neg e]
        have : (a.tmps.setIfInBounds d u).getD t Go.undef = a.tmps.getD t Go.undef := by
          rw [Array.getD_eq_getD_getElem?, Array.getD_eq_getD_getElem?, Array.getElem?_setIfInBounds_ne e]
        rw [this]; exact r.env t
    · simp only [hd, if_false]
      have : a.tmps.setIfInBounds d u = a.tmps := by
        apply Array.setIfInBounds_eq_of_size_le; rw [r.size]; omega
      rw [this]; exact r
/-- A configuration that knows less. -/
structure Cf.less (s' s : Cf) : Prop where
  n : s'.n = s.n
  env : ∀ t, get s'.env t = .undef ∨ get s'.env t = get s.env t
  loc : ∀ d, getL s'.loc d = none ∨ getL s'.loc d = getL s.loc d
  σ : s'.σ.sub s.σ
theorem Cf.less.refl (s : Cf) : s.less s := ⟨rfl, fun _ => .inr rfl, fun _ => .inr rfl, .refl _⟩
theorem Rep.less {G : Sett} {fl : Nat → Nat} {B : Nat} {s' s : Cf} {a : Act} {w : World} (r : Rep G fl B s a w) (h : s'.less s) : Rep G fl B s' a w where
  inv := r.inv.sub h.σ
  size := r.size.trans h.n.symm
  env := fun t => by
    rcases h.env t with e | e
    · rw [e]; trivial
    · rw [e]; exact r.env t
  loc := by
    refine ⟨fun d cs e => ?_, fun d d' h1 h2 e => ?_⟩
    · rcases h.loc d with q | q
      · rw [q] at e; cases e
      · rw [q] at e
        obtain ⟨k1, k2, k3, k4⟩ := r.loc.at_ d cs e
        exact ⟨k1, fun m => k2 (h.σ.vary _ m), k3, k4⟩
    · refine r.loc.inj d d' ?_ ?_ e
      · rcases h.loc d with q | q
        · exact absurd q h1
        · rwa [q] at h1
      · rcases h.loc d' with q | q
        · exact absurd q h2
        · rwa [q] at h2
  defers := r.defers
  base := r.base
end Go.Pv
-- PvRead
namespace Go.Pv
open Go Go.RowKit
structure TI where
  size : Nat
  bytes : Nat
  zero : PV
  desc : TypeDesc
abbrev TT := TypeId → Option TI
structure TOk (P : Program) (tt : TT) : Prop where
  und : ∀ t i, tt t = some i → P.underlying t = some i.desc
  info : ∀ t i, tt t = some i → ∃ f, P.info? t = some f ∧ f.size = i.size ∧ f.bytes = i.bytes ∧ ∃ z, f.zero = some z ∧ z.cells.size = i.size ∧ ∀ G, Rel G i.zero z
def isAggD : TypeDesc → Bool
  | .struct _ | .array _ _ => true
  | _ => false
section
variable {P : Program} {tt : TT} (hT : TOk P tt) {w : World}
include hT
theorem tt_und {t : TypeId} {i : TI} (h : tt t = some i) : (underlying t).run P w = .ok i.desc w := by simp [underlying, hT.und t i h]
theorem tt_size {t : TypeId} {i : TI} (h : tt t = some i) : (sizeOf t).run P w = .ok i.size w := by
  obtain ⟨f, hf, hs, _⟩ := hT.info t i h
  simp [sizeOf, typeInfo, hf, hs]
theorem tt_agg {t : TypeId} {i : TI} (h : tt t = some i) : (isAgg t).run P w = .ok (isAggD i.desc) w := by
  simp only [isAgg, Sem.run_bind, tt_und hT h, Result.andThen_ok]
  cases i.desc <;> rfl
theorem tt_zero {t : TypeId} {i : TI} (h : tt t = some i) : ∃ z, (zeroValue t).run P w = .ok z w ∧ z.cells.size = i.size ∧ ∀ G, Rel G i.zero z := by
  obtain ⟨f, hf, hs, _, z, hz, hc, hr⟩ := hT.info t i h
  exact ⟨z, by simp [zeroValue, typeInfo, hf, hz], hc, hr⟩
end
theorem addr_add (b o i : Nat) : (⟨b, o, none⟩ : Addr).add i = ⟨b, o + i, none⟩ := by unfold Addr.add; split <;> simp_all
theorem RelL.length {G : Sett} : ∀ (xs : List PV) (us : List Value), RelL G xs us → us.length = xs.length
  | [], _, h => by cases h; rfl
  | x :: xs, _, ⟨u, r, e, _, q⟩ => by subst e; simp [RelL.length xs r q]
theorem RelL.get {G : Sett} : ∀ (xs : List PV) (us : List Value), RelL G xs us → ∀ (i : Nat) x, xs[i]? = some x → ∃ u, us[i]? = some u ∧ Rel G x u
  | [], _, h, i, x, e => by simp at e
  | y :: xs, _, ⟨u, r, e, p, q⟩, 0, x, h => by subst e; simp at h; subst h; exact ⟨u, rfl, p⟩
  | y :: xs, _, ⟨u, r, e, p, q⟩, i + 1, x, h => by subst e; simp at h ⊢; exact RelL.get xs r q i x h
theorem RelL.append {G : Sett} : ∀ (xs ys : List PV) (us vs : List Value), RelL G xs us → RelL G ys vs → RelL G (xs ++ ys) (us ++ vs)
  | [], _, _, _, h, k => by cases h; exact k
  | x :: xs, ys, _, vs, ⟨u, r, e, p, q⟩, k => by subst e; exact ⟨u, r ++ vs, rfl, p, RelL.append xs ys r vs q k⟩
theorem RelL.drop {G : Sett} : ∀ (n : Nat) (xs : List PV) (us : List Value), RelL G xs us → RelL G (xs.drop n) (us.drop n)
  | 0, _, _, h => h
  | n + 1, [], _, h => by cases h; rfl
  | n + 1, x :: xs, _, ⟨u, r, e, p, q⟩ => by subst e; exact RelL.drop n xs r q
theorem RelL.take {G : Sett} : ∀ (n : Nat) (xs : List PV) (us : List Value), RelL G xs us → RelL G (xs.take n) (us.take n)
  | 0, _, _, h => by simp [RelL]
  | n + 1, [], _, h => by cases h; rfl
  | n + 1, x :: xs, _, ⟨u, r, e, p, q⟩ => by subst e; exact ⟨u, r.take n, rfl, p, RelL.take n xs r q⟩
def notL : PV → Bool
  | .lptr _ _ => false
  | _ => true
theorem SlotRel.rel {G : Sett} {fl : Nat → Nat} {v : PV} {u : Value} (h : SlotRel G fl v u) (hn : notL v = true) : Rel G v u := by
  cases v <;> first | exact h | simp [notL] at hn
theorem Rel.slot {G : Sett} {fl : Nat → Nat} {v : PV} {u : Value} (h : Rel G v u) : SlotRel G fl v u := by
  cases v <;> first | exact h | exact h.elim
def eval (s : Cf) : Operand → PV
  | .tmp t => get s.env t
  | .const (.agg cs) => .agg (cs.toList.map .val)
  | .const v => .val v
  | .global g => match s.σ.gl g with | some cs => .eptr cs | none => .undef
  | .func f => .val (.func (.func f) #[] #[])
theorem RelL.vals {G : Sett} : ∀ (cs : List Value), RelL G (cs.map .val) cs
  | [] => rfl
  | c :: cs => ⟨c, cs, rfl, rfl, RelL.vals cs⟩
variable {P : Program} {tt : TT} {G : Sett} {fl : Nat → Nat} {B : Nat} {s : Cf} {a : Act} {w : World}
theorem eval_sound (r : Rep G fl B s a w) (x : Operand) : SlotRel G fl (eval s x) (a.eval x) := by
  cases x with
  | tmp t => exact r.env t
  | const v =>
    cases v with
    | agg cs => exact ⟨cs.toList, by simp [Act.eval], RelL.vals _⟩
    | _ => rfl
  | global g =>
    cases h : s.σ.gl g with
    | none => simp only [eval, h]; trivial
    | some cs =>
      simp only [eval, h]
      obtain ⟨us, q, hc⟩ := r.inv.gl g cs h
      exact ⟨⟨g, 0, none⟩, us, rfl, q, ⟨g, 0, rfl, fun i v hi => by rw [Nat.zero_add]; exact hc i v hi⟩⟩
  | func f => rfl
def norm (tt : TT) (t : TypeId) : PV → PV
  | .val (.slice none 0 0) => match ((tt t).map (fun i => i.desc) : Option TypeDesc) with
    | some (.slice e) => match tt e with | some i => .list .full i.size [] | none => .val (.slice none 0 0)
    | _ => .val (.slice none 0 0)
  | v => v
theorem rel_nil (G : Sett) (sz : Nat) : Rel G (.list .full sz []) (.slice none 0 0) := ⟨none, 0, rfl, Nat.le_refl _, rfl, [], rfl, .inl rfl⟩
theorem norm_sound (t : TypeId) {v : PV} {u : Value} (h : SlotRel G fl v u) : SlotRel G fl (norm tt t v) u := by
  unfold norm
  split
  · have e : u = .slice none 0 0 := h
    subst e
    split
    · split
      · exact rel_nil G _
      · exact h
    · exact h
  · exact h
/-- An operand's value, a nil slice as a list. -/
def evn (tt : TT) (s : Cf) (t : TypeId) : Operand → PV
  | .const v => norm tt t (eval s (.const v))
  | x => eval s x
theorem evn_sound (r : Rep G fl B s a w) (t : TypeId) (x : Operand) : SlotRel G fl (evn tt s t x) (a.eval x) := by
  cases x with
  | const v => exact norm_sound t (eval_sound r (.const v))
  | tmp i => exact eval_sound r (.tmp i)
  | global i => exact eval_sound r (.global i)
  | func i => exact eval_sound r (.func i)
/-- The cells behind an address. -/
def paddr (s : Cf) : PV → Option (List PV × Nat)
  | .lptr d off => (getL s.loc d).map fun cs => (cs, off)
  | .eptr cs => some (cs, 0)
  | .val (.pointer (some ⟨b, off, none⟩)) => match s.σ.obj b with | some (.cells cs) => some (cs, off) | _ => none
  | _ => none
theorem cell_heap {w : World} {b : Nat} {us : Array Value} {t : TypeId} {f : Nat × Nat} (h : w.heap[b]? = some (.cells us t f)) (i : Nat) : w.cell? ⟨b, i, none⟩ = us[i]? := by simp [World.cell?, h]
theorem paddr_sound (r : Rep G fl B s a w) {v : PV} {u : Value} {cs : List PV} {off : Nat} (hp : paddr s v = some (cs, off)) (h : SlotRel G fl v u) :
    ∃ ad us, u = .pointer (some ad) ∧ RelL G cs us ∧ ∀ (i : Nat) x, us[off + i]? = some x → w.cell? (ad.add i) = some x := by
  unfold paddr at hp
  split at hp
  · rename_i d o
    cases e : getL s.loc d with
    | none => simp [e] at hp
    | some c =>
      simp [e] at hp
      obtain ⟨rfl, rfl⟩ := hp
      obtain ⟨⟨us, t, hb, q⟩, _⟩ := r.loc.at_ d c e
      refine ⟨⟨fl d, o, none⟩, us.toList, h, q, fun i x hx => ?_⟩
      rw [addr_add, cell_heap hb]
      simpa using hx
  · simp at hp
    obtain ⟨rfl, rfl⟩ := hp
    obtain ⟨ad, us, e, q, b, o, e2, p⟩ := h
    refine ⟨ad, us, e, q, fun i x hx => ?_⟩
    subst e2
    rw [addr_add]
    rw [Nat.zero_add] at hx
    exact r.inv.cell _ _ _ (p i x hx)
  · rename_i b o
    split at hp
    · rename_i c hc
      simp at hp
      obtain ⟨rfl, rfl⟩ := hp
      obtain ⟨⟨us, t, hb, q⟩, _⟩ := r.inv.obj b _ hc
      refine ⟨⟨b, o, none⟩, us.toList, h, q, fun i x hx => ?_⟩
      rw [addr_add, cell_heap hb]
      simpa using hx
    · cases hp
  · cases hp
/-- A value of a type out of cells. -/
def pcut (tt : TT) (t : TypeId) (cs : List PV) (off : Nat) : Option PV :=
  match tt t with
  | none => none
  | some i => if isAggD i.desc then (if off + i.size ≤ cs.length then some (.agg ((cs.drop off).take i.size)) else none) else cs[off]?
theorem load_sound (hT : TOk P tt) {t : TypeId} {cs : List PV} {us : List Value} {off : Nat} {v : PV} {ad : Addr} (hc : pcut tt t cs off = some v) (hr : RelL G cs us)
    (h : ∀ (i : Nat) x, us[off + i]? = some x → w.cell? (ad.add i) = some x) : ∃ u, (loadVar t ad).run P w = .ok u w ∧ Rel G v u := by
  unfold pcut at hc
  cases e : tt t with
  | none => simp [e] at hc
  | some i =>
    simp only [e] at hc
    simp only [loadVar, Sem.run_bind, tt_agg hT e, Result.andThen_ok]
    by_cases hg : isAggD i.desc = true
    · rw [if_pos hg] at hc
      by_cases hl : off + i.size ≤ cs.length
      · rw [if_pos hl] at hc
        cases hc
        have hul := RelL.length _ _ hr
        let vs := (us.drop off).take i.size
        have hvl : vs.length = i.size := by simp [vs]; omega
        have := run_loadCells_list (P := P) w ad vs (fun j x hx => h j x (by
          have hj : j < i.size := by rw [← hvl]; exact (List.getElem?_eq_some_iff.1 hx).1
          simpa [vs, List.getElem?_take, hj] using hx))
        rw [hvl] at this
        refine ⟨.agg vs.toArray, ?_, vs, rfl, RelL.take _ _ _ (RelL.drop _ _ _ hr)⟩
        simp [hg, tt_size hT e, this]
      · rw [if_neg hl] at hc; cases hc
    · rw [if_neg hg] at hc
      obtain ⟨u, hu, q⟩ := RelL.get _ _ hr _ _ hc
      have := h 0 u (by simpa using hu)
      rw [show ad.add 0 = ad from rfl] at this
      refine ⟨u, ?_, q⟩
      simp [hg, this]
end Go.Pv
-- PvPure
namespace Go.Pv
open Go Go.RowKit
def dsc (tt : TT) (t : TypeId) : Option TypeDesc := (tt t).map (fun i => i.desc)
theorem dsc_some {tt : TT} {t : TypeId} {d : TypeDesc} (h : dsc tt t = some d) : ∃ i, tt t = some i ∧ i.desc = d := by
  unfold dsc at h
  cases e : tt t with
  | none => simp [e] at h
  | some i => simp [e] at h; exact ⟨i, rfl, h⟩
def toVal : PV → Option Value
  | .val v => some v
  | _ => none
theorem toVal_some {v : PV} {u : Value} (h : toVal v = some u) : v = .val u := by cases v <;> simp [toVal] at h; subst h; rfl
def pint (op : BinOp) (k : IntKind) (a : Int) (k' : IntKind) (b : Int) : Option PV :=
  match op with
  | .shl => if b < 0 then none else some (.val (.int k (k.wrap (a * 2 ^ (min b.toNat k.bits)))))
  | .shr => if b < 0 then none else some (.val (.int k (a.fdiv (2 ^ (min b.toNat k.bits)))))
  | .add => if k = k' then some (.val (.int k (k.wrap (a + b)))) else none
  | .sub => if k = k' then some (.val (.int k (k.wrap (a - b)))) else none
  | .mul => if k = k' then some (.val (.int k (k.wrap (a * b)))) else none
  | .quo => if k = k' then (if b = 0 then none else some (.val (.int k (k.wrap (a.tdiv b))))) else none
  | .rem => if k = k' then (if b = 0 then none else some (.val (.int k (a.tmod b)))) else none
  | .and => if k = k' then some (.val (.int k (k.wrap (BitVec.ofInt k.bits a &&& BitVec.ofInt k.bits b).toNat))) else none
  | .or => if k = k' then some (.val (.int k (k.wrap (BitVec.ofInt k.bits a ||| BitVec.ofInt k.bits b).toNat))) else none
  | .xor => if k = k' then some (.val (.int k (k.wrap (BitVec.ofInt k.bits a ^^^ BitVec.ofInt k.bits b).toNat))) else none
  | .andNot => none
  | .eql => if k = k' then some (.val (.bool (a == b))) else none
  | .neq => if k = k' then some (.val (.bool (a != b))) else none
  | .lss => if k = k' then some (.val (.bool (decide (a < b)))) else none
  | .leq => if k = k' then some (.val (.bool (decide (a ≤ b)))) else none
  | .gtr => if k = k' then some (.val (.bool (decide (a > b)))) else none
  | .geq => if k = k' then some (.val (.bool (decide (a ≥ b)))) else none
def pstr (op : BinOp) (a b : ByteArray) : Option PV :=
  match op with
  | .add => if a.size + b.size ≤ 9223372036854775807 then some (.val (.string (a ++ b))) else none
  | .eql => some (.val (.bool (a.toList == b.toList)))
  | .neq => some (.val (.bool (!(a.toList == b.toList))))
  | _ => none
def pbin (tt : TT) (op : BinOp) (xt : TypeId) : PV → PV → Option PV
  | .val (.int k a), .val (.int k' b) => pint op k a k' b
  | .val (.string a), .val (.string b) => pstr op a b
  | .val (.bool a), .val (.bool b) => match dsc tt xt, op with
    | some .bool, .eql => some (.val (.bool (a == b)))
    | some .bool, .neq => some (.val (.bool (!(a == b))))
    | _, _ => none
  | _, _ => none
variable {P : Program} {tt : TT} {G : Sett} {fl : Nat → Nat} {B : Nat} {s : Cf} {a : Act} {w : World}
theorem pint_sound {op : BinOp} {xt : TypeId} {k k' : IntKind} {x y : Int} {v : PV} (h : pint op k x k' y = some v) : ∃ u, (binOp op xt (.int k x) (.int k' y)).run P w = .ok u w ∧ v = .val u := by
  cases op <;> simp only [pint] at h
  case shl => split at h; · cases h
              · rename_i q; cases h; exact ⟨_, by simp [binOp, Op.shift, q], rfl⟩
  case shr => split at h; · cases h
              · rename_i q; cases h; exact ⟨_, by simp [binOp, Op.shift, q], rfl⟩
  case quo =>
    split at h
    · rename_i q; subst q
      split at h
      · cases h
      · rename_i q; cases h; exact ⟨_, by simp [binOp, Op.intDiv, q], rfl⟩
    · cases h
  case rem =>
    split at h
    · rename_i q; subst q
      split at h
      · cases h
      · rename_i q; cases h; exact ⟨_, by simp [binOp, Op.intDiv, q], rfl⟩
    · cases h
  all_goals
    first
    | (cases h; done)
    | (split at h
       · rename_i q; subst q; cases h; exact ⟨_, by simp [binOp, Op.intArith, Op.intBits, Op.intCmp], rfl⟩
       · cases h)
theorem pstr_sound {op : BinOp} {xt : TypeId} {x y : ByteArray} {v : PV} (h : pstr op x y = some v) : ∃ u, (binOp op xt (.string x) (.string y)).run P w = .ok u w ∧ v = .val u := by
  cases op <;> simp only [pstr] at h <;> try (cases h; done)
  · split at h
    · rename_i q
      cases h
      have : ¬ ((x.size + y.size : Nat) : Int) > IntKind.i64.max := by show ¬ _ > (9223372036854775807 : Int); omega
      exact ⟨_, by simp only [binOp, Op.stringOp, if_neg this]; rfl, rfl⟩
    · cases h
  · cases h; exact ⟨_, rfl, rfl⟩
  · cases h; exact ⟨_, rfl, rfl⟩
theorem eqGuard_int {op : BinOp} {t : TypeId} {x y : Operand} {k k' : IntKind} {m n : Int} : (eqGuard op t x y (.int k m) (.int k' n)).run P w = .ok () w := by
  cases op <;> rfl
theorem eqGuard_str {op : BinOp} {t : TypeId} {x y : Operand} {m n : ByteArray} : (eqGuard op t x y (.string m) (.string n)).run P w = .ok () w := by
  cases op <;> rfl
theorem eqGuard_bool {op : BinOp} {t : TypeId} {x y : Operand} {m n : Bool} : (eqGuard op t x y (.bool m) (.bool n)).run P w = .ok () w := by
  cases op <;> rfl
theorem equal_bool {t : TypeId} (hu : P.underlying t = some .bool) (m n : Bool) : (Op.equal t (.bool m) (.bool n)).run P w = .ok (m == n) w := by
  have : Op.equal t (.bool m) (.bool n) = Op.equalIn (9999 + 1) t (.bool m) (.bool n) := rfl
  rw [this, Op.equalIn]
  simp [run_underlying hu]
theorem pbin_sound (hT : TOk P tt) {op : BinOp} {xt : TypeId} {x y : Operand} {p q v : PV} {m n : Value} (h : pbin tt op xt p q = some v) (hp : SlotRel G fl p m) (hq : SlotRel G fl q n) :
    ∃ u, ((do eqGuard op xt x y m n; binOp op xt m n : Sem Value)).run P w = .ok u w ∧ SlotRel G fl v u := by
  unfold pbin at h
  split at h
  · obtain rfl : m = _ := hp
    obtain rfl : n = _ := hq
    obtain ⟨u, hu, rfl⟩ := pint_sound (P := P) (w := w) (xt := xt) h
    exact ⟨u, by simp only [Sem.run_bind, eqGuard_int, Result.andThen_ok, hu], rfl⟩
  · obtain rfl : m = _ := hp
    obtain rfl : n = _ := hq
    obtain ⟨u, hu, rfl⟩ := pstr_sound (P := P) (w := w) (xt := xt) h
    exact ⟨u, by simp only [Sem.run_bind, eqGuard_str, Result.andThen_ok, hu], rfl⟩
  · obtain rfl : m = _ := hp
    obtain rfl : n = _ := hq
    split at h
    · rename_i hd
      obtain ⟨i, hi, he⟩ := dsc_some hd
      have hu := hT.und _ _ hi
      rw [he] at hu
      cases h
      exact ⟨_, by simp only [Sem.run_bind, eqGuard_bool, Result.andThen_ok, binOp, equal_bool hu, Sem.run_pure], rfl⟩
    · rename_i hd
      obtain ⟨i, hi, he⟩ := dsc_some hd
      have hu := hT.und _ _ hi
      rw [he] at hu
      cases h
      exact ⟨_, by simp only [Sem.run_bind, eqGuard_bool, Result.andThen_ok, binOp, equal_bool hu, Sem.run_pure], rfl⟩
    · cases h
  · cases h
def fieldOf (tt : TT) (T : TypeId) (f : Nat) : Option (Nat × TypeId) :=
  match dsc tt T with
  | some (.struct fs) => match (fs[f]? : Option Field) with
    | some fd => match tt fd.type with
      | some j => if j.size = 0 then none else some (fd.offset, fd.type)
      | none => none
    | none => none
  | _ => none
theorem fieldOf_some {T : TypeId} {f : Nat} {o : Nat} {ft : TypeId} (h : fieldOf tt T f = some (o, ft)) :
    ∃ i fs fd j, tt T = some i ∧ i.desc = .struct fs ∧ (fs[f]? : Option Field) = some fd ∧ tt ft = some j ∧ j.size ≠ 0 ∧ fd.offset = o ∧ fd.type = ft := by
  unfold fieldOf at h
  split at h
  · rename_i fs hd
    obtain ⟨i, hi, he⟩ := dsc_some hd
    split at h
    · rename_i fd hf
      split at h
      · rename_i j hj
        split at h
        · cases h
        · rename_i hs
          simp at h
          obtain ⟨rfl, rfl⟩ := h
          exact ⟨i, fs, fd, j, hi, he, hf, hj, hs, rfl, rfl⟩
      · cases h
    · cases h
  · cases h
def pfieldAddr : Nat → PV → Option PV
  | o, .lptr d off => some (.lptr d (off + o))
  | o, .eptr cs => some (.eptr (cs.drop o))
  | o, .val (.pointer (some ⟨b, off, none⟩)) => some (.val (.pointer (some ⟨b, off + o, none⟩)))
  | _, _ => none
theorem eptr_add {cs : List PV} {ad : Addr} {o : Nat} (h : Rel G (.eptr cs) (.pointer (some ad))) : Rel G (.eptr (cs.drop o)) (.pointer (some (ad.add o))) := by
  obtain ⟨ad', us, e, q, b, off, e2, p⟩ := h
  cases e
  subst e2
  rw [addr_add]
  refine ⟨_, us.drop o, rfl, RelL.drop _ _ _ q, b, off + o, rfl, fun i v hi => ?_⟩
  rw [Nat.add_assoc]
  exact p _ _ (by simpa using hi)
theorem pfieldAddr_sound {o : Nat} {p v : PV} {u : Value} (h : pfieldAddr o p = some v) (hp : SlotRel G fl p u) :
    ∃ ad, u = .pointer (some ad) ∧ SlotRel G fl v (.pointer (some (ad.add o))) := by
  unfold pfieldAddr at h
  split at h
  · cases h
    have hp : u = .pointer (some ⟨fl _, _, none⟩) := hp
    exact ⟨_, hp, by rw [addr_add]; rfl⟩
  · cases h
    have hp' := hp
    obtain ⟨ad, us, e, _⟩ := hp
    subst e
    exact ⟨ad, rfl, Rel.slot (eptr_add hp')⟩
  · cases h
    have hp : u = .pointer (some ⟨_, _, none⟩) := hp
    exact ⟨_, hp, by rw [addr_add]; rfl⟩
  · cases h
theorem fieldAt_run (hT : TOk P tt) {T : TypeId} {f o : Nat} {ft : TypeId} (h : fieldOf tt T f = some (o, ft)) (ad : Addr) :
    (Instr.fieldAt T (.pointer (some ad)) f).run P w = .ok (.pointer (some (ad.add o))) w := by
  obtain ⟨i, fs, fd, j, hi, he, hf, hj, hs, rfl, rfl⟩ := fieldOf_some h
  have hu := tt_und hT hi (w := w)
  rw [he] at hu
  simp only [Instr.fieldAt, Sem.run_bind, hu, Result.andThen_ok, hf, Instr.sureAddr, Sem.run_pure, fieldPlace, tt_size hT hj, if_neg hs]
/-- The cells of a value of a list. -/
def cellsOf : PV → Option (List PV)
  | .agg cs => some cs
  | .undef => none
  | .val (.agg _) => none
  | .lptr _ _ => none
  | x => some [x]
theorem cellsOf_sound {x : PV} {cs : List PV} {u : Value} (h : cellsOf x = some cs) (r : SlotRel G fl x u) : RelL G cs u.cells.toList := by
  cases x with
  | agg xs =>
    cases h
    obtain ⟨us, e, q⟩ := r
    subst e
    exact q
  | undef => cases h
  | lptr d o => cases h
  | val v =>
    obtain rfl : u = v := r
    cases u <;> first | (cases h; exact ⟨_, [], rfl, rfl, rfl⟩) | cases h
  | list k sz xs =>
    cases h
    have r' := r
    obtain ⟨ad, c, e, _⟩ := r
    subst e
    exact ⟨_, [], rfl, r', rfl⟩
  | eptr c =>
    cases h
    have r' := r
    obtain ⟨ad, c, e, _⟩ := r
    subst e
    exact ⟨_, [], rfl, r', rfl⟩
  | iface t v =>
    cases h
    have r' := r
    obtain ⟨ad, e, _⟩ := r
    subst e
    exact ⟨_, [], rfl, r', rfl⟩
  | tuple c =>
    cases h
    have r' := r
    obtain ⟨ad, e, _⟩ := r
    subst e
    exact ⟨_, [], rfl, r', rfl⟩
theorem RelE.get {sz : Nat} : ∀ (xs : List PV) (us : List Value), RelE G sz xs us → ∀ (j : Nat) x, xs[j]? = some x →
    ∃ u, Rel G x u ∧ (u.cells.size = sz ∧ ∀ c ∈ u.cells.toList, c.oneCell' = true) ∧ ∀ (q : Nat) v, u.cells.toList[q]? = some v → us[j * sz + q]? = some v
  | [], _, _, j, x, e => by simp at e
  | y :: xs, _, ⟨u, r, e, hs, p, q⟩, 0, x, h => by
    subst e
    simp at h
    subst h
    refine ⟨u, p, hs, fun i v hv => ?_⟩
    simp only [Nat.zero_mul, Nat.zero_add]
    have hlt := (List.getElem?_eq_some_iff.1 hv).1
    rw [List.getElem?_append_left hlt]
    exact hv
  | y :: xs, _, ⟨u, r, e, hs, p, q⟩, j + 1, x, h => by
    subst e
    simp at h
    obtain ⟨u', p', hs', g⟩ := RelE.get xs r q j x h
    refine ⟨u', p', hs', fun i v hv => ?_⟩
    have hl : u.cells.toList.length = sz := by simpa using hs.1
    rw [List.getElem?_append_right (by rw [hl, Nat.add_mul]; omega)]
    rw [hl, show (j + 1) * sz + i - sz = j * sz + i by rw [Nat.add_mul]; omega]
    exact g i v hv
/-- The address of an element. -/
def pindexAddr (tt : TT) (T : TypeId) (x ix : PV) : Option PV :=
  match ix with
  | .val (.int _ i) => match dsc tt T with
    | some (.slice e) => match tt e with
      | some ie => match x with
        | .list _ sz xs => if sz = ie.size ∧ 0 ≤ i then match xs[i.toNat]? with
            | some y => (cellsOf y).map .eptr
            | none => none
          else none
        | .val (.slice (some ⟨b, off, none⟩) n _) => if 0 ≤ i ∧ i < n then some (.val (.pointer (some ⟨b, off + i.toNat * ie.size, none⟩))) else none
        | _ => none
      | none => none
    | some (.array n e) => match tt e with
      | some ie => if 0 ≤ i ∧ i < n then pfieldAddr (i.toNat * ie.size) x else none
      | none => none
    | _ => none
  | _ => none
theorem pindexAddr_sound (hT : TOk P tt) {T : TypeId} {x ix v : PV} {ux ui : Value} (h : pindexAddr tt T x ix = some v) (hx : SlotRel G fl x ux) (hi : SlotRel G fl ix ui) :
    ∃ u, (Instr.indexAt T ux ui).run P w = .ok u w ∧ SlotRel G fl v u := by
  unfold pindexAddr at h
  split at h
  · rename_i k i
    obtain rfl : ui = _ := hi
    split at h
    · rename_i e hd
      obtain ⟨it, hti, he⟩ := dsc_some hd
      have hu := tt_und hT hti (w := w)
      rw [he] at hu
      split at h
      · rename_i ie hie
        split at h
        · rename_i kk sz xs
          split at h
          · rename_i hc
            obtain ⟨rfl, h0⟩ := hc
            split at h
            · rename_i y hy
              obtain ⟨ad, c, rfl, hl, hk, us, hr, hp⟩ := hx
              have hlt := (List.getElem?_eq_some_iff.1 hy).1
              obtain ⟨u, ry, hs, hg⟩ := RelE.get _ _ hr _ _ hy
              cases hcy : cellsOf y with
              | none => simp [hcy] at h
              | some cs =>
                simp [hcy] at h
                subst h
                have hrl := cellsOf_sound (fl := fl) hcy (Rel.slot ry)
                have hin : 0 ≤ i ∧ i < (xs.length : Int) := ⟨h0, by omega⟩
                rcases hp with hp | ⟨ad', e2, hp⟩
                · subst hp; simp at hy
                · subst e2
                  refine ⟨.pointer (some (ad'.add (i.toNat * ie.size))), ?_, ?_⟩
                  · simp only [Instr.indexAt, Sem.run_bind, asIntOf, Sem.run_pure, Result.andThen_ok, hu, if_pos hin, tt_size hT hie, Sem.run_ite]
                  · obtain ⟨b, off, rfl, hp⟩ := hp
                    rw [addr_add]
                    refine ⟨_, u.cells.toList, rfl, hrl, b, _, rfl, fun q z hz => ?_⟩
                    rw [Nat.add_assoc]
                    exact hp _ _ (hg q z hz)
            · cases h
          · cases h
        · split at h
          · rename_i hc
            cases h
            obtain rfl : ux = _ := hx
            refine ⟨.pointer (some _), ?_, rfl⟩
            simp only [Instr.indexAt, Sem.run_bind, asIntOf, Sem.run_pure, Result.andThen_ok, hu, if_pos hc, tt_size hT hie, Sem.run_ite, addr_add]
          · cases h
        · cases h
      · cases h
    · rename_i n e hd
      obtain ⟨it, hti, he⟩ := dsc_some hd
      have hu := tt_und hT hti (w := w)
      rw [he] at hu
      split at h
      · rename_i ie hie
        split at h
        · rename_i hc
          obtain ⟨ad, rfl, hv⟩ := pfieldAddr_sound h hx
          refine ⟨_, ?_, hv⟩
          simp only [Instr.indexAt, Sem.run_bind, asIntOf, Sem.run_pure, Result.andThen_ok, hu, if_pos hc, tt_size hT hie, Sem.run_ite, Instr.sureAddr]
        · cases h
      · cases h
    · cases h
  · cases h
end Go.Pv
-- PvOps
namespace Go.Pv
open Go Go.RowKit
variable {P : Program} {tt : TT} {G : Sett} {fl : Nat → Nat} {B : Nat} {s : Cf} {a : Act} {w : World}
/-- A part of an aggregate. -/
theorem pcut_part (hT : TOk P tt) {t : TypeId} {cs : List PV} {us : List Value} {off : Nat} {v : PV} (hc : pcut tt t cs off = some v) (hr : RelL G cs us) :
    ∃ u, (part t us.toArray off).run P w = .ok u w ∧ Rel G v u := by
  unfold pcut at hc
  cases e : tt t with
  | none => simp [e] at hc
  | some i =>
    simp only [e] at hc
    simp only [part, Sem.run_bind, tt_agg hT e, Result.andThen_ok]
    by_cases hg : isAggD i.desc = true
    · rw [if_pos hg] at hc
      by_cases hl : off + i.size ≤ cs.length
      · rw [if_pos hl] at hc
        cases hc
        refine ⟨.agg ((us.drop off).take i.size).toArray, ?_, (us.drop off).take i.size, rfl, RelL.take _ _ _ (RelL.drop _ _ _ hr)⟩
        simp [hg, tt_size hT e]
      · rw [if_neg hl] at hc; cases hc
    · rw [if_neg hg] at hc
      obtain ⟨u, hu, q⟩ := RelL.get _ _ hr _ _ hc
      refine ⟨u, ?_, q⟩
      simp [hg, hu]
def byt (s : ByteArray) (i : Int) : Int := if h : i.toNat < s.size then ((s[i.toNat]'h).toNat : Int) else 0
def pindex (tt : TT) (T : TypeId) (x ix : PV) : Option PV :=
  match ix with
  | .val (.int _ i) => match dsc tt T with
    | some (.array n e) => match tt e, x with
      | some ie, .agg cs => if 0 ≤ i ∧ i < n then pcut tt e cs (i.toNat * ie.size) else none
      | _, _ => none
    | some .string => match x with
      | .val (.string z) => if 0 ≤ i ∧ i < z.size then some (.val (.int .u8 (byt z i))) else none
      | _ => none
    | _ => none
  | _ => none
theorem pindex_sound (hT : TOk P tt) {T : TypeId} {x ix v : PV} {ux ui : Value} (h : pindex tt T x ix = some v) (hx : SlotRel G fl x ux) (hi : SlotRel G fl ix ui) :
    ∃ u, (Instr.index T ux ui).run P w = .ok u w ∧ SlotRel G fl v u := by
  unfold pindex at h
  split at h
  · rename_i k i
    obtain rfl : ui = _ := hi
    split at h
    · rename_i n e hd
      obtain ⟨it, hti, he⟩ := dsc_some hd
      have hu := tt_und hT hti (w := w)
      rw [he] at hu
      split at h
      · rename_i ie cs hie
        split at h
        · rename_i hc
          obtain ⟨us, rfl, q⟩ := hx
          obtain ⟨u, hp, hr⟩ := pcut_part hT (w := w) h q
          refine ⟨u, ?_, hr.slot⟩
          simp only [Instr.index, Sem.run_bind, asIntOf, Sem.run_pure, Result.andThen_ok, hu, if_pos hc, tt_size hT hie, Sem.run_ite, hp]
        · cases h
      · cases h
    · rename_i hd
      obtain ⟨it, hti, he⟩ := dsc_some hd
      have hu := tt_und hT hti (w := w)
      rw [he] at hu
      split at h
      · rename_i z
        split at h
        · rename_i hc
          cases h
          obtain rfl : ux = _ := hx
          have hlt : i.toNat < z.size := by omega
          refine ⟨.int .u8 (byt z i), ?_, rfl⟩
          have hz : (if 0 ≤ i then z[i.toNat]? else none) = some (z[i.toNat]'hlt) := by rw [if_pos hc.1]; exact getElem?_pos z i.toNat hlt
          simp only [Instr.index, Sem.run_bind, asIntOf, Sem.run_pure, Result.andThen_ok, hu, hz, byt, hlt, dite_true]
        · cases h
      · cases h
    · cases h
  · cases h
def pfield (tt : TT) (T : TypeId) (f : Nat) (x : PV) : Option PV :=
  match fieldOf tt T f, x with
  | some (o, ft), .agg cs => pcut tt ft cs o
  | _, _ => none
theorem pfield_sound (hT : TOk P tt) {T : TypeId} {f : Nat} {x v : PV} {ux : Value} (h : pfield tt T f x = some v) (hx : SlotRel G fl x ux) :
    ∃ u, (Instr.field T ux f).run P w = .ok u w ∧ SlotRel G fl v u := by
  unfold pfield at h
  split at h
  · rename_i o ft cs hf
    obtain ⟨i, fs, fd, j, hi, he, hff, hj, hs, rfl, rfl⟩ := fieldOf_some hf
    have hu := tt_und hT hi (w := w)
    rw [he] at hu
    obtain ⟨us, rfl, q⟩ := hx
    obtain ⟨u, hp, hr⟩ := pcut_part hT (w := w) h q
    refine ⟨u, ?_, hr.slot⟩
    simp only [Instr.field, Sem.run_bind, hu, Result.andThen_ok, hff, asAgg, Sem.run_pure, hp]
  · cases h
def pextract (x : PV) (i : Nat) : Option PV :=
  match x with
  | .tuple vs => vs[i]?
  | _ => none
theorem pextract_sound {x v : PV} {i : Nat} {ux : Value} (h : pextract x i = some v) (hx : SlotRel G fl x ux) :
    ∃ u, (Instr.extract ux i).run P w = .ok u w ∧ SlotRel G fl v u := by
  unfold pextract at h
  split at h
  · obtain ⟨us, rfl, q⟩ := hx
    obtain ⟨u, hu, r⟩ := RelL.get _ _ q _ _ h
    refine ⟨u, ?_, r.slot⟩
    simp [Instr.extract, hu]
  · cases h
def stor : PV → Bool
  | .val v => v.oneCell'
  | .list _ _ _ | .eptr _ | .iface _ _ => true
  | _ => false
theorem stor_sound {x : PV} {u : Value} (h : stor x = true) (r : Rel G x u) : u.oneCell' = true := by
  cases x with
  | val v => rw [show u = v from r]; exact h
  | list k sz xs => obtain ⟨_, _, rfl, _⟩ := r; rfl
  | eptr cs => obtain ⟨_, _, rfl, _⟩ := r; rfl
  | iface t v => obtain ⟨_, rfl, _⟩ := r; rfl
  | _ => cases h
theorem one_cells {v : Value} (h : v.oneCell' = true) : v.cells = #[v] := by
  cases v <;> first | rfl | cases h
theorem RelE.of_one : ∀ (cs : List PV) (us : List Value), RelL G cs us → cs.all stor = true → RelE G 1 cs us
  | [], _, h, _ => h
  | x :: xs, _, ⟨u, r, e, p, q⟩, h => by
    simp only [List.all_cons, Bool.and_eq_true] at h
    have h1 := stor_sound h.1 p
    have h2 := one_cells h1
    exact ⟨u, r, by rw [e, h2]; rfl, ⟨by rw [h2]; rfl, fun c hc => by rw [h2] at hc; simp at hc; subst hc; exact h1⟩, p, RelE.of_one xs r q h.2⟩
/-- All of an array that a pointer points to, as a slice. -/
def pslA (cs : List PV) : Option (Nat × Nat) → Option PV
  | some (n, m) => if m = 1 ∧ n = cs.length ∧ 0 < n ∧ cs.all stor = true then some (.list .any 1 cs) else none
  | none => none
/-- A bound of a slice expression: a number from 0 to the greatest. -/
def pbound (s : Cf) (d most : Nat) : Option Operand → Option Nat
  | none => some d
  | some x => match eval s x with
    | .val (.int _ i) => if 0 ≤ i ∧ i ≤ most then some i.toNat else none
    | _ => none
def Cap.cut (sz l h n : Nat) : Cap → Cap
  | .any => .any
  | .full => if h = n then .full else .any
  | .known a c => .known (if c = l then a else a.map (·.add (l * sz))) (c - l)
def pslice (tt : TT) (s : Cf) (T : TypeId) (x : PV) (lo hi : Option Operand) : Option PV :=
  match dsc tt T, x with
  | some .string, .val (.string z) => match pbound s z.size z.size hi with
    | some h => match pbound s 0 h lo with
      | some l => some (.val (.string (z.extract l h)))
      | none => none
    | none => none
  | some (.slice e), .list k sz xs => match tt e with
    | some ie => if sz = ie.size then match pbound s xs.length xs.length hi with
      | some h => match pbound s 0 h lo with
        | some l => some (.list (k.cut sz l h xs.length) sz ((xs.take h).drop l))
        | none => none
      | none => none
      else none
    | none => none
  | some (.slice e), .val (.slice a n c) => match tt e with
    | some ie => if n ≤ c then match pbound s n n hi with
      | some h => match pbound s 0 h lo with
        | some l => some (.val (.slice (if c = l then a else a.map (·.add (l * ie.size))) (h - l) (c - l)))
        | none => none
      | none => none
      else none
    | none => none
  | some (.array n e), .eptr cs => match lo, hi, tt e with
    | none, none, some ie => pslA cs (some (n, ie.size))
    | _, _, _ => none
  | _, _ => none
theorem pbound_sound (r : Rep G fl B s a w) {d m cap : Nat} {x : Option Operand} {n : Nat} (h : pbound s d m x = some n) (hm : m ≤ cap) (hd : d ≤ m) (code : BoundsCode) :
    n ≤ m ∧ (match x.map a.eval with | some v => (Instr.sliceBound v cap code).run P w = .ok n w | none => n = d) := by
  cases x with
  | none => cases h; exact ⟨hd, rfl⟩
  | some x =>
    simp only [pbound] at h
    split at h
    · rename_i k i hx
      split at h
      · rename_i hc
        cases h
        have := eval_sound r x
        rw [hx] at this
        have e : a.eval x = Value.int k i := this
        refine ⟨by omega, ?_⟩
        have hc' : 0 ≤ i ∧ i ≤ (cap : Int) := ⟨hc.1, by omega⟩
        simp only [Option.map_some, e, Instr.sliceBound, Sem.run_bind, asIntOf, Sem.run_pure, Result.andThen_ok, if_pos hc', Sem.run_ite]
      · cases h
    · cases h
theorem sliceBounds_run (r : Rep G fl B s a w) {len cap m : Nat} {lo hi : Option Operand} {l h : Nat} (hh : pbound s len m hi = some h) (hl : pbound s 0 h lo = some l) (hm : m ≤ cap) (hlen : len ≤ m) (sl : Bool) :
    (Instr.sliceBounds sl len cap (lo.map a.eval) (hi.map a.eval) none).run P w = .ok (l, h, cap) w ∧ l ≤ h ∧ h ≤ m := by
  obtain ⟨h1, h2⟩ := pbound_sound (P := P) r hh hm hlen (if sl then .sliceAcap else .sliceAlen)
  obtain ⟨l1, l2⟩ := pbound_sound (P := P) r hl (Nat.le_refl _) (Nat.zero_le _) (.sliceB)
  refine ⟨?_, l1, h1⟩
  cases hi with
  | none =>
    subst h2
    cases lo with
    | none => subst l2; simp [Instr.sliceBounds]
    | some x => simp only [Option.map_some] at l2; simp [Instr.sliceBounds, l2]
  | some y =>
    simp only [Option.map_some] at h2
    cases lo with
    | none => subst l2; simp [Instr.sliceBounds, h2]
    | some x => simp only [Option.map_some] at l2; simp [Instr.sliceBounds, l2, h2]
theorem RelE.take {sz : Nat} : ∀ (n : Nat) (xs : List PV) (us : List Value), RelE G sz xs us → RelE G sz (xs.take n) (us.take (n * sz))
  | 0, _, _, _ => by simp [RelE]
  | n + 1, [], _, h => by cases h; simp [RelE]
  | n + 1, x :: xs, _, ⟨u, r, e, hs, p, q⟩ => by
    subst e
    have hl : u.cells.toList.length = sz := by simpa using hs.1
    refine ⟨u, r.take (n * sz), ?_, hs, p, RelE.take n xs r q⟩
    rw [List.take_append, hl, show (n + 1) * sz - sz = n * sz by rw [Nat.add_mul]; omega, List.take_of_length_le (by rw [hl, Nat.add_mul]; omega)]
theorem RelE.drop {sz : Nat} : ∀ (n : Nat) (xs : List PV) (us : List Value), RelE G sz xs us → RelE G sz (xs.drop n) (us.drop (n * sz))
  | 0, _, _, h => by simpa using h
  | n + 1, [], _, h => by cases h; simp [RelE]
  | n + 1, x :: xs, _, ⟨u, r, e, hs, p, q⟩ => by
    subst e
    have hl : u.cells.toList.length = sz := by simpa using hs.1
    have e1 : (u.cells.toList ++ r).drop ((n + 1) * sz) = r.drop (n * sz) := by
      rw [show (n + 1) * sz = u.cells.toList.length + n * sz by rw [hl, Nat.add_mul]; omega, ← List.drop_drop, List.drop_left]
    rw [e1]
    exact RelE.drop n xs r q
theorem At.cut {ad : Addr} {us : List Value} (h : At G ad us) (l m : Nat) : At G (ad.add l) ((us.take m).drop l) := by
  obtain ⟨b, off, rfl, q⟩ := h
  refine ⟨b, off + l, addr_add _ _ _, fun i v hv => ?_⟩
  rw [Nat.add_assoc]
  refine q _ _ ?_
  rw [List.getElem?_drop, List.getElem?_take] at hv
  split at hv
  · exact hv
  · cases hv
theorem pslice_sound (hT : TOk P tt) (r : Rep G fl B s a w) {T : TypeId} {x v : PV} {ux : Value} {lo hi : Option Operand} (h : pslice tt s T x lo hi = some v) (hx : SlotRel G fl x ux) :
    ∃ u, (Instr.sliceAt T ux (lo.map a.eval) (hi.map a.eval) none).run P w = .ok u w ∧ SlotRel G fl v u := by
  unfold pslice at h
  split at h
  · rename_i z hd
    obtain ⟨it, hti, he⟩ := dsc_some hd
    have hu := tt_und hT hti (w := w)
    rw [he] at hu
    obtain rfl : ux = _ := hx
    split at h
    · rename_i hh e1
      split at h
      · rename_i ll e2
        cases h
        have := (sliceBounds_run (P := P) r e1 e2 (Nat.le_refl _) (Nat.le_refl _) false).1
        refine ⟨_, ?_, rfl⟩
        simp [Instr.sliceAt, Instr.slice, hu, this]
      · cases h
    · cases h
  · rename_i e k sz xs hd
    obtain ⟨it, hti, he⟩ := dsc_some hd
    have hu := tt_und hT hti (w := w)
    rw [he] at hu
    split at h
    · rename_i ie hie
      split at h
      · rename_i hsz
        subst hsz
        split at h
        · rename_i hh e1
          split at h
          · rename_i ll e2
            cases h
            obtain ⟨ad, c, rfl, hl, hk, us, hr, hp⟩ := hx
            obtain ⟨hb, hlh, hhx⟩ := sliceBounds_run (P := P) r e1 e2 hl (Nat.le_refl _) true
            refine ⟨_, by simp only [Instr.sliceAt, Instr.slice, Sem.run_bind, hu, Result.andThen_ok, hb, tt_size hT hie, Sem.run_pure]; rfl, ?_⟩
            have hlen : ((xs.take hh).drop ll).length = hh - ll := by simp; omega
            refine ⟨_, _, by rw [hlen], by omega, ?_, (us.take (hh * ie.size)).drop (ll * ie.size), RelE.drop _ _ _ (RelE.take _ _ _ hr), ?_⟩
            · rw [hlen]
              cases k with
              | any => trivial
              | full =>
                simp only [Cap.cut]
                simp only [Cap.ok] at hk
                by_cases q : hh = xs.length
                · rw [if_pos q]; show c - ll = hh - ll; omega
                · rw [if_neg q]; trivial
              | known a' c' =>
                obtain ⟨rfl, rfl, hk⟩ := hk
                refine ⟨rfl, rfl, ?_⟩
                rcases hk with ⟨rfl, rfl⟩ | ⟨b, off, sx, rfl, hsx, hle⟩
                · left; simp
                · right
                  by_cases q : c' = ll
                  · subst q
                    exact ⟨b, off, sx, by simp, hsx, by simp; have := Nat.le_trans (Nat.le_add_right off (c' * ie.size)) hle; omega⟩
                  · refine ⟨b, off + ll * ie.size, sx, by rw [if_neg q]; simp [addr_add], hsx, ?_⟩
                    have : ll * ie.size + (c' - ll) * ie.size = c' * ie.size := by rw [← Nat.add_mul]; congr 1; omega
                    omega
            · rcases hp with hp | ⟨ad', rfl, hp⟩
              · left; subst hp; simp
              · by_cases q : c = ll
                · left
                  apply List.eq_nil_of_length_eq_zero
                  rw [hlen]; omega
                · right
                  rw [if_neg q]
                  exact ⟨_, rfl, hp.cut _ _⟩
          · cases h
        · cases h
      · cases h
    · cases h
  · rename_i e ad n c hd
    obtain ⟨it, hti, he⟩ := dsc_some hd
    have hu := tt_und hT hti (w := w)
    rw [he] at hu
    obtain rfl : ux = _ := hx
    split at h
    · rename_i ie hie
      split at h
      · rename_i hnc
        split at h
        · rename_i hh e1
          split at h
          · rename_i ll e2
            cases h
            have := (sliceBounds_run (P := P) r e1 e2 hnc (Nat.le_refl _) true).1
            exact ⟨_, by simp only [Instr.sliceAt, Instr.slice, Sem.run_bind, hu, Result.andThen_ok, this, tt_size hT hie, Sem.run_pure], rfl⟩
          · cases h
        · cases h
      · cases h
    · cases h
  · rename_i n e cs hd
    obtain ⟨it, hti, he⟩ := dsc_some hd
    have hu := tt_und hT hti (w := w)
    rw [he] at hu
    split at h
    · rename_i ie hie
      unfold pslA at h
      split at h
      · rename_i n' m' hnm
        injection hnm with hnm
        injection hnm with h1 h2
        split at h
        · rename_i hc
          cases h
          obtain ⟨hm, hn, hpos, hst⟩ := hc
          rw [← h1] at hn hpos
          rw [← h2] at hm
          obtain ⟨ad, us, rfl, hr, hat⟩ := hx
          refine ⟨.slice (some ad) n n, ?_, ad, n, by rw [hn], by rw [hn]; exact Nat.le_refl _, trivial, us, RelE.of_one _ _ hr hst, .inr ⟨ad, rfl, hat⟩⟩
          have hne : n ≠ 0 := by omega
          simp [Instr.sliceAt, hu, Instr.sureAddr, Instr.sliceBounds, tt_size hT hie, hm, hne, Addr.add]
        · cases h
      · cases h
    · cases h
  · cases h
def plen (tt : TT) (s : Cf) (T : TypeId) (x : PV) : Option PV :=
  match dsc tt T, x with
  | some .string, .val (.string z) => some (.val (.int .i64 z.size))
  | some (.slice _), .list _ _ xs => some (.val (.int .i64 xs.length))
  | some (.slice _), .val (.slice _ n _) => some (.val (.int .i64 n))
  | some (.array n _), _ => some (.val (.int .i64 n))
  | some (.map _ _), .val (.map none) => some (.val (.int .i64 0))
  | some (.map _ _), .val (.map (some b)) => match s.σ.obj b with
    | some (.map es) => some (.val (.int .i64 es.length))
    | _ => none
  | _, _ => none
theorem plen_sound (hT : TOk P tt) (r : Rep G fl B s a w) {T : TypeId} {x v : PV} {ux : Value} {ty : TypeId} {tys : Array TypeId} (h : plen tt s T x = some v) (hx : SlotRel G fl x ux) :
    ∃ u, (Builtin.len_ #[T] ty #[ux]).run P w = .ok u w ∧ SlotRel G fl v u := by
  unfold plen at h
  split at h
  · rename_i z hd
    obtain ⟨it, hti, he⟩ := dsc_some hd
    have hu := tt_und hT hti (w := w)
    rw [he] at hu
    cases h
    obtain rfl : ux = _ := hx
    exact ⟨_, by simp [Builtin.len_, hu, goInt], rfl⟩
  · rename_i z hd
    obtain ⟨it, hti, he⟩ := dsc_some hd
    have hu := tt_und hT hti (w := w)
    rw [he] at hu
    cases h
    obtain ⟨ad, c, rfl, hl, hk, us, hr, hp⟩ := hx
    exact ⟨_, by simp [Builtin.len_, hu, goInt], rfl⟩
  · rename_i z hd
    obtain ⟨it, hti, he⟩ := dsc_some hd
    have hu := tt_und hT hti (w := w)
    rw [he] at hu
    cases h
    obtain rfl : ux = _ := hx
    exact ⟨_, by simp [Builtin.len_, hu, goInt], rfl⟩
  · rename_i z hd
    obtain ⟨it, hti, he⟩ := dsc_some hd
    have hu := tt_und hT hti (w := w)
    rw [he] at hu
    cases h
    exact ⟨_, by simp [Builtin.len_, hu, goInt], rfl⟩
  · rename_i z hd
    obtain ⟨it, hti, he⟩ := dsc_some hd
    have hu := tt_und hT hti (w := w)
    rw [he] at hu
    cases h
    obtain rfl : ux = _ := hx
    exact ⟨_, by simp [Builtin.len_, hu, goInt], rfl⟩
  · rename_i z b hd
    obtain ⟨it, hti, he⟩ := dsc_some hd
    have hu := tt_und hT hti (w := w)
    rw [he] at hu
    split at h
    · rename_i es hes
      cases h
      obtain rfl : ux = _ := hx
      obtain ⟨⟨en, cl, hb, hm⟩, _⟩ := r.inv.obj _ _ hes
      have hl : en.size = es.length := by rw [← hm]; simp
      refine ⟨_, ?_, rfl⟩
      simp [Builtin.len_, hu, goInt, getObj, Sem.run, hb, hl]
    · cases h
  · cases h
end Go.Pv
-- PvBuild
namespace Go.Pv
open Go Go.RowKit
variable {P : Program} {tt : TT} {G : Sett} {fl : Nat → Nat} {B : Nat} {s : Cf} {a : Act} {w : World}
def pset {α : Type} (cs : List α) (off : Nat) (vs : List α) : List α := cs.take off ++ (vs ++ cs.drop (off + vs.length))
theorem pset_rel {cs vs : List PV} {us ws : List Value} {off : Nat} (h : RelL G cs us) (k : RelL G vs ws) : RelL G (pset cs off vs) (pset us off ws) := by
  unfold pset
  rw [RelL.length _ _ k]
  exact RelL.append _ _ _ _ (RelL.take _ _ _ h) (RelL.append _ _ _ _ k (RelL.drop _ _ _ h))
theorem pset_length {α : Type} (cs vs : List α) (off : Nat) (h : off + vs.length ≤ cs.length) : (pset cs off vs).length = cs.length := by
  simp [pset]; omega
theorem fold_set (vs : List Value) : ∀ (off k : Nat) (cs : Array Value), off + k + vs.length ≤ cs.size →
    ((vs.zipIdx k).foldl (fun cs (x : Value × Nat) => cs.setIfInBounds (off + x.2) x.1) cs).toList = pset cs.toList (off + k) vs := by
  induction vs with
  | nil => intro off k cs _; simp [pset]
  | cons v vs ih =>
    intro off k cs h
    simp only [List.zipIdx_cons, List.foldl_cons]
    rw [ih off (k + 1) _ (by simp at h ⊢; omega)]
    have hlt : off + k < cs.toList.length := by simp at h ⊢; omega
    simp only [pset, Array.toList_setIfInBounds, List.length_cons]
    rw [List.take_set, List.drop_set_of_lt (by omega)]
    rw [show off + (k + 1) = (off + k) + 1 by omega, List.take_succ_eq_append_getElem hlt]
    rw [List.set_append]
    simp only [List.length_take]
    rw [if_neg (by omega), show off + k - min (off + k) cs.toList.length = 0 by omega]
    simp [Nat.add_assoc, Nat.add_comm 1]
def pfill (place : Nat → Option (Nat × Nat)) : List PV → List (Nat × PV) → Option (List PV)
  | cs, [] => some cs
  | cs, (i, v) :: rest => match place i, cellsOf v with
    | some (off, size), some vs => if vs.length = size ∧ off + size ≤ cs.length then pfill place (pset cs off vs) rest else none
    | _, _ => none
/-- Parts of a literal and their values. -/
def PartRel (G : Sett) (fl : Nat → Nat) : List (Nat × PV) → List (Nat × Value) → Prop
  | [], us => us = []
  | (i, x) :: xs, us => ∃ u r, us = (i, u) :: r ∧ SlotRel G fl x u ∧ PartRel G fl xs r
theorem pfill_sound (place : Nat → Option (Nat × Nat)) : ∀ (ps : List (Nat × PV)) (vs : List (Nat × Value)) (cs : List PV) (us : Array Value) (cs' : List PV), PartRel G fl ps vs → RelL G cs us.toList → pfill place cs ps = some cs' →
    ∃ us', Instr.fill place us vs = some us' ∧ RelL G cs' us'.toList
  | [], _, cs, us, cs', h, r, e => by cases h; cases e; exact ⟨us, rfl, r⟩
  | (i, x) :: ps, _, cs, us, cs', ⟨u, rest, e, hx, hr⟩, r, h => by
    subst e
    simp only [pfill] at h
    split at h
    · rename_i off size ws hp hc
      split at h
      · rename_i hq
        have hcx := cellsOf_sound hc hx
        have hl := RelL.length _ _ hcx
        have hlu := RelL.length _ _ r
        have hsz : u.cells.size = size := by rw [← Array.length_toList, hl]; exact hq.1
        simp only [Instr.fill, hp]
        rw [if_neg (by simp only [Bool.or_eq_true, decide_eq_true_eq, not_or]; constructor; · omega
                       · simp at hlu; omega)]
        refine pfill_sound place ps rest (pset cs off ws) _ cs' hr ?_ h
        have hf := fold_set u.cells.toList off 0 us (by simp at hlu ⊢; omega)
        have hz : (u.cells.zipIdx.foldl (fun cs (x : Value × Nat) => cs.setIfInBounds (off + x.2) x.1) us) = ((u.cells.toList.zipIdx 0).foldl (fun cs (x : Value × Nat) => cs.setIfInBounds (off + x.2) x.1) us) := by
          rw [← Array.foldl_toList]; simp
        have hz' : (u.cells.zipIdx.foldl (fun cs (c, j) => cs.setIfInBounds (off + j) c) us).toList = pset us.toList off u.cells.toList := by
          rw [Nat.add_zero] at hf
          rw [← hf]
          exact congrArg Array.toList hz
        rw [hz']
        exact pset_rel r hcx
      · cases h
    · cases h
def placesOf (tt : TT) : List Field → Option (List (Nat × Nat))
  | [] => some []
  | f :: fs => match tt f.type, placesOf tt fs with
    | some j, some r => some ((f.offset, j.size) :: r)
    | _, _ => none
theorem placesOf_run (hT : TOk P tt) : ∀ (fs : List Field) (ps : List (Nat × Nat)), placesOf tt fs = some ps → (fs.mapM (fun f => do pure (f.offset, ← sizeOf f.type) : Field → Sem (Nat × Nat))).run P w = .ok ps w
  | [], _, h => by cases h; simp
  | f :: fs, ps, h => by
    simp only [placesOf] at h
    split at h
    · rename_i j r hj hr
      cases h
      simp only [List.mapM_cons, Sem.run_bind, tt_size hT hj, Result.andThen_ok, Sem.run_pure, placesOf_run hT fs r hr]
    · cases h
def pbuild (tt : TT) (T : TypeId) (ps : List (Nat × PV)) : Option PV :=
  match tt T with
  | none => none
  | some i => match cellsOf i.zero with
    | none => none
    | some z => match i.desc with
      | .struct fs => match placesOf tt fs.toList with
        | some pl => (pfill (pl[·]?) z ps).map .agg
        | none => none
      | .array _ e => match tt e with
        | some j => (pfill (fun i => some (i * j.size, j.size)) z ps).map .agg
        | none => none
      | _ => none
theorem pbuild_sound (hT : TOk P tt) {T : TypeId} {ps : List (Nat × PV)} {vs : Array (Nat × Value)} {v : PV} (h : pbuild tt T ps = some v) (hp : PartRel G fl ps vs.toList) :
    ∃ u, (Instr.build T vs).run P w = .ok u w ∧ SlotRel G fl v u := by
  unfold pbuild at h
  split at h
  · cases h
  · rename_i i hi
    obtain ⟨z, hz, hzc, hzr⟩ := tt_zero hT hi (w := w)
    have hu := tt_und hT hi (w := w)
    split at h
    · cases h
    · rename_i zc hzc'
      have hrl := cellsOf_sound (G := G) (fl := fl) hzc' (Rel.slot (hzr G))
      split at h
      · rename_i fs hd
        rw [hd] at hu
        split at h
        · rename_i pl hpl
          cases hf : pfill (pl[·]?) zc ps with
          | none => simp [hf] at h
          | some cs =>
            simp [hf] at h
            subst h
            obtain ⟨us', hfill, hr⟩ := pfill_sound (pl[·]?) ps vs.toList zc z.cells cs hp hrl hf
            refine ⟨.agg us', ?_, us'.toList, by simp, hr⟩
            have hm := placesOf_run hT (w := w) fs.toList pl hpl
            have hm' : (fs.mapM (fun f => do pure (f.offset, ← sizeOf f.type) : Field → Sem (Nat × Nat))).run P w = .ok pl.toArray w := by
              rw [Array.mapM_eq_mapM_toList]
              simp only [Sem.run_map, hm, Result.andThen_ok]
            have hfill' : Instr.fill (fun x => pl.toArray[x]?) z.cells vs.toList = some us' := by
              rw [← hfill]; congr 1; funext x; simp
            simp only [Instr.build, Sem.run_bind, hz, Result.andThen_ok, hu, hm', hfill', Sem.run_pure]
        · cases h
      · rename_i n e hd
        rw [hd] at hu
        split at h
        · rename_i j hj
          cases hf : pfill (fun i => some (i * j.size, j.size)) zc ps with
          | none => simp [hf] at h
          | some cs =>
            simp [hf] at h
            subst h
            obtain ⟨us', hfill, hr⟩ := pfill_sound (fun i => some (i * j.size, j.size)) ps vs.toList zc z.cells cs hp hrl hf
            refine ⟨.agg us', ?_, us'.toList, by simp, hr⟩
            simp only [Instr.build, Sem.run_bind, hz, Result.andThen_ok, hu, tt_size hT hj, hfill, Sem.run_pure]
        · cases h
      · cases h
def pparts (s : Cf) (ps : List (Nat × Operand)) : List (Nat × PV) := ps.map fun p => (p.1, eval s p.2)
theorem pparts_rel (r : Rep G fl B s a w) : ∀ ps : List (Nat × Operand), PartRel G fl (pparts s ps) (ps.map fun p => (p.1, a.eval p.2))
  | [] => rfl
  | p :: ps => ⟨_, _, rfl, eval_sound r p.2, pparts_rel r ps⟩
def pmax : PV → PV → Option PV
  | .val (.int k x), .val (.int _ y) => some (.val (.int k (if y > x then y else x)))
  | _, _ => none
def pmin : PV → PV → Option PV
  | .val (.int k x), .val (.int _ y) => some (.val (.int k (if y < x then y else x)))
  | _, _ => none
def pun (op : UnOp) : PV → Option PV
  | .val (.bool b) => match op with | .not => some (.val (.bool (!b))) | _ => none
  | .val (.int k n) => match op with | .neg => some (.val (.int k (k.wrap (0 - n)))) | _ => none
  | _ => none
/-- Bytes as numbers. -/
def u8s : List PV → Option (List Int)
  | [] => some []
  | .val (.int .u8 n) :: r => (u8s r).map (n :: ·)
  | _ => none
def bstr (ns : List Int) : ByteArray := ns.foldl (fun r n => r.push (UInt8.ofNat n.toNat)) ByteArray.empty
theorem u8s_rel {G : Sett} : ∀ (xs : List PV) (ns : List Int) (us : List Value), u8s xs = some ns → RelE G 1 xs us → us = ns.map (Value.int .u8) ∧ ns.length = xs.length
  | [], ns, us, h, r => by cases h; exact ⟨r, rfl⟩
  | x :: xs, ns, us, h, ⟨u, rest, e, hs, hx, hr⟩ => by
    cases x with
    | val v =>
      cases v with
      | int k n =>
        cases k <;> first | cases h | skip
        simp only [u8s, Option.map_eq_some_iff] at h
        obtain ⟨ms, hms, rfl⟩ := h
        obtain ⟨q1, q2⟩ := u8s_rel xs ms rest hms hr
        have hu : u = .int .u8 n := hx
        subst hu q1 e
        exact ⟨by simp [Value.cells], by simp [q2]⟩
      | _ => cases h
    | _ => cases h
def pconvB (tt : TT) (e : TypeId) (sz : Nat) (xs : List PV) : Option PV :=
  match dsc tt e, sz, u8s xs with
  | some (.int .u8), 1, some ns => some (.val (.string (bstr ns)))
  | _, _, _ => none
def pconv (tt : TT) (src dst : TypeId) (x : PV) : Option PV :=
  match dsc tt src, dsc tt dst, x with
  | some _, some (.int k), .val (.int _ n) => some (.val (.int k (k.wrap n)))
  | some (.string), some .string, .val (.string z) => some (.val (.string z))
  | some (.slice e), some .string, .list _ sz xs => pconvB tt e sz xs
  | _, _, _ => none
def piface (tt : TT) (T : TypeId) (x : PV) : Option PV :=
  match dsc tt T with
  | some (.interface _) => none
  | some _ => if notL x then some (.iface T x) else none
  | none => none
def passert (tt : TT) (T : TypeId) (x : PV) (ok : Bool) : Option PV :=
  match dsc tt T, x with
  | some (.interface _), _ => none
  | some _, .iface t v => if t = T then some (if ok then .tuple [v, .val (.bool true)] else v) else none
  | _, _ => none
def pnil : PV → Option PV
  | .lptr d o => some (.lptr d o)
  | .eptr cs => some (.eptr cs)
  | .val (.pointer (some p)) => some (.val (.pointer (some p)))
  | .val (.func (.func f) x y) => some (.val (.func (.func f) x y))
  | _ => none
def ppick (c x y : PV) : Option PV :=
  match c with
  | .val (.bool true) => some x
  | .val (.bool false) => some y
  | _ => none
def pvals : List PV → Option (List Value)
  | [] => some []
  | .val v :: r => (pvals r).map (v :: ·)
  | _ => none
theorem pvals_sound : ∀ (xs : List PV) (vs us : List Value), pvals xs = some vs → RelL G xs us → us = vs
  | [], _, _, h, r => by cases h; exact r
  | x :: xs, vs, us, h, ⟨u, r, e, p, q⟩ => by
    cases x with
    | val v =>
      simp only [pvals] at h
      cases hp : pvals xs with
      | none => simp [hp] at h
      | some ws =>
        simp [hp] at h
        subst h e
        have := pvals_sound xs ws r hp q
        subst this
        rw [show u = v from p]
    | _ => simp [pvals] at h
theorem pun_sound {op : UnOp} {x v : PV} {u : Value} (h : pun op x = some v) (hx : SlotRel G fl x u) : ∃ u', (Op.unary op u).run P w = .ok u' w ∧ SlotRel G fl v u' := by
  unfold pun at h
  split at h
  · obtain rfl : u = _ := hx
    split at h
    · cases h; exact ⟨_, rfl, rfl⟩
    · cases h
  · obtain rfl : u = _ := hx
    split at h
    · cases h; exact ⟨_, rfl, rfl⟩
    · cases h
  · cases h
theorem pconv_sound (hT : TOk P tt) (r : Rep G fl B s a w) {src dst : TypeId} {x v : PV} {u : Value} (h : pconv tt src dst x = some v) (hx : SlotRel G fl x u) : ∃ u', (convert src dst u).run P w = .ok u' w ∧ SlotRel G fl v u' := by
  unfold pconv at h
  split at h
  · rename_i d k k' n h1 h2
    obtain ⟨i1, hi1, rfl⟩ := dsc_some h1
    obtain ⟨i2, hi2, he2⟩ := dsc_some h2
    have hu1 := tt_und hT hi1 (w := w)
    have hu2 := tt_und hT hi2 (w := w)
    rw [he2] at hu2
    cases h
    obtain rfl : u = _ := hx
    refine ⟨_, ?_, rfl⟩
    simp only [convert, Sem.run_bind, hu1, hu2, Result.andThen_ok]
    rfl
  · rename_i z h1 h2
    obtain ⟨i1, hi1, he1⟩ := dsc_some h1
    obtain ⟨i2, hi2, he2⟩ := dsc_some h2
    have hu1 := tt_und hT hi1 (w := w)
    have hu2 := tt_und hT hi2 (w := w)
    rw [he2] at hu2
    rw [he1] at hu1
    cases h
    obtain rfl : u = _ := hx
    refine ⟨_, ?_, rfl⟩
    simp only [convert, Sem.run_bind, hu1, hu2, Result.andThen_ok]
    rfl
  · rename_i e k sz xs h1 h2
    obtain ⟨i1, hi1, he1⟩ := dsc_some h1
    obtain ⟨i2, hi2, he2⟩ := dsc_some h2
    have hu1 := hT.und _ _ hi1
    have hu2 := hT.und _ _ hi2
    rw [he2] at hu2
    rw [he1] at hu1
    unfold pconvB at h
    split at h
    · rename_i ns hd hns
      cases h
      obtain ⟨i3, hi3, he3⟩ := dsc_some hd
      have hu3 := hT.und _ _ hi3
      rw [he3] at hu3
      obtain ⟨ad, c, rfl, hl, hk, us, hr, hp⟩ := hx
      obtain ⟨rfl, hlen⟩ := u8s_rel _ _ _ hns hr
      refine ⟨.string (bstr ns), ?_, rfl⟩
      rw [run_convert_bytes_string w src dst e ad xs.length c hu1 hu3 hu2]
      cases ad with
      | none =>
        rcases hp with hp | ⟨d, q, _⟩
        · subst hp
          have : ns = [] := List.eq_nil_of_length_eq_zero (by simpa using hlen)
          subst this
          rfl
        · cases q
      | some d =>
        refine run_bytesToString w d _ c ns ?_
        have hl2 : xs.length = (ns.map (Value.int .u8)).length := by simp [hlen]
        rw [hl2]
        refine run_loadCells_list (P := P) w d _ fun j v hj => ?_
        rcases hp with hp | ⟨d', q, b, off, rfl, hc⟩
        · subst hp
          have : ns = [] := List.eq_nil_of_length_eq_zero (by simpa using hlen)
          subst this
          simp at hj
        · cases q
          rw [addr_add]
          exact r.inv.cell _ _ _ (hc j v hj)
    · cases h
  · cases h
theorem piface_sound (hT : TOk P tt) {T : TypeId} {x v : PV} {u : Value} (h : piface tt T x = some v) (hx : SlotRel G fl x u) : ∃ u', (Instr.makeInterface T u).run P w = .ok u' w ∧ SlotRel G fl v u' := by
  unfold piface at h
  split at h
  · cases h
  · rename_i d hne h1
    obtain ⟨i1, hi1, rfl⟩ := dsc_some h1
    have hu1 := tt_und hT hi1 (w := w)
    split at h
    · rename_i hn
      cases h
      refine ⟨_, ?_, u, rfl, hx.rel hn⟩
      simp only [Instr.makeInterface, Sem.run_bind, hu1, Result.andThen_ok]
      cases hd : i1.desc <;> first | rfl | exact absurd hd (by simpa using hne _)
    · cases h
  · cases h
theorem passert_sound (hT : TOk P tt) {T xt : TypeId} {ok : Bool} {x v : PV} {u : Value} (h : passert tt T x ok = some v) (hx : SlotRel G fl x u) : ∃ u', (Instr.typeAssert u xt T ok).run P w = .ok u' w ∧ SlotRel G fl v u' := by
  unfold passert at h
  split at h
  · cases h
  · rename_i d t v' hne h1
    obtain ⟨i1, hi1, rfl⟩ := dsc_some h1
    have hu1 := tt_und hT hi1 (w := w)
    split at h
    · rename_i ht
      subst ht
      cases h
      obtain ⟨u', rfl, r⟩ := hx
      refine ⟨if ok = true then .tuple #[u', .bool true] else u', ?_, ?_⟩
      · simp only [Instr.typeAssert, Sem.run_bind, hu1, Result.andThen_ok]
        cases hd : i1.desc <;> first | simp | exact absurd hd (by simpa using hne _)
      · cases ok
        · exact r.slot
        · exact ⟨[u', .bool true], rfl, u', [.bool true], rfl, r, .bool true, [], rfl, rfl, rfl⟩
    · cases h
  · cases h
end Go.Pv
-- PvRd
namespace Go.Pv
open Go Go.RowKit
variable {P : Program} {tt : TT} {G : Sett} {fl : Nat → Nat} {B : Nat} {s : Cf} {a : Act} {w : World}
def vlook (d : TypeDesc) (k : Value) : List (Value × Value) → Option (Option Value)
  | [] => some none
  | (k', v) :: r => match Instr.sameNow d k k' with
    | some true => some (some v)
    | some false => vlook d k r
    | none => none
theorem vlook_find (d : TypeDesc) (k : Value) : ∀ (es : List MapEntry) (l : List (Value × Value)) (i : Nat), es.map (fun e => (e.key, e.val)) = l →
    (vlook d k l = some none → Instr.findNow d k es i = some none) ∧ (∀ v, vlook d k l = some (some v) → ∃ j, Instr.findNow d k es i = some (some (j, v)))
  | [], l, i, h => by subst h; exact ⟨fun _ => rfl, fun v e => (by cases e)⟩
  | e :: es, l, i, h => by
    subst h
    have ih := vlook_find d k es _ (i + 1) rfl
    simp only [List.map_cons, vlook, Instr.findNow]
    cases Instr.sameNow d k e.key with
    | none => exact ⟨fun h => (by cases h), fun v h => (by cases h)⟩
    | some b => cases b with
      | true => exact ⟨fun h => (by cases h), fun v h => ⟨i, by cases h; rfl⟩⟩
      | false => exact ih
def keyD : TypeDesc → Bool
  | .int _ | .string | .bool => true
  | _ => false
theorem checkKey_run {K : TypeId} {d : TypeDesc} (hk : P.underlying K = some d) (hd : keyD d = true) (e : Bool) (n : Nat) (v : Value) : (Instr.checkKey e (n + 1) K v).run P w = .ok () w := by
  unfold Instr.checkKey
  simp only [Sem.run_bind, run_underlying hk, Result.andThen_ok]
  cases d <;> first | rfl | cases hd
def plookup (tt : TT) (s : Cf) (T : TypeId) (x ix : PV) (ok : Bool) : Option PV :=
  match dsc tt T with
  | some (.map kt et) => match dsc tt kt, tt et, x, ix with
    | some kd, some ie, .val (.map (some b)), .val k => if keyD kd then match s.σ.obj b with
      | some (.map es) => match vlook kd k es with
        | some (some v) => some (if ok then .tuple [.val v, .val (.bool true)] else .val v)
        | some none => some (if ok then .tuple [ie.zero, .val (.bool false)] else ie.zero)
        | none => none
      | _ => none
      else none
    | _, _, _, _ => none
  | _ => none
theorem plookup_sound (hT : TOk P tt) (r : Rep G fl B s a w) {T : TypeId} {x ix v : PV} {ok : Bool} {ux ui : Value} (h : plookup tt s T x ix ok = some v) (hx : SlotRel G fl x ux) (hi : SlotRel G fl ix ui) :
    ∃ u, (Instr.lookup T ux ui ok).run P w = .ok u w ∧ SlotRel G fl v u := by
  unfold plookup at h
  split at h
  · rename_i kt et hd
    obtain ⟨it, hti, he⟩ := dsc_some hd
    have hu := hT.und _ _ hti
    rw [he] at hu
    split at h
    · rename_i kd ie b k hkd hie
      obtain ⟨ik, hik, rfl⟩ := dsc_some hkd
      have huk := hT.und _ _ hik
      obtain ⟨z, hz, _, hzr⟩ := tt_zero hT hie (w := w)
      split at h
      · rename_i hkey
        split at h
        · rename_i es hes
          rw [show ux = _ from hx, show ui = k from hi]
          obtain ⟨⟨en, cl, hb, hm⟩, _⟩ := r.inv.obj _ _ hes
          have hv := vlook_find ik.desc k en.toList es 0 hm
          have hc : ∀ e, (Instr.checkKey e 10000 kt k).run P w = .ok () w := fun e => checkKey_run huk hkey e 9999 k
          split at h
          · rename_i v' hv'
            obtain ⟨j, hj⟩ := hv.2 _ hv'
            have hff := MapKept.run_findKey (w := w) huk hj
            cases h
            refine ⟨if ok = true then .tuple #[v', .bool true] else v', ?_, ?_⟩
            · simp only [Instr.lookup, Sem.run_bind, run_underlying hu, Result.andThen_ok, MapKept.run_getObj_map hb, Sem.run_pure, hc, hff]
            · cases ok
              · rfl
              · exact ⟨[v', .bool true], rfl, v', [.bool true], rfl, rfl, .bool true, [], rfl, rfl, rfl⟩
          · rename_i hv'
            have hff := MapKept.run_findKey (w := w) huk (hv.1 hv')
            cases h
            refine ⟨if ok = true then .tuple #[z, .bool false] else z, ?_, ?_⟩
            · simp only [Instr.lookup, Sem.run_bind, run_underlying hu, Result.andThen_ok, MapKept.run_getObj_map hb, Sem.run_pure, hc, hff, hz]
            · cases ok
              · exact (hzr G).slot
              · exact ⟨[z, .bool false], rfl, z, [.bool false], rfl, hzr G, .bool false, [], rfl, rfl, rfl⟩
          · cases h
        · cases h
      · cases h
    · cases h
  · cases h
/-- What an operation answers that leaves memory as it is; none: another kind of operation, or not foreseen. -/
def pread (tt : TT) (s : Cf) (ty : TypeId) : Op → Option PV
  | .move x | .assign x => some (evn tt s ty x)
  | .pick c x y => ppick (eval s c) (eval s x) (eval s y)
  | .nilCheck x => pnil (eval s x)
  | .binOp op xt x y _ => pbin tt op xt (eval s x) (eval s y)
  | .unOp op _ x => pun op (eval s x)
  | .convert a b x => pconv tt a b (eval s x)
  | .makeInterface t x => piface tt t (eval s x)
  | .makeFunc fn first cap => match first.toList, pvals (cap.toList.map (eval s)) with
    | [], some vs => some (.val (.func fn #[] vs.toArray))
    | _, _ => none
  | .slice t x lo hi none => pslice tt s t (eval s x) lo hi
  | .fieldAddr t x f => match fieldOf tt t f with
    | some (o, _) => pfieldAddr o (eval s x)
    | none => none
  | .field t x f => pfield tt t f (eval s x)
  | .indexAddr t x ix => pindexAddr tt t (eval s x) (eval s ix)
  | .index t x ix => pindex tt t (eval s x) (eval s ix)
  | .load t x => match paddr s (eval s x) with
    | some (cs, off) => pcut tt t cs off
    | none => none
  | .lookup t x ix ok => plookup tt s t (eval s x) (eval s ix) ok
  | .typeAssert x _ t ok => passert tt t (eval s x) ok
  | .extract x i => pextract (eval s x) i
  | .build t ps => pbuild tt t (pparts s ps.toList)
  | .call c => match c.callee with
    | .builtin .len => match c.args.toList, c.argTypes.toList with
      | [x], [t] => plen tt s t (eval s x)
      | _, _ => none
    | .builtin .max => match c.args.toList with
      | [x, y] => pmax (eval s x) (eval s y)
      | _ => none
    | .builtin .min => match c.args.toList with
      | [x, y] => pmin (eval s x) (eval s y)
      | _ => none
    | _ => none
  | _ => none
theorem toList_nil {α : Type} {x : Array α} (h : x.toList = []) : x = #[] := by cases x; simp_all
theorem toList_one {α : Type} {x : Array α} {y : α} (h : x.toList = [y]) : x = #[y] := by cases x; simp_all
theorem toList_two {α : Type} {x : Array α} {y z : α} (h : x.toList = [y, z]) : x = #[y, z] := by cases x; simp_all
theorem evals_rel (r : Rep G fl B s a w) : ∀ (xs : List Operand), (∀ v ∈ xs.map (eval s), notL v = true) → RelL G (xs.map (eval s)) (xs.map a.eval)
  | [], _ => rfl
  | x :: xs, h => ⟨_, _, rfl, (eval_sound r x).rel (h _ (by simp)), evals_rel r xs (fun v hv => h v (by simp at hv ⊢; exact .inr hv))⟩
theorem pvals_notL : ∀ (xs : List PV) (vs : List Value), pvals xs = some vs → ∀ v ∈ xs, notL v = true
  | [], _, _, v, hv => by simp at hv
  | x :: xs, vs, h, v, hv => by
    cases x with
    | val u =>
      simp only [pvals] at h
      cases hp : pvals xs with
      | none => simp [hp] at h
      | some ws =>
        simp at hv
        rcases hv with rfl | hv
        · rfl
        · exact pvals_notL xs ws hp v hv
    | _ => simp [pvals] at h
theorem pread_sound (hT : TOk P tt) (r : Rep G fl B s a w) {o : Oper} {v : PV} (h : pread tt s o.type o.op = some v) :
    ∃ u, (execOp a.eval o).run P w = .ok (.value u) w ∧ SlotRel G fl v u := by
  have lift : ∀ {x : Sem Value} {u : Value}, x.run P w = .ok u w → SlotRel G fl v u → ∃ u, (do pure (.value (← x)) : Sem Next).run P w = .ok (.value u) w ∧ SlotRel G fl v u :=
    fun hx hr => ⟨_, by simp only [Sem.run_bind, hx, Result.andThen_ok, Sem.run_pure], hr⟩
  unfold pread at h
  unfold execOp
  split at h <;> rename_i hop
  all_goals try rw [hop]
  · cases h; exact ⟨_, rfl, evn_sound r _ _⟩
  · cases h; exact ⟨_, rfl, evn_sound r _ _⟩
  · rename_i c x y
    unfold ppick at h
    have hc := eval_sound r c
    split at h
    · rename_i e
      rw [e] at hc
      have hc : a.eval c = _ := hc
      cases h
      exact ⟨a.eval x, by simp only [Sem.run_bind, hc, asBool, Sem.run_pure, Result.andThen_ok]; rfl, eval_sound r x⟩
    · rename_i e
      rw [e] at hc
      have hc : a.eval c = _ := hc
      cases h
      exact ⟨a.eval y, by simp only [Sem.run_bind, hc, asBool, Sem.run_pure, Result.andThen_ok]; rfl, eval_sound r y⟩
    · cases h
  · rename_i x
    unfold pnil at h
    have hx := eval_sound r x
    split at h
    · rename_i e
      rw [e] at hx
      have hx' : a.eval x = _ := hx
      cases h
      exact ⟨_, by simp only [hx', Sem.run_pure], rfl⟩
    · rename_i e
      rw [e] at hx
      cases h
      have hx' := hx
      obtain ⟨ad, us, e2, _⟩ := hx
      rw [e2] at hx'
      exact ⟨.pointer (some ad), by simp only [e2, Sem.run_pure], hx'⟩
    · rename_i e
      rw [e] at hx
      have hx' : a.eval x = _ := hx
      cases h
      exact ⟨_, by simp only [hx', Sem.run_pure], rfl⟩
    · rename_i e
      rw [e] at hx
      have hx' : a.eval x = _ := hx
      cases h
      exact ⟨_, by simp only [hx', Sem.run_pure], rfl⟩
    · cases h
  · obtain ⟨u, hu, hr⟩ := pbin_sound (w := w) (P := P) hT h (eval_sound r _) (eval_sound r _)
    exact lift hu hr
  · obtain ⟨u, hu, hr⟩ := pun_sound (w := w) (P := P) h (eval_sound r _)
    exact lift hu hr
  · obtain ⟨u, hu, hr⟩ := pconv_sound (w := w) (P := P) hT r h (eval_sound r _)
    exact lift hu hr
  · obtain ⟨u, hu, hr⟩ := piface_sound (w := w) (P := P) hT h (eval_sound r _)
    exact lift hu hr
  · rename_i fn first cap
    split at h
    · rename_i vs hf hv
      cases h
      have e1 := toList_nil hf
      have e2 := pvals_sound _ _ _ hv (evals_rel r cap.toList (pvals_notL _ _ hv))
      refine ⟨.func fn #[] vs.toArray, ?_, rfl⟩
      have e3 : cap.map a.eval = vs.toArray := by apply Array.ext'; rw [Array.toList_map, e2]
      have e4 : (#[] : Array Operand).map a.eval = #[] := by simp
      simp only [Sem.run_bind, Instr.makeFunc, Sem.run_pure, Result.andThen_ok, e1, e3, e4]
    · cases h
  · obtain ⟨u, hu, hr⟩ := pslice_sound (P := P) hT r h (eval_sound r _)
    exact lift hu hr
  · rename_i t x f
    split at h
    · rename_i o' ft hf
      obtain ⟨ad, hu, hr⟩ := pfieldAddr_sound h (eval_sound r _)
      have := fieldAt_run (w := w) (P := P) hT hf ad
      show ∃ u, (do pure (.value (← Instr.fieldAt t (a.eval x) f)) : Sem Next).run P w = _ ∧ _
      rw [hu]
      exact lift this hr
    · cases h
  · obtain ⟨u, hu, hr⟩ := pfield_sound (w := w) (P := P) hT h (eval_sound r _)
    exact lift hu hr
  · obtain ⟨u, hu, hr⟩ := pindexAddr_sound (w := w) (P := P) hT h (eval_sound r _) (eval_sound r _)
    exact lift hu hr
  · obtain ⟨u, hu, hr⟩ := pindex_sound (w := w) (P := P) hT h (eval_sound r _) (eval_sound r _)
    exact lift hu hr
  · rename_i t x
    split at h
    · rename_i cs off hp
      obtain ⟨ad, us, e, hr, hc⟩ := paddr_sound r hp (eval_sound r x)
      obtain ⟨u, hu, hv⟩ := load_sound (P := P) hT h hr hc
      show ∃ u, (do pure (.value (← Instr.loadAt t (a.eval x))) : Sem Next).run P w = _ ∧ _
      rw [e]
      exact lift (x := Instr.loadAt t (.pointer (some ad))) (by simp only [Instr.loadAt, Instr.sureAddr, Sem.run_bind, Sem.run_pure, Result.andThen_ok, hu]) hv.slot
    · cases h
  · obtain ⟨u, hu, hr⟩ := plookup_sound (P := P) hT r h (eval_sound r _) (eval_sound r _)
    exact lift hu hr
  · obtain ⟨u, hu, hr⟩ := passert_sound (w := w) (P := P) hT h (eval_sound r _)
    exact lift hu hr
  · obtain ⟨u, hu, hr⟩ := pextract_sound (w := w) (P := P) h (eval_sound r _)
    exact lift hu hr
  · rename_i t ps
    have hps := pparts_rel r ps.toList
    have e : (ps.map fun (i, x) => (i, a.eval x)).toList = ps.toList.map fun p => (p.1, a.eval p.2) := by simp
    rw [← e] at hps
    obtain ⟨u, hu, hr⟩ := pbuild_sound (w := w) (P := P) hT h hps
    exact lift hu hr
  · rename_i c
    split at h
    · rename_i hcal
      split at h
      · rename_i x t hargs hty
        have e1 := toList_one hargs
        have e2 := toList_one hty
        obtain ⟨u, hu, hr⟩ := plen_sound (P := P) (ty := o.type) (tys := c.argTypes) hT r h (eval_sound r _)
        refine ⟨u, ?_, hr⟩
        simp only [Sem.run_bind, resolve, hcal, e1, Sem.run_pure, Result.andThen_ok, invoke, builtin, e2]
        simp [hu]
      · cases h
    · rename_i hcal
      split at h
      · rename_i x y hargs
        have e1 := toList_two hargs
        have hx := eval_sound r x
        have hy := eval_sound r y
        unfold pmax at h
        split at h
        · rename_i k m k' n ex ey
          rw [ex] at hx
          rw [ey] at hy
          have hx : a.eval x = _ := hx
          have hy : a.eval y = _ := hy
          cases h
          refine ⟨_, ?_, rfl⟩
          simp only [Sem.run_bind, resolve, hcal, e1, Sem.run_pure, Result.andThen_ok, invoke, builtin]
          simp [Builtin.max_, Builtin.max2, hx, hy]
        · cases h
      · cases h
    · rename_i hcal
      split at h
      · rename_i x y hargs
        have e1 := toList_two hargs
        have hx := eval_sound r x
        have hy := eval_sound r y
        unfold pmin at h
        split at h
        · rename_i k m k' n ex ey
          rw [ex] at hx
          rw [ey] at hy
          have hx : a.eval x = _ := hx
          have hy : a.eval y = _ := hy
          cases h
          refine ⟨_, ?_, rfl⟩
          simp only [Sem.run_bind, resolve, hcal, e1, Sem.run_pure, Result.andThen_ok, invoke, builtin]
          simp [Builtin.min_, Builtin.min2, hx, hy]
        · cases h
      · cases h
    · cases h
  · cases h
end Go.Pv
-- PvMem
namespace Go.Pv
open Go Go.RowKit
variable {P : Program} {tt : TT} {G : Sett} {fl : Nat → Nat} {B : Nat} {s : Cf} {a : Act} {w : World}
theorem RelL.stor : ∀ (xs : List PV) (us : List Value), RelL G xs us → xs.all stor = true → ∀ c ∈ us, c.oneCell' = true
  | [], _, h, _, c, hc => by cases h; simp at hc
  | x :: xs, _, ⟨u, r, e, p, q⟩, h, c, hc => by
    subst e
    simp at h hc
    rcases hc with rfl | hc
    · exact stor_sound h.1 p
    · exact RelL.stor xs r q (by simpa using h.2) c hc
def storE (x : PV) : Bool := match cellsOf x with | some cs => cs.all stor | none => false
theorem storE_sound {x : PV} {u : Value} (h : storE x = true) (r : SlotRel G fl x u) : ∀ c ∈ u.cells.toList, c.oneCell' = true := by
  unfold storE at h
  split at h
  · rename_i cs hc
    exact RelL.stor _ _ (cellsOf_sound hc r) h
  · cases h
/-! ### the world with one block more, or one row written -/
theorem alloc_old (w : World) (o : Obj) {b : Nat} (h : b < w.heap.size) : (w.alloc o).heap[b]? = w.heap[b]? := Below.heap_alloc w o b h
theorem alloc_new (w : World) (o : Obj) : (w.alloc o).heap[w.heap.size]? = some o := by show (w.heap.push o)[w.heap.size]? = _; simp
theorem alloc_size (w : World) (o : Obj) : (w.alloc o).heap.size = w.heap.size + 1 := by show (w.heap.push o).size = _; simp
theorem cell_block {w w' : World} {b : Nat} (h : w'.heap[b]? = w.heap[b]?) (o : Nat) : w'.cell? ⟨b, o, none⟩ = w.cell? ⟨b, o, none⟩ := by simp [World.cell?, h]
theorem cell_lt {w : World} {b o : Nat} {v : Value} (h : w.cell? ⟨b, o, none⟩ = some v) : b < w.heap.size := by
  by_cases q : b < w.heap.size
  · exact q
  · rw [World.cell?, Array.getElem?_eq_none (by simpa using q)] at h; cases h
theorem ob_lt {w : World} {b : Nat} {o : Ob} (h : ObRel G o w.heap[b]?) : b < w.heap.size := by
  cases o with
  | cells cs => obtain ⟨us, t, e, _⟩ := h; exact block_lt e
  | map es => obtain ⟨us, t, e, _⟩ := h; exact block_lt e
theorem Inv.vary_lt {σ : St} (i : Inv G σ w) {b : Nat} (h : σ.vary b) : b < w.heap.size := by
  rcases h with h | h
  · cases e : σ.obj b with
    | none => exact absurd e h
    | some o => exact ob_lt (i.obj b o e).1
  · cases e : σ.own b with
    | none => exact absurd e h
    | some n => obtain ⟨⟨us, t, q⟩, _⟩ := i.own b n e; exact block_lt q
theorem Inv.fresh_cell {σ : St} (i : Inv G σ w) (k : Nat) : G.cell w.heap.size k = none := by
  cases e : G.cell w.heap.size k with
  | none => rfl
  | some v => exact absurd (cell_lt (i.cell _ _ _ e)) (Nat.lt_irrefl _)
theorem Inv.fresh_vary {σ : St} (i : Inv G σ w) : ¬ σ.vary w.heap.size := fun h => Nat.lt_irrefl _ (i.vary_lt h)
theorem not_vary {σ : St} {b : Nat} (h : ¬ σ.vary b) : σ.obj b = none ∧ σ.own b = none := by
  constructor
  · cases e : σ.obj b with
    | none => rfl
    | some o => exact absurd (.inl (by simp [e])) h
  · cases e : σ.own b with
    | none => rfl
    | some o => exact absurd (.inr (by simp [e])) h
/-- Old blocks as they were, what is settled as it was. -/
theorem Inv.grow {σ : St} {w' : World} (i : Inv G σ w) (h : ∀ b, b < w.heap.size → w'.heap[b]? = w.heap[b]?) : Inv G σ w' where
  cell := fun b o v e => (cell_block (h b (cell_lt (i.cell b o v e))) o).trans (i.cell b o v e)
  size := fun b s e => by
    obtain ⟨us, t, q, r⟩ := i.size b s e
    exact ⟨us, t, (h b (block_lt q)).trans q, r⟩
  obj := fun b o e => by
    obtain ⟨q, r⟩ := i.obj b o e
    rw [h b (ob_lt q)]
    exact ⟨q, r⟩
  own := fun b n e => by
    obtain ⟨⟨us, t, q⟩, r⟩ := i.own b n e
    exact ⟨⟨us, t, (h b (block_lt q)).trans q⟩, r⟩
  gl := i.gl
theorem Rep.step {G' : Sett} {σ' : St} {w' : World} (r : Rep G fl B s a w) (i : Inv G' σ' w') (st : Step w.heap.size G s.σ w G' σ' w') : Rep G' fl B { s with σ := σ' } a w' where
  inv := i
  size := r.size
  env := fun t => (r.env t).mono st.le
  loc := r.loc.step st
  defers := r.defers
  base := Nat.le_trans r.base st.size
theorem step_grow {σ : St} {w' : World} (h : ∀ b, b < w.heap.size → w'.heap[b]? = w.heap[b]?) (hs : w.heap.size ≤ w'.heap.size) (h1 : w'.os = w.os) (h2 : w'.tape = w.tape) (h3 : w'.output = w.output) : Step w.heap.size G σ w G σ w' :=
  ⟨Sett.le.refl _, hs, h1, h2, h3, fun b hb _ => ⟨h b hb, fun _ => rfl⟩, fun _ _ q => q, rfl⟩
theorem step_alloc {σ : St} (o : Obj) : Step w.heap.size G σ w G σ (w.alloc o) := step_grow (fun b hb => alloc_old w o hb) (by rw [alloc_size]; omega) rfl rfl rfl
/-- A new object. -/
theorem Inv.new {σ : St} (i : Inv G σ w) {ob : Ob} {o : Obj} (h : ObRel G ob (some o)) : Inv G (σ.set w.heap.size ob) (w.alloc o) where
  cell := (i.grow fun b hb => alloc_old w o hb).cell
  size := (i.grow fun b hb => alloc_old w o hb).size
  obj := fun b x e => by
    simp only [St.set] at e
    split at e
    · rename_i q; subst q
      cases e
      rw [alloc_new]
      exact ⟨h, i.fresh_cell⟩
    · exact (i.grow fun b hb => alloc_old w o hb).obj b x e
  own := fun b n e => by
    obtain ⟨q1, q2, q3⟩ := (i.grow fun b hb => alloc_old w o hb).own b n e
    refine ⟨q1, q2, ?_⟩
    simp only [St.set]
    rw [if_neg]
    · exact q3
    · intro q; subst q; exact i.fresh_vary (.inr (by rw [show σ.own _ = some n from e]; simp))
  gl := i.gl
theorem step_new {σ : St} (i : Inv G σ w) (ob : Ob) (o : Obj) : Step w.heap.size G σ w G (σ.set w.heap.size ob) (w.alloc o) where
  le := Sett.le.refl _
  size := by rw [alloc_size]; omega
  os := rfl
  tape := rfl
  output := rfl
  keep := fun b hb _ => ⟨alloc_old w o hb, fun _ => rfl⟩
  vary := fun b hb q => by
    rcases q with q | q
    · left
      simp only [St.set] at q
      rw [if_neg (by omega)] at q
      exact q
    · exact .inr q
  gl := rfl
/-- A row that is written: of an object. -/
theorem setRow_lt (w : World) (g : Nat) (cs : Array Value) : (w.setRow g cs).heap.size = w.heap.size := setRow_size w g cs
theorem Inv.write {σ : St} (i : Inv G σ w) {b : Nat} {us cs : Array Value} {t : TypeId} (hb : w.heap[b]? = some (.cells us t (0, 0))) (hn : ∀ k, G.cell b k = none) (hv : ¬ σ.vary b) (hs : cs.size = us.size) : Inv G σ (w.setRow b cs) where
  cell := fun b' o v e => by
    have : b' ≠ b := fun q => by subst q; rw [hn] at e; cases e
    rw [cell_block (setRow_other w b b' cs this)]; exact i.cell b' o v e
  size := fun b' s e => by
    obtain ⟨us', t', q, r⟩ := i.size b' s e
    by_cases hq : b' = b
    · subst hq
      rw [hb] at q
      cases q
      exact ⟨cs, t, setRow_heap w b' us cs t (0, 0) hb, by omega⟩
    · exact ⟨us', t', (setRow_other w b b' cs hq).trans q, r⟩
  obj := fun b' o e => by
    have : b' ≠ b := fun q => by subst q; exact hv (.inl (by rw [e]; simp))
    rw [setRow_other w b b' cs this]; exact i.obj b' o e
  own := fun b' n e => by
    have : b' ≠ b := fun q => by subst q; exact hv (.inr (by rw [e]; simp))
    rw [setRow_other w b b' cs this]; exact i.own b' n e
  gl := i.gl
theorem Inv.writeObj {σ : St} (i : Inv G σ w) {b : Nat} {us : Array Value} {vs : List Value} {t : TypeId} {ps ps' : List PV} (ho : σ.obj b = some (.cells ps)) (hb : w.heap[b]? = some (.cells us t (0, 0))) (hs : vs.length = us.size) (hr : RelL G ps' vs) : Inv G (σ.set b (.cells ps')) (w.setRow b vs.toArray) where
  cell := fun b' o v e => by
    have : b' ≠ b := fun q => by subst q; rw [(i.obj b' _ ho).2] at e; cases e
    rw [cell_block (setRow_other w b b' _ this)]; exact i.cell b' o v e
  size := fun b' s e => by
    obtain ⟨us', t', q, r⟩ := i.size b' s e
    by_cases hq : b' = b
    · subst hq
      rw [hb] at q
      cases q
      exact ⟨vs.toArray, t, setRow_heap w b' us _ t (0, 0) hb, by simpa using hs.trans r⟩
    · exact ⟨us', t', (setRow_other w b b' _ hq).trans q, r⟩
  obj := fun b' o e => by
    simp only [St.set] at e
    split at e
    · rename_i q; subst q
      cases e
      exact ⟨⟨vs.toArray, t, setRow_heap w b' us _ t (0, 0) hb, by simpa using hr⟩, (i.obj b' _ ho).2⟩
    · rename_i q
      rw [setRow_other w b b' _ q]; exact i.obj b' o e
  own := fun b' n e => by
    obtain ⟨q1, q2, q3⟩ := i.own b' n e
    have : b' ≠ b := fun q => by subst q; rw [ho] at q3; cases q3
    rw [setRow_other w b b' _ this]
    refine ⟨q1, q2, ?_⟩
    simp only [St.set]; rw [if_neg this]; exact q3
  gl := i.gl
theorem step_writeObj {σ : St} {b : Nat} {ps ps' : List PV} (ho : σ.obj b = some (.cells ps)) (cs : Array Value) (B : Nat) : Step B G σ w G (σ.set b (.cells ps')) (w.setRow b cs) where
  le := Sett.le.refl _
  size := Nat.le_of_eq (setRow_size w b cs).symm
  os := rfl
  tape := rfl
  output := rfl
  keep := fun b' _ hv => by
    have : b' ≠ b := fun q => by subst q; exact hv (.inl (by rw [ho]; simp))
    exact ⟨setRow_other w b b' cs this, fun _ => rfl⟩
  vary := fun b' _ q => by
    by_cases h : b' = b
    · subst h; exact .inl (by rw [ho]; simp)
    · rcases q with q | q
      · left; simp only [St.set] at q; rw [if_neg h] at q; exact q
      · exact .inr q
  gl := rfl
/-! ### local objects -/
def kill1 (d : Nat) : PV → PV
  | .lptr d' o => if d' = d then .undef else .lptr d' o
  | v => v
def kill (d : Nat) : List (Nat × PV) → List (Nat × PV)
  | [] => []
  | (t, v) :: r => (t, kill1 d v) :: kill d r
theorem get_kill (d : Nat) : ∀ (env : List (Nat × PV)) (t : Nat), get (kill d env) t = kill1 d (get env t)
  | [], t => rfl
  | (s, v) :: r, t => by
    simp only [kill, get]
    split
    · rfl
    · exact get_kill d r t
theorem kill1_rel {d b : Nat} {v : PV} {u : Value} (h : SlotRel G fl v u) : SlotRel G (fun x => if x = d then b else fl x) (kill1 d v) u := by
  cases v with
  | lptr d' o =>
    simp only [kill1]
    split
    · trivial
    · rename_i q
      show u = Value.pointer (some ⟨if d' = d then b else fl d', o, none⟩)
      rw [if_neg q]
      exact h
  | _ => exact h
theorem Rep.localNew (r : Rep G fl B s a w) (d : Nat) {cs : List PV} {us : List Value} (t : TypeId) (h : RelL G cs us) :
    Rep G (fun x => if x = d then w.heap.size else fl x) B { s with env := kill d s.env, loc := (d, cs) :: s.loc } a (w.alloc (.cells us.toArray t)) where
  inv := r.inv.grow fun b hb => alloc_old w _ hb
  size := r.size
  env := fun t => by
    show SlotRel _ _ (get (kill d s.env) t) _
    rw [get_kill]
    exact kill1_rel (r.env t)
  loc := by
    have hl := r.loc.step (step_alloc (G := G) (σ := s.σ) (w := w) (.cells us.toArray t))
    refine ⟨fun d' cs' e => ?_, fun d1 d2 h1 h2 e => ?_⟩
    · simp only [getL] at e
      split at e
      · rename_i q; subst q
        cases e
        simp only [if_true]
        refine ⟨⟨us.toArray, t, alloc_new w _, by simpa using h⟩, r.inv.fresh_vary, r.inv.fresh_cell, r.base⟩
      · rename_i q
        have q' : ¬ d' = d := fun z => q z.symm
        simp only [if_neg q']
        exact hl.at_ d' cs' e
    · have old : ∀ d', d' ≠ d → getL ((d, cs) :: s.loc) d' ≠ none → getL s.loc d' ≠ none ∧ fl d' < w.heap.size := fun d' hd hg => by
        simp only [getL] at hg
        rw [if_neg (fun z => hd z.symm)] at hg
        refine ⟨hg, ?_⟩
        cases e : getL s.loc d' with
        | none => exact absurd e hg
        | some c => obtain ⟨⟨us', t', q, _⟩, _⟩ := r.loc.at_ d' c e; exact block_lt q
      by_cases q1 : d1 = d
      · by_cases q2 : d2 = d
        · rw [q1, q2]
        · have := (old d2 q2 h2).2
          simp only [q1, if_true, if_neg q2] at e
          omega
      · by_cases q2 : d2 = d
        · have := (old d1 q1 h1).2
          simp only [q2, if_true, if_neg q1] at e
          omega
        · simp only [if_neg q1, if_neg q2] at e
          exact r.loc.inj d1 d2 (old d1 q1 h1).1 (old d2 q2 h2).1 e
  defers := r.defers
  base := Nat.le_trans r.base (by rw [alloc_size]; omega)
theorem Rep.localSet (r : Rep G fl B s a w) {d : Nat} {cs cs' : List PV} {us : Array Value} {vs : List Value} {t : TypeId} (hl : getL s.loc d = some cs) (hb : w.heap[fl d]? = some (.cells us t (0, 0))) (hs : vs.length = us.size) (h : RelL G cs' vs) :
    Rep G fl B { s with loc := (d, cs') :: s.loc } a (w.setRow (fl d) vs.toArray) where
  inv := by
    obtain ⟨_, hv, hn, _⟩ := r.loc.at_ d cs hl
    exact r.inv.write hb hn hv (by simpa using hs)
  size := r.size
  env := r.env
  loc := by
    have dom : ∀ d', getL ((d, cs') :: s.loc) d' ≠ none → getL s.loc d' ≠ none := fun d' h => by
      simp only [getL] at h
      split at h
      · rename_i q; subst q; rw [hl]; simp
      · exact h
    refine ⟨fun d' c e => ?_, fun d1 d2 h1 h2 e => r.loc.inj d1 d2 (dom d1 h1) (dom d2 h2) e⟩
    simp only [getL] at e
    split at e
    · rename_i q; subst q
      cases e
      obtain ⟨_, hv, hn, hB⟩ := r.loc.at_ d cs hl
      exact ⟨⟨vs.toArray, t, setRow_heap w _ us _ t (0, 0) hb, by simpa using h⟩, hv, hn, hB⟩
    · rename_i q
      obtain ⟨⟨us', t', hb', hr⟩, hv, hn, hB⟩ := r.loc.at_ d' c e
      have hne : fl d' ≠ fl d := fun z => q (r.loc.inj d' d (by rw [e]; simp) (by rw [hl]; simp) z).symm
      exact ⟨⟨us', t', (setRow_other w _ _ _ hne).trans hb', hr⟩, hv, hn, hB⟩
  defers := r.defers
  base := Nat.le_trans r.base (Nat.le_of_eq (setRow_size _ _ _).symm)
theorem step_localSet (r : Rep G fl B s a w) {d : Nat} {cs : List PV} (hl : getL s.loc d = some cs) (vs : Array Value) : Step B G s.σ w G s.σ (w.setRow (fl d) vs) where
  le := Sett.le.refl _
  size := Nat.le_of_eq (setRow_size _ _ _).symm
  os := rfl
  tape := rfl
  output := rfl
  keep := fun b hb _ => by
    obtain ⟨_, _, _, hB⟩ := r.loc.at_ d cs hl
    exact ⟨setRow_other w _ _ _ (by omega), fun _ => rfl⟩
  vary := fun _ _ q => q
  gl := rfl
end Go.Pv
-- PvAppend
namespace Go.Pv
open Go Go.RowKit
variable {P : Program} {tt : TT} {G : Sett} {fl : Nat → Nat} {B : Nat} {s : Cf} {a : Act} {w : World}
def capBlk : Cap → Option Nat
  | .known (some ad) _ => some ad.block
  | _ => none
/-- Nothing that is known lies behind the end of a slice. -/
def Owns (σ : St) (n sz : Nat) : Cap → Prop
  | .any => False
  | .full => True
  | .known none _ => True
  | .known (some ad) _ => σ.own ad.block = some (ad.off + n * sz)
structure Appended (σ : St) (k : Cap) (n sz : Nat) (k' : Cap) (σ' : St) : Prop where
  owns : Owns σ' n sz k'
  obj : σ'.obj = σ.obj
  gl : σ'.gl = σ.gl
  frame : ∀ b, capBlk k' ≠ some b → σ'.own b = σ.own b
  fresh : capBlk k' = capBlk k ∨ ∃ b, capBlk k' = some b ∧ σ.own b = none ∧ σ.obj b = none
def bytesP (z : ByteArray) : List PV := z.data.toList.map fun b => .val (.int .u8 b.toNat)
/-- The elements of what is appended. -/
def pelems (tt : TT) (t2 : TypeId) (y : PV) : Option (Nat × List PV) :=
  match dsc tt t2, y with
  | some (.slice _), .list _ sz ys => some (sz, ys)
  | some .string, .val (.string z) => some (1, bytesP z)
  | _, _ => none
def pappend (tt : TT) (s : Cf) (t t2 : TypeId) (x y : PV) (K : PV → Cf → Prop) : Prop :=
  match dsc tt t, x, pelems tt t2 y with
  | some (.slice e), .list k sz xs, some (sz2, ys) => match tt e with
    | some ie => sz = ie.size ∧ sz2 = ie.size ∧ (xs.length + ys.length) * ie.bytes ≤ 140737488355328 ∧ xs.length + ys.length ≤ 9223372036854775807 ∧ Owns s.σ xs.length sz k ∧
        ∀ k' σ', Appended s.σ k (xs.length + ys.length) sz k' σ' → K (.list k' sz (xs ++ ys)) { s with σ := σ' }
    | none => False
  | _, _, _ => False
theorem RelE.length {sz : Nat} : ∀ (xs : List PV) (us : List Value), RelE G sz xs us → us.length = xs.length * sz
  | [], _, h => by cases h; simp
  | x :: xs, _, ⟨u, r, e, hs, p, q⟩ => by
    subst e
    have hl : u.cells.toList.length = sz := by simpa using hs.1
    simp only [List.length_append, List.length_cons, RelE.length xs r q, hl, Nat.add_mul]
    omega
theorem RelE.append {sz : Nat} : ∀ (xs ys : List PV) (us vs : List Value), RelE G sz xs us → RelE G sz ys vs → RelE G sz (xs ++ ys) (us ++ vs)
  | [], _, _, _, h, k => by cases h; exact k
  | x :: xs, ys, _, vs, ⟨u, r, e, hs, p, q⟩, k => by subst e; exact ⟨u, r ++ vs, by simp, hs, p, RelE.append xs ys r vs q k⟩
theorem RelE.one {sz : Nat} : ∀ (xs : List PV) (us : List Value), RelE G sz xs us → ∀ c ∈ us, c.oneCell' = true
  | [], _, h, c, hc => by cases h; simp at hc
  | x :: xs, _, ⟨u, r, e, hs, p, q⟩, c, hc => by
    subst e
    simp only [List.mem_append] at hc
    rcases hc with hc | hc
    · exact hs.2 c hc
    · exact RelE.one xs r q c hc
/-- Cells that are settled anew: in a block from an offset on. -/
def Sett.put (G : Sett) (b off : Nat) (us : List Value) : Sett := { G with cell := fun b' k => if b' = b ∧ off ≤ k ∧ k < off + us.length then us[k - off]? else G.cell b' k }
theorem Sett.put_le {G : Sett} {b off : Nat} {us : List Value} (h : ∀ k, off ≤ k → G.cell b k = none) : G.le (G.put b off us) where
  cell := fun b' k v e => by
    simp only [Sett.put]
    rw [if_neg]
    · exact e
    · rintro ⟨rfl, q, _⟩
      rw [h k q] at e
      cases e
  size := fun _ _ e => e
theorem Sett.put_new {G : Sett} {b off : Nat} {us : List Value} (i : Nat) (v : Value) (h : us[i]? = some v) : (G.put b off us).cell b (off + i) = some v := by
  have hlt := (List.getElem?_eq_some_iff.1 h).1
  show (if b = b ∧ off ≤ off + i ∧ off + i < off + us.length then us[off + i - off]? else G.cell b (off + i)) = _
  rw [if_pos ⟨rfl, by omega, by omega⟩, show off + i - off = i by omega]
  exact h
theorem Sett.put_other {G : Sett} {b off : Nat} {us : List Value} {b' : Nat} (h : b' ≠ b) (k : Nat) : (G.put b off us).cell b' k = G.cell b' k := by
  simp only [Sett.put]
  rw [if_neg (fun q => h q.1)]
theorem cells_firstCells (w : World) {ad : Option Addr} {xs : List PV} {us : List Value} {n c : Nat} (hp : xs = [] ∨ ∃ d, ad = some d ∧ At G d us) (hl : us.length = n) (hx : xs = [] → us = [])
    (hc : ∀ b o v, G.cell b o = some v → w.cell? ⟨b, o, none⟩ = some v) (sz m : Nat) (hm : m * sz = n) : (Builtin.firstCells sz m (.slice ad m c)).run P w = .ok us.toArray w := by
  cases ad with
  | none =>
    rcases hp with hp | ⟨d, e, _⟩
    · rw [hx hp]; rfl
    · cases e
  | some d =>
    simp only [Builtin.firstCells]
    rw [hm, ← hl]
    refine run_loadCells_list (P := P) w d us fun j v hj => ?_
    rcases hp with hp | ⟨d', e, b, off, rfl, q⟩
    · rw [hx hp] at hj; simp at hj
    · cases e
      rw [addr_add]
      exact hc _ _ _ (q j v hj)
theorem bytesP_rel (z : ByteArray) : RelE G 1 (bytesP z) (z.data.toList.map fun b => .int .u8 b.toNat) := by
  unfold bytesP
  induction z.data.toList with
  | nil => rfl
  | cons b l ih => exact ⟨.int .u8 b.toNat, _, rfl, ⟨rfl, fun c hc => by simp [Value.cells] at hc; subst hc; rfl⟩, rfl, ih⟩
/-- What is appended, as cells. -/
theorem pelems_sound (hT : TOk P tt) (r : Rep G fl B s a w) {t2 : TypeId} {y : PV} {uy : Value} {sz : Nat} {ys : List PV} (h : pelems tt t2 y = some (sz, ys)) (hy : SlotRel G fl y uy) :
    ∃ us d, RelE G sz ys us ∧ P.underlying t2 = some d ∧ ((∃ e2, d = .slice e2) ∨ d = .string) ∧ (∀ w', (Builtin.lenOf uy).run P w' = .ok ys.length w') ∧
      ∀ w', (∀ b o v, G.cell b o = some v → w'.cell? ⟨b, o, none⟩ = some v) → (Builtin.firstCells sz ys.length uy).run P w' = .ok us.toArray w' := by
  unfold pelems at h
  have hn := hy
  split at h
  · rename_i e k sz' ys' hd
    cases h
    obtain ⟨it, hti, he⟩ := dsc_some hd
    have hu := hT.und _ _ hti
    rw [he] at hu
    obtain ⟨ad, c, rfl, hl, hk, us, hr, hp⟩ := hn
    refine ⟨us, _, hr, hu, .inl ⟨_, rfl⟩, fun _ => rfl, fun w' hw' => ?_⟩
    exact cells_firstCells w' hp (RelE.length _ _ hr) (fun q => by subst q; exact hr) hw' sz _ rfl
  · rename_i z hd
    cases h
    obtain ⟨it, hti, he⟩ := dsc_some hd
    have hu := hT.und _ _ hti
    rw [he] at hu
    have hn : uy = _ := hn
    subst hn
    have hlen : (bytesP z).length = z.size := by simp [bytesP]
    refine ⟨_, _, bytesP_rel z, hu, .inr rfl, fun _ => by rw [hlen]; rfl, fun w' _ => ?_⟩
    rw [hlen]
    simp only [Builtin.firstCells, Sem.run_pure]
    congr 1
    have : z.extract 0 z.size = z := by simp
    rw [this]
    apply Array.ext'
    simp
  · cases h
theorem append_in {t t2 ty e : TypeId} {uy : Value} {ad : Option Addr} {n m c : Nat} {size : Nat} {news : List Value} (hu : P.underlying t = some (.slice e)) {d2 : TypeDesc} (hu2 : P.underlying t2 = some d2) (hz : (∃ e2, d2 = .slice e2) ∨ d2 = .string)
    (hs : ∀ w', (sizeOf e).run P w' = .ok size w') (hl : ∀ w', (Builtin.lenOf uy).run P w' = .ok m w') (hf : (Builtin.firstCells size m uy).run P w = .ok news.toArray w) (hq : n + m ≤ c) :
    (Builtin.append_ #[t, t2] ty #[.slice ad n c, uy]).run P w = ((match ad with | some a => storeCells (a.add (n * size)) news | none => pure () : Sem Unit).run P w).andThen fun _ w' => .ok (.slice ad (n + m) c) w' := by
  rcases hz with ⟨e2, rfl⟩ | rfl
  all_goals
    simp [Builtin.append_, run_underlying hu, run_underlying hu2, hs, hl, hq, hf]
    cases ad <;> simp
theorem append_out {t t2 ty e : TypeId} {uy : Value} {ad : Option Addr} {n m c : Nat} {f : TypeInfo} {z : Value} {olds news : List Value} (hu : P.underlying t = some (.slice e)) {d2 : TypeDesc} (hu2 : P.underlying t2 = some d2) (hz : (∃ e2, d2 = .slice e2) ∨ d2 = .string)
    (hi : P.info? e = some f) (hzero : f.zero = some z) (hl : ∀ w', (Builtin.lenOf uy).run P w' = .ok m w') (hf : (Builtin.firstCells f.size m uy).run P w.drew = .ok news.toArray w.drew) (hf2 : (Builtin.firstCells f.size n (.slice ad n c)).run P w.drew = .ok olds.toArray w.drew)
    (hq : ¬ n + m ≤ c) (hm : n + m ≤ 9223372036854775807) (hb : (n + m) * f.bytes ≤ 140737488355328) :
    (Builtin.append_ #[t, t2] ty #[.slice ad n c, uy]).run P w = .ok (.slice (some ⟨w.heap.size, 0, none⟩) (n + m) (grownCap w (n + m) c e)) (w.drew.alloc (.cells (olds ++ news ++ (Builtin.zeroCells z.cells (grownCap w (n + m) c e - (n + m))).toList).toArray e)) := by
  have h63' : ¬ (9223372036854775807 < ((n : Int) + (m : Int))) := by omega
  have h48 : Builtin.nextslicecap (n + m) c * f.bytes ≤ 281474976710656 := growslice_fits (by omega) hb
  have h48' : ¬ (281474976710656 < Builtin.nextslicecap (n + m) c * f.bytes) := by omega
  rcases hz with ⟨e2, rfl⟩ | rfl
  all_goals
    simp [Builtin.append_, run_underlying hu, run_underlying hu2, sizeOf, typeInfo, zeroValue, hi, hzero, hl, hq, h63', h48', Question.forced, hf, hf2, newRow, grownCap]
    congr 2
    apply Array.ext'
    simp [List.append_assoc]
theorem storeCells_nil (ad : Addr) (w : World) : (storeCells ad []).run P w = .ok () w := rfl
theorem pset_at {us news : List Value} {o : Nat} : us.take o ++ news ++ us.drop (o + news.length) = pset us o news := by simp [pset]
/-- In place: the tail of a row that is owned. -/
theorem fill_inv {σ : St} (i : Inv G σ w) {b n : Nat} {us : Array Value} {t : TypeId} {news : List Value} (hb : w.heap[b]? = some (.cells us t (0, 0))) (ho : σ.own b = some n) (hfit : n + news.length ≤ us.size) :
    Inv (G.put b n news) (σ.fill b (n + news.length)) (w.setRow b (pset us.toList n news).toArray) ∧ Step w.heap.size G σ w (G.put b n news) (σ.fill b (n + news.length)) (w.setRow b (pset us.toList n news).toArray) := by
  obtain ⟨_, hn, hobj⟩ := i.own b n ho
  have hle : G.le (G.put b n news) := Sett.put_le hn
  have hlen : (pset us.toList n news).length = us.size := by rw [pset_length _ _ _ (by simpa using hfit)]; simp
  have hnew := setRow_heap w b us (pset us.toList n news).toArray t (0, 0) hb
  refine ⟨⟨?_, ?_, ?_, ?_, ?_⟩, ⟨hle, by rw [setRow_size]; exact Nat.le_refl _, rfl, rfl, rfl, ?_, ?_, rfl⟩⟩
  · intro b' o v e
    by_cases hq : b' = b
    · subst hq
      rw [cell_heap hnew]
      by_cases hk : n ≤ o ∧ o < n + news.length
      · have e' : (if b' = b' ∧ n ≤ o ∧ o < n + news.length then news[o - n]? else G.cell b' o) = some v := e
        rw [if_pos ⟨rfl, hk⟩] at e'
        simp only [pset]
        rw [List.getElem?_toArray, List.getElem?_append_right (by simp; omega)]
        simp only [List.length_take]
        rw [show o - min n us.toList.length = o - n by simp; omega, List.getElem?_append_left (by omega)]
        exact e'
      · have e' : (if b' = b' ∧ n ≤ o ∧ o < n + news.length then news[o - n]? else G.cell b' o) = some v := e
        rw [if_neg (fun z => hk z.2)] at e'
        have hlt : o < n := by
          by_cases z : o < n
          · exact z
          · rw [hn o (by omega)] at e'; cases e'
        have hc := i.cell b' o v e'
        rw [cell_heap hb] at hc
        simp only [pset]
        rw [List.getElem?_toArray, List.getElem?_append_left (by simp; have := (Array.getElem?_eq_some_iff.1 hc).1; omega), List.getElem?_take, if_pos hlt]
        simpa using hc
    · rw [Sett.put_other hq] at e
      rw [cell_block (setRow_other w b b' _ hq)]
      exact i.cell b' o v e
  · intro b' s' e
    obtain ⟨us', t', q, r⟩ := i.size b' s' e
    by_cases hq : b' = b
    · subst hq
      rw [hb] at q
      cases q
      exact ⟨_, t, hnew, by rw [← r]; simpa using hlen⟩
    · exact ⟨us', t', (setRow_other w b b' _ hq).trans q, r⟩
  · intro b' o e
    have hq : b' ≠ b := fun z => by subst z; rw [show σ.obj b' = some o from e] at hobj; cases hobj
    obtain ⟨q, r⟩ := i.obj b' o e
    rw [setRow_other w b b' _ hq]
    exact ⟨q.mono hle, fun k => by rw [Sett.put_other hq]; exact r k⟩
  · intro b' m e
    by_cases hq : b' = b
    · subst hq
      have e' : (if b' = b' then some (n + news.length) else σ.own b') = some m := e
      rw [if_pos rfl] at e'
      cases e'
      refine ⟨⟨_, t, hnew⟩, fun k hk => ?_, hobj⟩
      show (if b' = b' ∧ n ≤ k ∧ k < n + news.length then news[k - n]? else G.cell b' k) = none
      rw [if_neg (by omega)]
      exact hn k (by omega)
    · have e' : (if b' = b then some (n + news.length) else σ.own b') = some m := e
      rw [if_neg hq] at e'
      obtain ⟨q1, q2, q3⟩ := i.own b' m e'
      rw [setRow_other w b b' _ hq]
      exact ⟨q1, fun k hk => by rw [Sett.put_other hq]; exact q2 k hk, q3⟩
  · intro g cs e
    obtain ⟨us', q, r⟩ := i.gl g cs e
    exact ⟨us', RelL.mono hle _ _ q, fun k v hk => hle.cell _ _ _ (r k v hk)⟩
  · intro b' _ hv
    have hq : b' ≠ b := fun z => by subst z; exact hv (.inr (by rw [ho]; simp))
    exact ⟨setRow_other w b b' _ hq, fun k => Sett.put_other hq k⟩
  · intro b' _ q
    rcases q with q | q
    · exact .inl q
    · right
      have q' : (if b' = b then some (n + news.length) else σ.own b') ≠ none := q
      by_cases hq : b' = b
      · subst hq; rw [ho]; simp
      · rw [if_neg hq] at q'; exact q'
/-- A row of its own. -/
def Sett.row (G : Sett) (b : Nat) (us : List Value) (n : Nat) : Sett := { G.put b 0 us with size := fun x => if x = b then some n else G.size x }
theorem row_inv {σ : St} (i : Inv G σ w) {us rest : List Value} {t : TypeId} :
    Inv (G.row w.heap.size us (us ++ rest).length) (σ.fill w.heap.size us.length) (w.alloc (.cells (us ++ rest).toArray t)) ∧ Step w.heap.size G σ w (G.row w.heap.size us (us ++ rest).length) (σ.fill w.heap.size us.length) (w.alloc (.cells (us ++ rest).toArray t)) := by
  have hfc := i.fresh_cell
  have hnv := not_vary i.fresh_vary
  have hcell : ∀ b' k, (G.row w.heap.size us (us ++ rest).length).cell b' k = (G.put w.heap.size 0 us).cell b' k := fun _ _ => rfl
  have hle : G.le (G.row w.heap.size us (us ++ rest).length) := by
    refine ⟨(Sett.put_le (fun k _ => hfc k)).cell, fun b' s' e => ?_⟩
    show (if b' = w.heap.size then some _ else G.size b') = some s'
    rw [if_neg]
    · exact e
    · intro z; subst z
      obtain ⟨_, _, q, _⟩ := i.size _ _ e
      exact Nat.lt_irrefl _ (block_lt q)
  have hnew := alloc_new w (.cells (us ++ rest).toArray t)
  have gi := i.grow (w' := w.alloc (.cells (us ++ rest).toArray t)) fun b hb => alloc_old w _ hb
  refine ⟨⟨?_, ?_, ?_, ?_, ?_⟩, ⟨hle, by rw [alloc_size]; omega, rfl, rfl, rfl, ?_, ?_, rfl⟩⟩
  · intro b' o v e
    rw [hcell] at e
    by_cases hq : b' = w.heap.size
    · subst hq
      rw [cell_heap hnew]
      have e' : (if w.heap.size = w.heap.size ∧ 0 ≤ o ∧ o < 0 + us.length then us[o - 0]? else G.cell w.heap.size o) = some v := e
      by_cases hk : o < us.length
      · rw [if_pos ⟨rfl, by omega, by omega⟩] at e'
        rw [List.getElem?_toArray, List.getElem?_append_left hk]
        exact e'
      · rw [if_neg (by omega), hfc] at e'; cases e'
    · rw [Sett.put_other hq] at e
      exact gi.cell b' o v e
  · intro b' s' e
    have e' : (if b' = w.heap.size then some (us ++ rest).length else G.size b') = some s' := e
    by_cases hq : b' = w.heap.size
    · rw [if_pos hq] at e'
      subst hq
      cases e'
      exact ⟨_, t, hnew, by simp⟩
    · rw [if_neg hq] at e'
      exact gi.size b' s' e'
  · intro b' o e
    have hq : b' ≠ w.heap.size := fun z => by subst z; rw [show σ.obj _ = some o from e] at hnv; cases hnv.1
    obtain ⟨q, r⟩ := gi.obj b' o e
    exact ⟨q.mono hle, fun k => by rw [hcell, Sett.put_other hq]; exact r k⟩
  · intro b' m e
    have e' : (if b' = w.heap.size then some us.length else σ.own b') = some m := e
    by_cases hq : b' = w.heap.size
    · rw [if_pos hq] at e'
      subst hq
      cases e'
      refine ⟨⟨_, t, hnew⟩, fun k hk => ?_, hnv.1⟩
      rw [hcell]
      show (if w.heap.size = w.heap.size ∧ 0 ≤ k ∧ k < 0 + us.length then us[k - 0]? else G.cell w.heap.size k) = none
      rw [if_neg (by omega)]
      exact hfc k
    · rw [if_neg hq] at e'
      obtain ⟨q1, q2, q3⟩ := gi.own b' m e'
      exact ⟨q1, fun k hk => by rw [hcell, Sett.put_other hq]; exact q2 k hk, q3⟩
  · intro g cs e
    obtain ⟨us', q, r⟩ := i.gl g cs e
    exact ⟨us', RelL.mono hle _ _ q, fun k v hk => hle.cell _ _ _ (r k v hk)⟩
  · intro b' hb' _
    exact ⟨alloc_old w _ hb', fun k => by rw [hcell, Sett.put_other (by omega)]⟩
  · intro b' hb' q
    rcases q with q | q
    · exact .inl q
    · right
      have q' : (if b' = w.heap.size then some us.length else σ.own b') ≠ none := q
      rw [if_neg (by omega)] at q'
      exact q'
theorem append_run (hT : TOk P tt) (r : Rep G fl B s a w) {t t2 ty e : TypeId} {y : PV} {ux uy : Value} {k : Cap} {sz sz2 : Nat} {xs ys : List PV} {ie : TI}
    (hd : dsc tt t = some (.slice e)) (hie : tt e = some ie) (hx : SlotRel G fl (.list k sz xs) ux) (hpe : pelems tt t2 y = some (sz2, ys)) (hy : SlotRel G fl y uy)
    (h1 : sz = ie.size) (h2 : sz2 = ie.size) (hb : (xs.length + ys.length) * ie.bytes ≤ 140737488355328) (hm : xs.length + ys.length ≤ 9223372036854775807) (ho : Owns s.σ xs.length sz k) :
    ∃ u w' G' k' σ', (Builtin.append_ #[t, t2] ty #[ux, uy]).run P w = .ok u w' ∧ Appended s.σ k (xs.length + ys.length) sz k' σ' ∧ Rel G' (.list k' sz (xs ++ ys)) u ∧ Inv G' σ' w' ∧ Step w.heap.size G s.σ w G' σ' w' := by
  subst h1 h2
  obtain ⟨it, hti, he⟩ := dsc_some hd
  have hu := hT.und _ _ hti
  rw [he] at hu
  obtain ⟨ns, d2, hnr, hu2, hz, hlen, hfirst⟩ := pelems_sound hT r hpe hy
  obtain ⟨ad, c, rfl, hl, hk, us, hr, hp⟩ := hx
  have hul := RelE.length _ _ hr
  have hnl := RelE.length _ _ hnr
  obtain ⟨fi, hfi, hfs, hfb, z, hfz, hzc, hzr⟩ := hT.info _ _ hie
  have hcell := r.inv.cell
  have hsz : ∀ w', (sizeOf e).run P w' = .ok ie.size w' := fun w' => tt_size hT hie
  have happ := RelE.append _ _ _ _ hr hnr
  by_cases hq : xs.length + ys.length ≤ c
  · have hin := append_in (P := P) (ty := ty) (ad := ad) (n := xs.length) hu hu2 hz hsz hlen (hfirst w hcell) hq
    cases k with
    | any => exact ho.elim
    | full =>
      have hk : c = xs.length := hk
      have hys : ys = [] := List.eq_nil_of_length_eq_zero (by omega)
      subst hys
      have hns : ns = [] := hnr
      subst hns
      refine ⟨.slice ad xs.length c, w, G, .full, s.σ, ?_, ⟨trivial, rfl, rfl, fun _ _ => rfl, .inl rfl⟩, ?_, r.inv, Step.refl _ _ _ _⟩
      · rw [hin]; cases ad <;> simp [storeCells]
      · rw [List.append_nil]; exact ⟨ad, c, rfl, hl, hk, us, hr, hp⟩
    | known a' c' =>
      obtain ⟨rfl, rfl, hkk⟩ := hk
      rcases hkk with ⟨rfl, rfl⟩ | ⟨b, off, sx, rfl, hsx, hle⟩
      · have hys : ys = [] := List.eq_nil_of_length_eq_zero (by omega)
        subst hys
        refine ⟨.slice none xs.length 0, w, G, .known none 0, s.σ, ?_, ⟨trivial, rfl, rfl, fun _ _ => rfl, .inl rfl⟩, ?_, r.inv, Step.refl _ _ _ _⟩
        · rw [hin]; simp
        · rw [List.append_nil]; exact ⟨none, 0, rfl, hl, ⟨rfl, rfl, .inl ⟨rfl, rfl⟩⟩, us, hr, hp⟩
      · have ho' : s.σ.own b = some (off + xs.length * ie.size) := ho
        obtain ⟨cur, t', hcur, hcs⟩ := r.inv.size b sx hsx
        have hfit : off + xs.length * ie.size + ns.length ≤ cur.size := by
          rw [hnl, hcs]
          have : xs.length * ie.size + ys.length * ie.size ≤ c' * ie.size := by rw [← Nat.add_mul]; exact Nat.mul_le_mul_right _ hq
          omega
        have hst := run_storeCells_at P b (off + xs.length * ie.size) t' ns 0 cur w hcur (by simpa using hfit) (RelE.one _ _ hnr)
        rw [Nat.add_zero, pset_at] at hst
        obtain ⟨hi', hstep⟩ := fill_inv r.inv hcur ho' hfit
        refine ⟨.slice (some ⟨b, off, none⟩) (xs.length + ys.length) c', _, _, .known (some ⟨b, off, none⟩) c', s.σ.fill b (off + xs.length * ie.size + ns.length), ?_, ⟨?_, rfl, rfl, ?_, .inl rfl⟩, ?_, hi', hstep⟩
        · rw [hin]
          simp only [addr_add, hst, Result.andThen_ok]
        · show (if b = b then _ else _) = _
          rw [if_pos rfl, hnl, Nat.add_mul, Nat.add_assoc]
        · intro b' hb'
          show (if b' = b then _ else s.σ.own b') = _
          rw [if_neg]
          intro q; subst q; exact hb' rfl
        · refine ⟨some ⟨b, off, none⟩, c', by rw [List.length_append], by rw [List.length_append]; exact hq, ⟨rfl, rfl, .inr ⟨b, off, sx, rfl, hsx, hle⟩⟩, us ++ ns, RelE.mono hstep.le _ _ happ, .inr ⟨_, rfl, b, off, rfl, fun i v hv => ?_⟩⟩
          by_cases hi : i < us.length
          · rw [List.getElem?_append_left hi] at hv
            rcases hp with hp | ⟨ad', e', b2, off2, e2, q⟩
            · have h0 : us.length = 0 := by rw [hul, hp]; simp
              omega
            · cases e'
              cases e2
              exact hstep.le.cell _ _ _ (q i v hv)
          · rw [List.getElem?_append_right (by omega)] at hv
            have := Sett.put_new (G := G) (b := b) (off := off + xs.length * ie.size) (us := ns) (i - us.length) v hv
            rw [show off + xs.length * ie.size + (i - us.length) = off + i by omega] at this
            exact this
  · have hdrew : ∀ b o v, G.cell b o = some v → w.drew.cell? ⟨b, o, none⟩ = some v := hcell
    have hf1 := hfirst w.drew hdrew
    have hf2 := cells_firstCells (P := P) (c := c) w.drew hp hul (fun q => by subst q; exact hr) hdrew ie.size xs.length rfl
    rw [← hfs] at hf1 hf2
    have hout := append_out (P := P) (ty := ty) (ad := ad) (n := xs.length) hu hu2 hz hfi hfz hlen hf1 hf2 hq hm (by rw [hfb]; exact hb)
    have hid : Inv G s.σ w.drew := r.inv.grow fun _ _ => rfl
    obtain ⟨hi', hstep⟩ := row_inv (t := e) hid (us := us ++ ns) (rest := (Builtin.zeroCells z.cells (grownCap w (xs.length + ys.length) c e - (xs.length + ys.length))).toList)
    have hstep' : Step w.heap.size G s.σ w _ _ _ := Step.trans (step_grow (G := G) (σ := s.σ) (w := w) (w' := w.drew) (fun _ _ => rfl) (Nat.le_refl _) rfl rfl rfl) hstep
    have hge := grownCap_ge w (xs.length + ys.length) c e
    refine ⟨.slice (some ⟨w.heap.size, 0, none⟩) (xs.length + ys.length) (grownCap w (xs.length + ys.length) c e), _, _, .known (some ⟨w.heap.size, 0, none⟩) (grownCap w (xs.length + ys.length) c e), s.σ.fill w.heap.size (us ++ ns).length, hout, ⟨?_, rfl, rfl, ?_, .inr ⟨w.heap.size, rfl, ?_, ?_⟩⟩, ?_, hi', hstep'⟩
    · show (if w.heap.size = w.heap.size then some (us ++ ns).length else _) = _
      rw [if_pos rfl, List.length_append, hul, hnl, Nat.add_mul]
      simp
    · intro b' hb'
      show (if b' = w.heap.size then _ else s.σ.own b') = _
      rw [if_neg]
      intro q; subst q; exact hb' rfl
    · exact (not_vary r.inv.fresh_vary).2
    · exact (not_vary r.inv.fresh_vary).1
    · refine ⟨some ⟨w.heap.size, 0, none⟩, _, by rw [List.length_append], by rw [List.length_append]; exact hge, ⟨rfl, rfl, .inr ⟨w.heap.size, 0, (us ++ ns ++ (Builtin.zeroCells z.cells (grownCap w (xs.length + ys.length) c e - (xs.length + ys.length))).toList).length, rfl, if_pos rfl, ?_⟩⟩, us ++ ns, RelE.mono hstep.le _ _ happ, .inr ⟨_, rfl, w.heap.size, 0, rfl, fun i v hv => ?_⟩⟩
      · simp only [List.length_append, Array.length_toList, size_zeroCells, hzc, hul, hnl]
        rw [← Nat.add_mul, ← Nat.add_mul, Nat.zero_add]
        apply Nat.mul_le_mul_right
        omega
      · have := Sett.put_new (G := G) (b := w.heap.size) (off := 0) (us := us ++ ns) i v hv
        exact this
end Go.Pv
-- PvVapp
namespace Go.Pv
open Go Go.RowKit
variable {P : Program} {tt : TT} {G : Sett} {fl : Nat → Nat} {B : Nat} {s : Cf} {a : Act} {w : World}
/-! ### append to a slice whose cells belong to the state -/
/-- The cells of elements. -/
def cellsAll : List PV → Option (List PV)
  | [] => some []
  | y :: ys => match cellsOf y, cellsAll ys with
    | some c, some cs => some (c ++ cs)
    | _, _ => none
theorem cellsAll_rel {sz : Nat} : ∀ (ys cs : List PV) (ns : List Value), cellsAll ys = some cs → RelE G sz ys ns → RelL G cs ns
  | [], cs, ns, h, r => by cases h; exact r
  | y :: ys, cs, ns, h, ⟨u, rest, e, _, hy, hr⟩ => by
    simp only [cellsAll] at h
    split at h
    · rename_i c cs' h1 h2
      cases h
      subst e
      exact RelL.append _ _ _ _ (cellsOf_sound (fl := fun x => x) h1 hy.slot) (cellsAll_rel ys cs' rest h2 hr)
    · cases h
theorem RelL.undefs (G : Sett) : ∀ us : List Value, RelL G (List.replicate us.length .undef) us
  | [] => rfl
  | u :: us => ⟨u, us, rfl, trivial, RelL.undefs G us⟩
def pappendV (tt : TT) (s : Cf) (t t2 : TypeId) (x y : PV) (K : PV → Cf → Prop) : Prop :=
  match dsc tt t, pelems tt t2 y with
  | some (.slice e), some (sz2, ys) => match tt e, cellsAll ys with
    | some ie, some cs => sz2 = ie.size ∧ match x with
      | .list .full _ [] => 0 < ys.length ∧ ys.length * ie.bytes ≤ 140737488355328 ∧ ys.length ≤ 9223372036854775807 ∧
          ∀ b c, s.σ.obj b = none → s.σ.own b = none → ys.length ≤ c → K (.val (.slice (some ⟨b, 0, none⟩) ys.length c)) { s with σ := s.σ.set b (.cells (cs ++ List.replicate ((c - ys.length) * ie.size) .undef)) }
      | .val (.slice (some ⟨b, 0, none⟩) n c) => (n + ys.length) * ie.bytes ≤ 140737488355328 ∧ n + ys.length ≤ 9223372036854775807 ∧ n ≤ c ∧ match s.σ.obj b with
        | some (.cells ds) => ds.length = c * ie.size ∧
            (n + ys.length ≤ c → K (.val (.slice (some ⟨b, 0, none⟩) (n + ys.length) c)) { s with σ := s.σ.set b (.cells (pset ds (n * ie.size) cs)) }) ∧
            (c < n + ys.length → ∀ b' c', s.σ.obj b' = none → s.σ.own b' = none → n + ys.length ≤ c' → K (.val (.slice (some ⟨b', 0, none⟩) (n + ys.length) c')) { s with σ := s.σ.set b' (.cells (ds.take (n * ie.size) ++ cs ++ List.replicate ((c' - (n + ys.length)) * ie.size) .undef)) })
        | _ => False
      | _ => False
    | _, _ => False
  | _, _ => False
theorem appendV_run (hT : TOk P tt) (r : Rep G fl B s a w) {t t2 ty : TypeId} {x y : PV} {ux uy : Value} {K : PV → Cf → Prop} (h : pappendV tt s t t2 x y K) (hx : SlotRel G fl x ux) (hy : SlotRel G fl y uy) :
    ∃ u w' v σ', (Builtin.append_ #[t, t2] ty #[ux, uy]).run P w = .ok u w' ∧ K v { s with σ := σ' } ∧ v = .val u ∧ Inv G σ' w' ∧ Step w.heap.size G s.σ w G σ' w' := by
  unfold pappendV at h
  split at h
  · rename_i e sz2 ys hd hpe
    obtain ⟨it, hti, he⟩ := dsc_some hd
    have hu := hT.und _ _ hti
    rw [he] at hu
    obtain ⟨ns, d2, hnr, hu2, hz, hlen, hfirst⟩ := pelems_sound hT r hpe hy
    split at h
    · rename_i ie cs hie hcs
      obtain ⟨h2, h⟩ := h
      subst h2
      have hnl := RelE.length _ _ hnr
      have hncs := cellsAll_rel _ _ _ hcs hnr
      have hcl := RelL.length _ _ hncs
      obtain ⟨fi, hfi, hfs, hfb, z, hfz, hzc, hzr⟩ := hT.info _ _ hie
      have hcell := r.inv.cell
      have hsz : ∀ w', (sizeOf e).run P w' = .ok ie.size w' := fun w' => tt_size hT hie
      have hdrew : ∀ b o v, G.cell b o = some v → w.drew.cell? ⟨b, o, none⟩ = some v := hcell
      have hf1 := hfirst w.drew hdrew
      rw [← hfs] at hf1
      have hid : Inv G s.σ w.drew := r.inv.grow fun _ _ => rfl
      have hst0 : Step w.heap.size G s.σ w G s.σ w.drew := step_grow (G := G) (σ := s.σ) (w := w) (w' := w.drew) (fun _ _ => rfl) (Nat.le_refl _) rfl rfl rfl
      have hfresh := not_vary r.inv.fresh_vary
      have zlen : ∀ k, (Builtin.zeroCells z.cells k).toList.length = k * ie.size := fun k => by rw [Array.length_toList, size_zeroCells, hzc]
      split at h
      · obtain ⟨hpos, hb, hm, hK⟩ := h
        obtain ⟨ad, c, rfl, hl, hk, us, hr, hp⟩ := hx
        have hk : c = 0 := hk
        subst hk
        have hus : us = [] := hr
        subst hus
        have hq : ¬ 0 + ys.length ≤ 0 := by omega
        have hf2 : (Builtin.firstCells fi.size 0 (.slice ad 0 0)).run P w.drew = .ok ([] : List Value).toArray w.drew := cells_firstCells (G := G) (xs := []) (us := []) (n := 0) w.drew (.inl rfl) rfl (fun _ => rfl) hdrew fi.size 0 (by simp)
        have hout := append_out (P := P) (ty := ty) (ad := ad) (n := 0) (c := 0) hu hu2 hz hfi hfz hlen hf1 hf2 hq (by omega) (by rw [hfb]; simpa using hb)
        simp only [Nat.zero_add] at hout
        have hge := grownCap_ge w ys.length 0 e
        have hrel : ObRel G (.cells (cs ++ List.replicate ((grownCap w ys.length 0 e - ys.length) * ie.size) .undef)) (some (.cells ([] ++ ns ++ (Builtin.zeroCells z.cells (grownCap w ys.length 0 e - ys.length)).toList).toArray e (0, 0))) := by
          refine ⟨_, _, rfl, ?_⟩
          simp only [List.nil_append]
          rw [← zlen]
          exact RelL.append _ _ _ _ hncs (RelL.undefs G _)
        refine ⟨_, _, _, _, hout, hK w.heap.size _ hfresh.1 hfresh.2 hge, rfl, hid.new hrel, Step.trans hst0 (step_new hid _ _)⟩
      · rename_i b n c
        obtain ⟨hb, hm, hnc, h⟩ := h
        split at h
        · rename_i ds hds
          obtain ⟨hdl, hin, hout⟩ := h
          obtain rfl : ux = _ := hx
          obtain ⟨⟨cur, T, hcur, hrc⟩, _⟩ := r.inv.obj b _ hds
          have hcurl := RelL.length _ _ hrc
          rw [Array.length_toList, hdl] at hcurl
          by_cases hq : n + ys.length ≤ c
          · have hrun := append_in (P := P) (ty := ty) (ad := some ⟨b, 0, none⟩) (n := n) hu hu2 hz hsz hlen (hfirst w hcell) hq
            have hfit : n * ie.size + ns.length ≤ cur.size := by
              rw [hnl, hcurl, ← Nat.add_mul]; exact Nat.mul_le_mul_right _ hq
            have hst := run_storeCells_at P b (n * ie.size) T ns 0 cur w hcur (by simpa using hfit) (RelE.one _ _ hnr)
            rw [Nat.add_zero, pset_at] at hst
            have hinv := r.inv.writeObj hds hcur (vs := pset cur.toList (n * ie.size) ns) (by rw [pset_length _ _ _ (by simpa using hfit)]; simp) (pset_rel hrc hncs)
            refine ⟨_, _, _, _, ?_, hin hq, rfl, hinv, step_writeObj hds _ _⟩
            rw [hrun]
            simp only [addr_add, Nat.zero_add, hst, Result.andThen_ok]
          · have hf2 : (Builtin.firstCells fi.size n (.slice (some ⟨b, 0, none⟩) n c)).run P w.drew = .ok (cur.toList.take (n * ie.size)).toArray w.drew := by
              simp only [Builtin.firstCells]
              have hle : n * ie.size ≤ cur.size := by rw [hcurl]; exact Nat.mul_le_mul_right _ hnc
              have hl2 : n * fi.size = (cur.toList.take (n * ie.size)).length := by rw [hfs]; simp; omega
              rw [hl2]
              refine run_loadCells_list (P := P) w.drew _ _ fun j v hj => ?_
              rw [addr_add, Nat.zero_add]
              have hcd : w.drew.heap[b]? = some (.cells cur T (0, 0)) := hcur
              rw [cell_heap hcd]
              rw [List.getElem?_take] at hj
              split at hj
              · simpa using hj
              · cases hj
            have ho := append_out (P := P) (ty := ty) (ad := some ⟨b, 0, none⟩) (n := n) (c := c) hu hu2 hz hfi hfz hlen hf1 hf2 hq hm (by rw [hfb]; exact hb)
            have hge := grownCap_ge w (n + ys.length) c e
            have hrel : ObRel G (.cells (ds.take (n * ie.size) ++ cs ++ List.replicate ((grownCap w (n + ys.length) c e - (n + ys.length)) * ie.size) .undef)) (some (.cells (cur.toList.take (n * ie.size) ++ ns ++ (Builtin.zeroCells z.cells (grownCap w (n + ys.length) c e - (n + ys.length))).toList).toArray e (0, 0))) := by
              refine ⟨_, _, rfl, ?_⟩
              have zl := zlen (grownCap w (n + ys.length) c e - (n + ys.length))
              rw [← zl]
              exact RelL.append _ _ _ _ (RelL.append _ _ _ _ (RelL.take _ _ _ hrc) hncs) (RelL.undefs G _)
            refine ⟨_, _, _, _, ho, hout (by omega) w.heap.size _ hfresh.1 hfresh.2 hge, rfl, hid.new hrel, Step.trans hst0 (step_new hid _ _)⟩
        · cases h
      · cases h
    · cases h
  · cases h
end Go.Pv
-- PvEff
namespace Go.Pv
open Go Go.RowKit
variable {P : Program} {tt : TT} {G : Sett} {fl : Nat → Nat} {B : Nat} {s : Cf} {a : Act} {w : World}
inductive Res where
  | ret (v : PV)
  | panic (v : PV)
def ResRel (G : Sett) : Res → Ending → Prop
  | .ret v, e => ∃ u, e = .returned u ∧ Rel G v u
  | .panic v, e => ∃ u, e = .panicked [{ v := u, recovered := false }] ∧ Rel G v u
def Goes (P : Program) (g : FuncId) : Prop := ∃ fn, P.funcs[g]? = some fn ∧ (fn.name == "runtime.NumGoroutine") = false ∧ fn.body.isNone = false
/-- What a call comes to: of a function, arguments, a state; K holds of what it answers and of the state behind it. -/
def PCalls (P : Program) (f : FuncId) (args : List PV) (σ : St) (K : Res → St → Prop) : Prop :=
  Goes P f ∧ ∀ (G : Sett) (w : World) (us : List Value), Inv G σ w → RelL G args us →
    Calls P f us.toArray w fun e w' => ∃ r σ' G', K r σ' ∧ ResRel G' r e ∧ Inv G' σ' w' ∧ Step w.heap.size G σ w G' σ' w'
theorem PCalls.mono {f : FuncId} {args : List PV} {σ : St} {K K' : Res → St → Prop} (h : PCalls P f args σ K) (hk : ∀ r σ', K r σ' → K' r σ') : PCalls P f args σ K' :=
  ⟨h.1, fun G w us i r => (h.2 G w us i r).mono fun e w' ⟨r, σ', G', k, q⟩ => ⟨r, σ', G', hk _ _ k, q⟩⟩
theorem PCalls.forget {f : FuncId} {args : List PV} {σ : St} {K : Res → St → Prop} (h : PCalls P f (forgets args) σ K) : PCalls P f args σ K :=
  ⟨h.1, fun G w us i r => h.2 G w us i (RelL.forget _ _ r)⟩
/-- The state behind a call, with less known of it. -/
theorem PCalls.sub {f : FuncId} {args : List PV} {σ : St} {K : Res → St → Prop} (h : PCalls P f args σ fun r σ' => ∃ τ, τ.sub σ' ∧ K r τ) : PCalls P f args σ K :=
  ⟨h.1, fun G w us i r => (h.2 G w us i r).mono fun e w' ⟨r, σ', G', ⟨τ, ht, k⟩, hr, hi, hs⟩ => ⟨r, τ, G', k, hr, hi.sub ht, hs.sub ht⟩⟩
def undefV : PV := .val Go.undef
def noL1 (d : Nat) : PV → Bool
  | .lptr d' _ => d' != d
  | _ => true
/-- No slot points to an object. -/
def noL (d : Nat) : List (Nat × PV) → Bool
  | [] => true
  | (_, v) :: r => noL1 d v && noL d r
theorem kill1_noL {d : Nat} {v : PV} (h : noL1 d v = true) : kill1 d v = v := by
  cases v with
  | lptr e o =>
    simp only [noL1, bne_iff_ne, ne_eq] at h
    simp only [kill1, if_neg h]
  | _ => rfl
theorem kill_noL {d : Nat} : ∀ (env : List (Nat × PV)), noL d env = true → kill d env = env
  | [], _ => rfl
  | (t, v) :: r, h => by
    simp only [noL, Bool.and_eq_true] at h
    simp only [kill, kill1_noL h.1, kill_noL r h.2]
theorem get_noL {d : Nat} {env : List (Nat × PV)} (h : noL d env = true) {t e o : Nat} (q : get env t = .lptr e o) : e ≠ d := by
  have := get_kill d env t
  rw [kill_noL env h, q] at this
  intro z
  simp only [kill1, if_pos z] at this
  cases this
/-- An operation that makes a local object. -/
def isLA (esc : List Nat) (o : Oper) : Bool := match o.op with
  | .alloc _ | .box _ _ => match o.dst with | some d => !esc.contains d | none => false
  | _ => false
/-- The slots and the local objects are the same ones. -/
structure Same (fl : Nat → Nat) (s : Cf) (fl' : Nat → Nat) (s' : Cf) : Prop where
  fl : fl' = fl
  env : s'.env = s.env
  loc : ∀ d, getL s'.loc d = none ↔ getL s.loc d = none
theorem Same.refl (fl : Nat → Nat) (s : Cf) (σ : St) : Same fl s fl { s with σ := σ } := ⟨rfl, rfl, fun _ => Iff.rfl⟩
theorem Same.store (fl : Nat → Nat) {s : Cf} {d : Nat} {cs : List PV} (h : getL s.loc d = some cs) (cs' : List PV) : Same fl s fl { s with loc := (d, cs') :: s.loc } := by
  refine ⟨rfl, rfl, fun d' => ?_⟩
  simp only [getL]
  split
  · rename_i q; subst q; simp [h]
  · exact Iff.rfl
/-- A new variable: a local one, or an object of the state. -/
def pnew (esc : List Nat) (s : Cf) (d : Nat) (cs : List PV) (K : PV → Cf → Prop) : Prop :=
  if esc.contains d then ∀ b, s.σ.obj b = none → s.σ.own b = none → K (.val (.pointer (some ⟨b, 0, none⟩))) { s with σ := s.σ.set b (.cells cs) }
  else noL d s.env = true ∧ K (.lptr d 0) { s with loc := (d, cs) :: s.loc }
def pstore (tt : TT) (s : Cf) (t : TypeId) (ad v : PV) (K : PV → Cf → Prop) : Prop :=
  match tt t, cellsOf v with
  | some i, some vs => vs.length = i.size ∧ vs.all stor = true ∧ match ad with
    | .lptr d off => match getL s.loc d with
      | some cs => off + vs.length ≤ cs.length ∧ K undefV { s with loc := (d, pset cs off vs) :: s.loc }
      | none => False
    | .val (.pointer (some ⟨b, off, none⟩)) => match s.σ.obj b with
      | some (.cells cs) => off + vs.length ≤ cs.length ∧ K undefV { s with σ := s.σ.set b (.cells (pset cs off vs)) }
      | _ => False
    | _ => False
  | _, _ => False
def pfillE (tt : TT) (sz : Nat) : List PV → List (Nat × PV) → Option (List PV)
  | xs, [] => some xs
  | xs, (i, v) :: r => match cellsOf v with
    | some cs => if i < xs.length ∧ cs.length = sz ∧ cs.all stor = true then pfillE tt sz (xs.set i (forget v)) r else none
    | none => none
/-- A slice out of its elements. -/
def pbuildV (tt : TT) (t : TypeId) (n : Nat) (ps : List (Nat × PV)) : Option PV :=
  match dsc tt t with
  | some (.slice e) => match tt e with
    | some ie => match pfillE tt ie.size (List.replicate n (forget ie.zero)) ps with
      | some xs => if n * ie.size ≤ 16777216 ∧ 0 < ie.size ∧ storE ie.zero = true then some (.list .full ie.size xs) else none
      | none => none
    | none => none
  | _ => none
def resK (s : Cf) (K X : PV → Cf → Prop) : Res → St → Prop
  | .ret v, σ' => K v { s with σ := σ' }
  | .panic v, σ' => X v { s with σ := σ' }
def pargs (tt : TT) (s : Cf) : List Operand → List TypeId → List PV
  | [], _ => []
  | x :: xs, t :: ts => evn tt s t x :: pargs tt s xs ts
  | x :: xs, [] => eval s x :: pargs tt s xs []
def pcall (P : Program) (tt : TT) (s : Cf) (c : Call) (f : PV) (K X : PV → Cf → Prop) : Prop :=
  match f with
  | .val (.func (.func g) fst caps) => (pargs tt s c.args.toList c.argTypes.toList).all notL = true ∧
      PCalls P g (fst.toList.map .val ++ pargs tt s c.args.toList c.argTypes.toList ++ caps.toList.map .val) s.σ (resK s K X)
  | _ => False
def vput (d : TypeDesc) (k v : Value) : List (Value × Value) → Option (List (Value × Value))
  | [] => some [(k, v)]
  | (k', x) :: r => match Instr.sameNow d k k' with
    | some true => some ((k, v) :: r)
    | some false => (vput d k v r).map ((k', x) :: ·)
    | none => none
def pmapUpdate (tt : TT) (s : Cf) (t : TypeId) (m k v : PV) (K : PV → Cf → Prop) : Prop :=
  match dsc tt t, m, k, v with
  | some (.map kt _), .val (.map (some b)), .val kv, .val vv => match dsc tt kt with
    | some kd => keyD kd = true ∧ match s.σ.obj b with
      | some (.map es) => match vput kd kv vv es with
        | some es' => K undefV { s with σ := s.σ.set b (.map es') }
        | none => False
      | _ => False
    | none => False
  | _, _, _, _ => False
/-- Whether a slice that is appended to belongs to the state: the slot says so. -/
def inEsc (esc : List Nat) : Option Nat → Bool
  | some d => esc.contains d
  | none => false
def papp (tt : TT) (esc : List Nat) (s : Cf) (d : Option Nat) (t t2 : TypeId) (x y : PV) (K : PV → Cf → Prop) : Prop :=
  match inEsc esc d with
  | true => pappendV tt s t t2 x y K
  | false => pappend tt s t t2 x y K
def palloc (tt : TT) (esc : List Nat) (s : Cf) (dst : Option Nat) (t : TypeId) (K : PV → Cf → Prop) : Prop :=
  match dst, tt t with
  | some d, some i => match cellsOf i.zero with
    | some cs => pnew esc s d cs K
    | none => False
  | _, _ => False
def pbox (esc : List Nat) (s : Cf) (dst : Option Nat) (v : PV) (K : PV → Cf → Prop) : Prop :=
  match dst, cellsOf v with
  | some d, some cs => pnew esc s d cs K
  | _, _ => False
def pret (s : Cf) (v : Option PV) (K : PV → Cf → Prop) : Prop :=
  match v with
  | some v => K v s
  | none => False
/-- What an operation does that turns memory, or calls. K: what follows; X: where it panics. -/
def peff (P : Program) (tt : TT) (esc : List Nat) (s : Cf) (o : Oper) (K X : PV → Cf → Prop) : Prop :=
  match o.op with
  | .store t ad x => pstore tt s t (eval s ad) (evn tt s t x) K
  | .alloc t => palloc tt esc s o.dst t K
  | .box t x => pbox esc s o.dst (evn tt s t x) K
  | .buildSlice t n ps => pret s (pbuildV tt t n (pparts s ps.toList)) K
  | .makeMap t none => ∀ b, s.σ.obj b = none → s.σ.own b = none → K (.val (.map (some b))) { s with σ := s.σ.set b (.map []) }
  | .mapUpdate t m k v | .insert t m k v => pmapUpdate tt s t (eval s m) (eval s k) (eval s v) K
  | .panic x => match eval s x with
    | .iface t v => X (.iface t v) s
    | _ => False
  | .call c => match c.callee with
    | .value f => pcall P tt s c (eval s f) K X
    | .builtin .append => match c.args.toList, c.argTypes.toList with
      | [x, y], [t, t2] => papp tt esc s o.dst t t2 (evn tt s t x) (evn tt s t2 y) K
      | _, _ => False
    | .builtin .panic => match c.args.toList with
      | [x] => match eval s x with
        | .iface t v => X (.iface t v) s
        | _ => False
      | _ => False
    | _ => False
  | _ => False
/-! ### soundness, one operation after the other -/
theorem Rep.slot (r : Rep G fl B s a w) {G' : Sett} (h : G.le G') {v : PV} {u : Value} (q : SlotRel G fl v u) : SlotRel G' fl v u := q.mono h
/-- What peff's soundness says. -/
def EffOk (P : Program) (B : Nat) (G : Sett) (fl : Nat → Nat) (la : Bool) (s : Cf) (o : Oper) (a : Act) (w : World) (K X : PV → Cf → Prop) : Prop :=
  (∃ u w' v s' G' fl', (execOp a.eval o).run P w = .ok (.value u) w' ∧ K v s' ∧ Rep G' fl' B s' a w' ∧ SlotRel G' fl' v u ∧ Step B G s.σ w G' s'.σ w' ∧ s'.n = s.n ∧ (la = false → Same fl s fl' s' ∧ notL v = true)) ∨
  (∃ w' v s' G' fl', (execOp a.eval o).run P w = .ok .skip w' ∧ K v s' ∧ Rep G' fl' B s' a w' ∧ v = undefV ∧ Step B G s.σ w G' s'.σ w' ∧ s'.n = s.n ∧ (la = false → Same fl s fl' s' ∧ notL v = true)) ∨
  (∃ u v s', (execOp a.eval o).run P w = .halt (.panic u) w ∧ X v s' ∧ s' = s ∧ Rel G v u) ∨
  (∃ g args, (execOp a.eval o).run P w = .ok (.enter g args) w ∧ Calls P g args w fun e w' => ∃ r σ' G', resK s K X r σ' ∧ ResRel G' r e ∧ Inv G' σ' w' ∧ Step w.heap.size G s.σ w G' σ' w')
theorem step_base (r : Rep G fl B s a w) {G' : Sett} {σ' : St} {w' : World} (h : Step w.heap.size G s.σ w G' σ' w') : Step B G s.σ w G' σ' w' := h.mono r.base
theorem pnew_sound (r : Rep G fl B s a w) {esc : List Nat} {la : Bool} {d : Nat} {cs : List PV} {us : List Value} {K X : PV → Cf → Prop} {o : Oper} {T : TypeId} (h : pnew esc s d cs K) (hla : esc.contains d = false → la = true) (hr : RelL G cs us)
    (hrun : (execOp a.eval o).run P w = .ok (.value (.pointer (some ⟨w.heap.size, 0, none⟩))) (w.alloc (.cells us.toArray T))) : EffOk P B G fl la s o a w K X := by
  unfold pnew at h
  split at h
  · have hnv := not_vary r.inv.fresh_vary
    have hb := h w.heap.size hnv.1 hnv.2
    have hi := r.inv.new (ob := .cells cs) (o := .cells us.toArray T) ⟨us.toArray, T, rfl, by simpa using hr⟩
    have hs := step_new r.inv (.cells cs) (.cells us.toArray T)
    exact .inl ⟨_, _, _, _, G, fl, hrun, hb, r.step hi hs, rfl, step_base r hs, rfl, fun _ => ⟨Same.refl _ _ _, rfl⟩⟩
  · rename_i he
    have hl := r.localNew d T hr
    rw [kill_noL _ h.1] at hl
    refine .inl ⟨_, _, _, _, G, _, hrun, h.2, hl, ?_, step_base r (step_alloc _), rfl, fun q => by rw [hla (by simpa using he)] at q; cases q⟩
    show _ = Value.pointer (some ⟨if d = d then w.heap.size else fl d, 0, none⟩)
    rw [if_pos rfl]
theorem cells_arr (u : Value) : u.cells = u.cells.toList.toArray := by simp
theorem peff_alloc (hT : TOk P tt) (r : Rep G fl B s a w) {esc : List Nat} {K X : PV → Cf → Prop} {o : Oper} {t : TypeId} (hop : o.op = .alloc t) (h : peff P tt esc s o K X) : EffOk P B G fl (isLA esc o) s o a w K X := by
  simp only [peff, hop, palloc] at h
  split at h
  · rename_i d i hd hi
    obtain ⟨z, hz, hzc, hzr⟩ := tt_zero hT hi (w := w)
    split at h
    · rename_i cs hc
      have hr := cellsOf_sound (G := G) (fl := fl) hc (Rel.slot (hzr G))
      refine pnew_sound r h (fun q => by simp only [isLA, hop, hd, q]; rfl) hr (T := t) ?_
      simp only [execOp, hop, Sem.run_bind, Instr.alloc, hz, Result.andThen_ok]
      rw [← cells_arr]
      rfl
    · cases h
  · cases h
theorem peff_box (hT : TOk P tt) (r : Rep G fl B s a w) {esc : List Nat} {K X : PV → Cf → Prop} {o : Oper} {t : TypeId} {x : Operand} (hop : o.op = .box t x) (h : peff P tt esc s o K X) : EffOk P B G fl (isLA esc o) s o a w K X := by
  simp only [peff, hop, pbox] at h
  split at h
  · rename_i d cs hd hc
    have hr := cellsOf_sound (G := G) (fl := fl) hc (evn_sound r t x)
    refine pnew_sound r h (fun q => by simp only [isLA, hop, hd, q]; rfl) hr (T := t) ?_
    simp only [execOp, hop, Sem.run_bind, Instr.box]
    rw [← cells_arr]
    rfl
  · cases h
theorem peff_store (hT : TOk P tt) (r : Rep G fl B s a w) {esc : List Nat} {K X : PV → Cf → Prop} {o : Oper} {t : TypeId} {ad x : Operand} (hop : o.op = .store t ad x) (h : peff P tt esc s o K X) : EffOk P B G fl (isLA esc o) s o a w K X := by
  simp only [peff, hop] at h
  have hx := evn_sound (tt := tt) r t x
  have hadr := eval_sound r ad
  unfold pstore at h
  split at h
  · rename_i i vs hi hc
    obtain ⟨hlen, hst, h⟩ := h
    have hcs := cellsOf_sound hc hx
    have hul := RelL.length _ _ hcs
    have hone := RelL.stor _ _ hcs hst
    have hsz : (a.eval x).cells.size = i.size := by rw [← Array.length_toList, hul, hlen]
    have run : ∀ b off cur T, w.heap[b]? = some (.cells cur T (0, 0)) → off + vs.length ≤ cur.size → a.eval ad = .pointer (some ⟨b, off, none⟩) →
        (execOp a.eval o).run P w = .ok .skip (w.setRow b (pset cur.toList off (a.eval x).cells.toList).toArray) := by
      intro b off cur T hb hfit hae
      have hrs := run_storeCells_at P b off T (a.eval x).cells.toList 0 cur w hb (by rw [hul]; simpa using hfit) hone
      rw [Nat.add_zero, pset_at] at hrs
      simp only [execOp, hop, Sem.run_bind, Instr.storeAt, hae, Instr.sureAddr, Sem.run_pure, Result.andThen_ok, storeVar, tt_size hT hi]
      rw [if_neg (by simp [hsz])]
      simp only [Sem.run_bind, Sem.run_pure, Result.andThen_ok, hrs]
    split at h
    · rename_i d off he
      rw [he] at hadr
      split at h
      · rename_i cs hl
        obtain ⟨hfit, hK⟩ := h
        obtain ⟨⟨cur, T, hb, hr⟩, _⟩ := r.loc.at_ d cs hl
        have hcl := RelL.length _ _ hr
        have hfit' : off + vs.length ≤ cur.size := by simp at hcl; omega
        have hrun := run (fl d) off cur T hb hfit' hadr
        have hnew := r.localSet hl hb (vs := pset cur.toList off (a.eval x).cells.toList) (by rw [pset_length _ _ _ (by simp [hul] at *; omega)]; simp) (pset_rel hr hcs)
        exact .inr (.inl ⟨_, _, _, G, fl, hrun, hK, hnew, rfl, step_localSet r hl _, rfl, fun _ => ⟨Same.store _ hl _, rfl⟩⟩)
      · cases h
    · rename_i b off he
      rw [he] at hadr
      split at h
      · rename_i cs ho
        obtain ⟨hfit, hK⟩ := h
        obtain ⟨⟨cur, T, hb, hr⟩, _⟩ := r.inv.obj b _ ho
        have hcl := RelL.length _ _ hr
        have hfit' : off + vs.length ≤ cur.size := by simp at hcl; omega
        have hrun := run b off cur T hb hfit' hadr
        have hinv := r.inv.writeObj ho hb (vs := pset cur.toList off (a.eval x).cells.toList) (by rw [pset_length _ _ _ (by simp [hul] at *; omega)]; simp) (pset_rel hr hcs)
        have hst2 := fun B' => step_writeObj (G := G) (w := w) ho (pset cur.toList off (a.eval x).cells.toList).toArray (ps' := pset cs off vs) B'
        exact .inr (.inl ⟨_, _, _, G, fl, hrun, hK, r.step hinv (hst2 _), rfl, hst2 _, rfl, fun _ => ⟨Same.refl _ _ _, rfl⟩⟩)
      · cases h
    · cases h
  · cases h
theorem pappend_sound (hT : TOk P tt) (r : Rep G fl B s a w) {la : Bool} {K X : PV → Cf → Prop} {o : Oper} {c : Call} {x y : Operand} {t t2 : TypeId} (hop : o.op = .call c) (hc : c.callee = .builtin .append) (ha : c.args = #[x, y]) (hty : c.argTypes = #[t, t2])
    (h : pappend tt s t t2 (evn tt s t x) (evn tt s t2 y) K) : EffOk P B G fl la s o a w K X := by
  unfold pappend at h
  split at h
  · rename_i e k sz xs sz2 ys hd hn hpe
    split at h
    · rename_i ie hie
      obtain ⟨h1, h2, hb, hm, ho, hK⟩ := h
      have hx := evn_sound (tt := tt) r t x
      rw [hn] at hx
      obtain ⟨u, w', G', k', σ', hrun, happ, hrel, hinv, hstep⟩ := append_run (ty := o.type) hT r hd hie hx hpe (evn_sound (tt := tt) r t2 y) h1 h2 hb hm ho
      refine .inl ⟨u, w', _, _, G', fl, ?_, hK k' σ' happ, r.step hinv hstep, hrel.slot, step_base r hstep, rfl, fun _ => ⟨Same.refl _ _ _, rfl⟩⟩
      simp only [execOp, hop, resolve, hc, ha, Sem.run_bind, Sem.run_pure, Result.andThen_ok, invoke, builtin, hty]
      simp [hrun]
    · cases h
  · cases h
theorem pappendV_sound (hT : TOk P tt) (r : Rep G fl B s a w) {la : Bool} {K X : PV → Cf → Prop} {o : Oper} {c : Call} {x y : Operand} {t t2 : TypeId} (hop : o.op = .call c) (hc : c.callee = .builtin .append) (ha : c.args = #[x, y]) (hty : c.argTypes = #[t, t2])
    (h : pappendV tt s t t2 (evn tt s t x) (evn tt s t2 y) K) : EffOk P B G fl la s o a w K X := by
  obtain ⟨u, w', v, σ', hrun, hK, rfl, hinv, hstep⟩ := appendV_run (ty := o.type) hT r h (evn_sound (tt := tt) r t x) (evn_sound (tt := tt) r t2 y)
  refine .inl ⟨u, w', _, _, G, fl, ?_, hK, r.step hinv hstep, rfl, step_base r hstep, rfl, fun _ => ⟨Same.refl _ _ _, rfl⟩⟩
  simp only [execOp, hop, resolve, hc, ha, Sem.run_bind, Sem.run_pure, Result.andThen_ok, invoke, builtin, hty]
  simp [hrun]
theorem papp_sound (hT : TOk P tt) (r : Rep G fl B s a w) {la : Bool} {esc : List Nat} {K X : PV → Cf → Prop} {o : Oper} {c : Call} {x y : Operand} {t t2 : TypeId} (hop : o.op = .call c) (hc : c.callee = .builtin .append) (ha : c.args = #[x, y]) (hty : c.argTypes = #[t, t2])
    (h : papp tt esc s o.dst t t2 (evn tt s t x) (evn tt s t2 y) K) : EffOk P B G fl la s o a w K X := by
  unfold papp at h
  split at h
  · exact pappendV_sound hT r hop hc ha hty h
  · exact pappend_sound hT r hop hc ha hty h
theorem pargs_rel (r : Rep G fl B s a w) : ∀ (xs : List Operand) (ts : List TypeId), (pargs tt s xs ts).all notL = true → RelL G (pargs tt s xs ts) (xs.map a.eval)
  | [], _, _ => by simp [pargs, RelL]
  | x :: xs, t :: ts, h => by
    simp only [pargs, List.all_cons, Bool.and_eq_true] at h
    exact ⟨_, _, rfl, (evn_sound r t x).rel h.1, pargs_rel r xs ts h.2⟩
  | x :: xs, [], h => by
    simp only [pargs, List.all_cons, Bool.and_eq_true] at h
    exact ⟨_, _, rfl, (eval_sound r x).rel h.1, pargs_rel r xs [] h.2⟩
theorem pcall_sound (r : Rep G fl B s a w) {la : Bool} {K X : PV → Cf → Prop} {o : Oper} {c : Call} {f : Operand} (hop : o.op = .call c) (hc : c.callee = .value f) (h : pcall P tt s c (eval s f) K X) : EffOk P B G fl la s o a w K X := by
  unfold pcall at h
  split at h
  · rename_i g fst caps he
    have hf := eval_sound r f
    rw [he] at hf
    have hf : a.eval f = _ := hf
    obtain ⟨hn, ⟨fn, hfn, hname, hbody⟩, hcall⟩ := h
    have hargs := pargs_rel r c.args.toList c.argTypes.toList hn
    have hall := RelL.append _ _ _ _ (RelL.append _ _ _ _ (RelL.vals (G := G) fst.toList) hargs) (RelL.vals (G := G) caps.toList)
    have hcalls := hcall G w _ r.inv hall
    refine .inr (.inr (.inr ⟨g, _, ?_, hcalls⟩))
    have e1 : (fst.toList ++ c.args.toList.map a.eval ++ caps.toList).toArray = fst ++ c.args.map a.eval ++ caps := by apply Array.ext'; simp
    rw [e1]
    simp only [execOp, hop, resolve, hc, hf, Deferred.ofValue, Sem.run_bind, Sem.run_pure, Result.andThen_ok, invoke, callFunc]
    simp [program, Sem.run, hfn]
    rw [if_neg (by simpa using hname), if_neg (by intro q; rw [q] at hbody; simp at hbody)]
  · cases h
theorem vput_find (d : TypeDesc) (k v : Value) : ∀ (es : List MapEntry) (l l' : List (Value × Value)) (i : Nat), es.map (fun e => (e.key, e.val)) = l → vput d k v l = some l' →
    (Instr.findNow d k es i = some none ∧ l' = l ++ [(k, v)]) ∨ (∃ j e x, Instr.findNow d k es i = some (some (i + j, x)) ∧ es[j]? = some e ∧ Instr.sameNow d k e.key = some true ∧ (es.modify j fun e => { e with key := k, val := v }).map (fun e => (e.key, e.val)) = l')
  | [], l, l', i, h, q => by subst h; cases q; exact .inl ⟨rfl, rfl⟩
  | e :: es, l, l', i, h, q => by
    subst h
    simp only [List.map_cons, vput] at q
    simp only [Instr.findNow]
    cases hs : Instr.sameNow d k e.key with
    | none => simp [hs] at q
    | some b => cases b with
      | true =>
        simp [hs] at q
        subst q
        exact .inr ⟨0, e, e.val, rfl, rfl, hs, by simp⟩
      | false =>
        simp [hs] at q
        obtain ⟨m, hm, rfl⟩ := q
        rcases vput_find d k v es _ m (i + 1) rfl hm with ⟨h1, h2⟩ | ⟨j, e', x, h1, h2, h3, h4⟩
        · exact .inl ⟨h1, by rw [h2]; rfl⟩
        · refine .inr ⟨j + 1, e', x, by rw [h1, show i + 1 + j = i + (j + 1) by omega], by simpa using h2, h3, by simp [h4]⟩
theorem same_eq {d : TypeDesc} (hd : keyD d = true) {k k' : Value} (h : Instr.sameNow d k k' = some true) : k' = k ∧ Instr.sameBits 10000 k' k = true := by
  cases d <;> first | cases hd | skip
  all_goals
    cases k <;> cases k' <;> simp [Instr.sameNow] at h
    all_goals first
      | (subst h; simp [Instr.sameBits])
      | (obtain ⟨rfl, rfl⟩ := h; simp [Instr.sameBits])
      | (rw [MapKept.bytes_beq] at h; subst h; simp [Instr.sameBits, MapKept.bytes_beq])
      | (simp_all [Instr.sameBits])
theorem Inv.writeMap {σ : St} (i : Inv G σ w) {b : Nat} {es es' : List (Value × Value)} {en en' : Array MapEntry} {cl cl' : Nat} (ho : σ.obj b = some (.map es)) (hb : w.heap[b]? = some (.map en cl)) (hr : en'.toList.map (fun e => (e.key, e.val)) = es') :
    Inv G (σ.set b (.map es')) { w with heap := w.heap.setIfInBounds b (.map en' cl') } ∧ ∀ B, Step B G σ w G (σ.set b (.map es')) { w with heap := w.heap.setIfInBounds b (.map en' cl') } := by
  have hlt := block_lt hb
  have hother : ∀ b', b' ≠ b → ({ w with heap := w.heap.setIfInBounds b (.map en' cl') } : World).heap[b']? = w.heap[b']? := fun b' q => by
    show (w.heap.setIfInBounds b _)[b']? = _
    rw [Array.getElem?_setIfInBounds_ne (fun z => q z.symm)]
  have hnew : ({ w with heap := w.heap.setIfInBounds b (.map en' cl') } : World).heap[b]? = some (.map en' cl') := by
    show (w.heap.setIfInBounds b _)[b]? = _
    rw [Array.getElem?_setIfInBounds_self_of_lt hlt]
  refine ⟨⟨?_, ?_, ?_, ?_, i.gl⟩, fun B => ⟨Sett.le.refl _, by show _ ≤ (w.heap.setIfInBounds b _).size; simp, rfl, rfl, rfl, ?_, ?_, rfl⟩⟩
  · intro b' o v e
    have hq : b' ≠ b := fun q => by subst q; rw [(i.obj b' _ ho).2] at e; cases e
    rw [cell_block (hother b' hq)]
    exact i.cell b' o v e
  · intro b' s e
    obtain ⟨us', t', q, r⟩ := i.size b' s e
    have hq : b' ≠ b := fun z => by subst z; rw [hb] at q; cases q
    exact ⟨us', t', (hother b' hq).trans q, r⟩
  · intro b' o e
    simp only [St.set] at e
    split at e
    · rename_i q; subst q
      cases e
      exact ⟨⟨en', cl', hnew, hr⟩, (i.obj b' _ ho).2⟩
    · rename_i q
      rw [hother b' q]
      exact i.obj b' o e
  · intro b' n e
    obtain ⟨q1, q2, q3⟩ := i.own b' n e
    have hq : b' ≠ b := fun q => by subst q; rw [ho] at q3; cases q3
    rw [hother b' hq]
    refine ⟨q1, q2, ?_⟩
    simp only [St.set]; rw [if_neg hq]; exact q3
  · intro b' _ hv
    have hq : b' ≠ b := fun q => by subst q; exact hv (.inl (by rw [ho]; simp))
    exact ⟨hother b' hq, fun _ => rfl⟩
  · intro b' _ q
    by_cases h : b' = b
    · subst h; exact .inl (by rw [ho]; simp)
    · rcases q with q | q
      · left; simp only [St.set] at q; rw [if_neg h] at q; exact q
      · exact .inr q
theorem pmapUpdate_sound (hT : TOk P tt) (r : Rep G fl B s a w) {la : Bool} {K X : PV → Cf → Prop} {o : Oper} {t : TypeId} {m k v : Operand} (hop : o.op = .mapUpdate t m k v ∨ o.op = .insert t m k v)
    (h : pmapUpdate tt s t (eval s m) (eval s k) (eval s v) K) : EffOk P B G fl la s o a w K X := by
  unfold pmapUpdate at h
  split at h
  · rename_i kt et b kv vv hd em ek ev
    obtain ⟨it, hti, he⟩ := dsc_some hd
    have hu := hT.und _ _ hti
    rw [he] at hu
    have hm := eval_sound r m
    have hk := eval_sound r k
    have hv := eval_sound r v
    rw [em] at hm
    rw [ek] at hk
    rw [ev] at hv
    have hm : a.eval m = _ := hm
    have hk : a.eval k = _ := hk
    have hv : a.eval v = _ := hv
    split at h
    · rename_i kd hkd
      obtain ⟨ik, hik, rfl⟩ := dsc_some hkd
      have huk := hT.und _ _ hik
      obtain ⟨hkey, h⟩ := h
      split at h
      · rename_i es hes
        split at h
        · rename_i es' hes'
          obtain ⟨⟨en, cl, hb, hmap⟩, _⟩ := r.inv.obj _ _ hes
          have hc : ∀ e, (Instr.checkKey e 10000 kt kv).run P w = .ok () w := fun e => checkKey_run huk hkey e 9999 kv
          have main : ∃ en' cl', (Instr.mapUpdate t (.map (some b)) kv vv).run P w = .ok () { w with heap := w.heap.setIfInBounds b (.map en' cl') } ∧ en'.toList.map (fun e => (e.key, e.val)) = es' := by
            rcases vput_find ik.desc kv vv en.toList es es' 0 hmap hes' with ⟨h1, h2⟩ | ⟨j, e, x, h1, h2, h3, h4⟩
            · have hff := MapKept.run_findKey (w := w) huk h1
              refine ⟨en.push { key := kv, val := vv, born := cl }, cl + 1, ?_, by rw [h2, ← hmap]; simp⟩
              simp only [Instr.mapUpdate, Sem.run_bind, run_underlying hu, Result.andThen_ok, MapKept.run_getObj_map hb, hc, hff]
              rw [MapKept.run_setObj_map _ hb]
            · have hff := MapKept.run_findKey (w := w) huk h1
              obtain ⟨e1, e2⟩ := same_eq hkey h3
              refine ⟨en.modify j fun e => { e with key := kv, val := vv }, cl, ?_, by rw [← h4]; simp⟩
              have h2' : ((en[j]?).map (·.key)).getD kv = e.key := by rw [← Array.getElem?_toList, h2]; rfl
              rw [Nat.zero_add] at hff
              simp only [Instr.mapUpdate, Sem.run_bind, run_underlying hu, Result.andThen_ok, MapKept.run_getObj_map hb, hc, hff, h2', Instr.keyThatStays, e2, if_true, Sem.run_pure]
              rw [MapKept.run_setObj_map _ hb]
          obtain ⟨en', cl', hrun, hr⟩ := main
          obtain ⟨hi, hs⟩ := r.inv.writeMap (cl' := cl') hes hb hr
          refine .inr (.inl ⟨_, _, _, G, fl, ?_, h, r.step hi (hs _), rfl, hs _, rfl, fun _ => ⟨Same.refl _ _ _, rfl⟩⟩)
          rcases hop with hop | hop <;> simp only [execOp, hop, Sem.run_bind, hm, hk, hv, hrun, Result.andThen_ok, Sem.run_pure]
        · cases h
      · cases h
    · cases h
  · cases h
theorem peff_makeMap (r : Rep G fl B s a w) {esc : List Nat} {K X : PV → Cf → Prop} {o : Oper} {t : TypeId} (hop : o.op = .makeMap t none) (h : peff P tt esc s o K X) : EffOk P B G fl (isLA esc o) s o a w K X := by
  simp only [peff, hop] at h
  have hnv := not_vary r.inv.fresh_vary
  have hb := h w.heap.size hnv.1 hnv.2
  have hi := r.inv.new (ob := .map []) (o := .map #[] 0) ⟨#[], 0, rfl, rfl⟩
  have hs := step_new r.inv (.map []) (.map #[] 0)
  refine .inl ⟨.map (some w.heap.size), _, _, _, G, fl, ?_, hb, r.step hi hs, rfl, step_base r hs, rfl, fun _ => ⟨Same.refl _ _ _, rfl⟩⟩
  simp only [execOp, hop, Option.map_none, Sem.run_bind, Instr.makeMap]
  rfl
theorem goPanic_run {x : Value} {t : TypeId} {v : Value} (h : x = .iface t v) : (Instr.panic x).run P w = .halt (.panic x) w := by subst h; rfl
end Go.Pv
-- PvSlice
namespace Go.Pv
open Go Go.RowKit
variable {P : Program} {tt : TT} {G : Sett} {fl : Nat → Nat} {B : Nat} {s : Cf} {a : Act} {w : World}
theorem zeros_list (z : List Value) (hz : 0 < z.length) : ∀ n : Nat, (List.range (n * z.length)).map (fun i => z.toArray[i % z.length]!) = (List.replicate n z).flatten
  | 0 => by simp
  | n + 1 => by
    rw [Nat.add_mul, Nat.one_mul, Nat.add_comm, List.range_add, List.map_append, List.map_map, List.replicate_succ, List.flatten_cons, ← zeros_list z hz n]
    congr 1
    · apply List.ext_getElem
      · simp
      · intro i h1 h2
        simp at h1 ⊢
        rw [Nat.mod_eq_of_lt h1]
        simp [h1]
    · apply List.map_congr_left
      intro i _
      simp [Function.comp]
theorem RelE_replicate {x : PV} {u : Value} {sz : Nat} (h : Rel G x u) (hs : u.cells.size = sz) (h1 : ∀ c ∈ u.cells.toList, c.oneCell' = true) : ∀ n : Nat, RelE G sz (List.replicate n x) (List.replicate n u.cells.toList).flatten
  | 0 => rfl
  | n + 1 => ⟨u, _, rfl, ⟨hs, h1⟩, h, RelE_replicate h hs h1 n⟩
theorem RelE_set {x : PV} {u : Value} {sz : Nat} (h : Rel G x u) (hs : u.cells.size = sz) (h1 : ∀ c ∈ u.cells.toList, c.oneCell' = true) : ∀ (xs : List PV) (us : List Value) (i : Nat), RelE G sz xs us → i < xs.length → RelE G sz (xs.set i x) (pset us (i * sz) u.cells.toList)
  | [], _, _, _, hi => absurd hi (by simp)
  | y :: xs, _, 0, ⟨v, r, e, hv, p, q⟩, _ => by
    subst e
    have hl : v.cells.toList.length = sz := by simpa using hv.1
    have hl2 : u.cells.toList.length = sz := by simpa using hs
    refine ⟨u, r, ?_, ⟨hs, h1⟩, h, q⟩
    simp only [pset, Nat.zero_mul, List.take_zero, List.nil_append, Nat.zero_add, hl2]
    rw [← hl, List.drop_left]
  | y :: xs, _, i + 1, ⟨v, r, e, hv, p, q⟩, hi => by
    subst e
    have hl : v.cells.toList.length = sz := by simpa using hv.1
    refine ⟨v, pset r (i * sz) u.cells.toList, ?_, hv, p, RelE_set h hs h1 xs r i q (by simpa using hi)⟩
    simp only [pset]
    rw [show (i + 1) * sz = v.cells.toList.length + i * sz by rw [hl, Nat.add_mul]; omega, List.take_length_add_append, Nat.add_assoc, List.drop_length_add_append]
    simp
theorem pfillE_sound {sz : Nat} : ∀ (ps : List (Nat × PV)) (vs : List (Nat × Value)) (xs : List PV) (us : Array Value) (xs' : List PV), PartRel G fl ps vs → RelE G sz xs us.toList → pfillE tt sz xs ps = some xs' →
    ∃ us', Instr.fill (fun i => some (i * sz, sz)) us vs = some us' ∧ RelE G sz xs' us'.toList
  | [], _, xs, us, xs', h, r, e => by cases h; cases e; exact ⟨us, rfl, r⟩
  | (i, x) :: ps, _, xs, us, xs', ⟨u, rest, e, hx, hr⟩, r, h => by
    subst e
    simp only [pfillE] at h
    split at h
    · rename_i cs hc
      split at h
      · rename_i hq
        obtain ⟨hi, hcl, hst⟩ := hq
        have hcx := cellsOf_sound hc hx
        have hl := RelL.length _ _ hcx
        have hlu := RelE.length _ _ r
        have hsz : u.cells.size = sz := by rw [← Array.length_toList, hl]; exact hcl
        have h1 := RelL.stor _ _ hcx hst
        have hrel : Rel G x u := by
          cases x with
          | lptr d o => cases hc
          | _ => exact hx
        have hle : i * sz + sz ≤ xs.length * sz := by rw [← Nat.succ_mul]; exact Nat.mul_le_mul_right _ hi
        simp only [Instr.fill]
        rw [if_neg (by simp only [Bool.or_eq_true, decide_eq_true_eq, not_or]; constructor; · omega
                       · simp at hlu; omega)]
        refine pfillE_sound ps rest (xs.set i (forget x)) _ xs' hr ?_ h
        have hf := fold_set u.cells.toList (i * sz) 0 us (by simp at hlu ⊢; omega)
        have hz : (u.cells.zipIdx.foldl (fun cs (x : Value × Nat) => cs.setIfInBounds (i * sz + x.2) x.1) us) = ((u.cells.toList.zipIdx 0).foldl (fun cs (x : Value × Nat) => cs.setIfInBounds (i * sz + x.2) x.1) us) := by
          rw [← Array.foldl_toList]; simp
        have hz' : (u.cells.zipIdx.foldl (fun cs (c, j) => cs.setIfInBounds (i * sz + j) c) us).toList = pset us.toList (i * sz) u.cells.toList := by
          rw [Nat.add_zero] at hf
          rw [← hf]
          exact congrArg Array.toList hz
        rw [hz']
        exact RelE_set (Rel.forget _ _ hrel) hsz h1 _ _ _ r hi
      · cases h
    · cases h
theorem peff_buildSlice (hT : TOk P tt) (r : Rep G fl B s a w) {esc : List Nat} {K X : PV → Cf → Prop} {o : Oper} {t : TypeId} {n : Nat} {ps : Array (Nat × Operand)} (hop : o.op = .buildSlice t n ps) (h : peff P tt esc s o K X) : EffOk P B G fl (isLA esc o) s o a w K X := by
  simp only [peff, hop, pret] at h
  split at h
  case h_2 => cases h
  rename_i v hv
  have hK := h
  clear h
  have h := hv
  clear hv
  unfold pbuildV at h
  split at h
  · rename_i e hd
    obtain ⟨it, hti, he⟩ := dsc_some hd
    have hu := tt_und hT hti (w := w)
    rw [he] at hu
    split at h
    · rename_i ie hie
      obtain ⟨z, hz, hzc, hzr⟩ := tt_zero hT hie (w := w)
      split at h
      · rename_i xs hxs
        split at h
        case isFalse => cases h
        rename_i hcond
        cases h
        obtain ⟨hn, h0, hst⟩ := hcond
        have hn : n * ie.size ≤ 2 ^ 24 := hn
        have h1 := storE_sound (G := G) (fl := fl) hst (Rel.slot (hzr G))
        have hps := pparts_rel r ps.toList
        have e1 : (ps.map fun (i, x) => (i, a.eval x)).toList = ps.toList.map fun p => (p.1, a.eval p.2) := by simp
        rw [← e1] at hps
        have hzl := zeros_list z.cells.toList (by simp [hzc, h0]) n
        have hinit : ((Array.range (n * ie.size)).map (fun i => (if n * ie.size = 0 then #[] else z.cells)[i % (if n * ie.size = 0 then #[] else z.cells).size]!)).toList = (List.replicate n z.cells.toList).flatten := by
          by_cases hn0 : n * ie.size = 0
          · have : n = 0 := by
              rcases Nat.mul_eq_zero.1 hn0 with q | q
              · exact q
              · omega
            subst this
            simp
          · simp only [if_neg hn0]
            rw [← hzl]
            simp [hzc]
        have hrep := RelE_replicate (Rel.forget _ _ (hzr G)) hzc h1 n
        rw [← hinit] at hrep
        obtain ⟨us', hfill, hrel⟩ := pfillE_sound _ _ _ _ xs hps hrep hxs
        have hlen : xs.length = n := by
          have : ∀ (ps : List (Nat × PV)) (xs xs' : List PV), pfillE tt ie.size xs ps = some xs' → xs'.length = xs.length := by
            intro ps
            induction ps with
            | nil => intro xs xs' h; cases h; rfl
            | cons p ps ih =>
              intro xs xs' h
              obtain ⟨i, v⟩ := p
              simp only [pfillE] at h
              split at h
              · split at h
                · rw [ih _ _ h]; simp
                · cases h
              · cases h
          rw [this _ _ _ hxs]; simp
        obtain ⟨hi', hs'⟩ := row_inv (t := e) r.inv (us := us'.toList) (rest := [])
        have hsub : s.σ.sub (s.σ.fill w.heap.size us'.toList.length) := by
          refine ⟨fun _ _ h => h, fun b m h => ?_, rfl⟩
          show (if b = w.heap.size then _ else s.σ.own b) = _
          rw [if_neg]
          · exact h
          · intro q; subst q; rw [(not_vary r.inv.fresh_vary).2] at h; cases h
        have hi2 := hi'.sub hsub
        have hs2 := hs'.sub hsub
        rw [List.append_nil] at hi2 hs2
        refine .inl ⟨.slice (some ⟨w.heap.size, 0, none⟩) n n, w.alloc (.cells us' e), _, _, _, fl, ?_, hK, r.step hi2 hs2, ?_, step_base r hs2, rfl, fun _ => ⟨Same.refl fl s s.σ, rfl⟩⟩
        · simp only [execOp, hop, Sem.run_bind, Instr.buildSlice, hu, Result.andThen_ok, tt_size hT hie]
          rw [if_neg (by omega)]
          by_cases hn0 : n * ie.size = 0
          · rw [if_pos hn0] at hfill
            simp only [if_pos hn0, Sem.run_bind, Sem.run_pure, Result.andThen_ok, hfill]
            rfl
          · rw [if_neg hn0] at hfill
            simp only [if_neg hn0, Sem.run_bind, Sem.run_pure, Result.andThen_ok, hz, hfill]
            rfl
        · refine ⟨some ⟨w.heap.size, 0, none⟩, n, by rw [hlen], by omega, by show n = xs.length; omega, us'.toList, RelE.mono hs2.le _ _ hrel, .inr ⟨_, rfl, w.heap.size, 0, rfl, fun i v hv => ?_⟩⟩
          exact Sett.put_new (G := G) (b := w.heap.size) (off := 0) (us := us'.toList) i v hv
      · cases h
    · cases h
  · cases h
theorem peff_panic (r : Rep G fl B s a w) {la : Bool} {K X : PV → Cf → Prop} {o : Oper} {x : Operand} {t : TypeId} {v : PV} (hx : eval s x = .iface t v) (h : X (.iface t v) s)
    (hrun : ∀ u, a.eval x = .iface t u → (execOp a.eval o).run P w = .halt (.panic (.iface t u)) w) : EffOk P B G fl la s o a w K X := by
  have he := eval_sound r x
  rw [hx] at he
  obtain ⟨u, hu, hr⟩ := he
  exact .inr (.inr (.inl ⟨_, _, s, hrun u hu, h, rfl, u, rfl, hr⟩))
theorem peff_sound (hT : TOk P tt) (r : Rep G fl B s a w) {esc : List Nat} {K X : PV → Cf → Prop} {o : Oper} (h : peff P tt esc s o K X) : EffOk P B G fl (isLA esc o) s o a w K X := by
  have h0 := h
  unfold peff at h
  split at h
  · exact peff_store hT r ‹_› h0
  · exact peff_alloc hT r ‹_› h0
  · exact peff_box hT r ‹_› h0
  · exact peff_buildSlice hT r ‹_› h0
  · exact peff_makeMap r ‹_› h0
  · exact pmapUpdate_sound hT r (.inl ‹_›) h
  · exact pmapUpdate_sound hT r (.inr ‹_›) h
  · rename_i x hop
    split at h
    · rename_i t v hx
      refine peff_panic r hx h fun u hu => ?_
      simp only [execOp, hop, hu, Sem.run_bind]
      rfl
    · cases h
  · rename_i c hop
    split at h
    · exact pcall_sound r hop ‹_› h
    · rename_i hcal
      split at h
      · rename_i x y t t2 ha hty
        exact papp_sound hT r hop hcal (toList_two ha) (toList_two hty) h
      · cases h
    · rename_i hcal
      split at h
      · rename_i x ha
        split at h
        · rename_i t v hx
          refine peff_panic r hx h fun u hu => ?_
          have := toList_one ha
          simp only [execOp, hop, resolve, hcal, this, Sem.run_bind, Sem.run_pure, Result.andThen_ok, invoke, builtin]
          simp [hu, Instr.panic, goPanic]
        · cases h
      · cases h
    · cases h
  · cases h
end Go.Pv
-- PvCode
namespace Go.Pv
open Go Go.RowKit
variable {P : Program} {tt : TT} {G : Sett} {fl : Nat → Nat} {B : Nat} {s : Cf} {a : Act} {w : World}
/-- An operation under its guard. -/
def guarded (ops : Array Oper) (s : Cf) (o : Oper) (run skip : Prop) : Prop :=
  match o.guard with
  | none => run
  | some (j, want) => match (ops[j]?).bind (fun x => x.dst) with
    | some d => match get s.env d with
      | .val (.bool b) => (b = want → run) ∧ (b = !want → skip)
      | .val _ => skip
      | _ => False
    | none => False
def pstep (P : Program) (tt : TT) (esc : List Nat) (s : Cf) (o : Oper) (K X : PV → Cf → Prop) : Prop :=
  match pread tt s o.type o.op with
  | some v => K v s
  | none => peff P tt esc s o K X
def knext (f : Cf → Prop) (dst : Option Nat) : PV → Cf → Prop := fun v s => f (s.put dst v)
def pseq (P : Program) (tt : TT) (esc : List Nat) (ops : Array Oper) (K : Cf → Prop) (X : PV → Cf → Prop) : List Oper → Cf → Prop
  | [], s => K s
  | o :: os, s => guarded ops s o (pstep P tt esc s o (knext (pseq P tt esc ops K X os) o.dst) X) (pseq P tt esc ops K X os (s.put o.dst undefV))
/-- What has been read is read again behind something that was done. -/
def recheck (tt : TT) (ops : Array Oper) (s : Cf) (i : Nat) : Prop :=
  match ops[i]? with
  | some o => guarded ops s o (match o.dst with | some d => pread tt s o.type o.op = some (get s.env d) | none => False) True
  | none => False
def rechecks (tt : TT) (ops : Array Oper) (s : Cf) : List Nat → Prop
  | [] => True
  | i :: l => recheck tt ops s i ∧ rechecks tt ops s l
def dnext (tt : TT) (ops : Array Oper) (cs : List Nat) (f : Cf → Prop) (dst : Option Nat) : PV → Cf → Prop := fun v s => rechecks tt ops s cs ∧ f (s.put dst v)
def pdseq (P : Program) (tt : TT) (esc : List Nat) (ops : Array Oper) (K : Cf → Prop) (X : PV → Cf → Prop) : List (Nat × List Nat) → Cf → Prop
  | [], s => K s
  | (i, cs) :: l, s => match ops[i]? with
    | none => False
    | some o => guarded ops s o (pstep P tt esc s o (dnext tt ops cs (pdseq P tt esc ops K X l) o.dst) X) (pdseq P tt esc ops K X l (s.put o.dst undefV))
/-- A drawing region, in one of its orders. -/
def pdraw (P : Program) (tt : TT) (esc : List Nat) (ops : Array Oper) (K : Cf → Prop) (X : PV → Cf → Prop) (s : Cf) : Nat × List (Nat × List Nat) → Prop
  | (mx, l) => mx < s.n ∧ pdseq P tt esc ops K X l s
inductive Ex where
  | normal
  | exit (id : Nat)
  | ret
  | panic (v : PV)
abbrev Kt := Ex → Cf → Prop
def kthen (f : Cf → Kt → Prop) (K : Kt) : Kt
  | .normal, s => f s K
  | e, s => K e s
def kblock (id : Nat) (K : Kt) : Kt
  | .exit i, s => if i = id then K .normal s else K (.exit i) s
  | e, s => K e s
def knorm (K : Kt) : Cf → Prop := fun s => K .normal s
def kpan (K : Kt) : PV → Cf → Prop := fun v s => K (.panic v) s
def ploop (f : Cf → Kt → Prop) : Nat → Cf → Kt → Prop
  | 0, _, _ => False
  | n + 1, s, K => ∃ s' : Cf, s'.less s ∧ f s' (kthen (ploop f n) K)
/-- The orders in which a function's drawing regions are gone through. -/
abbrev Ords := List (Nat × (Nat × List (Nat × List Nat)))
def ordOf : Ords → Nat → Nat × List (Nat × List Nat)
  | [], _ => (0, [])
  | (i, l) :: r, k => if i = k then l else ordOf r k
def pwp (P : Program) (tt : TT) (esc : List Nat) (ord : Ords) : Code → Cf → Kt → Prop
  | .skip, s, K => K .normal s
  | .region _ ops false, s, K => pseq P tt esc ops (knorm K) (kpan K) ops.toList s
  | .region id ops true, s, K => pdraw P tt esc ops (knorm K) (kpan K) s (ordOf ord id)
  | .seq x y, s, K => pwp P tt esc ord x s (kthen (pwp P tt esc ord y) K)
  | .cond c x y, s, K => match eval s c with
    | .val (.bool b) => (b = true → pwp P tt esc ord x s K) ∧ (b = false → pwp P tt esc ord y s K)
    | _ => False
  | .block id x, s, K => pwp P tt esc ord x s (kblock id K)
  | .loop x, s, K => ∃ n, ploop (pwp P tt esc ord x) n s K
  | .exit id, s, K => K (.exit id) s
  | .ret, s, K => K .ret s
  | _, _, _ => False
/-! ### soundness -/
def vb : Value → Option Bool
  | .bool b => some b
  | _ => none
theorem yielded_val (r : Rep G fl B s a w) {ops : Array Oper} {j d : Nat} (hd : (ops[j]?).bind (fun x => x.dst) = some d) {v : Value} (h : get s.env d = .val v) : yielded ops a.tmps j = vb v ∨ (yielded ops a.tmps j = none ∧ v = Go.undef) := by
  have hs := r.env d
  rw [h] at hs
  have hs : a.tmps.getD d Go.undef = v := hs
  unfold yielded
  rw [hd]
  simp only [Option.bind_some]
  rw [Array.getD_eq_getD_getElem?] at hs
  cases e : a.tmps[d]? with
  | none => rw [e] at hs; right; exact ⟨rfl, hs.symm⟩
  | some u =>
    rw [e] at hs
    simp at hs
    subst hs
    left
    cases u <;> rfl
theorem guarded_sound (r : Rep G fl B s a w) {ops : Array Oper} {o : Oper} {run skip : Prop} (h : guarded ops s o run skip) : (Region.wanted o (yielded ops a.tmps) = true ∧ run) ∨ (Region.wanted o (yielded ops a.tmps) = false ∧ skip) := by
  unfold guarded at h
  split at h
  · rename_i hg; left; exact ⟨by simp [Region.wanted, hg], h⟩
  · rename_i j want hg
    split at h
    · rename_i d hd
      have hw : Region.wanted o (yielded ops a.tmps) = (yielded ops a.tmps j == some want) := by simp [Region.wanted, hg]
      rw [hw]
      split at h
      · rename_i b hb
        rcases yielded_val r hd hb with q | ⟨_, q⟩
        · rw [q]
          simp only [vb]
          by_cases hbw : b = want
          · left; exact ⟨by simp [hbw], h.1 hbw⟩
          · right
            refine ⟨by simpa using hbw, h.2 ?_⟩
            cases b <;> cases want <;> simp_all
        · cases q
      · rename_i v hne hv
        right
        refine ⟨?_, h⟩
        rcases yielded_val r hd hv with q | ⟨q, _⟩
        · rw [q]
          cases v <;> first | rfl | exact absurd rfl (hne _)
        · rw [q]; rfl
      · cases h
    · cases h
/-- What follows an operation's value. -/
def KOk (B : Nat) (G : Sett) (s : Cf) (w : World) (a : Act) (dst : Option Nat) (f : Cf → Prop) (next : Act → World → Prop) : Prop :=
  ∀ G' fl' s' a' w', f s' → Rep G' fl' B s' a' w' → Step B G s.σ w G' s'.σ w' → s'.n = s.n → next a' w'
def XOk (B : Nat) (G : Sett) (s : Cf) (w : World) (X : PV → Cf → Prop) (Q : Exit → Act → World → Prop) : Prop :=
  ∀ G' s' a' w' v u, X v s' → Rel G' v u → Inv G' s'.σ w' → Step B G s.σ w G' s'.σ w' → a'.defers = [] → Q (.panic [{ v := u, recovered := false }]) a' w'
theorem cf_put_σ (s : Cf) (d : Option Nat) (v : PV) : (s.put d v).σ = s.σ := by
  cases d with
  | none => rfl
  | some d => simp only [Cf.put]; split <;> rfl
theorem cf_put_n (s : Cf) (d : Option Nat) (v : PV) : (s.put d v).n = s.n := by
  cases d with
  | none => rfl
  | some d => simp only [Cf.put]; split <;> rfl
theorem eff_upon (r : Rep G fl B s a w) {o : Oper} {Kf : PV → Cf → Prop} {X : PV → Cf → Prop} {next : Act → World → Prop} {Q : Exit → Act → World → Prop} {la : Bool} (h : EffOk P B G fl la s o a w Kf X)
    (hK : ∀ v s' G' fl' w' u, Kf v s' → Rep G' fl' B s' a w' → SlotRel G' fl' v u → Step B G s.σ w G' s'.σ w' → s'.n = s.n → next (a.put o.dst u) w') (hX : XOk B G s w X Q) : o.wp P a w next Q := by
  unfold Oper.wp Oper.upon
  rcases h with ⟨u, w', v, s', G', fl', hrun, hk, hr, hs, hst, hn, _⟩ | ⟨w', v, s', G', fl', hrun, hk, hr, rfl, hst, hn, _⟩ | ⟨u, v, s', hrun, hx, rfl, hr⟩ | ⟨g, args, hrun, hc⟩
  · rw [hrun]; exact hK _ _ _ _ _ _ hk hr hs hst hn
  · rw [hrun]; exact hK _ _ _ _ _ _ hk hr rfl hst hn
  · rw [hrun]; exact hX G s' a w v u hx hr r.inv (Step.refl _ _ _ _) r.defers
  · rw [hrun]
    refine hc.mono fun e w' hq => ?_
    obtain ⟨res, σ', G', hk, hres, hi, hst⟩ := hq
    have hrep := r.step hi hst
    have hstB := step_base r hst
    cases res with
    | ret v =>
      obtain ⟨u, rfl, hu⟩ := hres
      exact hK _ _ _ _ _ _ hk hrep hu.slot hstB rfl
    | panic v =>
      obtain ⟨u, rfl, hu⟩ := hres
      exact hX G' _ a w' v u hk hu hi hstB r.defers
theorem pstep_sound (hT : TOk P tt) (r : Rep G fl B s a w) {esc : List Nat} {o : Oper} {Kf X : PV → Cf → Prop} {next : Act → World → Prop} {Q : Exit → Act → World → Prop} (h : pstep P tt esc s o Kf X)
    (hK : ∀ v s' G' fl' w' u, Kf v s' → Rep G' fl' B s' a w' → SlotRel G' fl' v u → Step B G s.σ w G' s'.σ w' → s'.n = s.n → next (a.put o.dst u) w') (hX : XOk B G s w X Q) : o.wp P a w next Q := by
  unfold pstep at h
  split at h
  · rename_i v hv
    obtain ⟨u, hrun, hs⟩ := pread_sound hT r hv
    unfold Oper.wp Oper.upon
    rw [hrun]
    exact hK _ _ _ _ _ _ h r hs (Step.refl _ _ _ _) rfl
  · exact eff_upon r (peff_sound hT r h) hK hX
theorem XOk.step {G' : Sett} {s' : Cf} {w' : World} {X : PV → Cf → Prop} {Q : Exit → Act → World → Prop} (h : XOk B G s w X Q) (st : Step B G s.σ w G' s'.σ w') : XOk B G' s' w' X Q :=
  fun G2 s2 a2 w2 v u hx hr hi hs hd => h G2 s2 a2 w2 v u hx hr hi (st.trans hs) hd
/-- What is asked of what follows. -/
def QOk (B : Nat) (G : Sett) (s : Cf) (w : World) (K : Cf → Prop) (Q : Act → World → Prop) : Prop :=
  ∀ G' fl' s' a' w', K s' → Rep G' fl' B s' a' w' → Step B G s.σ w G' s'.σ w' → s'.n = s.n → Q a' w'
theorem QOk.step {G' : Sett} {s' : Cf} {w' : World} {K : Cf → Prop} {Q : Act → World → Prop} (h : QOk B G s w K Q) (st : Step B G s.σ w G' s'.σ w') (hn : s'.n = s.n) : QOk B G' s' w' K Q :=
  fun G2 fl2 s2 a2 w2 hk hr hs hn2 => h G2 fl2 s2 a2 w2 hk hr (st.trans hs) (hn2.trans hn)
theorem pseq_sound (hT : TOk P tt) {esc : List Nat} {ops : Array Oper} {K : Cf → Prop} {X : PV → Cf → Prop} {Q : Exit → Act → World → Prop} : ∀ (os : List Oper) {G : Sett} {fl : Nat → Nat} {s : Cf} {a : Act} {w : World}, Rep G fl B s a w → pseq P tt esc ops K X os s →
    QOk B G s w K (Q .normal) → XOk B G s w X Q → wpList P ops Q os a w
  | [], G, fl, s, a, w, r, h, hQ, hX => hQ _ _ _ _ _ h r (Step.refl _ _ _ _) rfl
  | o :: os, G, fl, s, a, w, r, h, hQ, hX => by
    unfold wpList
    rcases guarded_sound r h with ⟨hw, h⟩ | ⟨hw, h⟩
    · rw [if_pos hw]
      left
      refine pstep_sound hT r h (fun v s' G' fl' w' u hk hr hs hst hn => ?_) hX
      have hr2 := hr.put o.dst hs
      have hst2 : Step B G s.σ w G' (s'.put o.dst v).σ w' := by rw [cf_put_σ]; exact hst
      exact pseq_sound hT os hr2 hk (hQ.step hst2 ((cf_put_n _ _ _).trans hn)) (hX.step hst2)
    · rw [hw, if_neg (by simp)]
      have hr2 := r.put o.dst (v := undefV) (u := Go.undef) rfl
      have hst2 : Step B G s.σ w G (s.put o.dst undefV).σ w := by rw [cf_put_σ]; exact Step.refl _ _ _ _
      exact pseq_sound hT os hr2 h (hQ.step hst2 (cf_put_n _ _ _)) (hX.step hst2)
end Go.Pv
