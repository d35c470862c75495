/- The engine, part 19: the shape of slots and store at a loop's head or end; what is known there as typed values; back. -/
import Derived.Test.YtmbnalaiobhaaaaE18
namespace Go.Proofs.Ytmbnalaiobhaaaa.E
open Go

inductive LSh where
  | int (k : IntKind)
  | bool
  | str
  | ifc
  | nil
  | sl (m : Md) (e : Ty)
  | whole (id : Nat)
  | ptr (id off : Nat)
  | mp (id : Nat)
  | fn (f : FuncId)
  | clo (f : Nat) (t : Ty)
  | bot
inductive CSh where
  | one (l : LSh)
  | agg (ls : List LSh)
inductive ESh where
  | row (e : Ty) (m : Md)
  | box (ls : List LSh)
  | map (k v : Ty) (m : Md)
structure Sh where
  slots : List (Nat × CSh)
  ents : List (Nat × ESh)

def LSh.tys : LSh → List Ty
  | .int k => [.int k]
  | .bool => [.bool]
  | .str => [.str]
  | .ifc => [.ifc]
  | .sl _ e => [.sl e]
  | .clo f t => [.clo f t]
  | _ => []
def CSh.tys : CSh → List Ty
  | .one l => l.tys
  | .agg ls => ls.flatMap LSh.tys
def ESh.tys : ESh → List Ty
  | .row e _ => [.sl e]
  | .box ls => ls.flatMap LSh.tys
  | .map k v _ => [.sl (.pair k v)]
def Sh.tys (sh : Sh) : List Ty := (sh.slots.flatMap fun p => p.2.tys) ++ sh.ents.flatMap fun p => p.2.tys

section
variable {X : Ext}

/-! from typed values -/
def mkLeaf : LSh → List (DV X) → Option (Leaf X × List (DV X))
  | .int k, ⟨.int k', n⟩ :: r => if k' = k then some (.int k n, r) else none
  | .bool, ⟨.bool, b⟩ :: r => some (.bool b, r)
  | .str, ⟨.str, s⟩ :: r => some (.str s, r)
  | .ifc, ⟨.ifc, s⟩ :: r => some (.ifc s, r)
  | .sl m e, ⟨.sl e', xs⟩ :: r => if h : e' = e then some (.sl m e (castL h xs), r) else none
  | .nil, r => some (.nil, r)
  | .whole id, r => some (.whole id, r)
  | .ptr id off, r => some (.ptr id off, r)
  | .mp id, r => some (.mp id, r)
  | .fn f, r => some (.fn f, r)
  | .clo f t, ⟨.clo g t', x⟩ :: r => if h : t' = t then (if g = f then some (.clo f t (castD h x), r) else none) else none
  | .bot, r => some (.bot, r)
  | _, _ => none
def mkLeaves : List LSh → List (DV X) → Option (List (Leaf X) × List (DV X))
  | [], r => some ([], r)
  | l :: ls, r => match mkLeaf l r with
    | some (x, r') => match mkLeaves ls r' with
      | some (xs, r'') => some (x :: xs, r'')
      | none => none
    | none => none
def mkC2 : CSh → List (DV X) → Option (A X × List (DV X))
  | .one l, r => match mkLeaf l r with
    | some (x, r') => some (.c (.one x), r')
    | none => none
  | .agg ls, r => match mkLeaves ls r with
    | some (xs, r') => some (.c (.agg xs), r')
    | none => none
def mkSlots : List (Nat × CSh) → List (DV X) → Option (List (Nat × A X) × List (DV X))
  | [], r => some ([], r)
  | (j, c) :: ss, r => match mkC2 c r with
    | some (x, r') => match mkSlots ss r' with
      | some (xs, r'') => some ((j, x) :: xs, r'')
      | none => none
    | none => none
def mkE : ESh → List (DV X) → Option (Ent X × List (DV X))
  | .row e m, ⟨.sl e', xs⟩ :: r => if h : e' = e then some (.row e m (castL h xs), r) else none
  | .box ls, r => match mkLeaves ls r with
    | some (xs, r') => some (.box xs, r')
    | none => none
  | .map k v m, ⟨.sl (.pair k' v'), es⟩ :: r => if h : k' = k ∧ v' = v then some (.map k v m (castM h es), r) else none
  | _, _ => none
def mkEnts : List (Nat × ESh) → List (DV X) → Option (List (Nat × Ent X) × List (DV X))
  | [], r => some ([], r)
  | (j, c) :: ss, r => match mkE c r with
    | some (x, r') => match mkEnts ss r' with
      | some (xs, r'') => some ((j, x) :: xs, r'')
      | none => none
    | none => none
def look2 {α : Type} (d : α) : List (Nat × α) → Nat → α
  | [], _ => d
  | (i, x) :: r, j => bif Nat.beq i j then x else look2 d r j
def Sh.mk' (sh : Sh) (ds : List (DV X)) : Option (AS X) :=
  match mkSlots sh.slots ds with
  | some (ss, r) => match mkEnts sh.ents r with
    | some (es, _) => some ⟨look2 .und ss, look2 .none es⟩
    | none => none
  | none => none

/-! to typed values -/
abbrev Prs := List (Nat × Option Nat)
def dLeaf : LSh → Leaf X → Option (List (DV X) × Prs)
  | .int k, .int k' n => if k' = k then some ([⟨.int k, n⟩], []) else none
  | .bool, .bool b => some ([⟨.bool, b⟩], [])
  | .str, .str s => some ([⟨.str, s⟩], [])
  | .ifc, .ifc s => some ([⟨.ifc, s⟩], [])
  | .sl m e, .sl m' e' xs => if h : e' = e then (if m'.sub m && m.noOwn then some ([⟨.sl e, castL h xs⟩], []) else none) else none
  | .sl m e, .nil => if m.noOwn then some ([⟨.sl e, []⟩], []) else none
  | .nil, .nil => some ([], [])
  | .whole id, .whole o => some ([], [(id, some o)])
  | .whole id, .nil => some ([], [(id, none)])
  | .ptr id off, .ptr o off' => if off' = off then some ([], [(id, some o)]) else none
  | .mp id, .mp o => some ([], [(id, some o)])
  | .fn f, .fn g => if g = f then some ([], []) else none
  | .clo f t, .clo g t' x => if h : t' = t then (if g = f then some ([⟨.clo f t, (castD h x : D X.T t)⟩], []) else none) else none
  | .bot, _ => some ([], [])
  | _, _ => none
def dLeaves : List LSh → List (Leaf X) → Option (List (DV X) × Prs)
  | [], [] => some ([], [])
  | l :: ls, x :: xs => match dLeaf l x with
    | some (d, p) => match dLeaves ls xs with
      | some (d', p') => some (d ++ d', p ++ p')
      | none => none
    | none => none
  | _, _ => none
def dC : CSh → A X → Option (List (DV X) × Prs)
  | .one l, .c (.one x) => dLeaf l x
  | .agg ls, .c (.agg xs) => dLeaves ls xs
  | _, _ => none
def dSlots (s : AS X) : List (Nat × CSh) → Option (List (DV X) × Prs)
  | [] => some ([], [])
  | (j, c) :: ss => match dC c (s.tmps j) with
    | some (d, p) => match dSlots s ss with
      | some (d', p') => some (d ++ d', p ++ p')
      | none => none
    | none => none
def oldOf (ps : Prs) (id : Nat) : Option Nat := look2 (some id) ps id
def dE (st : Nat → Ent X) : ESh → Option Nat → Option (List (DV X) × Prs)
  | .row e _, none => some ([⟨.sl e, []⟩], [])
  | .row e m, some o => match st o with
    | .row e' m' xs => if h : e' = e then (if m'.sub m then some ([⟨.sl e, castL h xs⟩], []) else none) else none
    | _ => none
  | .box ls, some o => match st o with
    | .box cs => dLeaves ls cs
    | _ => none
  | .map k v m, some o => match st o with
    | .map k' v' m' es => if h : k' = k ∧ v' = v then (if m'.sub m && m.noOwn then some ([⟨.sl (.pair k v), castM h es⟩], []) else none) else none
    | _ => none
  | _, _ => none
def dEnts (st : Nat → Ent X) : List (Nat × ESh) → Prs → Option (List (DV X) × Prs × Prs)
  | [], ps => some ([], ps, [])
  | (id, c) :: ss, ps => match dE st c (oldOf ps id) with
    | some (d, p) => match dEnts st ss (ps ++ p) with
      | some (d', ps', ρ) => some (d ++ d', ps', (id, oldOf ps id) :: ρ)
      | none => none
    | none => none
def prB (p q : Nat × Option Nat) : Bool := Nat.beq p.1 q.1 && (match p.2, q.2 with
  | some a, some b => Nat.beq a b
  | none, none => true
  | _, _ => false)
def Sh.dec (pins : List Nat) (sh : Sh) (s : AS X) : Option (List (DV X)) :=
  match dSlots s sh.slots with
  | some (d1, ps) => match dEnts s.st sh.ents ps with
    | some (d2, ps', ρ) => if (ps'.all fun p => ρ.any (prB p)) && nodupB (ρ.map (·.1)) && nodupB (ρ.filterMap (·.2)) && (pins.all fun i => ρ.any (prB (i, some i))) then some (d1 ++ d2) else none
    | none => none
  | none => none

def ofDV : (ts : List Ty) → List (DV X) → Option (OutT X.T ts)
  | [], [] => some ()
  | [t], [⟨t', x⟩] => if h : t' = t then some (castD h x) else none
  | t :: u :: ts, ⟨t', x⟩ :: ds => if h : t' = t then (match ofDV (u :: ts) ds with
    | some y => some (castD h x, y)
    | none => none) else none
  | _, _ => none

theorem ofDV_ok : ∀ (ts : List Ty) (ds : List (DV X)) (y : OutT X.T ts), ofDV ts ds = some y → toL ts y = ds
  | [], [], y, _ => rfl
  | [], _ :: _, y, h => by simp [ofDV] at h
  | [t], [], y, h => by simp [ofDV] at h
  | [t], [⟨t', x⟩], y, h => by
    simp only [ofDV] at h
    split at h
    · rename_i hh
      subst hh
      cases h
      rfl
    · cases h
  | [t], ⟨_, _⟩ :: _ :: _, y, h => by simp [ofDV] at h
  | t :: u :: ts, [], y, h => by simp [ofDV] at h
  | t :: u :: ts, ⟨t', x⟩ :: ds, y, h => by
    simp only [ofDV] at h
    split at h
    · rename_i hh
      subst hh
      split at h
      · rename_i y' hy
        cases h
        have := ofDV_ok (u :: ts) ds y' hy
        simp only [toL, castD_rfl]
        rw [this]
      · cases h
    · cases h

end

/-- One state's names in another one. -/
structure Ren (X : Ext) (z z' : Sd) (st st' : Nat → Ent X) (ρ : Prs) : Prop where
  S : z'.S = z.S
  old : ∀ n o, (n, some o) ∈ ρ → z'.bl n = z.bl o ∧ z'.cp n = z.cp o ∧ ((∃ e m m' xs, st o = .row e m xs ∧ st' n = .row e m' xs) ∨ (∃ cs cs', st o = .box cs ∧ st' n = .box cs') ∨ (∃ k v m m' es, st o = .map k v m es ∧ st' n = .map k v m' es))
  nil : ∀ n, (n, none) ∈ ρ → z'.bl n = none ∧ z'.cp n = 0 ∧ ∃ e m, st' n = .row e m []

section
variable {X : Ext} {C : Ctx} {w : World} {z : Sd} {F : Nat → List Nat} {s : AS X} {a : Act} {st : Nat → Ent X}

theorem RL.whole_ren {z' : Sd} {st' : Nat → Ent X} {ρ : Prs} (hr : Ren X z z' st st' ρ) {n o : Nat} (h : (n, some o) ∈ ρ) {v : Value} (hl : RL X w z st (.whole o) v) : RL X w z' st' (.whole n) v := by
  obtain ⟨h1, h2, h3⟩ := hr.old n o h
  rcases h3 with ⟨e, m, m', xs, e1, e2⟩ | ⟨cs, cs', e1, e2⟩ | ⟨k, v, m, m', es, e1, e2⟩
  · simp only [RL, e1, e2] at hl ⊢
    rw [h1, h2]; exact hl
  · simp only [RL, e1] at hl
  · simp only [RL, e1] at hl
theorem RL.ptr_ren {z' : Sd} {st' : Nat → Ent X} {ρ : Prs} (hr : Ren X z z' st st' ρ) {n o off : Nat} (h : (n, some o) ∈ ρ) {v : Value} (hl : RL X w z st (.ptr o off) v) : RL X w z' st' (.ptr n off) v := by
  obtain ⟨h1, h2, h3⟩ := hr.old n o h
  rcases h3 with ⟨e, m, m', xs, e1, e2⟩ | ⟨cs, cs', e1, e2⟩ | ⟨k, v, m, m', es, e1, e2⟩
  · simp only [RL, e1] at hl
  · simp only [RL, e1, e2] at hl ⊢
    rw [h1]; exact hl
  · simp only [RL, e1] at hl
theorem RL.mp_ren {z' : Sd} {st' : Nat → Ent X} {ρ : Prs} (hr : Ren X z z' st st' ρ) {n o : Nat} (h : (n, some o) ∈ ρ) {v : Value} (hl : RL X w z st (.mp o) v) : RL X w z' st' (.mp n) v := by
  obtain ⟨h1, h2, h3⟩ := hr.old n o h
  rcases h3 with ⟨e, m, m', xs, e1, e2⟩ | ⟨cs, cs', e1, e2⟩ | ⟨k, v, m, m', es, e1, e2⟩
  · simp only [RL, e1] at hl
  · simp only [RL, e1] at hl
  · simp only [RL, e1, e2] at hl ⊢
    rw [h1]; exact hl

theorem dLeaf_ok {sh : LSh} {l : Leaf X} {ds : List (DV X)} {ps : Prs} (h : dLeaf sh l = some (ds, ps)) :
    ∃ l', (∀ r, mkLeaf sh (ds ++ r) = some (l', r)) ∧ ∀ (z' : Sd) (st' : Nat → Ent X) (ρ : Prs) (v : Value), Ren X z z' st st' ρ → (∀ p ∈ ps, p ∈ ρ) → RL X w z st l v → RL X w z' st' l' v := by
  unfold dLeaf at h
  split at h
  · rename_i k k' n
    split at h
    · rename_i hk
      subst hk
      cases h
      exact ⟨.int k' n, fun r => by simp [mkLeaf], fun _ _ _ _ _ _ hl => hl⟩
    · cases h
  · cases h
    exact ⟨_, fun r => rfl, fun _ _ _ _ _ _ hl => hl⟩
  · cases h
    exact ⟨_, fun r => rfl, fun _ _ _ _ _ _ hl => hl⟩
  · cases h
    exact ⟨_, fun r => rfl, fun _ _ _ _ _ _ hl => hl⟩
  · rename_i m e m' e' xs
    split at h
    · rename_i he
      subst he
      split at h
      · rename_i hm
        cases h
        simp only [Bool.and_eq_true] at hm
        refine ⟨.sl m e' xs, fun r => by simp [mkLeaf], fun z' st' ρ v hr _ hl => ⟨hm.2, ?_⟩⟩
        rw [hr.S]
        exact hl.2.sub hm.1
      · cases h
    · cases h
  · rename_i m e
    split at h
    · rename_i hm
      cases h
      refine ⟨.sl m e [], fun r => by simp [mkLeaf], fun z' st' ρ v hr _ hl => ⟨hm, ?_⟩⟩
      simp only [RL] at hl
      subst hl
      exact .nil _ _ _ fun _ => ⟨none, rfl⟩
    · cases h
  · cases h
    exact ⟨.nil, fun r => rfl, fun _ _ _ _ _ _ hl => hl⟩
  · cases h
    exact ⟨_, fun r => rfl, fun z' st' ρ v hr hp hl => RL.whole_ren hr (hp _ (by simp)) hl⟩
  · cases h
    refine ⟨_, fun r => rfl, fun z' st' ρ v hr hp hl => ?_⟩
    obtain ⟨h1, h2, e, m, h3⟩ := hr.nil _ (hp _ (List.mem_singleton.2 rfl))
    simp only [RL] at hl
    simp only [RL, h3, h1, h2]
    exact hl
  · split at h
    · rename_i ho
      subst ho
      cases h
      exact ⟨_, fun r => rfl, fun z' st' ρ v hr hp hl => RL.ptr_ren hr (hp _ (by simp)) hl⟩
    · cases h
  · cases h
    exact ⟨_, fun r => rfl, fun z' st' ρ v hr hp hl => RL.mp_ren hr (hp _ (by simp)) hl⟩
  · split at h
    · rename_i hg
      subst hg
      cases h
      exact ⟨_, fun r => rfl, fun _ _ _ _ _ _ hl => hl⟩
    · cases h
  · split at h
    · rename_i ht
      subst ht
      split at h
      · rename_i hg
        subst hg
        cases h
        refine ⟨.clo _ _ _, fun r => by simp only [List.singleton_append, mkLeaf, dite_true, if_true]; rfl, fun z' st' ρ v hr _ hl => ?_⟩
        simp only [RL] at hl ⊢
        rw [hr.S]
        exact hl
      · cases h
    · cases h
  · cases h
    exact ⟨_, fun r => rfl, fun _ _ _ _ _ _ hl => hl.oneC⟩
  · cases h

theorem dLeaves_ok : ∀ {shs : List LSh} {ls : List (Leaf X)} {ds : List (DV X)} {ps : Prs}, dLeaves shs ls = some (ds, ps) →
    ∃ ls', (∀ r, mkLeaves shs (ds ++ r) = some (ls', r)) ∧ ls'.length = ls.length ∧ ∀ (z' : Sd) (st' : Nat → Ent X) (ρ : Prs) (vs : List Value), Ren X z z' st st' ρ → (∀ p ∈ ps, p ∈ ρ) →
      All2 (RL X w z st) ls vs → All2 (RL X w z' st') ls' vs
  | [], [], ds, ps, h => by
    cases h
    exact ⟨[], fun r => rfl, rfl, fun _ _ _ _ _ _ hl => by cases hl; exact .nil⟩
  | [], _ :: _, _, _, h => by cases h
  | _ :: _, [], _, _, h => by cases h
  | sh :: shs, l :: ls, ds, ps, h => by
    simp only [dLeaves] at h
    split at h
    case h_2 => cases h
    case h_1 d p h1 =>
    split at h
    case h_2 => cases h
    case h_1 d' p' h2 =>
    cases h
    obtain ⟨l', e1, e2⟩ := dLeaf_ok (w := w) (z := z) (st := st) h1
    obtain ⟨ls', g1, g2, g3⟩ := dLeaves_ok h2
    refine ⟨l' :: ls', fun r => ?_, by simp [g2], fun z' st' ρ vs hr hp hl => ?_⟩
    · simp only [mkLeaves, List.append_assoc]
      rw [e1]
      simp only
      rw [g1]
    · cases hl with
      | cons ha ht => exact .cons (e2 z' st' ρ _ hr (fun q hq => hp q (List.mem_append_left _ hq)) ha) (g3 z' st' ρ _ hr (fun q hq => hp q (List.mem_append_right _ hq)) ht)

theorem dC_ok {sh : CSh} {x : A X} {ds : List (DV X)} {ps : Prs} (h : dC sh x = some (ds, ps)) :
    ∃ x', (∀ r, mkC2 sh (ds ++ r) = some (x', r)) ∧ ∀ (z' : Sd) (st' : Nat → Ent X) (ρ : Prs) (v : Value), Ren X z z' st st' ρ → (∀ p ∈ ps, p ∈ ρ) → RA X w z st x v → RA X w z' st' x' v := by
  unfold dC at h
  split at h
  · obtain ⟨l', e1, e2⟩ := dLeaf_ok (w := w) (z := z) (st := st) h
    exact ⟨.c (.one l'), fun r => by simp only [mkC2]; rw [e1], fun z' st' ρ v hr hp hl => e2 z' st' ρ v hr hp hl⟩
  · obtain ⟨ls', g1, g2, g3⟩ := dLeaves_ok (w := w) (z := z) (st := st) h
    refine ⟨.c (.agg ls'), fun r => by simp only [mkC2]; rw [g1], fun z' st' ρ v hr hp hl => ?_⟩
    obtain ⟨vs, hv, hl⟩ := hl
    exact ⟨vs, hv, g3 z' st' ρ vs hr hp hl⟩
  · cases h

theorem dSlots_ok : ∀ {ss : List (Nat × CSh)} {ds : List (DV X)} {ps : Prs}, dSlots s ss = some (ds, ps) →
    ∃ xs, (∀ r, mkSlots ss (ds ++ r) = some (xs, r)) ∧ ∀ (z' : Sd) (st' : Nat → Ent X) (ρ : Prs) (a : Act), Ren X z z' st st' ρ → (∀ p ∈ ps, p ∈ ρ) → (∀ j, RA X w z st (s.tmps j) (a.tmps.getD j undef)) →
      ∀ j, RA X w z' st' (look2 .und xs j) (a.tmps.getD j undef)
  | [], ds, ps, h => by
    cases h
    exact ⟨[], fun r => rfl, fun _ _ _ _ _ _ _ _ => trivial⟩
  | (i, c) :: ss, ds, ps, h => by
    simp only [dSlots] at h
    split at h
    case h_2 => cases h
    case h_1 d p h1 =>
    split at h
    case h_2 => cases h
    case h_1 d' p' h2 =>
    cases h
    obtain ⟨x', e1, e2⟩ := dC_ok (w := w) (z := z) (st := st) h1
    obtain ⟨xs, g1, g3⟩ := dSlots_ok h2
    refine ⟨(i, x') :: xs, fun r => ?_, fun z' st' ρ a hr hp hl j => ?_⟩
    · simp only [mkSlots, List.append_assoc]
      rw [e1]
      simp only
      rw [g1]
    · simp only [look2]
      cases hij : Nat.beq i j with
      | true =>
        have := Nat.eq_of_beq_eq_true hij
        subst this
        exact e2 z' st' ρ _ hr (fun q hq => hp q (List.mem_append_left _ hq)) (hl i)
      | false => exact g3 z' st' ρ a hr (fun q hq => hp q (List.mem_append_right _ hq)) hl j

/-- What a place of the new store is, by the old one. -/
def EntTo (X : Ext) (w : World) (z : Sd) (st : Nat → Ent X) (ps : Prs) (o : Option Nat) (e : Ent X) : Prop :=
  match o with
  | none => ∃ t m, e = .row t m []
  | some o => (∃ t m m' xs, st o = .row t m xs ∧ e = .row t m' xs ∧ m.sub m' = true) ∨
      (∃ cs cs', st o = .box cs ∧ e = .box cs' ∧ cs'.length = cs.length ∧ ∀ (z' : Sd) (st' : Nat → Ent X) (ρ : Prs) (vs : List Value), Ren X z z' st st' ρ → (∀ p ∈ ps, p ∈ ρ) → All2 (RL X w z st) cs vs → All2 (RL X w z' st') cs' vs) ∨
      (∃ k v m m' es, st o = .map k v m es ∧ e = .map k v m' es ∧ m.sub m' = true ∧ m'.noOwn = true)

theorem dE_ok {c : ESh} {o : Option Nat} {d : List (DV X)} {p : Prs} (h : dE st c o = some (d, p)) : ∃ e, (∀ r, mkE c (d ++ r) = some (e, r)) ∧ EntTo X w z st p o e := by
  unfold dE at h
  split at h
  · rename_i e m
    cases h
    exact ⟨.row e m [], fun r => by simp [mkE], _, _, rfl⟩
  · rename_i e m o
    split at h
    · rename_i e' m' xs hs
      split at h
      · rename_i he
        subst he
        split at h
        · rename_i hm
          cases h
          exact ⟨.row e' m xs, fun r => by simp [mkE], .inl ⟨_, _, _, _, hs, rfl, hm⟩⟩
        · cases h
      · cases h
    · cases h
  · split at h
    · rename_i cs hs
      obtain ⟨ls', g1, g2, g3⟩ := dLeaves_ok (w := w) (z := z) (st := st) h
      exact ⟨.box ls', fun r => by simp only [mkE]; rw [g1], .inr (.inl ⟨_, _, hs, rfl, g2, g3⟩)⟩
    · cases h
  · rename_i k v m o
    split at h
    · rename_i k' v' m' es hs
      split at h
      · rename_i he
        obtain ⟨rfl, rfl⟩ := he
        split at h
        · rename_i hm
          cases h
          simp only [Bool.and_eq_true] at hm
          exact ⟨.map k' v' m es, fun r => by simp [mkE], .inr (.inr ⟨_, _, _, _, _, hs, rfl, hm.1, hm.2⟩)⟩
        · cases h
      · cases h
    · cases h
  · cases h

theorem EntTo.mono {ps ps' : Prs} {o : Option Nat} {e : Ent X} (h : EntTo X w z st ps o e) (hp : ∀ p ∈ ps, p ∈ ps') : EntTo X w z st ps' o e := by
  unfold EntTo at *
  cases o with
  | none => exact h
  | some o =>
    rcases h with h | ⟨cs, cs', h1, h2, h3, h4⟩ | h
    · exact .inl h
    · exact .inr (.inl ⟨cs, cs', h1, h2, h3, fun z' st' ρ vs hr hq hl => h4 z' st' ρ vs hr (fun p hp' => hq p (hp p hp')) hl⟩)
    · exact .inr (.inr h)

theorem dEnts_ok : ∀ {ss : List (Nat × ESh)} {ps : Prs} {ds : List (DV X)} {ps' ρ : Prs}, dEnts st ss ps = some (ds, ps', ρ) →
    ∃ es, (∀ r, mkEnts ss (ds ++ r) = some (es, r)) ∧ (∀ p ∈ ps, p ∈ ps') ∧ All2 (fun (q : Nat × Option Nat) (e : Nat × Ent X) => q.1 = e.1 ∧ EntTo X w z st ps' q.2 e.2) ρ es
  | [], ps, ds, ps', ρ, h => by
    cases h
    exact ⟨[], fun r => rfl, fun _ h => h, .nil⟩
  | (id, c) :: ss, ps, ds, ps', ρ, h => by
    simp only [dEnts] at h
    split at h
    case h_2 => cases h
    case h_1 d p h1 =>
    split at h
    case h_2 => cases h
    case h_1 d' ps2 ρ2 h2 =>
    cases h
    obtain ⟨e, e1, e2⟩ := dE_ok (w := w) (z := z) (st := st) h1
    obtain ⟨es, g1, g2, g3⟩ := dEnts_ok h2
    refine ⟨(id, e) :: es, fun r => ?_, fun q hq => g2 q (List.mem_append_left _ hq), .cons ⟨rfl, e2.mono fun q hq => g2 q (List.mem_append_right _ hq)⟩ g3⟩
    simp only [mkEnts, List.append_assoc]
    rw [e1]
    simp only
    rw [g1]

theorem prB_eq {p q : Nat × Option Nat} (h : prB p q = true) : p = q := by
  obtain ⟨a, b⟩ := p
  obtain ⟨c, d⟩ := q
  simp only [prB, Bool.and_eq_true] at h
  have h1 := Nat.eq_of_beq_eq_true h.1
  subst h1
  cases b <;> cases d <;> simp at h ⊢
  exact h

/-- The same state, under the shape's names. -/
theorem Sh.dec_ok {pins : List Nat} {sh : Sh} {ds : List (DV X)} {s' : AS X} (hd : sh.dec pins s = some ds) (hm : sh.mk' ds = some s') (hpin : ∀ p ∈ C.pin, p.1 ∈ pins) (htk : C.gr = true → s.st (tokId C.nt) = .none) (h : Gam X C s a w) : Gam X C s' a w := by
  obtain ⟨z, F, hg⟩ := h
  unfold Sh.dec at hd
  split at hd
  case h_2 => cases hd
  case h_1 d1 ps h1 =>
  split at hd
  case h_2 => cases hd
  case h_1 d2 ps' ρ h2 =>
  split at hd
  case isFalse => cases hd
  case isTrue hc =>
  cases hd
  simp only [Bool.and_eq_true, List.all_eq_true] at hc
  obtain ⟨⟨⟨c1, c2⟩, c3⟩, c4⟩ := hc
  obtain ⟨xs, g1, g2⟩ := dSlots_ok (w := w) (z := z) (st := s.st) h1
  obtain ⟨es, k1, k2, k3⟩ := dEnts_ok (w := w) (z := z) h2
  unfold Sh.mk' at hm
  rw [g1] at hm
  simp only at hm
  have k1' := k1 []
  rw [List.append_nil] at k1'
  rw [k1'] at hm
  simp only [Option.some.injEq] at hm
  subst hm
  have hps : ∀ p ∈ ps', p ∈ ρ := by
    intro p hp
    obtain ⟨q, hq, hpq⟩ := List.any_eq_true.1 (c1 p hp)
    rw [prB_eq hpq]; exact hq
  have hnd : (ρ.map (·.1)).Nodup := nodupB_ok c2
  have hnd2 : (ρ.filterMap (·.2)).Nodup := nodupB_ok c3
  -- the lookups
  have hlook : ∀ (ρ : Prs) (es : List (Nat × Ent X)), (ρ.map (·.1)).Nodup → All2 (fun (q : Nat × Option Nat) (e : Nat × Ent X) => q.1 = e.1 ∧ EntTo X w z s.st ps' q.2 e.2) ρ es →
      (∀ n o, (n, o) ∈ ρ → EntTo X w z s.st ps' o (look2 .none es n)) ∧ ∀ n, (∀ o, (n, o) ∉ ρ) → look2 .none es n = .none := by
    intro ρ es hn hall
    induction hall with
    | nil => exact ⟨fun n o h => (by cases h), fun n _ => rfl⟩
    | cons hqe ht ih =>
      rename_i q e ρ es
      obtain ⟨n0, o0⟩ := q
      obtain ⟨n1, e1⟩ := e
      simp only at hqe
      obtain ⟨rfl, hto⟩ := hqe
      rw [List.map_cons, List.nodup_cons] at hn
      obtain ⟨i1, i2⟩ := ih hn.2
      refine ⟨fun n o hno => ?_, fun n hno => ?_⟩
      · simp only [look2]
        rcases List.mem_cons.1 hno with he | hno'
        · cases he
          rw [show Nat.beq n0 n0 = true from Nat.beq_refl n0]
          exact hto
        · have hne : n0 ≠ n := fun he => hn.1 (List.mem_map.2 ⟨(n, o), hno', he.symm⟩)
          have : Nat.beq n0 n = false := by
            cases hb : Nat.beq n0 n with
            | false => rfl
            | true => exact absurd (Nat.eq_of_beq_eq_true hb) hne
          rw [this]
          exact i1 n o hno'
      · simp only [look2]
        have hne : n0 ≠ n := fun he => hno o0 (by rw [← he]; simp)
        have : Nat.beq n0 n = false := by
          cases hb : Nat.beq n0 n with
          | false => rfl
          | true => exact absurd (Nat.eq_of_beq_eq_true hb) hne
        rw [this]
        exact i2 n fun o ho => hno o (List.mem_cons_of_mem _ ho)
  obtain ⟨l1, l2⟩ := hlook ρ es hnd k3
  have huniq : ∀ n o o', (n, o) ∈ ρ → (n, o') ∈ ρ → o = o' := by
    intro n o o' ha hb
    have key : ∀ ρ : Prs, (ρ.map (·.1)).Nodup → (n, o) ∈ ρ → (n, o') ∈ ρ → o = o' := by
      intro ρ
      induction ρ with
      | nil => intro _ h; cases h
      | cons q ρ ih =>
        intro hn h1 h2
        rw [List.map_cons, List.nodup_cons] at hn
        rcases List.mem_cons.1 h1 with e1 | h1'
        · rcases List.mem_cons.1 h2 with e2 | h2'
          · have := e1.trans e2.symm
            injection this
          · exact absurd (List.mem_map.2 ⟨(n, o'), h2', by rw [← e1]⟩) hn.1
        · rcases List.mem_cons.1 h2 with e2 | h2'
          · exact absurd (List.mem_map.2 ⟨(n, o), h1', by rw [← e2]⟩) hn.1
          · exact ih hn.2 h1' h2'
    exact key ρ hnd ha hb
  have hinj : ∀ n n' o, (n, some o) ∈ ρ → (n', some o) ∈ ρ → n = n' := by
    intro n n' o ha hb
    have key : ∀ ρ : Prs, (ρ.filterMap (·.2)).Nodup → (n, some o) ∈ ρ → (n', some o) ∈ ρ → n = n' := by
      intro ρ
      induction ρ with
      | nil => intro _ h; cases h
      | cons q ρ ih =>
        intro hn h1 h2
        obtain ⟨q1, q2⟩ := q
        cases q2 with
        | none =>
          simp only [List.filterMap_cons] at hn
          exact ih hn (by simpa using h1) (by simpa using h2)
        | some q2 =>
          simp only [List.filterMap_cons, List.nodup_cons] at hn
          rcases List.mem_cons.1 h1 with e1 | h1'
          · rcases List.mem_cons.1 h2 with e2 | h2'
            · have := e1.trans e2.symm
              injection this
            · cases e1
              exact absurd (List.mem_filterMap (f := fun x : Nat × Option Nat => x.2) |>.2 ⟨(n', some o), h2', rfl⟩) hn.1
          · rcases List.mem_cons.1 h2 with e2 | h2'
            · cases e2
              exact absurd (List.mem_filterMap (f := fun x : Nat × Option Nat => x.2) |>.2 ⟨(n, some o), h1', rfl⟩) hn.1
            · exact ih hn.2 h1' h2'
    exact key ρ hnd2 ha hb
  have hpick : ∀ n, ∃ o : Option Nat, (∀ q, (n, some q) ∈ ρ → o = some q) ∧ (∀ q, o = some q → (n, some q) ∈ ρ) := by
    intro n
    by_cases hex : ∃ q, (n, some q) ∈ ρ
    · obtain ⟨q, hq⟩ := hex
      exact ⟨some q, fun q' hq' => huniq n _ _ hq hq', fun q' he => by cases he; exact hq⟩
    · exact ⟨none, fun q hq => absurd ⟨q, hq⟩ hex, fun q he => by cases he⟩
  obtain ⟨pk, hpk⟩ := Classical.axiomOfChoice hpick
  let z' : Sd := ⟨z.S, fun n => (pk n).bind z.bl, fun n => (pk n).elim 0 z.cp⟩
  let F' : Nat → List Nat := fun n => (pk n).elim [] F
  let st' : Nat → Ent X := look2 .none es
  have hpkold : ∀ n o, (n, some o) ∈ ρ → pk n = some o := fun n o h => (hpk n).1 o h
  have hpknil : ∀ n, (n, none) ∈ ρ → pk n = none := by
    intro n hn
    cases hp : pk n with
    | none => rfl
    | some q => exact absurd (huniq n _ _ hn ((hpk n).2 q hp)) (by simp)
  have hren : Ren X z z' s.st st' ρ := by
    refine ⟨rfl, fun n o hno => ?_, fun n hno => ?_⟩
    · refine ⟨by simp only [z', hpkold n o hno]; rfl, by simp only [z', hpkold n o hno]; rfl, ?_⟩
      rcases l1 n (some o) hno with ⟨t, m, m', xs, h1, h2, _⟩ | ⟨cs, cs', h1, h2, _, _⟩ | ⟨k, v, m, m', es, h1, h2, _⟩
      · exact .inl ⟨t, m, m', xs, h1, h2⟩
      · exact .inr (.inl ⟨cs, cs', h1, h2⟩)
      · exact .inr (.inr ⟨k, v, m, m', es, h1, h2⟩)
    · refine ⟨by simp only [z', hpknil n hno]; rfl, by simp only [z', hpknil n hno]; rfl, ?_⟩
      exact l1 n none hno
  refine ⟨z', F', hg.defers, hg.tsz, fun j => g2 z' st' ρ a hren (fun p hp => hps p (k2 p hp)) hg.tmp j, ?_, ?_, ?_, ?_, hg.Sout, hg.Slt, hg.heap, hg.size, ?_, hg.io, fun q1 _ => hg.tok q1 (htk q1)⟩
  · intro n
    by_cases hex : ∃ o, (n, o) ∈ ρ
    · obtain ⟨o, hno⟩ := hex
      have hto := l1 n o hno
      cases o with
      | none =>
        obtain ⟨t, m, he⟩ := hto
        show REnt X w z' st' n (look2 .none es n) (F' n)
        rw [he]
        simp only [F', z', REnt, hpknil n hno]
        exact .nil _ _ _ fun _ => ⟨none, rfl⟩
      | some o =>
        show REnt X w z' st' n (look2 .none es n) (F' n)
        have hent := hg.ent o
        rcases hto with ⟨t, m, m', xs, h1, h2, h3⟩ | ⟨cs, cs', h1, h2, h3, h4⟩ | ⟨k, v, m, m', es, h1, h2, h3, h4⟩
        · rw [h1] at hent
          rw [h2]
          simp only [F', z', REnt, hpkold n o hno, Option.bind_some, Option.elim_some] at hent ⊢
          exact hent.sub (Md.sub_cons (by simpa using h3) rfl)
        · rw [h1] at hent
          obtain ⟨b, arr, tt, e1, e2, e3, e4, e5⟩ := hent
          rw [h2]
          refine ⟨b, arr, tt, by simp only [z', hpkold n o hno]; exact e1, e2, e3, by simp only [F', hpkold n o hno]; exact e4, h4 z' st' ρ _ hren hps e5⟩
        · rw [h1] at hent
          obtain ⟨e0, b, arr, clock, e1, e2, e3, e4, e5⟩ := hent
          rw [h2]
          exact ⟨h4, b, arr, clock, by simp only [z', hpkold n o hno]; exact e1, e2, e3, by simp only [F', hpkold n o hno]; exact e4, e5.imp fun _ _ h => h.sub h3⟩
    · have hno : ∀ o, (n, o) ∉ ρ := fun o ho => hex ⟨o, ho⟩
      show REnt X w z' st' n (look2 .none es n) (F' n)
      rw [l2 n hno]
      have : pk n = none := by
        cases hp : pk n with
        | none => rfl
        | some q => exact absurd ((hpk n).2 q hp) (hno _)
      simp only [REnt, F', this]
      rfl
  · intro i j b hi hj
    simp only [F'] at hi hj
    cases hp : pk i with
    | none => rw [hp] at hi; cases hi
    | some p =>
      cases hq : pk j with
      | none => rw [hq] at hj; cases hj
      | some q =>
        rw [hp] at hi
        rw [hq] at hj
        have := hg.apart p q b hi hj
        subst this
        exact hinj i j p ((hpk i).2 p hp) ((hpk j).2 p hq)
  · intro i
    simp only [F']
    cases hp : pk i with
    | none => exact List.nodup_nil
    | some p => exact hg.nodup p
  · intro i b hb
    simp only [F'] at hb
    cases hp : pk i with
    | none => rw [hp] at hb; cases hb
    | some p => rw [hp] at hb; exact hg.own p b hb
  · intro p hp
    obtain ⟨i, k, v⟩ := p
    have hmem : (i, some i) ∈ ρ := by
      obtain ⟨q, hq, hpq⟩ := List.any_eq_true.1 (c4 i (hpin _ hp))
      rw [prB_eq hpq]; exact hq
    have := hg.pin _ hp
    cases k with
    | box => exact RL.ptr_ren hren hmem this
    | row => exact RL.whole_ren hren hmem this
    | map => exact RL.mp_ren hren hmem this
end
end Go.Proofs.Ytmbnalaiobhaaaa.E
