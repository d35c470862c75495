/- The engine, part 1: what the slots and the store hold, and what it means of the machine. -/
import Derived.Test.YtmbnalaiobhaaaaE0
import Derived.MapKept
namespace Go.Proofs.Ytmbnalaiobhaaaa.E
open Go

/-- Kept, all the way down. -/
def mSt : Md := ⟨[], .st⟩
inductive Leaf (X : Ext) where
  | int (k : IntKind) (n : Int)
  | bool (b : Bool)
  | str (s : ByteArray)
  | ifc (s : IV)
  | nil
  | sl (m : Md) (e : Ty) (xs : List (D X.T e))
  | whole (id : Nat)
  | sub (id lo hi : Nat)
  | ptr (id off : Nat)
  | eptr (id i off : Nat)
  | sptr (m : Md) (e : Ty) (x : D X.T e) (off : Nat)
  | fn (f : FuncId)
  /-- a map. -/
  | mp (id : Nat)
  /-- a function with what it has captured. -/
  | clo (f : Nat) (t : Ty) (x : D X.T t)
  | bot

inductive Cmp (X : Ext) where
  | one (l : Leaf X)
  | agg (ls : List (Leaf X))

inductive A (X : Ext) where
  | und
  | c (x : Cmp X)
  | tup (xs : List (Cmp X))

inductive Ent (X : Ext) where
  | none
  | dead
  | row (e : Ty) (m : Md) (xs : List (D X.T e))
  | box (cs : List (Leaf X))
  /-- a row of which a slice in an element has been taken out: element, cell, the place that it is at now. -/
  | hol (e : Ty) (m : Md) (xs : List (D X.T e)) (i off ch : Nat)
  /-- a map: its entries. -/
  | map (k v : Ty) (m : Md) (es : List (D X.T k × D X.T v))

structure AS (X : Ext) where
  tmps : Nat → A X
  st : Nat → Ent X

inductive All2 {α β : Type} (R : α → β → Prop) : List α → List β → Prop
  | nil : All2 R [] []
  | cons {a b l r} (h : R a b) (t : All2 R l r) : All2 R (a :: l) (b :: r)

namespace All2
variable {α β : Type} {R R' : α → β → Prop}
theorem imp (h : ∀ a b, R a b → R' a b) {l : List α} {r : List β} (hl : All2 R l r) : All2 R' l r := by
  induction hl with
  | nil => exact .nil
  | cons ha _ ih => exact .cons (h _ _ ha) ih
theorem length {l : List α} {r : List β} (hl : All2 R l r) : l.length = r.length := by
  induction hl with
  | nil => rfl
  | cons _ _ ih => simp [ih]
theorem get {l : List α} {r : List β} (hl : All2 R l r) : ∀ (i : Nat) (a : α), l[i]? = some a → ∃ b, r[i]? = some b ∧ R a b := by
  induction hl with
  | nil => intro i a h; simp at h
  | cons h t ih =>
    intro i a hi
    cases i with
    | zero => simp at hi; subst hi; exact ⟨_, rfl, h⟩
    | succ i => simpa using ih i a (by simpa using hi)
theorem append {l l' : List α} {r r' : List β} (h : All2 R l r) (h' : All2 R l' r') : All2 R (l ++ l') (r ++ r') := by
  induction h with
  | nil => exact h'
  | cons ha _ ih => exact .cons ha ih
theorem of_get {l : List α} {r : List β} (hlen : l.length = r.length) (h : ∀ (i : Nat) (a : α), l[i]? = some a → ∃ b, r[i]? = some b ∧ R a b) : All2 R l r := by
  induction l generalizing r with
  | nil => cases r with
    | nil => exact .nil
    | cons => simp at hlen
  | cons a l ih => cases r with
    | nil => simp at hlen
    | cons b r =>
      obtain ⟨b', hb, hr⟩ := h 0 a rfl
      simp at hb
      subst hb
      exact .cons hr (ih (by simpa using hlen) fun i a ha => by simpa using h (i + 1) a (by simpa using ha))
theorem split {l l' : List α} {r : List β} (h : All2 R (l ++ l') r) : ∃ r1 r2, r = r1 ++ r2 ∧ All2 R l r1 ∧ All2 R l' r2 := by
  induction l generalizing r with
  | nil => exact ⟨[], r, rfl, .nil, h⟩
  | cons a l ih =>
    cases h with
    | cons ha ht =>
      obtain ⟨r1, r2, rfl, h1, h2⟩ := ih ht
      exact ⟨_ :: r1, r2, rfl, .cons ha h1, h2⟩
theorem map_left {γ : Type} {f : γ → α} {l : List γ} {r : List β} (h : All2 (fun a b => R (f a) b) l r) : All2 R (l.map f) r := by
  induction h with
  | nil => exact .nil
  | cons ha _ ih => exact .cons ha ih
theorem drop {l : List α} {r : List β} (h : All2 R l r) (n : Nat) : All2 R (l.drop n) (r.drop n) := by
  induction h generalizing n with
  | nil => simp; exact .nil
  | cons ha ht ih => cases n with
    | zero => exact .cons ha ht
    | succ n => exact ih n
theorem take {l : List α} {r : List β} (h : All2 R l r) (n : Nat) : All2 R (l.take n) (r.take n) := by
  induction h generalizing n with
  | nil => simp; exact .nil
  | cons ha ht ih => cases n with
    | zero => exact .nil
    | succ n => exact .cons ha (ih n)
end All2
/-- The entries of a map, each with its own stamp and its own key. -/
structure MEs {α : Type} (R : α → MapEntry → Prop) (es : List α) (arr : Array MapEntry) (clock : Nat) : Prop where
  all : All2 R es arr.toList
  st : MapKept.Stamped arr clock
theorem MEs.imp {α : Type} {R R' : α → MapEntry → Prop} (h : ∀ a b, R a b → R' a b) {es : List α} {arr : Array MapEntry} {clock : Nat} (hl : MEs R es arr clock) : MEs R' es arr clock := ⟨hl.all.imp h, hl.st⟩

def Md.cons (a : Mode) (m : Md) : Md := ⟨a :: m.l, m.d⟩
@[simp] theorem Md.cons_hd (a : Mode) (m : Md) : (Md.cons a m).hd = a := rfl
@[simp] theorem Md.cons_tl (a : Mode) (m : Md) : (Md.cons a m).tl = m := rfl

def hv (o : Option Nat) (n c : Nat) : Value := .slice (o.map fun b => ⟨b, 0, none⟩) n c

def OneC (v : Value) : Prop := v.oneCell' = true
theorem OneC.cells {v : Value} (h : OneC v) : v.cells = #[v] := by cases v <;> first | rfl | simp [OneC, Value.oneCell'] at h

theorem oneC_ivV (x : IV) : OneC (ivV x) := by
  cases x <;> rfl
/-- The machine's side: the store's blocks, their room, what each owns. -/
structure Sd where
  S : Nat → Option Nat
  bl : Nat → Option Nat
  cp : Nat → Nat

section
variable (X : Ext) (w : World) (z : Sd) (st : Nat → Ent X)

def RL : Leaf X → Value → Prop
  | .int k n, v => v = .int k n
  | .bool b, v => v = .bool b
  | .str s, v => v = .string s
  | .ifc s, v => v = ivV s
  | .nil, v => v = .slice none 0 0
  | .sl m e xs, v => m.noOwn = true ∧ Rd X w z.S m (.sl e) xs [v] []
  | .whole id, v => match st id with
    | .row _ _ xs => v = hv (z.bl id) xs.length (z.cp id)
    | .hol _ _ xs _ _ _ => v = hv (z.bl id) xs.length (z.cp id)
    | .dead => OneC v
    | _ => False
  | .sub id lo hi, v => match st id with
    | .row e _ xs => lo ≤ hi ∧ hi ≤ xs.length ∧ ∃ a c, v = .slice a (hi - lo) c ∧ hi - lo ≤ c ∧
        ((c = 0 ∧ a = (z.bl id).map fun b => ⟨b, 0, none⟩) ∨ ∃ b, z.bl id = some b ∧ a = some ⟨b, lo * e.cells X.sz, none⟩ ∧ lo + c = z.cp id)
    | .hol e _ xs _ _ _ => lo ≤ hi ∧ hi ≤ xs.length ∧ ∃ a c, v = .slice a (hi - lo) c ∧ hi - lo ≤ c ∧
        ((c = 0 ∧ a = (z.bl id).map fun b => ⟨b, 0, none⟩) ∨ ∃ b, z.bl id = some b ∧ a = some ⟨b, lo * e.cells X.sz, none⟩ ∧ lo + c = z.cp id)
    | .dead => OneC v
    | _ => False
  | .ptr id off, v => match st id with
    | .box _ => ∃ b, z.bl id = some b ∧ v = .pointer (some ⟨b, off, none⟩)
    | .dead => OneC v
    | _ => False
  | .eptr id i off, v => match st id with
    | .row e _ xs => i < xs.length ∧ ∃ b, z.bl id = some b ∧ v = .pointer (some ⟨b, i * e.cells X.sz + off, none⟩)
    | .hol e _ xs _ _ _ => i < xs.length ∧ ∃ b, z.bl id = some b ∧ v = .pointer (some ⟨b, i * e.cells X.sz + off, none⟩)
    | .dead => OneC v
    | _ => False
  | .sptr m e x off, v => m.noOwn = true ∧ ∃ b o ext vs, v = .pointer (some ⟨b, o + off, none⟩) ∧ Rd X w z.S m e x vs [] ∧ z.S b = some ext ∧ o + vs.length ≤ ext / 64 ∧
      ∀ j u, vs[j]? = some u → w.cell? ⟨b, o + j, none⟩ = some u
  | .fn f, v => v = .func (.func f) #[] #[]
  | .mp id, v => match st id with
    | .map _ _ _ _ => ∃ b, z.bl id = some b ∧ v = .map (some b)
    | .dead => OneC v
    | _ => False
  | .clo f t x, v => Rd X w z.S mSt (.clo f t) x [v] []
  | .bot, v => OneC v

def RC : Cmp X → Value → Prop
  | .one l, v => RL X w z st l v
  | .agg ls, v => ∃ vs, v = .agg vs.toArray ∧ All2 (RL X w z st) ls vs

def RA : A X → Value → Prop
  | .und, _ => True
  | .c x, v => RC X w z st x v
  | .tup xs, v => ∃ vs, v = .tuple vs.toArray ∧ All2 (RC X w z st) xs vs

def REnt (id : Nat) : Ent X → List Nat → Prop
  | .none, fp => fp = []
  | .dead, fp => fp = []
  | .row e m xs, fp => Rd X w z.S (Md.cons .own m) (.sl e) xs [hv (z.bl id) xs.length (z.cp id)] fp
  | .box cs, fp => ∃ b arr tt, z.bl id = some b ∧ w.heap[b]? = some (.cells arr tt (0, 0)) ∧ z.S b = none ∧ fp = [b] ∧ All2 (RL X w z st) cs arr.toList
  | .map k v m es, fp => m.noOwn = true ∧ ∃ b arr clock, z.bl id = some b ∧ w.heap[b]? = some (.map arr clock) ∧ z.S b = none ∧ fp = [b] ∧ MEs (ME X w z.S k v m) es arr clock
  | .hol e m xs i off ch, fp => (∀ c ∈ fp, c < w.heap.size ∧ z.S c = none) ∧ ∃ (x : D X.T e) (l : Ln X e) (h0 : Value), xs[i]? = some x ∧ lens X e x off = some l ∧
      (match st ch with
        | .row _ _ ys => hv (z.bl ch) ys.length (z.cp ch) = h0
        | .hol _ _ ys _ _ _ => hv (z.bl ch) ys.length (z.cp ch) = h0
        | .none => False
        | _ => True) ∧
      Wand X w z.S m (Md.cons .own m) (.sl e) l.e (fun ys => xs.set i (l.put ys)) [hv (z.bl id) xs.length (z.cp id)] h0 fp
end

/-- What was known of a place of the store goes on: or the place is dead. -/
def Keep1 {X : Ext} : Ent X → Ent X → Prop
  | .none, _ => True
  | _, .dead => True
  | .row e _ xs, .row e' _ xs' => e = e' ∧ xs.length = xs'.length
  | .row e _ xs, .hol e' _ xs' _ _ _ => e = e' ∧ xs.length = xs'.length
  | .hol e _ xs _ _ _, .row e' _ xs' => e = e' ∧ xs.length = xs'.length
  | .hol e _ xs _ _ _, .hol e' _ xs' _ _ _ => e = e' ∧ xs.length = xs'.length
  | .box cs, .box cs' => cs.length = cs'.length
  | .map _ _ _ _, .map _ _ _ _ => True
  | _, _ => False

theorem Keep1.refl {X : Ext} (a : Ent X) : Keep1 a a := by cases a <;> simp [Keep1]

/-- Nothing is said to the world outside. -/
def Io (w w' : World) : Prop := w'.os = w.os ∧ w'.output = w.output

structure Onw (X : Ext) (w w' : World) (z z' : Sd) (st st' : Nat → Ent X) : Prop where
  grow : ∀ b e, z.S b = some e → z'.S b = some e
  heap : ∀ b, z.S b ≠ none → w'.heap[b]? = w.heap[b]?
  keep : ∀ id, st id ≠ .none → Keep1 (st id) (st' id) ∧ (st' id ≠ .dead → z'.bl id = z.bl id ∧ z'.cp id = z.cp id)
  io : Io w w'

/-- The same, but that what is kept of a block may grow. -/
structure Onx (X : Ext) (w w' : World) (z z' : Sd) (st st' : Nat → Ent X) : Prop where
  kp : ∀ b c, z.S b = some c → Kp1 w w' z'.S b c
  keep : ∀ id, st id ≠ .none → Keep1 (st id) (st' id) ∧ (st' id ≠ .dead → z'.bl id = z.bl id ∧ z'.cp id = z.cp id)
  io : Io w w'
theorem Onw.x {X : Ext} {w w' : World} {z z' : Sd} {st st' : Nat → Ent X} (h : Onw X w w' z z' st st') : Onx X w w' z z' st st' :=
  ⟨fun b c hb => .strong (h.grow b c hb) (h.heap b (by simp [hb])), h.keep, h.io⟩

section
variable {X : Ext} {w w' : World} {z z' : Sd} {st st' : Nat → Ent X}

theorem RL.monoW (h : Onx X w w' z z' st st') {l : Leaf X} {v : Value} (hl : RL X w z st l v) : RL X w' z' st' l v := by
  cases l with
  | int => exact hl
  | bool => exact hl
  | str => exact hl
  | ifc => exact hl
  | nil => exact hl
  | fn => exact hl
  | bot => exact hl
  | clo f t x => exact Rd.frameW hl h.kp (by simp) (by simp)
  | sl m e xs => exact ⟨hl.1, hl.2.frameW h.kp (by simp) (by simp)⟩
  | sptr m e x off =>
    obtain ⟨hm, b, o, ext, vs, h1, h2, h3, h4, h5⟩ := hl
    obtain ⟨c', g1, g2, g3, g4, g5⟩ := h.kp b ext h3
    exact ⟨hm, b, o, c', vs, h1, h2.frameW h.kp (by simp) (by simp), g1, by have := g2.1; omega,
      fun j u hj => (g5 _ (by have := (List.getElem?_eq_some_iff.1 hj).1; have := g2.1; omega)).trans (h5 j u hj)⟩
  | whole id =>
    have hk := h.keep id
    simp only [RL] at hl ⊢
    cases hs : st id with
    | none => simp [hs] at hl
    | box cs => simp [hs] at hl
    | map => simp [hs] at hl
    | dead => 
      have := (hk (by simp [hs])).1
      rw [hs] at this
      cases hs' : st' id <;> simp_all [Keep1]
    | row e m xs =>
      rw [hs] at hl hk
      obtain ⟨h1, h2⟩ := hk (by simp)
      cases hs' : st' id with
      | none => simp [hs', Keep1] at h1
      | box cs => simp [hs', Keep1] at h1
      | map => simp [hs', Keep1] at h1
      | dead => simp only at hl ⊢; subst hl; rfl
      | row e' m' xs' =>
        rw [hs'] at h1 h2
        obtain ⟨h3, h4⟩ := h2 (by simp)
        simp only at hl ⊢
        rw [hl, h3, h4, h1.2]
      | hol e' m' xs' i j c =>
        rw [hs'] at h1 h2
        obtain ⟨h3, h4⟩ := h2 (by simp)
        simp only at hl ⊢
        rw [hl, h3, h4, h1.2]
    | hol e m xs i j c =>
      rw [hs] at hl hk
      obtain ⟨h1, h2⟩ := hk (by simp)
      cases hs' : st' id with
      | none => simp [hs', Keep1] at h1
      | box cs => simp [hs', Keep1] at h1
      | map => simp [hs', Keep1] at h1
      | dead => simp only at hl ⊢; subst hl; rfl
      | row e' m' xs' =>
        rw [hs'] at h1 h2
        obtain ⟨h3, h4⟩ := h2 (by simp)
        simp only at hl ⊢
        rw [hl, h3, h4, h1.2]
      | hol e' m' xs' i j c =>
        rw [hs'] at h1 h2
        obtain ⟨h3, h4⟩ := h2 (by simp)
        simp only at hl ⊢
        rw [hl, h3, h4, h1.2]
  | sub id lo hi =>
    have hk := h.keep id
    simp only [RL] at hl ⊢
    cases hs : st id with
    | none => simp [hs] at hl
    | box cs => simp [hs] at hl
    | map => simp [hs] at hl
    | dead => 
      have := (hk (by simp [hs])).1
      rw [hs] at this
      cases hs' : st' id <;> simp_all [Keep1]
    | row e m xs =>
      rw [hs] at hl hk
      obtain ⟨h1, h2⟩ := hk (by simp)
      cases hs' : st' id with
      | none => simp [hs', Keep1] at h1
      | box cs => simp [hs', Keep1] at h1
      | map => simp [hs', Keep1] at h1
      | dead => simp only at hl ⊢; obtain ⟨_, _, _, _, rfl, _⟩ := hl; rfl
      | row e' m' xs' =>
        rw [hs'] at h1 h2
        obtain ⟨h3, h4⟩ := h2 (by simp)
        simp only at hl ⊢
        obtain ⟨rfl, h5⟩ := h1
        rw [h3, h4, ← h5]
        exact hl
      | hol e' m' xs' i j c =>
        rw [hs'] at h1 h2
        obtain ⟨h3, h4⟩ := h2 (by simp)
        simp only at hl ⊢
        obtain ⟨rfl, h5⟩ := h1
        rw [h3, h4, ← h5]
        exact hl
    | hol e m xs i j c =>
      rw [hs] at hl hk
      obtain ⟨h1, h2⟩ := hk (by simp)
      cases hs' : st' id with
      | none => simp [hs', Keep1] at h1
      | box cs => simp [hs', Keep1] at h1
      | map => simp [hs', Keep1] at h1
      | dead => simp only at hl ⊢; obtain ⟨_, _, _, _, rfl, _⟩ := hl; rfl
      | row e' m' xs' =>
        rw [hs'] at h1 h2
        obtain ⟨h3, h4⟩ := h2 (by simp)
        simp only at hl ⊢
        obtain ⟨rfl, h5⟩ := h1
        rw [h3, h4, ← h5]
        exact hl
      | hol e' m' xs' i j c =>
        rw [hs'] at h1 h2
        obtain ⟨h3, h4⟩ := h2 (by simp)
        simp only at hl ⊢
        obtain ⟨rfl, h5⟩ := h1
        rw [h3, h4, ← h5]
        exact hl
  | ptr id off =>
    have hk := h.keep id
    simp only [RL] at hl ⊢
    cases hs : st id with
    | none => simp [hs] at hl
    | row e m xs => simp [hs] at hl
    | hol e m xs i j c => simp [hs] at hl
    | map => simp [hs] at hl
    | dead => 
      have := (hk (by simp [hs])).1
      rw [hs] at this
      cases hs' : st' id <;> simp_all [Keep1]
    | box cs =>
      rw [hs] at hl hk
      obtain ⟨h1, h2⟩ := hk (by simp)
      cases hs' : st' id with
      | none => simp [hs', Keep1] at h1
      | row e' m' xs' => simp [hs', Keep1] at h1
      | hol e' m' xs' i j c => simp [hs', Keep1] at h1
      | map => simp [hs', Keep1] at h1
      | dead => simp only at hl ⊢; obtain ⟨_, _, rfl⟩ := hl; rfl
      | box cs' =>
        rw [hs'] at h1 h2
        obtain ⟨h3, h4⟩ := h2 (by simp)
        simp only at hl ⊢
        rw [h3]
        exact hl
  | mp id =>
    have hk := h.keep id
    simp only [RL] at hl ⊢
    cases hs : st id with
    | none => simp [hs] at hl
    | row e m xs => simp [hs] at hl
    | hol e m xs i j c => simp [hs] at hl
    | box cs => simp [hs] at hl
    | dead =>
      have := (hk (by simp [hs])).1
      rw [hs] at this
      cases hs' : st' id <;> simp_all [Keep1]
    | map k v m es =>
      rw [hs] at hl hk
      obtain ⟨h1, h2⟩ := hk (by simp)
      cases hs' : st' id with
      | none => simp [hs', Keep1] at h1
      | row e' m' xs' => simp [hs', Keep1] at h1
      | hol e' m' xs' i j c => simp [hs', Keep1] at h1
      | box cs' => simp [hs', Keep1] at h1
      | dead => simp only at hl ⊢; obtain ⟨_, _, rfl⟩ := hl; rfl
      | map k' v' m' es' =>
        rw [hs'] at h1 h2
        obtain ⟨h3, h4⟩ := h2 (by simp)
        simp only at hl ⊢
        rw [h3]
        exact hl
  | eptr id i off =>
    have hk := h.keep id
    simp only [RL] at hl ⊢
    cases hs : st id with
    | none => simp [hs] at hl
    | box cs => simp [hs] at hl
    | map => simp [hs] at hl
    | dead => 
      have := (hk (by simp [hs])).1
      rw [hs] at this
      cases hs' : st' id <;> simp_all [Keep1]
    | row e m xs =>
      rw [hs] at hl hk
      obtain ⟨h1, h2⟩ := hk (by simp)
      cases hs' : st' id with
      | none => simp [hs', Keep1] at h1
      | box cs => simp [hs', Keep1] at h1
      | map => simp [hs', Keep1] at h1
      | dead => simp only at hl ⊢; obtain ⟨_, _, _, rfl⟩ := hl; rfl
      | row e' m' xs' =>
        rw [hs'] at h1 h2
        obtain ⟨h3, h4⟩ := h2 (by simp)
        simp only at hl ⊢
        obtain ⟨rfl, h5⟩ := h1
        rw [h3, ← h5]
        exact hl
      | hol e' m' xs' j k c =>
        rw [hs'] at h1 h2
        obtain ⟨h3, h4⟩ := h2 (by simp)
        simp only at hl ⊢
        obtain ⟨rfl, h5⟩ := h1
        rw [h3, ← h5]
        exact hl
    | hol e m xs j k c =>
      rw [hs] at hl hk
      obtain ⟨h1, h2⟩ := hk (by simp)
      cases hs' : st' id with
      | none => simp [hs', Keep1] at h1
      | box cs => simp [hs', Keep1] at h1
      | map => simp [hs', Keep1] at h1
      | dead => simp only at hl ⊢; obtain ⟨_, _, _, rfl⟩ := hl; rfl
      | row e' m' xs' =>
        rw [hs'] at h1 h2
        obtain ⟨h3, h4⟩ := h2 (by simp)
        simp only at hl ⊢
        obtain ⟨rfl, h5⟩ := h1
        rw [h3, ← h5]
        exact hl
      | hol e' m' xs' j k c =>
        rw [hs'] at h1 h2
        obtain ⟨h3, h4⟩ := h2 (by simp)
        simp only at hl ⊢
        obtain ⟨rfl, h5⟩ := h1
        rw [h3, ← h5]
        exact hl

theorem RL.oneC {l : Leaf X} {v : Value} (hl : RL X w z st l v) : OneC v := by
  cases l with
  | int => simp only [RL] at hl; subst hl; rfl
  | bool => simp only [RL] at hl; subst hl; rfl
  | str => simp only [RL] at hl; subst hl; rfl
  | ifc => simp only [RL] at hl; subst hl; exact oneC_ivV _
  | nil => simp only [RL] at hl; subst hl; rfl
  | fn => simp only [RL] at hl; subst hl; rfl
  | bot => exact hl
  | clo f t x =>
    simp only [RL] at hl
    cases hl
    rfl
  | sl m e xs =>
    obtain ⟨_, hr⟩ := hl
    cases hr <;> rfl
  | sptr m e x off => obtain ⟨_, b, o, ext, vs, rfl, _⟩ := hl; rfl
  | whole id =>
    simp only [RL] at hl
    split at hl
    · subst hl; rfl
    · subst hl; rfl
    · exact hl
    · exact hl.elim
  | sub id lo hi =>
    simp only [RL] at hl
    split at hl
    · obtain ⟨_, _, _, _, rfl, _⟩ := hl; rfl
    · obtain ⟨_, _, _, _, rfl, _⟩ := hl; rfl
    · exact hl
    · exact hl.elim
  | mp id =>
    simp only [RL] at hl
    split at hl
    · obtain ⟨_, _, rfl⟩ := hl; rfl
    · exact hl
    · exact hl.elim
  | ptr id off =>
    simp only [RL] at hl
    split at hl
    · obtain ⟨_, _, rfl⟩ := hl; rfl
    · exact hl
    · exact hl.elim
  | eptr id i off =>
    simp only [RL] at hl
    split at hl
    · obtain ⟨_, _, _, rfl⟩ := hl; rfl
    · obtain ⟨_, _, _, rfl⟩ := hl; rfl
    · exact hl
    · exact hl.elim

theorem RL.mono (h : Onw X w w' z z' st st') {l : Leaf X} {v : Value} (hl : RL X w z st l v) : RL X w' z' st' l v := RL.monoW h.x hl
theorem RC.monoW (h : Onx X w w' z z' st st') {x : Cmp X} {v : Value} (hl : RC X w z st x v) : RC X w' z' st' x v := by
  cases x with
  | one l => exact RL.monoW h hl
  | agg ls => obtain ⟨vs, h1, h2⟩ := hl; exact ⟨vs, h1, h2.imp fun _ _ => RL.monoW h⟩
theorem RC.mono (h : Onw X w w' z z' st st') {x : Cmp X} {v : Value} (hl : RC X w z st x v) : RC X w' z' st' x v := RC.monoW h.x hl
theorem RA.monoW (h : Onx X w w' z z' st st') {x : A X} {v : Value} (hl : RA X w z st x v) : RA X w' z' st' x v := by
  cases x with
  | und => trivial
  | c x => exact RC.monoW h hl
  | tup xs => obtain ⟨vs, h1, h2⟩ := hl; exact ⟨vs, h1, h2.imp fun _ _ => RC.monoW h⟩
theorem RA.mono (h : Onw X w w' z z' st st') {x : A X} {v : Value} (hl : RA X w z st x v) : RA X w' z' st' x v := RA.monoW h.x hl
end

/-- What is handed on by address: a row, a variable, a map. -/
inductive Pk where
  | row
  | box
  | map
/-- What a function's body is walked in: how many slots, what the heap was at the entry, what it may write, what was kept at the entry. -/
structure Ctx where
  nt : Nat
  n0 : Nat
  U : Nat → Prop
  S0 : Nat → Option Nat
  w0 : World
  fresh : ∀ b, n0 ≤ b → U b
  /-- whether a row that is kept may grow here, once. -/
  gr : Bool
  /-- whether all that was kept at the entry is marked. -/
  mkd : Bool
  hmk : mkd = true → ∀ b c, ¬ U b → S0 b = some c → 2 ≤ c % 4
  /-- what was handed on by address, and stays so. -/
  pin : List (Nat × Pk × Value)
  /-- the world outside: what lay there when all began. -/
  O : World
  hO : ∀ b, b < O.heap.size → ¬ U b ∧ w0.heap[b]? = O.heap[b]?
  Osz : O.heap.size ≤ n0

def pinL (X : Ext) (id : Nat) (p : Pk) : Leaf X := match p with
  | .row => .whole id
  | .box => .ptr id 0
  | .map => .mp id

/-- The place that says whether a row may still grow. -/
def tokId (nt : Nat) : Nat := nt + 64 * nt + 64
structure G (X : Ext) (C : Ctx) (z : Sd) (F : Nat → List Nat) (s : AS X) (a : Act) (w : World) : Prop where
  defers : a.defers = []
  tsz : a.tmps.size = C.nt
  tmp : ∀ j, RA X w z s.st (s.tmps j) (a.tmps.getD j undef)
  ent : ∀ id, REnt X w z s.st id (s.st id) (F id)
  apart : ∀ i j b, b ∈ F i → b ∈ F j → i = j
  nodup : ∀ i, (F i).Nodup
  own : ∀ i b, b ∈ F i → z.S b = none ∧ C.U b ∧ b < w.heap.size
  Sout : ∀ b, ¬ C.U b → z.S b = C.S0 b
  Slt : ∀ b, z.S b ≠ none → b < w.heap.size
  heap : ∀ b, ¬ C.U b → w.heap[b]? = C.w0.heap[b]?
  size : C.n0 ≤ w.heap.size
  pin : ∀ p ∈ C.pin, RL X w z s.st (pinL X p.1 p.2.1) p.2.2
  io : Io C.w0 w
  tok : C.gr = true → s.st (tokId C.nt) = .none → ∀ b c, C.U b → z.S b = some c → FlC c

def Gam (X : Ext) (C : Ctx) (s : AS X) (a : Act) (w : World) : Prop := ∃ z F, G X C z F s a w

def upd {α : Type} (f : Nat → α) (d : Nat) (v : α) : Nat → α := fun j => if j = d then v else f j
@[simp] theorem upd_same {α : Type} (f : Nat → α) (d : Nat) (v : α) : upd f d v d = v := by simp [upd]
theorem upd_ne {α : Type} (f : Nat → α) {d j : Nat} (v : α) (h : j ≠ d) : upd f d v j = f j := by simp [upd, h]

def put {α : Type} (f : Nat → α) (d : Option Nat) (v : α) : Nat → α := match d with
  | some d => upd f d v
  | none => f

section
variable {X : Ext} {C : Ctx} {w w' : World} {z z' : Sd} {F F' : Nat → List Nat} {s : AS X} {a : Act}

/-- One step, by which what is kept may grow: the places in 'T' are touched, all else is as it was. -/
theorem G.stepW (h : G X C z F s a w) {st' : Nat → Ent X} (T : Nat → Prop)
    (on : Onx X w w' z z' s.st st')
    (same : ∀ id, ¬ T id → st' id = s.st id ∧ F' id = F id)
    (heapF : ∀ id b, ¬ T id → b ∈ F id → w'.heap[b]? = w.heap[b]?)
    (ent : ∀ id, T id → REnt X w' z' st' id (st' id) (F' id))
    (nodup : ∀ id, T id → (F' id).Nodup)
    (from_ : ∀ id b, T id → b ∈ F' id → (w.heap.size ≤ b ∨ ∃ j, T j ∧ b ∈ F j) ∧ z'.S b = none ∧ b < w'.heap.size)
    (apart : ∀ i j b, T i → T j → b ∈ F' i → b ∈ F' j → i = j)
    (Snew : ∀ b, z'.S b ≠ none → z.S b ≠ none ∨ ((w.heap.size ≤ b ∨ ∃ j, T j ∧ b ∈ F j) ∧ b < w'.heap.size))
    (heapU : ∀ b, ¬ C.U b → w'.heap[b]? = w.heap[b]?) (size : w.heap.size ≤ w'.heap.size)
    (Sout : ∀ b, ¬ C.U b → z'.S b = z.S b) (tok : C.gr = true → st' (tokId C.nt) = .none → ∀ b c, C.U b → z'.S b = some c → FlC c)
    {d : Option Nat} {v : Value} {x : A X} (hx : RA X w' z' st' x v) (hd : ∀ j, d = some j → j < C.nt) :
    G X C z' F' ⟨put s.tmps d x, st'⟩ (a.put d v) w' := by
  have hSF : ∀ id b, ¬ T id → b ∈ F id → z'.S b = none := by
    intro id b hT hb
    cases hS : z'.S b with
    | none => rfl
    | some e =>
      rcases Snew b (by simp [hS]) with h1 | ⟨h1 | ⟨j, hj, hbj⟩, _⟩
      · exact absurd (h.own id b hb).1 h1
      · exact absurd (h.own id b hb).2.2 (by omega)
      · exact absurd (h.apart id j b hb hbj) (fun e => hT (e ▸ hj))
  have hFU : ∀ id b, T id → b ∈ F' id → C.U b := by
    intro id b hT hb
    rcases (from_ id b hT hb).1 with h1 | ⟨j, _, hj⟩
    · exact C.fresh b (Nat.le_trans h.size h1)
    · exact (h.own j b hj).2.1
  refine ⟨?_, ?_, ?_, ?_, ?_, ?_, ?_, ?_, ?_, ?_, Nat.le_trans h.size size, fun p hp => RL.monoW on (h.pin p hp), ⟨on.io.1.trans h.io.1, on.io.2.trans h.io.2⟩, tok⟩
  · cases d <;> simp [Act.put, h.defers]
  · cases d <;> simp [Act.put, h.tsz]
  · intro j
    have hold := RA.monoW on (h.tmp j)
    cases d with
    | none => exact hold
    | some d =>
      by_cases hjd : j = d
      · subst hjd
        have hlt : j < a.tmps.size := by rw [h.tsz]; exact hd j rfl
        simpa [put, Act.put, Array.getD_eq_getD_getElem?, hlt] using hx
      · simpa [put, upd_ne _ _ hjd, Act.put, Array.getD_eq_getD_getElem?, Array.getElem?_setIfInBounds_ne (Ne.symm hjd)] using hold
  · intro id
    by_cases hT : T id
    · exact ent id hT
    · obtain ⟨h1, h2⟩ := same id hT
      rw [show (⟨put s.tmps d x, st'⟩ : AS X).st id = s.st id from h1, h2]
      have he := h.ent id
      cases hs : s.st id with
      | none => rw [hs] at he; exact he
      | dead => rw [hs] at he; exact he
      | row e m xs =>
        rw [hs] at he
        have hk := (on.keep id (by simp [hs])).2 (by rw [h1, hs]; simp)
        simp only [REnt, hk.1, hk.2] at he ⊢
        exact he.frameW on.kp (fun b hb => heapF id b hT hb) (fun b hb => hSF id b hT hb)
      | box cs =>
        rw [hs] at he
        have hk := (on.keep id (by simp [hs])).2 (by rw [h1, hs]; simp)
        obtain ⟨b, arr, tt, e1, e2, e3, e4, e5⟩ := he
        have hb : b ∈ F id := by rw [e4]; simp
        exact ⟨b, arr, tt, hk.1.trans e1, (heapF id b hT hb).trans e2, hSF id b hT hb, e4, e5.imp fun _ _ => RL.monoW on⟩
      | map k v m es =>
        rw [hs] at he
        have hk := (on.keep id (by simp [hs])).2 (by rw [h1, hs]; simp)
        obtain ⟨e0, b, arr, clock, e1, e2, e3, e4, e5⟩ := he
        have hb : b ∈ F id := by rw [e4]; simp
        exact ⟨e0, b, arr, clock, hk.1.trans e1, (heapF id b hT hb).trans e2, hSF id b hT hb, e4, e5.imp fun _ _ h => h.frameW on.kp⟩
      | hol e m xs i off ch =>
        rw [hs] at he
        have hk := (on.keep id (by simp [hs])).2 (by rw [h1, hs]; simp)
        obtain ⟨e0, x, l, h0, e1, e2, e3, e4⟩ := he
        have hfr : Frm w z.S (F id) w' z'.S := ⟨on.kp, fun b hb => heapF id b hT hb, fun b hb => hSF id b hT hb⟩
        refine ⟨fun c hc => ⟨Nat.lt_of_lt_of_le (e0 c hc).1 size, hSF id c hT hc⟩, x, l, h0, e1, e2, ?_, ?_⟩
        · cases hsc : s.st ch with
          | none => rw [hsc] at e3; exact e3.elim
          | dead =>
            have := (on.keep ch (by simp [hsc])).1
            rw [hsc] at this
            show match st' ch with
              | .row _ _ ys => hv (z'.bl ch) ys.length (z'.cp ch) = h0
              | .hol _ _ ys _ _ _ => hv (z'.bl ch) ys.length (z'.cp ch) = h0
              | .none => False
              | _ => True
            cases hsc' : st' ch <;> simp_all [Keep1]
          | box cs =>
            have := (on.keep ch (by simp [hsc])).1
            rw [hsc] at this
            show match st' ch with
              | .row _ _ ys => hv (z'.bl ch) ys.length (z'.cp ch) = h0
              | .hol _ _ ys _ _ _ => hv (z'.bl ch) ys.length (z'.cp ch) = h0
              | .none => False
              | _ => True
            cases hsc' : st' ch <;> simp_all [Keep1]
          | map =>
            have := (on.keep ch (by simp [hsc])).1
            rw [hsc] at this
            show match st' ch with
              | .row _ _ ys => hv (z'.bl ch) ys.length (z'.cp ch) = h0
              | .hol _ _ ys _ _ _ => hv (z'.bl ch) ys.length (z'.cp ch) = h0
              | .none => False
              | _ => True
            cases hsc' : st' ch <;> simp_all [Keep1]
          | row ec mc ys =>
            obtain ⟨g1, g2⟩ := on.keep ch (by simp [hsc])
            rw [hsc] at g1 e3
            show match st' ch with
              | .row _ _ ys => hv (z'.bl ch) ys.length (z'.cp ch) = h0
              | .hol _ _ ys _ _ _ => hv (z'.bl ch) ys.length (z'.cp ch) = h0
              | .none => False
              | _ => True
            cases hsc' : st' ch with
            | none => rw [hsc'] at g1; simp [Keep1] at g1
            | box => trivial
            | map => trivial
            | dead => trivial
            | row e' m' ys' =>
              rw [hsc'] at g1 g2
              obtain ⟨q1, q2⟩ := g2 (by simp)
              simp only [q1, q2, ← g1.2]
              exact e3
            | hol e' m' ys' _ _ _ =>
              rw [hsc'] at g1 g2
              obtain ⟨q1, q2⟩ := g2 (by simp)
              simp only [q1, q2, ← g1.2]
              exact e3
          | hol ec mc ys _ _ _ =>
            obtain ⟨g1, g2⟩ := on.keep ch (by simp [hsc])
            rw [hsc] at g1 e3
            show match st' ch with
              | .row _ _ ys => hv (z'.bl ch) ys.length (z'.cp ch) = h0
              | .hol _ _ ys _ _ _ => hv (z'.bl ch) ys.length (z'.cp ch) = h0
              | .none => False
              | _ => True
            cases hsc' : st' ch with
            | none => rw [hsc'] at g1; simp [Keep1] at g1
            | box => trivial
            | map => trivial
            | dead => trivial
            | row e' m' ys' =>
              rw [hsc'] at g1 g2
              obtain ⟨q1, q2⟩ := g2 (by simp)
              simp only [q1, q2, ← g1.2]
              exact e3
            | hol e' m' ys' _ _ _ =>
              rw [hsc'] at g1 g2
              obtain ⟨q1, q2⟩ := g2 (by simp)
              simp only [q1, q2, ← g1.2]
              exact e3
        · rw [hk.1, hk.2]
          exact e4.frm hfr
  · intro i j b hi hj
    by_cases hTi : T i
    · by_cases hTj : T j
      · exact apart i j b hTi hTj hi hj
      · rw [(same j hTj).2] at hj
        rcases (from_ i b hTi hi).1 with h1 | ⟨k, hk, hbk⟩
        · exact absurd (h.own j b hj).2.2 (by omega)
        · exact absurd (h.apart j k b hj hbk) (fun e => hTj (e ▸ hk))
    · rw [(same i hTi).2] at hi
      by_cases hTj : T j
      · rcases (from_ j b hTj hj).1 with h1 | ⟨k, hk, hbk⟩
        · exact absurd (h.own i b hi).2.2 (by omega)
        · exact absurd (h.apart i k b hi hbk) (fun e => hTi (e ▸ hk))
      · rw [(same j hTj).2] at hj
        exact h.apart i j b hi hj
  · intro i
    by_cases hT : T i
    · exact nodup i hT
    · rw [(same i hT).2]; exact h.nodup i
  · intro i b hb
    by_cases hT : T i
    · exact ⟨(from_ i b hT hb).2.1, hFU i b hT hb, (from_ i b hT hb).2.2⟩
    · rw [(same i hT).2] at hb
      exact ⟨hSF i b hT hb, (h.own i b hb).2.1, Nat.lt_of_lt_of_le (h.own i b hb).2.2 size⟩
  · intro b hb
    rw [← h.Sout b hb]
    exact Sout b hb
  · intro b hb
    rcases Snew b hb with h1 | h1
    · exact Nat.lt_of_lt_of_le (h.Slt b h1) size
    · exact h1.2
  · intro b hb
    exact (heapU b hb).trans (h.heap b hb)

/-- One step: the places in 'T' are touched, all else is as it was. -/
theorem G.step (h : G X C z F s a w) {st' : Nat → Ent X} (T : Nat → Prop)
    (on : Onw X w w' z z' s.st st')
    (same : ∀ id, ¬ T id → st' id = s.st id ∧ F' id = F id)
    (heapF : ∀ id b, ¬ T id → b ∈ F id → w'.heap[b]? = w.heap[b]?)
    (ent : ∀ id, T id → REnt X w' z' st' id (st' id) (F' id))
    (nodup : ∀ id, T id → (F' id).Nodup)
    (from_ : ∀ id b, T id → b ∈ F' id → (w.heap.size ≤ b ∨ ∃ j, T j ∧ b ∈ F j) ∧ z'.S b = none ∧ b < w'.heap.size)
    (apart : ∀ i j b, T i → T j → b ∈ F' i → b ∈ F' j → i = j)
    (Snew : ∀ b, z'.S b ≠ none → z.S b ≠ none ∨ ((w.heap.size ≤ b ∨ ∃ j, T j ∧ b ∈ F j) ∧ b < w'.heap.size))
    (heapU : ∀ b, ¬ C.U b → w'.heap[b]? = w.heap[b]?) (size : w.heap.size ≤ w'.heap.size)
    (hT : ∀ id, T id → st' id ≠ .none) (Sfl : C.gr = true → ∀ b c, z'.S b = some c → z.S b = none → FlC c)
    {d : Option Nat} {v : Value} {x : A X} (hx : RA X w' z' st' x v) (hd : ∀ j, d = some j → j < C.nt) :
    G X C z' F' ⟨put s.tmps d x, st'⟩ (a.put d v) w' := by
  refine h.stepW T on.x same heapF ent nodup from_ apart Snew heapU size ?_ ?_ hx hd
  · intro b hb
    cases hS : z.S b with
    | some e => exact on.grow b e hS
    | none =>
      cases hS' : z'.S b with
      | none => rfl
      | some e =>
        rcases Snew b (by simp [hS']) with h1 | ⟨h1 | ⟨j, _, hj⟩, _⟩
        · exact absurd hS h1
        · exact absurd (C.fresh b (Nat.le_trans h.size h1)) hb
        · exact absurd (h.own j b hj).2.1 hb
  · intro hgr hn b c hU hS'
    cases hS : z.S b with
    | none => exact Sfl hgr b c hS' hS
    | some e =>
      have h1 := on.grow b e hS
      rw [h1] at hS'
      cases hS'
      refine h.tok hgr ?_ b _ hU hS
      by_cases hTK : T (tokId C.nt)
      · exact absurd hn (hT _ hTK)
      · rw [← (same _ hTK).1]; exact hn

/-- Nothing is touched but a slot. -/
theorem G.same (h : G X C z F s a w) {d : Option Nat} {v : Value} {x : A X} (hx : RA X w z s.st x v) (hd : ∀ j, d = some j → j < C.nt) :
    G X C z F ⟨put s.tmps d x, s.st⟩ (a.put d v) w :=
  h.step (fun _ => False) ⟨fun _ _ h => h, fun _ _ => rfl, fun _ _ => ⟨Keep1.refl _, fun _ => ⟨rfl, rfl⟩⟩, rfl, rfl⟩ (fun _ _ => ⟨rfl, rfl⟩) (fun _ _ _ _ => rfl)
    (fun _ h => h.elim) (fun _ h => h.elim) (fun _ _ h => h.elim) (fun _ _ _ h => h.elim) (fun _ h => .inl h) (fun _ _ => rfl) (Nat.le_refl _) (fun _ h => h.elim) (fun _ b c h1 h2 => by rw [h2] at h1; cases h1) hx hd
end
end Go.Proofs.Ytmbnalaiobhaaaa.E
