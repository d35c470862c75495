/- The engine, part 2: the operations on typed values. -/
import Derived.Test.YtmbnalaiobhaaaaE1
namespace Go.Proofs.Ytmbnalaiobhaaaa.E
open Go

def lim : Nat := 137438953472

/-- What is known of a type: its typed form; whether it is a struct; a slice's elements; a struct's fields: where, and how many cells. -/
structure TI where
  ty : Ty
  agg : Bool
  isSl : Bool
  el : TypeId
  fs : List (Nat × Nat)

section
variable (X : Ext)

/-- Its zero value is one of its values. -/
def Ty.zok : Ty → Bool
  | .fnv _ => false
  | .clo _ _ => false
  | .pair a b => a.zok && b.zok
  | .st a => a.zok
  | _ => true
/-! zero values -/
def zeroS (nm : (i : Nat) → X.T i) : (t : Ty) → D X.T t
  | .int _ => (0 : Int)
  | .bool => false
  | .str => ByteArray.empty
  | .ifc => none
  | .unit => ()
  | .sl _ => []
  | .pair a b => (zeroS nm a, zeroS nm b)
  | .st a => zeroS nm a
  | .named i => nm i
  | .fnv _ => ()
  | .clo _ t => zeroS nm t
def zeroF : Nat → (t : Ty) → D X.T t
  | 0 => zeroS X X.zer
  | n + 1 => zeroS X fun i => X.inn i (zeroF n (X.body i))
def zeroVS (nm : Nat → List Value) : Ty → List Value
  | .int k => [.int k 0]
  | .bool => [.bool false]
  | .str => [.string ByteArray.empty]
  | .ifc => [.nilIface]
  | .unit => []
  | .sl _ => [.slice none 0 0]
  | .pair a b => zeroVS nm a ++ zeroVS nm b
  | .st a => zeroVS nm a
  | .named i => nm i
  | .fnv _ => [.nilFunc]
  | .clo _ _ => [.nilFunc]
def zeroVF : Nat → Ty → Option (List Value)
  | 0, _ => none
  | n + 1, t => some (zeroVS (fun i => (zeroVF n (X.body i)).getD []) t)
def zeroLS (nm : Nat → List (Leaf X)) : Ty → List (Leaf X)
  | .int k => [.int k 0]
  | .bool => [.bool false]
  | .str => [.str ByteArray.empty]
  | .ifc => [.ifc none]
  | .unit => []
  | .sl _ => [.nil]
  | .pair a b => zeroLS nm a ++ zeroLS nm b
  | .st a => zeroLS nm a
  | .named i => nm i
  | .fnv _ => [.bot]
  | .clo _ _ => [.bot]
def zeroVN : Nat → Ty → List Value
  | 0 => zeroVS fun _ => []
  | n + 1 => zeroVS fun i => zeroVN n (X.body i)
def zeroLN : Nat → Ty → List (Leaf X)
  | 0 => zeroLS X fun _ => []
  | n + 1 => zeroLS X fun i => zeroLN n (X.body i)
/-- Only so deep do structs by a name lie in one another, without a slice between. -/
def fu : Nat := 3
def zeroD (t : Ty) : D X.T t := zeroF X fu t
def zeroV (t : Ty) : List Value := zeroVN X fu t
def zeroL (t : Ty) : List (Leaf X) := zeroLN X fu t

/-! a typed value as the cells that it has -/
def exS (nm : (i : Nat) → X.T i → Option (List (Leaf X))) (m : Md) : (t : Ty) → D X.T t → Option (List (Leaf X))
  | .int k, n => some [.int k n]
  | .bool, b => some [.bool b]
  | .str, s => some [.str s]
  | .ifc, s => some [.ifc s]
  | .unit, _ => some []
  | .sl e, xs => if m.noOwn then some [.sl m e xs] else some [.bot]
  | .pair a b, x => match exS nm m a x.1, exS nm m b x.2 with
    | some p, some q => some (p ++ q)
    | _, _ => none
  | .st a, x => exS nm m a x
  | .named i, x => nm i x
  | .fnv f, _ => some [.fn f]
  | .clo f t, x => if m = mSt then some [.clo f t x] else none
def exF (m : Md) : Nat → (t : Ty) → D X.T t → Option (List (Leaf X))
  | 0 => exS X (fun _ _ => none) m
  | n + 1 => exS X (fun i x => exF m n (X.body i) (X.out i x)) m
def ex (m : Md) (t : Ty) (x : D X.T t) : Option (List (Leaf X)) := exF X m fu t x

end
section
variable {X : Ext}

def castL {e' e : Ty} (h : e' = e) (xs : List (D X.T e')) : List (D X.T e) := h ▸ xs
def castD {e' e : Ty} (h : e' = e) (xs : D X.T e') : D X.T e := h ▸ xs
def castM {k k' v v' : Ty} (h : k' = k ∧ v' = v) (es : List (D X.T k' × D X.T v')) : List (D X.T k × D X.T v) := h.1 ▸ h.2 ▸ es
@[simp] theorem castM_rfl {k v : Ty} (es : List (D X.T k × D X.T v)) : castM ⟨rfl, rfl⟩ es = es := rfl
@[simp] theorem castL_rfl {e : Ty} (xs : List (D X.T e)) : castL rfl xs = xs := rfl
@[simp] theorem castD_rfl {e : Ty} (xs : D X.T e) : castD rfl xs = xs := rfl

/-- A leaf as the contents of a slice of such elements, in such a mode; what is used up for it. -/
def toSl (st : Nat → Ent X) (m : Md) (e : Ty) : Leaf X → Option (List (D X.T e) × List Nat)
  | .nil => some ([], [])
  | .sl m' e' xs => if h : e' = e then (if m'.sub m then some (castL h xs, []) else none) else none
  | .whole id => if m.hd = .own then (match st id with
    | .row e' m' xs => if h : e' = e then (if m'.sub m.tl then some (castL h xs, [id]) else none) else none
    | _ => none) else none
  | _ => none

/-- Cells as a typed value: it, what is used up, the cells behind. -/
def imS (nm : (i : Nat) → List (Leaf X) → Option (X.T i × List Nat × List (Leaf X))) (st : Nat → Ent X) (m : Md) :
    (t : Ty) → List (Leaf X) → Option (D X.T t × List Nat × List (Leaf X))
  | .int k, .int k' n :: r => if k' = k then some (n, [], r) else none
  | .bool, .bool b :: r => some (b, [], r)
  | .str, .str s :: r => some (s, [], r)
  | .ifc, .ifc s :: r => some (s, [], r)
  | .unit, r => some ((), [], r)
  | .sl e, l :: r => match toSl st m e l with
    | some (xs, ids) => some (xs, ids, r)
    | none => none
  | .pair a b, r => match imS nm st m a r with
    | some (x, i, r') => match imS nm st m b r' with
      | some (y, j, r'') => some ((x, y), i ++ j, r'')
      | none => none
    | none => none
  | .st a, r => imS nm st m a r
  | .named i, r => nm i r
  | .fnv f, .fn g :: r => if g = f then some ((), [], r) else none
  | .clo f t, .clo g t' x :: r => if h : t' = t then (if g = f ∧ m = mSt then some ((castD h x : D X.T t), [], r) else none) else none
  | _, _ => none
def imF (st : Nat → Ent X) (m : Md) : Nat → (t : Ty) → List (Leaf X) → Option (D X.T t × List Nat × List (Leaf X))
  | 0 => imS (fun _ _ => none) st m
  | n + 1 => imS (fun i ls => match imF st m n (X.body i) ls with
      | some (y, ids, r) => some (X.inn i y, ids, r)
      | none => none) st m
/-- All of the cells are the value. -/
def im (st : Nat → Ent X) (m : Md) (t : Ty) (ls : List (Leaf X)) : Option (D X.T t × List Nat) :=
  match imF st m fu t ls with
  | some (x, ids, []) => some (x, ids)
  | _ => none

/-- One cell of a typed value is another one. -/
def upS (nm : (i : Nat) → X.T i → Nat → Leaf X → Option (X.T i × List Nat)) (st : Nat → Ent X) (m : Md) :
    (t : Ty) → D X.T t → Nat → Leaf X → Option (D X.T t × List Nat)
  | .int k, _, 0, .int k' n => if k' = k then some (n, []) else none
  | .bool, _, 0, .bool b => some (b, [])
  | .str, _, 0, .str s => some (s, [])
  | .ifc, _, 0, .ifc s => some (s, [])
  | .sl e, _, 0, l => toSl st m e l
  | .pair a b, x, o, l => if o < a.cells X.sz then (match upS nm st m a x.1 o l with
      | some (y, i) => some ((y, x.2), i)
      | none => none) else (match upS nm st m b x.2 (o - a.cells X.sz) l with
      | some (y, i) => some ((x.1, y), i)
      | none => none)
  | .st a, x, o, l => upS nm st m a x o l
  | .named i, x, o, l => nm i x o l
  | _, _, _, _ => none
def upF (st : Nat → Ent X) (m : Md) : Nat → (t : Ty) → D X.T t → Nat → Leaf X → Option (D X.T t × List Nat)
  | 0 => upS (fun _ _ _ _ => none) st m
  | n + 1 => upS (fun i x o l => match upF st m n (X.body i) (X.out i x) o l with
      | some (y, ids) => some (X.inn i y, ids)
      | none => none) st m
def ups (st : Nat → Ent X) (m : Md) (t : Ty) : D X.T t → Nat → List (Leaf X) → Option (D X.T t × List Nat)
  | x, _, [] => some (x, [])
  | x, o, l :: r => match upF st m fu t x o l with
    | some (y, i) => match ups st m t y (o + 1) r with
      | some (z, j) => some (z, i ++ j)
      | none => none
    | none => none

def rd (t : Ty) (xs : List (D X.T t)) (i : Int) : D X.T t := xs.getD i.toNat (zeroD X t)

def Leaf.ids : Leaf X → List Nat
  | .whole id => [id]
  | .sub id _ _ => [id]
  | .ptr id _ => [id]
  | .mp id => [id]
  | .eptr id _ _ => [id]
  | _ => []
def Cmp.ids : Cmp X → List Nat
  | .one l => l.ids
  | .agg ls => ls.flatMap Leaf.ids
def A.ids : A X → List Nat
  | .und => []
  | .c x => x.ids
  | .tup xs => xs.flatMap Cmp.ids
def A.leaves : A X → Option (List (Leaf X))
  | .c (.one l) => some [l]
  | .c (.agg ls) => some ls
  | _ => none

def ofConst : Value → A X
  | .int k n => .c (.one (.int k n))
  | .bool b => .c (.one (.bool b))
  | .string s => .c (.one (.str s))
  | .slice none 0 0 => .c (.one .nil)
  | .nilIface => .c (.one (.ifc none))
  | _ => .und
def AS.ev (s : AS X) : Operand → A X
  | .tmp t => s.tmps t
  | .const v => ofConst v
  | .func f => .c (.one (.fn f))
  | .global _ => .und

/-- What an operation does: what its slot holds then, and what of the store is another. -/
structure Dl (X : Ext) where
  val : A X
  upd : List (Nat × Ent X)

def applySt (st : Nat → Ent X) : List (Nat × Ent X) → Nat → Ent X
  | [] => st
  | (i, e) :: r => applySt (upd st i e) r
def AS.app (s : AS X) (d : Option Tmp) (x : Dl X) : AS X := ⟨put s.tmps d x.val, applySt s.st x.upd⟩

def isNew : Ent X → Bool
  | .none => true
  | _ => false
def nodupB : List Nat → Bool
  | [] => true
  | a :: l => !l.contains a && nodupB l

structure Env (X : Ext) where
  tab : TypeId → Option TI
  nt : Nat
  /-- of a slot that is given a new row: whether the row stays one's own; how its elements are. -/
  ann : Nat → Bool × Md
  /-- of a slot: whether the rows that it is given are laid down for good. -/
  fz : Nat → Bool
  /-- behind which slot a slice that was taken out of a row's element is put back: the row, the slice. -/
  cl : Nat → Option (Nat × Nat)
  /-- whether it is told that what is laid down may be appended to; whether what was kept at the entry bears marks. -/
  gr : Bool
  mkd : Bool
  /-- behind which slot a row that is kept in a variable becomes one's own again: the variable, the cell, the row's new name. -/
  tw : Nat → Option (Nat × Nat × Nat)
  /-- structs that are compared. -/
  eqs : TypeId → Bool
  /-- maps: the key's type, the value's. -/
  mps : TypeId → Option (TypeId × TypeId)
  /-- what a function without a name has captured. -/
  clos : Nat → Option Ty

def one (l : Leaf X) : A X := .c (.one l)
def ok (v : A X) : Option (Bool × Dl X) := some (true, ⟨v, []⟩)

/-- A new row at a slot. -/
def newRow (E : Env X) (st : Nat → Ent X) (d : Option Tmp) (e : Ty) (xs : List (D X.T e)) (ids : List Nat) (chk : Bool) : Option (Bool × Dl X) :=
  match d with
  | some d =>
    if isNew (st d) && nodupB ids && !ids.contains d then
      (if (E.ann d).1 then some (chk, ⟨one (.whole d), ids.map (fun i => (i, .dead)) ++ [(d, .row e (E.ann d).2 xs)]⟩)
       else if (E.ann d).2.noOwn then some (chk, ⟨one (.sl (Md.cons .tc (E.ann d).2) e xs), ids.map fun i => (i, .dead)⟩) else none)
    else none
  | none => none
def newBox (st : Nat → Ent X) (d : Option Tmp) (ls : List (Leaf X)) : Option (Bool × Dl X) :=
  match d with
  | some d => if isNew (st d) then some (true, ⟨one (.ptr d 0), [(d, .box ls)]⟩) else none
  | none => none

def seg (ls : List (Leaf X)) (off n : Nat) (agg : Bool) : Option (Bool × Dl X) :=
  if agg then (if off + n ≤ ls.length then ok (.c (.agg ((ls.drop off).take n))) else none) else (match ls[off]? with
    | some l => ok (one l)
    | none => none)
def setSeg {α : Type} (ls : List α) (off : Nat) (s : List α) : List α := ls.take off ++ s ++ ls.drop (off + s.length)

def oLoad (st : Nat → Ent X) (ti : TI) : A X → Option (Bool × Dl X)
  | .c (.one (.ptr id off)) => match st id with
    | .box cs => seg cs off (ti.ty.cells X.sz) ti.agg
    | _ => none
  | .c (.one (.eptr id i off)) => match st id with
    | .row e m xs => match ex X m e (xs.getD i (zeroD X e)) with
      | some ls => seg ls off (ti.ty.cells X.sz) ti.agg
      | none => none
    | _ => none
  | .c (.one (.sptr m e x off)) => match ex X m e x with
    | some ls => seg ls off (ti.ty.cells X.sz) ti.agg
    | none => none
  | _ => none

/-- A slice that an element of one's own row owns is taken out. -/
def oNest (st : Nat → Ent X) (ti : TI) (d : Option Tmp) : A X → Option (Dl X)
  | .c (.one (.eptr id i off)) => match d, st id with
    | some d, .row e m xs => if m.hd = .own ∧ ti.isSl = true ∧ isNew (st d) = true ∧ ti.agg = false then (match lens X e (xs.getD i (zeroD X e)) off with
      | some l => some ⟨one (.whole d), [(id, .hol e m xs i off d), (d, .row l.e m.tl l.ys)]⟩
      | none => none) else none
    | _, _ => none
  | _ => none
def oStore (st : Nat → Ent X) (ti : TI) (p v : A X) : Option (Bool × Dl X) :=
  match v.leaves with
  | none => none
  | some ls => if ls.length = ti.ty.cells X.sz then (match p with
    | .c (.one (.ptr id off)) => match st id with
      | .box cs => if off + ls.length ≤ cs.length then some (true, ⟨.und, [(id, .box (setSeg cs off ls))]⟩) else none
      | _ => none
    | .c (.one (.eptr id i off)) => match st id with
      | .row e m xs => match ups st m e (xs.getD i (zeroD X e)) off ls with
        | some (y, ids) => if nodupB ids && !ids.contains id && decide (off + ls.length ≤ e.cells X.sz) then
            some (true, ⟨.und, ids.map (fun i => (i, .dead)) ++ [(id, .row e m (xs.set i y))]⟩) else none
        | none => none
      | _ => none
    | _ => none) else none

def live (st : Nat → Ent X) : Leaf X → Bool
  | .ptr id _ => match st id with
    | .box _ => true
    | _ => false
  | .eptr id _ _ => match st id with
    | .row _ _ _ => true
    | _ => false
  | .sptr _ _ _ _ => true
  | _ => false

def oField (st : Nat → Ent X) (ti : TI) (f : Nat) : A X → Option (Bool × Dl X)
  | .c (.one l) => if live st l then (match ti.fs[f]? with
    | some (o, _) => (match l with
      | .ptr id off => ok (one (.ptr id (off + o)))
      | .eptr id i off => ok (one (.eptr id i (off + o)))
      | .sptr m e x off => ok (one (.sptr m e x (off + o)))
      | _ => none)
    | none => none) else none
  | _ => none

def oNil (st : Nat → Ent X) : A X → Option (Bool × Dl X)
  | .c (.one l) => if live st l then ok (one l) else none
  | _ => none

def inR (i : Int) (n : Nat) : Bool := decide (0 ≤ i) && decide (i < (n : Int))

def oIndex (st : Nat → Ent X) (t : Ty) (x ix : A X) : Option (Bool × Dl X) :=
  match ix with
  | .c (.one (.int _ i)) => match x with
    | .c (.one (.sl m e xs)) => if e = t then some (inR i xs.length, ⟨one (.sptr m.tl e (rd e xs i) 0), []⟩) else none
    | .c (.one (.whole id)) => match st id with
      | .row e _ xs => if e = t then some (inR i xs.length, ⟨one (.eptr id i.toNat 0), []⟩) else none
      | _ => none
    | .c (.one (.sub id lo hi)) => match st id with
      | .row e _ _ => if e = t then some (inR i (hi - lo), ⟨one (.eptr id (lo + i.toNat) 0), []⟩) else none
      | _ => none
    | _ => none
  | _ => none

/-- The bounds of a part: whether they are right, and what they are. -/
def bnds (n : Nat) : Option Int → Option Int → Bool × Nat × Nat
  | none, none => (true, 0, n)
  | some l, none => (decide (0 ≤ l) && decide (l ≤ (n : Int)), l.toNat, n)
  | none, some h => (decide (0 ≤ h) && decide (h ≤ (n : Int)), 0, h.toNat)
  | some l, some h => (decide (0 ≤ l) && decide (l ≤ h) && decide (h ≤ (n : Int)), l.toNat, h.toNat)
def cutL {α : Type} (xs : List α) : Option Int → Option Int → List α
  | none, none => xs
  | some l, none => xs.drop l.toNat
  | none, some h => xs.take h.toNat
  | some l, some h => (xs.take h.toNat).drop l.toNat
def gBound : Option (A X) → Option (Option Int)
  | none => some none
  | some (.c (.one (.int .i64 n))) => some (some n)
  | _ => none
def oSlice (st : Nat → Ent X) (t : Ty) (x : A X) (lo hi : Option (A X)) : Option (Bool × Dl X) :=
  match gBound lo, gBound hi with
  | some l, some h => match x with
    | .c (.one (.sl m e xs)) => if e = t then some ((bnds xs.length l h).1, ⟨one (.sl (if l.isNone && h.isNone then m else Md.cons .st m.tl) e (cutL xs l h)), []⟩) else none
    | .c (.one (.whole id)) => match st id with
      | .row e _ xs => if e = t then some ((bnds xs.length l h).1, ⟨one (.sub id (bnds xs.length l h).2.1 (bnds xs.length l h).2.2), []⟩) else none
      | _ => none
    | _ => none
  | _, _ => none

def oLen (st : Nat → Ent X) : A X → Option (Bool × Dl X)
  | .c (.one .nil) => ok (one (.int .i64 0))
  | .c (.one (.sl _ _ xs)) => ok (one (.int .i64 (xs.length : Int)))
  | .c (.one (.whole id)) => match st id with
    | .row _ _ xs => ok (one (.int .i64 (xs.length : Int)))
    | _ => none
  | .c (.one (.sub id lo hi)) => match st id with
    | .row _ _ _ => ok (one (.int .i64 ((hi - lo : Nat) : Int)))
    | _ => none
  | _ => none

def oLenS : A X → Option (Bool × Dl X)
  | .c (.one (.str s)) => ok (one (.int .i64 (s.size : Int)))
  | _ => none

def bxor (k : IntKind) (a b : Int) : Int := ((BitVec.ofInt k.bits a ^^^ BitVec.ofInt k.bits b).toNat : Int)
def oBin (op : BinOp) (tb : Bool) : A X → A X → Option (Bool × Dl X)
  | .c (.one (.int k a)), .c (.one (.int k' b)) => match op with
    | .shl => if k.bits = 64 then some (decide (0 ≤ b), ⟨one (.int k (k.wrap (a * 2 ^ (min b.toNat 64)))), []⟩) else none
    | .shr => if k.bits = 64 then some (decide (0 ≤ b), ⟨one (.int k (a.fdiv (2 ^ (min b.toNat 64)))), []⟩) else none
    | op => if k = k' then (match op with
      | .add => ok (one (.int k (k.wrap (a + b))))
      | .sub => ok (one (.int k (k.wrap (a - b))))
      | .mul => ok (one (.int k (k.wrap (a * b))))
      | .quo => some (!decide (b = 0), ⟨one (.int k (k.wrap (a.tdiv b))), []⟩)
      | .rem => some (!decide (b = 0), ⟨one (.int k (a.tmod b)), []⟩)
      | .xor => ok (one (.int k (k.wrap (bxor k a b))))
      | .eql => ok (one (.bool (decide (a = b))))
      | .neq => ok (one (.bool (!decide (a = b))))
      | .lss => ok (one (.bool (decide (a < b))))
      | .leq => ok (one (.bool (decide (a ≤ b))))
      | .gtr => ok (one (.bool (decide (b < a))))
      | .geq => ok (one (.bool (decide (b ≤ a))))
      | _ => none) else none
  | .c (.one (.bool a)), .c (.one (.bool b)) => if tb then (match op with
    | .eql => ok (one (.bool (a == b)))
    | .neq => ok (one (.bool (a != b)))
    | _ => none) else none
  | _, _ => none

def oUn (op : UnOp) : A X → Option (Bool × Dl X)
  | .c (.one (.int k n)) => match op with
    | .neg => ok (one (.int k (k.wrap (0 - n))))
    | _ => none
  | .c (.one (.bool b)) => match op with
    | .not => ok (one (.bool (!b)))
    | _ => none
  | _ => none

def oPick (a b : A X) : A X → Option (Bool × Dl X)
  | .c (.one (.bool true)) => ok a
  | .c (.one (.bool false)) => ok b
  | _ => none

def buildLs (fs : List (Nat × Nat)) : List (Leaf X) → List (Nat × A X) → Option (List (Leaf X))
  | ls, [] => some ls
  | ls, (i, x) :: r => match x.leaves, fs[i]? with
    | some s, some (o, n) => if s.length = n && decide (o + n ≤ ls.length) then buildLs fs (setSeg ls o s) r else none
    | _, _ => none

def imAll (st : Nat → Ent X) (m : Md) (e : Ty) : List (A X) → Option (List (D X.T e) × List Nat)
  | [] => some ([], [])
  | a :: r => match a.leaves with
    | some ls => match im st m e ls with
      | some (x, i) => match imAll st m e r with
        | some (xs, j) => some (x :: xs, i ++ j)
        | none => none
      | none => none
    | none => none

/-- The first operand of an append: its contents, how its elements are, what is used up. -/
def appD (st : Nat → Ent X) (e : Ty) (m : Md) : A X → Option (List (D X.T e) × List Nat)
  | .c (.one .nil) => some ([], [])
  | .c (.one (.whole id)) => match st id with
    | .row e' m' xs => if h : e' = e then (if m'.sub m then some (castL h xs, [id]) else none) else none
    | _ => none
  | .c (.one (.sub id lo hi)) => match st id with
    | .row e' m' xs => if h : e' = e then (if m'.sub m && lo == 0 then some (castL h (xs.take hi), [id]) else none) else none
    | _ => none
  | _ => none
/-- The second one. -/
def appS (st : Nat → Ent X) (e : Ty) (m : Md) : A X → Option (List (D X.T e) × List Nat)
  | .c (.one .nil) => some ([], [])
  | .c (.one (.sl m' e' xs)) => if h : e' = e then (if m'.tl.sub m then some (castL h xs, []) else none) else none
  | .c (.one (.whole id)) => match st id with
    | .row e' m' xs => if h : e' = e then (if m'.sub m then some (castL h xs, if m'.noOwn then [] else [id]) else none) else none
    | _ => none
  | .c (.one (.sub id lo hi)) => match st id with
    | .row e' m' xs => if h : e' = e then (if m'.sub m && m'.noOwn then some (castL h ((xs.take hi).drop lo), []) else none) else none
    | _ => none
  | _ => none
def oAppend (E : Env X) (st : Nat → Ent X) (d : Option Tmp) (ti : TI) (x y : A X) : Option (Bool × Dl X) :=
  match d with
  | none => none
  | some d' => match E.tab ti.el with
    | none => none
    | some te => match appD st te.ty (E.ann d').2 x, appS st te.ty (E.ann d').2 y with
      | some (xs, i), some (ys, j) => newRow E st d te.ty (xs ++ ys) (i ++ j) (decide (xs.length + ys.length ≤ lim))
      | _, _ => none

/-- An append to a row that is kept, and that nothing lies behind: once. -/
def oGrow (E : Env X) (st : Nat → Ent X) (d : Option Tmp) (ti : TI) (x y : A X) : Option (Bool × Dl X) :=
  match d, x with
  | some d', .c (.one (.sl m e xs)) => match E.tab ti.el with
    | none => none
    | some te => match appS st e m.tl y with
      | some (ys, []) => if E.gr && E.mkd && isNew (st (tokId E.nt)) && (m.hd == .tc) && decide (te.ty = e) && !(E.ann d').1 && decide ((E.ann d').2 = m.tl) && isNew (st d') then
          some (decide (xs.length + ys.length ≤ lim), ⟨one (.sl (Md.cons .tc m.tl) e (xs ++ ys)), [(tokId E.nt, .dead)]⟩) else none
      | _ => none
  | _, _ => none

def sameTmp : Operand → Operand → Bool
  | .tmp a, .tmp b => a == b
  | _, _ => false

/-- All operations but calls of Go functions. -/
def ev1 (E : Env X) (o : Oper) (r : Operand → A X) (st : Nat → Ent X) : Option (Bool × Dl X) :=
  match o.op with
  | .move x => ok (r x)
  | .assign x => ok (r x)
  | .pick c a b => oPick (r a) (r b) (r c)
  | .alloc t => match E.tab t with
    | some ti => newBox st o.dst (zeroL X ti.ty)
    | none => none
  | .box t x => match E.tab t, (r x).leaves with
    | some _, some ls => newBox st o.dst ls
    | _, _ => none
  | .build t ps => match E.tab t with
    | some ti => if ti.agg then (match buildLs ti.fs (zeroL X ti.ty) (ps.toList.map fun p => (p.1, r p.2)) with
      | some ls => ok (.c (.agg ls))
      | none => none) else none
    | none => none
  | .buildSlice t n ps => match E.tab t, o.dst with
    | some ti, some d => match E.tab ti.el with
      | some te => if ti.isSl && (ps.toList.map (·.1) == List.range n) && decide (n * te.ty.cells X.sz ≤ 16777216) then (match imAll st (E.ann d).2 te.ty (ps.toList.map fun p => r p.2) with
        | some (xs, ids) => newRow E st o.dst te.ty xs ids true
        | none => none) else none
      | none => none
    | _, _ => none
  | .load t a => match E.tab t with
    | some ti => match oNest st ti o.dst (r a) with
      | some dl => some (true, dl)
      | none => oLoad st ti (r a)
    | none => none
  | .store t a x => match E.tab t with
    | some ti => oStore st ti (r a) (r x)
    | none => none
  | .nilCheck x => oNil st (r x)
  | .binOp op t x y _ => match E.tab t with
    | some ti => if ti.agg then none else oBin op (decide (ti.ty = .bool)) (r x) (r y)
    | none => none
  | .unOp op _ x => oUn op (r x)
  | .convert s t x => match E.tab s, E.tab t, r x with
    | some _, some ⟨.int k, _, _, _, _⟩, .c (.one (.int _ n)) => ok (one (.int k (k.wrap n)))
    | _, _, _ => none
  | .fieldAddr t x f => match E.tab t with
    | some ti => if ti.agg && ti.el == 0 then oField st ti f (r x) else none
    | none => none
  | .indexAddr t x ix => match E.tab t with
    | some ti => match E.tab ti.el with
      | some te => if ti.isSl then oIndex st te.ty (r x) (r ix) else none
      | none => none
    | none => none
  | .slice t x lo hi none => match E.tab t with
    | some ti => match E.tab ti.el with
      | some te => if ti.isSl then oSlice st te.ty (r x) (lo.map r) (hi.map r) else none
      | none => none
    | none => none
  | .extract x i => match r x with
    | .tup xs => match xs[i]? with
      | some c => ok (.c c)
      | none => none
    | _ => none
  | .makeSlice t l c => match E.tab t, r l with
    | some ti, .c (.one (.int .i64 n)) => match E.tab ti.el with
      | some te => if ti.isSl && sameTmp l c && te.ty.zok then newRow E st o.dst te.ty (List.replicate n.toNat (zeroD X te.ty)) [] (decide (0 ≤ n) && decide (n.toNat ≤ lim)) else none
      | none => none
    | _, _ => none
  | .call ⟨.builtin .len, as, ts⟩ => match as.toList, ts.toList with
    | [x], [t] => match E.tab t with
      | some ti => if ti.isSl then oLen st (r x) else if ti.ty = .str then oLenS (r x) else none
      | none => none
    | _, _ => none
  | .call ⟨.builtin .append, as, ts⟩ => match as.toList, ts.toList with
    | [x, y], [t, u] => match E.tab t with
      | some ti => if ti.isSl && t == u then (match oAppend E st o.dst ti (r x) (r y) with
        | some q => some q
        | none => oGrow E st o.dst ti (r x) (r y)) else none
      | none => none
    | _, _ => none
  | _ => none
end
end Go.Proofs.Ytmbnalaiobhaaaa.E
