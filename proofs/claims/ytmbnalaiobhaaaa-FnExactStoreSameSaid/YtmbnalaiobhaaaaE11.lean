/- The engine, part 11: calls: what is handed on, what comes back. -/
import Derived.Test.YtmbnalaiobhaaaaEA
namespace Go.Proofs.Ytmbnalaiobhaaaa.E
open Go

/-- No slice lies in it. -/
def Ty.flat : Ty → Bool
  | .sl _ => false
  | .pair a b => a.flat && b.flat
  | .st a => a.flat
  | .named _ => false
  | .clo _ _ => false
  | _ => true

/-- No slice in it hangs on what is lent. -/
def Ty.ownIn : Ty → Md → Bool
  | .sl e, m => (m.hd != .st) && e.ownIn m.tl
  | .pair a b, m => a.ownIn m && b.ownIn m
  | .st a, m => a.ownIn m
  | .named _, _ => false
  | .clo _ _, _ => false
  | _, _ => true
/-- How a parameter is handed on: read; used up; written and kept; a pointer to what is written and kept; a function. -/
inductive PK where
  | inp (m : Md) (t : Ty)
  | own (ag : Bool) (m : Md) (e : Ty)
  | wr (ag : Bool) (m : Md) (e : Ty)
  | box (m : Md) (t : Ty)
  | fnc (f : FuncId)
  /-- nothing: the nil slice. -/
  | nl
  /-- a map, that is written in place. -/
  | mp (k v : Ty) (m : Md)
  /-- the variable that a function without a name has captured. -/
  | cap (t : Ty)

def PK.ty : PK → Ty
  | .inp _ t => t
  | .own _ _ e => .sl e
  | .wr _ _ e => .sl e
  | .box _ t => t
  | .fnc _ => .unit
  | .nl => .unit
  | .mp k v _ => .sl (.pair k v)
  | .cap t => t
def PK.out : PK → List Ty
  | .wr _ _ e => [.sl e]
  | .box _ t => [t]
  | .mp k v _ => [.sl (.pair k v)]
  | _ => []

@[reducible] def InT (T : Nat → Type) : List PK → Type
  | [] => Unit
  | p :: ps => D T p.ty × InT T ps
@[reducible] def OutT (T : Nat → Type) : List Ty → Type
  | [] => Unit
  | [t] => D T t
  | t :: t' :: ts => D T t × OutT T (t' :: ts)

structure DV (X : Ext) where
  t : Ty
  x : D X.T t

section
variable {X : Ext}
def toL : (ts : List Ty) → OutT X.T ts → List (DV X)
  | [], _ => []
  | [t], y => [⟨t, y⟩]
  | t :: t' :: ts, y => ⟨t, y.1⟩ :: toL (t' :: ts) y.2
end

/-- A result: a value, or a pointer to a new variable. -/
structure RK where
  bx : Bool
  m : Md
  t : Ty

structure Spec (X : Ext) where
  ps : List PK
  rs : List RK
  f : InT X.T ps → Option (OutT X.T (rs.map (·.t) ++ ps.flatMap PK.out))
  /-- what it lays down may be appended to. -/
  fl : Bool

section
variable (X : Ext) (w : World) (S : Nat → Option Nat)

/-- A row by itself, or as the one field of a struct. -/
def wrp (ag : Bool) (v : Value) : Value := if ag then .agg #[v] else v
/-- A map: where it lies, what it holds. -/
def MapR (k v : Ty) (m : Md) (es : List (D X.T k × D X.T v)) (u : Value) (fp : List Nat) : Prop :=
  m.noOwn = true ∧ ∃ b arr clock, u = .map (some b) ∧ w.heap[b]? = some (.map arr clock) ∧ S b = none ∧ fp = [b] ∧ MEs (ME X w S k v m) es arr clock
def ArgR : (p : PK) → D X.T p.ty → Value → List Nat → Prop
  | .inp m t, x, v, fp => m.noOwn = true ∧ fp = [] ∧ VR X w S m t x v []
  | .own ag m e, x, v, fp => ∃ u, v = wrp ag u ∧ (∃ o c, u = hv o x.length c) ∧ Rd X w S (Md.cons .own m) (.sl e) x [u] fp
  | .wr ag m e, x, v, fp => ∃ u, v = wrp ag u ∧ (∃ o c, u = hv o x.length c) ∧ Rd X w S (Md.cons .own m) (.sl e) x [u] fp
  | .box m t, x, v, fp => m.noOwn = true ∧ ∃ b arr tt, v = .pointer (some ⟨b, 0, none⟩) ∧ w.heap[b]? = some (.cells arr tt (0, 0)) ∧ S b = none ∧ fp = [b] ∧ Rd X w S m t x arr.toList []
  | .fnc f, _, v, fp => fp = [] ∧ v = .func (.func f) #[] #[]
  | .nl, _, v, fp => fp = [] ∧ v = .slice none 0 0
  | .mp k v m, x, u, fp => MapR X w S k v m x u fp
  | .cap t, x, u, fp => fp = [] ∧ ∃ b, u = .pointer (some ⟨b, 0, none⟩) ∧ Rd X w S mSt (.sl t) [x] [.slice (some ⟨b, 0, none⟩) 1 1] []

def ArgsR : (ps : List PK) → InT X.T ps → List Value → List (List Nat) → Prop
  | [], _, vs, fs => vs = [] ∧ fs = []
  | p :: ps, x, vs, fs => ∃ v f vs' fs', vs = v :: vs' ∧ fs = f :: fs' ∧ ArgR X w S p x.1 v f ∧ ArgsR ps x.2 vs' fs'

/-- What a parameter that was written is behind the call. -/
def BackR : List PK → List Value → List (DV X) → List (List Nat) → Prop
  | [], _, ds, fs => ds = [] ∧ fs = []
  | .wr ag m e :: ps, v :: vs, ds, fs => ∃ x ds' f fs' u, ds = ⟨.sl e, x⟩ :: ds' ∧ fs = f :: fs' ∧ v = wrp ag u ∧ (∃ o c, u = hv o x.length c) ∧ Rd X w S (Md.cons .own m) (.sl e) x [u] f ∧ BackR ps vs ds' fs'
  | .box m t :: ps, v :: vs, ds, fs => ∃ x ds' f fs', ds = ⟨t, x⟩ :: ds' ∧ fs = f :: fs' ∧ (∃ b arr tt, v = .pointer (some ⟨b, 0, none⟩) ∧ w.heap[b]? = some (.cells arr tt (0, 0)) ∧ S b = none ∧ f = [b] ∧
      Rd X w S m t x arr.toList []) ∧ BackR ps vs ds' fs'
  | .mp k v m :: ps, u :: vs, ds, fs => ∃ x ds' f fs', ds = ⟨.sl (.pair k v), x⟩ :: ds' ∧ fs = f :: fs' ∧ MapR X w S k v m x u f ∧ BackR ps vs ds' fs'
  | _ :: ps, _ :: vs, ds, fs => BackR ps vs ds fs
  | _ :: _, [], _, _ => False

def PtrR (m : Md) (t : Ty) (x : D X.T t) (v : Value) (f : List Nat) : Prop :=
  m.noOwn = true ∧ ∃ b arr tt, v = .pointer (some ⟨b, 0, none⟩) ∧ w.heap[b]? = some (.cells arr tt (0, 0)) ∧ S b = none ∧ f = [b] ∧ Rd X w S m t x arr.toList []
/-- A result by address: a variable, a map. -/
def BoxR : (t : Ty) → Md → D X.T t → Value → List Nat → Prop
  | .sl (.pair k v), m, x, u, f => MapR X w S k v m x u f
  | t, m, x, u, f => PtrR X w S m t x u f
def RV (r : RK) (x : D X.T r.t) (v : Value) (f : List Nat) : Prop := if r.bx then BoxR X w S r.t r.m x v f else VR X w S r.m r.t x v f

def ResR : List RK → List (DV X) → List Value → List (List Nat) → Prop
  | [], ds, vs, fs => ds = [] ∧ vs = [] ∧ fs = []
  | r :: rs, ds, vs, fs => ∃ x ds' v vs' f fs', ds = ⟨r.t, x⟩ :: ds' ∧ vs = v :: vs' ∧ fs = f :: fs' ∧ RV X w S r x v f ∧ ResR rs ds' vs' fs'
end

def retV : List Value → Value
  | [v] => v
  | vs => .tuple vs.toArray

structure Post (X : Ext) (w w' : World) (S S' : Nat → Option Nat) (sp : Spec X) (args : List Value) (fs : List (List Nat)) (y : OutT X.T (sp.rs.map (·.t) ++ sp.ps.flatMap PK.out)) (v : Value) : Prop where
  grow : ∀ b e, S b = some e → S' b = some e
  heap : ∀ b, b < w.heap.size → b ∉ fs.flatten → w'.heap[b]? = w.heap[b]?
  size : w.heap.size ≤ w'.heap.size
  io : Io w w'
  Sold : ∀ b, b < w.heap.size → b ∉ fs.flatten → S' b = S b
  Slt : ∀ b, S' b ≠ none → b < w'.heap.size
  fl : sp.fl = true → ∀ b c, S' b = some c → S b = none → FlC c
  res : ∃ d1 d2 vs f1 f2, toL _ y = d1 ++ d2 ∧ v = retV vs ∧ ResR X w' S' sp.rs d1 vs f1 ∧ BackR X w' S' sp.ps args d2 f2 ∧ (f1.flatten ++ f2.flatten).Nodup ∧
    ∀ b ∈ f1.flatten ++ f2.flatten, (w.heap.size ≤ b ∨ b ∈ fs.flatten)

/-- A call of a function comes back with a value. -/
def Call1 (P : Program) (f : FuncId) (args : Array Value) (w : World) (R : Value → World → Prop) : Prop :=
  (∃ v w', (callFunc f args).run P w = .ok (.value v) w' ∧ R v w') ∨
  ((callFunc f args).run P w = .ok (.enter f args) w ∧ Calls P f args w fun e w' => ∃ v, e = .returned v ∧ R v w')

/-- What lay there when all began is as it was, and nobody may write it. -/
structure Outer (O w : World) (fs : List (List Nat)) : Prop where
  heap : ∀ b, b < O.heap.size → w.heap[b]? = O.heap[b]? ∧ b ∉ fs.flatten
  size : O.heap.size ≤ w.heap.size
def SpecOk (P : Program) (X : Ext) (O : World) (f : FuncId) (sp : Spec X) : Prop :=
  ∀ (x : InT X.T sp.ps) (y) (w : World) (S : Nat → Option Nat) (args : List Value) (fs : List (List Nat)), sp.f x = some y → ArgsR X w S sp.ps x args fs → fs.flatten.Nodup →
    (∀ b, S b ≠ none → b < w.heap.size) → Outer O w fs →
    Call1 P f args.toArray w fun v w' => ∃ S', Post X w w' S S' sp args fs y v

/-- A method of an interface value is called: a function is, and it comes back with a value. -/
def CallI (P : Program) (n : String) (args : List Value) (w : World) (R : Value → World → Prop) : Prop :=
  ∃ v rest f as, args = v :: rest ∧ (callMethod v n rest.toArray).run P w = (callFunc f as).run P w ∧ Call1 P f as w R
/-- A function with what it has captured is called. -/
def CallC (P : Program) (f : FuncId) (args : List Value) (w : World) (R : Value → World → Prop) : Prop :=
  ∃ v rest cap, args = v :: rest ∧ v = .func (.func f) #[] cap ∧ Call1 P f (rest.toArray ++ cap) w R
def CloOk (P : Program) (X : Ext) (O : World) (f : FuncId) (sp : Spec X) : Prop :=
  ∀ (x : InT X.T sp.ps) (y) (w : World) (S : Nat → Option Nat) (args : List Value) (fs : List (List Nat)), sp.f x = some y → ArgsR X w S sp.ps x args fs → fs.flatten.Nodup →
    (∀ b, S b ≠ none → b < w.heap.size) → Outer O w fs →
    CallC P f args w fun v w' => ∃ S', Post X w w' S S' sp args fs y v
def InvOk (P : Program) (X : Ext) (O : World) (n : String) (sp : Spec X) : Prop :=
  ∀ (x : InT X.T sp.ps) (y) (w : World) (S : Nat → Option Nat) (args : List Value) (fs : List (List Nat)), sp.f x = some y → ArgsR X w S sp.ps x args fs → fs.flatten.Nodup →
    (∀ b, S b ≠ none → b < w.heap.size) → Outer O w fs →
    CallI P n args w fun v w' => ∃ S', Post X w w' S S' sp args fs y v

section
variable {X : Ext}

/-! the caller's side -/
/-- A leaf as what is read of a slice: its contents, and of which of one's own rows it is. -/
def toB (st : Nat → Ent X) (m : Md) (e : Ty) : Leaf X → Option (List (D X.T e) × List Nat)
  | .nil => some ([], [])
  | .sl m' e' xs => if h : e' = e then (if m'.sub m then some (castL h xs, []) else none) else none
  | .whole id => match st id with
    | .row e' m' xs => if h : e' = e then (if (Md.cons .st m'.lnd).sub m then some (castL h xs, [id]) else none) else none
    | _ => none
  | .sub id lo hi => match st id with
    | .row e' m' xs => if h : e' = e then (if (Md.cons .st m'.lnd).sub m then some (castL h ((xs.take hi).drop lo), [id]) else none) else none
    | _ => none
  | _ => none
def imBS (nm : (i : Nat) → List (Leaf X) → Option (X.T i × List Nat × List (Leaf X))) (st : Nat → Ent X) (m : Md) :
    (t : Ty) → List (Leaf X) → Option (D X.T t × List Nat × List (Leaf X))
  | .int k, .int k' n :: r => if k' = k then some (n, [], r) else none
  | .bool, .bool b :: r => some (b, [], r)
  | .str, .str s :: r => some (s, [], r)
  | .ifc, .ifc s :: r => some (s, [], r)
  | .unit, r => some ((), [], r)
  | .sl e, l :: r => match toB st m e l with
    | some (xs, ids) => some (xs, ids, r)
    | none => none
  | .pair a b, r => match imBS nm st m a r with
    | some (x, i, r') => match imBS nm st m b r' with
      | some (y, j, r'') => some ((x, y), i ++ j, r'')
      | none => none
    | none => none
  | .st a, r => imBS nm st m a r
  | .named i, r => nm i r
  | .fnv f, .fn g :: r => if g = f then some ((), [], r) else none
  | .clo f t, .clo g t' x :: r => if h : t' = t then (if g = f ∧ m = mSt then some ((castD h x : D X.T t), [], r) else none) else none
  | _, _ => none
def imBF (st : Nat → Ent X) (m : Md) : Nat → (t : Ty) → List (Leaf X) → Option (D X.T t × List Nat × List (Leaf X))
  | 0 => imBS (fun _ _ => none) st m
  | n + 1 => imBS (fun i ls => match imBF st m n (X.body i) ls with
      | some (y, ids, r) => some (X.inn i y, ids, r)
      | none => none) st m
def imB (st : Nat → Ent X) (m : Md) (t : Ty) (ls : List (Leaf X)) : Option (D X.T t × List Nat) :=
  match imBF st m fu t ls with
  | some (x, ids, []) => some (x, ids)
  | _ => none

/-- The value's cells, where it is of such a form. -/
def A.form (agg : Bool) : A X → Option (List (Leaf X))
  | .c (.one l) => if agg then none else some [l]
  | .c (.agg ls) => if agg then some ls else none
  | _ => none

/-- What is handed on for a parameter: the value; rows that are read; rows that are used up or written. -/
def argOf (st : Nat → Ent X) : (p : PK) → A X → Option (D X.T p.ty × List Nat × List Nat)
  | .inp m t, a => match a.form t.agg with
    | some ls => match imB st m t ls with
      | some (x, ids) => if m.noOwn then some (x, ids, []) else none
      | none => none
    | none => none
  | .own ag m e, a => match a.form ag with
    | some [.whole id] => match st id with
      | .row e' m' xs => if h : e' = e then (if m'.sub m then some (castL h xs, [], [id]) else none) else none
      | _ => none
    | some [.nil] => some ([], [], [])
    | _ => none
  | .wr ag m e, a => match a.form ag with
    | some [.whole id] => match st id with
      | .row e' m' xs => if h : e' = e then (if m'.sub m then some (castL h xs, [], [id]) else none) else none
      | _ => none
    | _ => none
  | .box m t, .c (.one (.ptr id 0)) => match st id with
    | .box cs => match im st m t cs with
      | some (x, []) => if m.noOwn then some (x, [], [id]) else none
      | _ => none
    | _ => none
  | .fnc f, .c (.one (.fn g)) => if g = f then some ((), [], []) else none
  | .nl, .c (.one .nil) => some ((), [], [])
  | .mp k v m, .c (.one (.mp id)) => match st id with
    | .map k' v' m' es => if h : k' = k ∧ v' = v then (if m' = m then some (castM h es, [], [id]) else none) else none
    | _ => none
  | _, _ => none
def argsOf (st : Nat → Ent X) : (ps : List PK) → List (A X) → Option (InT X.T ps × List Nat × List Nat)
  | [], [] => some ((), [], [])
  | p :: ps, a :: as => match argOf st p a with
    | some (x, i, j) => match argsOf st ps as with
      | some (xs, i', j') => some ((x, xs), i ++ i', j ++ j')
      | none => none
    | none => none
  | _, _ => none

/-- What the store's places hold behind the call that were used up or written. -/
def backUpd (st : Nat → Ent X) : List PK → List (A X) → List (DV X) → Option (List (Nat × Ent X))
  | [], [], [] => some []
  | .own ag _ _ :: ps, a :: as, ds => match a.form ag with
    | some [.whole id] => (backUpd st ps as ds).map ((id, .dead) :: ·)
    | some [.nil] => backUpd st ps as ds
    | _ => none
  | .wr ag m e :: ps, a :: as, ⟨.sl e', xs⟩ :: ds => match a.form ag with
    | some [.whole id] => if h : e' = e then (backUpd st ps as ds).map ((id, .row e m (castL h xs)) :: ·) else none
    | _ => none
  | .box m t :: ps, .c (.one (.ptr id 0)) :: as, ⟨t', x⟩ :: ds => if h : t' = t then (match ex X m t (castD h x) with
      | some ls => (backUpd st ps as ds).map ((id, .box ls) :: ·)
      | none => none) else none
  | .mp k v m :: ps, .c (.one (.mp id)) :: as, ⟨.sl (.pair k' v'), x⟩ :: ds => if h : k' = k ∧ v' = v then (backUpd st ps as ds).map ((id, .map k v m (castM h x)) :: ·) else none
  | .inp _ _ :: ps, _ :: as, ds => backUpd st ps as ds
  | .fnc _ :: ps, _ :: as, ds => backUpd st ps as ds
  | .nl :: ps, _ :: as, ds => backUpd st ps as ds
  | .cap _ :: ps, _ :: as, ds => backUpd st ps as ds
  | _, _, _ => none

/-- A result whose rows stay one's own: its cells, and the rows. -/
def exKS (nm : (i : Nat) → X.T i → Nat → Option (List (Leaf X) × List (Nat × Ent X) × Nat)) (idOf : Nat → Nat) (m : Md) : (t : Ty) → D X.T t → Nat → Option (List (Leaf X) × List (Nat × Ent X) × Nat)
  | .int k, n, q => some ([.int k n], [], q)
  | .bool, b, q => some ([.bool b], [], q)
  | .str, s, q => some ([.str s], [], q)
  | .ifc, s, q => some ([.ifc s], [], q)
  | .unit, _, q => some ([], [], q)
  | .sl e, xs, q => if m.hd = .own then some ([.whole (idOf q)], [(idOf q, .row e m.tl xs)], q + 1) else if m.noOwn then some ([.sl m e xs], [], q) else none
  | .pair a b, x, q => match exKS nm idOf m a x.1 q with
    | some (l, u, q') => match exKS nm idOf m b x.2 q' with
      | some (l', u', q'') => some (l ++ l', u ++ u', q'')
      | none => none
    | none => none
  | .st a, x, q => exKS nm idOf m a x q
  | .named i, x, q => nm i x q
  | .fnv f, _, q => some ([.fn f], [], q)
  | .clo _ _, _, _ => none
def exKF (idOf : Nat → Nat) (m : Md) : Nat → (t : Ty) → D X.T t → Nat → Option (List (Leaf X) × List (Nat × Ent X) × Nat)
  | 0 => exKS (fun _ _ _ => none) idOf m
  | n + 1 => exKS (fun i x q => exKF idOf m n (X.body i) (X.out i x) q) idOf m
def exK (idOf : Nat → Nat) (m : Md) (t : Ty) (x : D X.T t) (q : Nat) : Option (List (Leaf X) × List (Nat × Ent X) × Nat) := exKF idOf m fu t x q
/-- A result by address. -/
def bxK (idOf : Nat → Nat) (q : Nat) (m : Md) : (t : Ty) → D X.T t → Option (List (Leaf X) × List (Nat × Ent X) × Nat)
  | .sl (.pair k v), es => some ([.mp (idOf q)], [(idOf q, .map k v m es)], q + 1)
  | t, x => match ex X m t x with
    | some ls => some ([.ptr (idOf q) 0], [(idOf q, .box ls)], q + 1)
    | none => none

def mkC (agg : Bool) : List (Leaf X) → Option (Cmp X)
  | ls => if agg then some (.agg ls) else match ls with
    | [l] => some (.one l)
    | _ => none

/-- The results, as the slot has them. -/
def resOf (keep : Bool) (idOf : Nat → Nat) : List RK → List (DV X) → Nat → Option (List (Cmp X) × List (Nat × Ent X))
  | [], _, _ => some ([], [])
  | r :: rs, ⟨t', x⟩ :: ds, q => if h : t' = r.t then
      (match (if r.bx then (if keep then bxK idOf q r.m r.t (castD h x) else none)
          else if keep then exK idOf r.m r.t (castD h x) q else (ex X r.m.frz r.t (castD h x)).map fun ls => (ls, [], q)) with
        | some (ls, u, q') => match mkC (!r.bx && r.t.agg) ls with
          | some c => match resOf keep idOf rs ds q' with
            | some (cs, u') => some (c :: cs, u ++ u')
            | none => none
          | none => none
        | none => none) else none
  | _ :: _, [], _ => none

def resV : List (Cmp X) → A X
  | [c] => .c c
  | cs => .tup cs

/-- No result hangs on what was only lent. -/
def Spec.closed (sp : Spec X) : Bool :=
  sp.rs.all (fun r => (!r.bx && (r.m.allOwn || r.t.ownIn r.m)) || r.t.flat) && sp.ps.all fun p => match p with
    | .wr _ m e => (m.allOwn || e.ownIn m) || e.flat
    | .box _ t => t.flat
    | .mp k v _ => k.flat && v.flat
    | _ => true

structure CEnv (X : Ext) extends Env X where
  call : FuncId → List FuncId → Option (Spec X)
  /-- calls of an interface's methods, by the method's name: the first parameter is the interface value. -/
  inv : String → Option (Spec X)
  /-- calls of functions with what they have captured: the first parameter is the function. -/
  clo : FuncId → Option (Spec X)
def fnOf : A X → Option FuncId
  | .c (.one (.fn f)) => some f
  | _ => none

def cloOf : A X → Option FuncId
  | .c (.one (.clo f _ _)) => some f
  | _ => none
/-- What is called. -/
inductive Tgt where
  | fn (f : FuncId)
  | inv (n : String)
  | clo (f : FuncId)
def TgtOk (P : Program) (O : World) : Tgt → Spec X → Prop
  | .fn f, sp => SpecOk P X O f sp
  | .inv n, sp => InvOk P X O n sp
  | .clo f, sp => CloOk P X O f sp
/-- What the call comes to, and what becomes of slots and store. -/
structure CallA (X : Ext) where
  f : Tgt
  sp : Spec X
  x : InT X.T sp.ps
  done : OutT X.T (sp.rs.map (·.t) ++ sp.ps.flatMap PK.out) → Option (Dl X)

def idAt (nt : Nat) (d : Tmp) (q : Nat) : Nat := if q = 0 then d else nt + 64 * d + min q 63
/-- What is called, and what is handed on. -/
def callTgt (E : CEnv X) (o : Oper) (r : Operand → A X) : Option (Tgt × Spec X × List Operand) :=
  match o.op with
  | .call ⟨.value g, as, _⟩ => match fnOf (r g) with
    | some f => match E.call f ((as.toList.map r).filterMap fnOf) with
      | some sp => some (.fn f, sp, as.toList)
      | none => none
    | none => match cloOf (r g) with
      | some f => match E.clo f with
        | some sp => some (.clo f, sp, g :: as.toList)
        | none => none
      | none => none
  | .call ⟨.invoke g n, as, _⟩ => match E.inv n with
    | some sp => some (.inv n, sp, g :: as.toList)
    | none => none
  | _ => none
def callOf (E : CEnv X) (o : Oper) (r : Operand → A X) (st : Nat → Ent X) : Option (CallA X) :=
  match callTgt E o r with
  | some (tg, sp, xs) => match argsOf st sp.ps (xs.map r) with
    | some (x, lent, used) => if nodupB used && (lent.all fun i => !used.contains i) && (lent.isEmpty || sp.closed) && (!E.gr || sp.fl) then
        some ⟨tg, sp, x, fun y => match backUpd st sp.ps (xs.map r) ((toL _ y).drop sp.rs.length) with
          | some u => match (match o.dst with
              | some d => resOf (E.ann d).1 (idAt E.nt d) sp.rs ((toL _ y).take sp.rs.length) 0
              | none => resOf false (idAt E.nt 0) sp.rs ((toL _ y).take sp.rs.length) 0) with
            | some (cs, u') => if (u'.all fun p => isNew (st p.1) && !isNew p.2) && nodupB (u'.map (·.1)) then some ⟨resV cs, u ++ u'⟩ else none
            | none => none
          | none => none⟩ else none
    | none => none
  | none => none
end
end Go.Proofs.Ytmbnalaiobhaaaa.E
