/- The engine, part 0: types, typed values, and how a typed value lies in memory. -/
import Derived.Calls
import Derived.Tactics
import Derived.Orders
import Derived.KernelRfl
import Derived.Laws.World
import Derived.Laws.Cells
import Derived.Laws.Append
import Derived.Laws.Slices
import Derived.Deep.LoopGhost
namespace Go.Proofs.Ytmbnalaiobhaaaa.E
open Go

inductive Ty where
  | int (k : IntKind)
  | bool
  | str
  | ifc
  | unit
  | sl (e : Ty)
  | pair (a b : Ty)
  | st (a : Ty)
  | named (i : Nat)
  /-- a function's value; one with a variable that it has captured, and that nobody writes any more. -/
  | fnv (f : Nat)
  | clo (f : Nat) (t : Ty)
  deriving DecidableEq

/-- An interface value: nil, or a struct of whole numbers under its type's number. -/
abbrev IV := Option (Nat × List Int)
def ivV : IV → Value
  | none => .nilIface
  | some (t, ns) => .iface t (.agg (ns.map (Value.int .i64)).toArray)
@[reducible] def D (T : Nat → Type) : Ty → Type
  | .int _ => Int
  | .bool => Bool
  | .str => ByteArray
  | .ifc => IV
  | .unit => Unit
  | .sl e => List (D T e)
  | .pair a b => D T a × D T b
  | .st a => D T a
  | .named i => T i
  | .fnv _ => Unit
  | .clo _ t => D T t

def Ty.cells (sz : Nat → Nat) : Ty → Nat
  | .int _ => 1
  | .bool => 1
  | .str => 1
  | .ifc => 1
  | .unit => 0
  | .sl _ => 1
  | .pair a b => a.cells sz + b.cells sz
  | .st a => a.cells sz
  | .named i => sz i
  | .fnv _ => 1
  | .clo _ _ => 1

/-- A struct. -/
def Ty.agg : Ty → Bool
  | .st _ => true
  | .named _ => true
  | _ => false
structure Ext where
  T : Nat → Type
  body : Nat → Ty
  sz : Nat → Nat
  out : (i : Nat) → T i → D T (body i)
  inn : (i : Nat) → D T (body i) → T i
  zer : (i : Nat) → T i
  out_inn : ∀ i y, out i (inn i y) = y
  sz_ok : ∀ i, (body i).cells sz = sz i

inductive Mode where
  | st | tc | own
  deriving DecidableEq

structure Md where
  l : List Mode
  d : Mode
  deriving DecidableEq

def Md.hd (m : Md) : Mode := match m.l with
  | [] => m.d
  | a :: _ => a
def Md.tl (m : Md) : Md := ⟨m.l.tail, m.d⟩
/-- 'a' may stand where 'b' is asked. -/
def Mode.ge : Mode → Mode → Bool
  | _, .st => true
  | .tc, .tc => true
  | .own, .tc => true
  | .own, .own => true
  | _, _ => false
/-- The same but for what is own: own stays own. -/
def Mode.sub : Mode → Mode → Bool
  | .st, .st => true
  | .tc, .st => true
  | .tc, .tc => true
  | .own, .own => true
  | _, _ => false
def listSub0 (d : Mode) : List Mode → Mode → Bool
  | [], e => d.sub e
  | b :: r, e => d.sub b && listSub0 d r e
def listSub : List Mode → Mode → List Mode → Mode → Bool
  | [], d, r, e => listSub0 d r e
  | a :: l, d, [], e => a.sub e && listSub l d [] e
  | a :: l, d, b :: r, e => a.sub b && listSub l d r e
def Md.sub (a b : Md) : Bool := listSub a.l a.d b.l b.d
/-- Nothing is own. -/
def Md.noOwn (m : Md) : Bool := m.l.all (· != .own) && m.d != .own
/-- All is own. -/
def Md.allOwn (m : Md) : Bool := m.l.all (· == .own) && m.d == .own
/-- What was own is a value that nobody writes any more. -/
def Mode.frz : Mode → Mode
  | .own => .tc
  | a => a
def Md.frz (m : Md) : Md := ⟨m.l.map Mode.frz, m.d.frz⟩
/-- What was own is lent. -/
def Mode.lnd : Mode → Mode
  | .own => .st
  | a => a
def Md.lnd (m : Md) : Md := ⟨m.l.map Mode.lnd, m.d.lnd⟩

theorem listSub_hd {a b : Md} (h : a.sub b = true) : a.hd.sub b.hd = true ∧ a.tl.sub b.tl = true := by
  obtain ⟨l, d⟩ := a
  obtain ⟨r, e⟩ := b
  cases l <;> cases r <;> simp_all [Md.sub, listSub, listSub0, Md.hd, Md.tl]

theorem Md.noOwn_hd {m : Md} (h : m.noOwn = true) : m.hd ≠ .own ∧ m.tl.noOwn = true := by
  obtain ⟨l, d⟩ := m
  cases l <;> simp_all [Md.noOwn, Md.hd, Md.tl]
theorem Md.allOwn_hd {m : Md} (h : m.allOwn = true) : m.hd = .own ∧ m.tl.allOwn = true := by
  obtain ⟨l, d⟩ := m
  cases l with
  | nil => simp_all [Md.allOwn, Md.hd, Md.tl]
  | cons a l =>
    simp only [Md.allOwn, List.all_cons, Bool.and_eq_true, beq_iff_eq] at h
    simp [Md.allOwn, Md.hd, Md.tl, h.1.1, h.1.2, h.2]
theorem Md.frz_hd (m : Md) : m.frz.hd = m.hd.frz ∧ m.frz.tl = m.tl.frz := by
  obtain ⟨l, d⟩ := m
  cases l <;> simp [Md.frz, Md.hd, Md.tl]
theorem Md.lnd_hd (m : Md) : m.lnd.hd = m.hd.lnd ∧ m.lnd.tl = m.tl.lnd := by
  obtain ⟨l, d⟩ := m
  cases l <;> simp [Md.lnd, Md.hd, Md.tl]
theorem Mode.lnd_ne (m : Mode) : m.lnd ≠ .own := by cases m <;> simp [Mode.lnd]
theorem Md.lnd_noOwn (m : Md) : m.lnd.noOwn = true := by
  obtain ⟨l, d⟩ := m
  simp only [Md.lnd, Md.noOwn, Bool.and_eq_true, List.all_map, List.all_eq_true, Function.comp]
  refine ⟨fun a _ => ?_, ?_⟩
  · cases a <;> rfl
  · cases d <;> rfl
theorem Mode.frz_ne (m : Mode) : m.frz ≠ .own := by cases m <;> simp [Mode.frz]
theorem Md.frz_noOwn (m : Md) : m.frz.noOwn = true := by
  obtain ⟨l, d⟩ := m
  simp only [Md.frz, Md.noOwn, Bool.and_eq_true, List.all_map, List.all_eq_true, Function.comp]
  refine ⟨fun a _ => ?_, ?_⟩
  · cases a <;> rfl
  · cases d <;> rfl

/-- How many slices lie in one another. -/
def Ty.dep : Ty → Nat
  | .sl e => e.dep + 1
  | .pair a b => max a.dep b.dep
  | .st a => a.dep
  | _ => 0
/-- What a block's number tells of the kind of its elements; 0: nothing. -/
def Ty.tag (e : Ty) : Nat := e.dep % 15 + 1
/-- A block's number: a 64th of it, up to where it is kept; then the kind of its elements (Ty.tag); the rest: 2 and 3, it is lent; 1, what 'tc' is said of may be appended to in place: nothing that is kept lies behind it. -/
def Tail (w : World) (S : Nat → Option Nat) (b off len cap sz : Nat) : Prop :=
  ∃ c, S b = some c ∧ c % 4 < 2 ∧ (c % 4 = 1 → off = 0 ∧ (∃ arr tt, w.heap[b]? = some (.cells arr tt (0, 0)) ∧ cap * sz ≤ arr.size ∧ (cap = len ∨ c / 64 = len * sz)))
/-- It may be appended to, and the kind is told. -/
def FlC (c : Nat) : Prop := c % 4 = 1 ∧ 0 < c / 4 % 16
theorem FlC.five : FlC 5 := by unfold FlC; omega
theorem FlC.mk (n : Nat) (e : Ty) : FlC (64 * n + 4 * e.tag + 1) := by
  have h : e.tag ≤ 15 ∧ 0 < e.tag := by unfold Ty.tag; omega
  unfold FlC
  omega
theorem tag_mk (n : Nat) (e : Ty) : (64 * n + 4 * e.tag + 1) / 64 = n ∧ (64 * n + 4 * e.tag + 1) / 4 % 16 = e.tag ∧ (64 * n + 4 * e.tag + 1) % 4 = 1 := by
  have h : e.tag ≤ 15 ∧ 0 < e.tag := by unfold Ty.tag; omega
  omega
/-- What is kept of a block goes on: all of it, or its cells, and then nothing is said of appending. -/
def Kp1 (w : World) (w' : World) (S' : Nat → Option Nat) (b c : Nat) : Prop :=
  ∃ c', S' b = some c' ∧ (c / 64 ≤ c' / 64 ∧ c' / 4 % 16 = c / 4 % 16) ∧ (c % 4 < 2 → c' % 4 < 2) ∧ (c' % 4 = 1 → c' = c ∧ w'.heap[b]? = w.heap[b]?) ∧ ∀ o, o < c / 64 → w'.cell? ⟨b, o, none⟩ = w.cell? ⟨b, o, none⟩

inductive Rd (X : Ext) (w : World) (S : Nat → Option Nat) : Md → (t : Ty) → D X.T t → List Value → List Nat → Prop
  | int (m : Md) (k : IntKind) (n : Int) : Rd X w S m (.int k) n [.int k n] []
  | bool (m : Md) (b : Bool) : Rd X w S m .bool b [.bool b] []
  | str (m : Md) (s : ByteArray) : Rd X w S m .str s [.string s] []
  | ifc (m : Md) (s : IV) : Rd X w S m .ifc s [ivV s] []
  | unit (m : Md) : Rd X w S m .unit () [] []
  | pair (m : Md) (a b : Ty) (x : D X.T a) (y : D X.T b) (va vb : List Value) (fa fb : List Nat) (ha : Rd X w S m a x va fa) (hb : Rd X w S m b y vb fb) :
      Rd X w S m (.pair a b) (x, y) (va ++ vb) (fa ++ fb)
  | st (m : Md) (a : Ty) (x : D X.T a) (v : List Value) (f : List Nat) (h : Rd X w S m a x v f) : Rd X w S m (.st a) x v f
  | named (m : Md) (i : Nat) (x : X.T i) (v : List Value) (f : List Nat) (h : Rd X w S m (X.body i) (X.out i x) v f) : Rd X w S m (.named i) x v f
  | fnv (m : Md) (f : Nat) : Rd X w S m (.fnv f) () [.func (.func f) #[] #[]] []
  | clo (m : Md) (f : Nat) (t : Ty) (x : D X.T t) (b : Nat) (hm : m.hd = .st) (h : Rd X w S m (.sl t) [x] [.slice (some ⟨b, 0, none⟩) 1 1] []) : Rd X w S m (.clo f t) x [.func (.func f) #[] #[.pointer (some ⟨b, 0, none⟩)]] []
  | nil (m : Md) (e : Ty) (A : Option Addr) (hA : m.hd ≠ .st → ∃ o : Option Nat, A = o.map fun b => ⟨b, 0, none⟩) : Rd X w S m (.sl e) [] [.slice A 0 0] []
  | sl (m : Md) (e : Ty) (xs : List (D X.T e)) (b off cap ext : Nat) (vss : Nat → List Value) (hm : m.hd ≠ .own) (hs : S b = some ext)
      (hext : off + xs.length * e.cells X.sz ≤ ext / 64) (htag : ext / 4 % 16 = 0 ∨ ext / 4 % 16 = e.tag) (hcap : xs.length ≤ cap)
      (hel : ∀ i x, xs[i]? = some x → Rd X w S m.tl e x (vss i) [])
      (hc : ∀ i j v, i < xs.length → (vss i)[j]? = some v → w.cell? ⟨b, off + i * e.cells X.sz + j, none⟩ = some v)
      (htc : m.hd = .tc → Tail w S b off xs.length cap (e.cells X.sz)) :
      Rd X w S m (.sl e) xs [.slice (some ⟨b, off, none⟩) xs.length cap] []
  | own (m : Md) (e : Ty) (xs : List (D X.T e)) (b cap : Nat) (arr : Array Value) (tt : TypeId) (vss : Nat → List Value) (fps : Nat → List Nat) (hm : m.hd = .own)
      (hs : S b = none) (hb : w.heap[b]? = some (.cells arr tt (0, 0))) (hcap : xs.length ≤ cap) (hsz : cap * e.cells X.sz ≤ arr.size)
      (hel : ∀ i x, xs[i]? = some x → Rd X w S m.tl e x (vss i) (fps i))
      (hc : ∀ i j v, i < xs.length → (vss i)[j]? = some v → arr[i * e.cells X.sz + j]? = some v) :
      Rd X w S m (.sl e) xs [.slice (some ⟨b, 0, none⟩) xs.length cap] (b :: (List.range xs.length).flatMap fps)

section
variable {X : Ext} {w : World} {S : Nat → Option Nat}

theorem Rd.length {m : Md} {t : Ty} {x : D X.T t} {v : List Value} {f : List Nat} (h : Rd X w S m t x v f) : v.length = t.cells X.sz := by
  induction h with
  | pair m a b x y va vb fa fb ha hb iha ihb => simp [Ty.cells, iha, ihb]
  | st m a x v f h ih => simpa [Ty.cells] using ih
  | named m i x v f h ih => simpa [Ty.cells, X.sz_ok i] using ih
  | _ => simp [Ty.cells]

/-- Blocks of which something is kept, and blocks that are owned, lie in the heap. -/
theorem Rd.lt {m : Md} {t : Ty} {x : D X.T t} {v : List Value} {f : List Nat} (h : Rd X w S m t x v f) : ∀ b ∈ f, b < w.heap.size ∧ S b = none := by
  induction h with
  | pair m a b x y va vb fa fb ha hb iha ihb =>
    intro c hc
    rcases List.mem_append.1 hc with h | h
    · exact iha c h
    · exact ihb c h
  | st m a x v f h ih => exact ih
  | named m i x v f h ih => exact ih
  | own m e xs b cap arr tt vss fps hm hs hb hcap hsz hel hc ih =>
    intro c hc
    rcases List.mem_cons.1 hc with rfl | h
    · refine ⟨?_, hs⟩
      rcases Nat.lt_or_ge c w.heap.size with h | h
      · exact h
      · simp [Array.getElem?_eq_none h] at hb
    · obtain ⟨i, hi, hci⟩ := List.mem_flatMap.1 h
      have hi' : i < xs.length := List.mem_range.1 hi
      exact ih i xs[i] (by simp) c hci
  | _ => intro c hc; simp at hc

theorem flat_each {f : Nat → List Nat} : ∀ {l : List Nat}, (l.flatMap f).Nodup → ∀ i ∈ l, (f i).Nodup
  | [], _, i, hi => by simp at hi
  | a :: l, h, i, hi => by
    rw [List.flatMap_cons, List.nodup_append] at h
    rcases List.mem_cons.1 hi with rfl | hi
    · exact h.1
    · exact flat_each h.2.1 i hi
theorem flat_apart {f : Nat → List Nat} : ∀ {l : List Nat}, (l.flatMap f).Nodup → ∀ i ∈ l, ∀ j ∈ l, i ≠ j → ∀ c ∈ f i, c ∉ f j
  | [], _, i, hi, _, _, _, _, _ => by simp at hi
  | a :: l, h, i, hi, j, hj, hne, c, hc => by
    rw [List.flatMap_cons, List.nodup_append] at h
    intro hcj
    rcases List.mem_cons.1 hi with hia | hi'
    · rcases List.mem_cons.1 hj with hja | hj'
      · exact hne (hia.trans hja.symm)
      · exact h.2.2 c (hia ▸ hc) c (List.mem_flatMap.2 ⟨j, hj', hcj⟩) rfl
    · rcases List.mem_cons.1 hj with hja | hj'
      · exact h.2.2 c (hja ▸ hcj) c (List.mem_flatMap.2 ⟨i, hi', hc⟩) rfl
      · exact flat_apart h.2.1 i hi' j hj' hne c hc hcj

theorem cell_congr {w w' : World} {b o : Nat} (h : w'.heap[b]? = w.heap[b]?) : w'.cell? ⟨b, o, none⟩ = w.cell? ⟨b, o, none⟩ := by
  simp [World.cell?, h]

theorem Kp1.refl {w : World} {S : Nat → Option Nat} {b c : Nat} (h : S b = some c) : Kp1 w w S b c := ⟨c, h, ⟨Nat.le_refl _, rfl⟩, id, fun _ => ⟨rfl, rfl⟩, fun _ _ => rfl⟩
theorem Kp1.strong {w w' : World} {S' : Nat → Option Nat} {b c : Nat} (h : S' b = some c) (hh : w'.heap[b]? = w.heap[b]?) : Kp1 w w' S' b c :=
  ⟨c, h, ⟨Nat.le_refl _, rfl⟩, id, fun _ => ⟨rfl, hh⟩, fun _ _ => cell_congr hh⟩
theorem Kp1.trans {w w' w'' : World} {S' S'' : Nat → Option Nat} {b c : Nat} (h : Kp1 w w' S' b c) (h' : ∀ c', S' b = some c' → Kp1 w' w'' S'' b c') : Kp1 w w'' S'' b c := by
  obtain ⟨c', h1, h2, h3, h4, h5⟩ := h
  obtain ⟨c'', g1, g2, g3, g4, g5⟩ := h' c' h1
  refine ⟨c'', g1, ⟨Nat.le_trans h2.1 g2.1, g2.2.trans h2.2⟩, fun h => g3 (h3 h), fun h => ?_, fun o ho => (g5 o (by have := h2.1; omega)).trans (h5 o ho)⟩
  obtain ⟨e1, e2⟩ := g4 h
  subst e1
  obtain ⟨e3, e4⟩ := h4 h
  exact ⟨e3, e2.trans e4⟩

theorem Tail.frameW {w' : World} {S' : Nat → Option Nat} {b off len cap sz : Nat} (h : Tail w S b off len cap sz) (hk : ∀ c, S b = some c → Kp1 w w' S' b c) : Tail w' S' b off len cap sz := by
  obtain ⟨c, h1, h2, h3⟩ := h
  obtain ⟨c', g1, g2, g3, g4, g5⟩ := hk c h1
  refine ⟨c', g1, g3 h2, fun h => ?_⟩
  obtain ⟨rfl, hh⟩ := g4 h
  obtain ⟨e0, arr, tt, e1, e2, e3⟩ := h3 h
  exact ⟨e0, arr, tt, hh.trans e1, e2, e3⟩

/-- The frame: what is kept and what is owned stays. -/
theorem Rd.frameW {w' : World} {S' : Nat → Option Nat} {m : Md} {t : Ty} {x : D X.T t} {v : List Value} {f : List Nat} (h : Rd X w S m t x v f)
    (hk : ∀ b c, S b = some c → Kp1 w w' S' b c) (hh : ∀ b ∈ f, w'.heap[b]? = w.heap[b]?) (hf : ∀ b ∈ f, S' b = none) : Rd X w' S' m t x v f := by
  induction h with
  | int => exact .int _ _ _
  | bool => exact .bool _ _
  | str => exact .str _ _
  | ifc => exact .ifc _ _
  | unit => exact .unit _
  | fnv => exact .fnv _ _
  | clo m f t x b hm h ih => exact .clo _ _ _ _ _ hm (ih hh hf)
  | nil m e A hA => exact .nil _ _ _ hA
  | pair m a b x y va vb fa fb ha hb iha ihb =>
    exact .pair _ _ _ _ _ _ _ _ _ (iha (fun b hb => hh b (List.mem_append_left _ hb)) (fun b hb => hf b (List.mem_append_left _ hb)))
      (ihb (fun b hb => hh b (List.mem_append_right _ hb)) (fun b hb => hf b (List.mem_append_right _ hb)))
  | st m a x v f h ih => exact .st _ _ _ _ _ (ih hh hf)
  | named m i x v f h ih => exact .named _ _ _ _ _ (ih hh hf)
  | sl m e xs b off cap ext vss hm hs hext htag hcap hel hc htc ih =>
    obtain ⟨c', g1, g2, g3, g4, g5⟩ := hk b ext hs
    exact .sl m e xs b off cap c' vss hm g1 (by have := g2.1; omega) (by rw [g2.2]; exact htag) hcap (fun i x hx => ih i x hx (by simp) (by simp))
      (fun i j v hi hv => (g5 _ (by
        have h1 := (hel i xs[i] (by simp [hi])).length
        have h2 : j < e.cells X.sz := by rw [← h1]; exact (List.getElem?_eq_some_iff.1 hv).1
        have h3 : (i + 1) * e.cells X.sz ≤ xs.length * e.cells X.sz := Nat.mul_le_mul_right _ hi
        rw [Nat.succ_mul] at h3
        have := g2.1
        omega)).trans (hc i j v hi hv)) (fun ht => (htc ht).frameW (hk b))
  | own m e xs b cap arr tt vss fps hm hs hb hcap hsz hel hc ih =>
    have mem : ∀ i (x : D X.T e), xs[i]? = some x → ∀ c ∈ fps i, c ∈ b :: (List.range xs.length).flatMap fps := fun i x hx c hc =>
      List.mem_cons_of_mem _ (List.mem_flatMap.2 ⟨i, List.mem_range.2 (List.getElem?_eq_some_iff.1 hx).1, hc⟩)
    exact .own m e xs b cap arr tt vss fps hm (hf b (by simp)) ((hh b (by simp)).trans hb) hcap hsz
      (fun i x hx => ih i x hx (fun c hc => hh c (mem i x hx c hc)) (fun c hc => hf c (mem i x hx c hc))) hc

theorem Rd.frame {w' : World} {S' : Nat → Option Nat} {m : Md} {t : Ty} {x : D X.T t} {v : List Value} {f : List Nat} (h : Rd X w S m t x v f)
    (hS : ∀ b e, S b = some e → S' b = some e) (hh : ∀ b, (S b ≠ none ∨ b ∈ f) → w'.heap[b]? = w.heap[b]?) (hf : ∀ b ∈ f, S' b = none) : Rd X w' S' m t x v f :=
  h.frameW (fun b c hb => .strong (hS b c hb) (hh b (.inl (by simp [hb])))) (fun b hb => hh b (.inr hb)) hf
theorem Tail.frame {w' : World} {S' : Nat → Option Nat} {b off len cap sz ext : Nat} (h : Tail w S b off len cap sz) (_ : S b = some ext)
    (hS : ∀ b e, S b = some e → S' b = some e) (hh : w'.heap[b]? = w.heap[b]?) : Tail w' S' b off len cap sz :=
  h.frameW fun c hc => .strong (hS b c hc) hh

theorem Rd.sub {m m' : Md} {t : Ty} {x : D X.T t} {v : List Value} {f : List Nat} (h : Rd X w S m t x v f) (hm : m.sub m' = true) : Rd X w S m' t x v f := by
  induction h generalizing m' with
  | int => exact .int _ _ _
  | bool => exact .bool _ _
  | str => exact .str _ _
  | ifc => exact .ifc _ _
  | unit => exact .unit _
  | fnv => exact .fnv _ _
  | clo m f t x b hmm h ih =>
    refine .clo _ _ _ _ _ ?_ (ih hm)
    obtain ⟨h1, _⟩ := listSub_hd hm
    rw [hmm] at h1
    revert h1; cases m'.hd <;> simp [Mode.sub]
  | nil m e A hA =>
    refine .nil _ _ _ fun he => hA ?_
    obtain ⟨h1, h2⟩ := listSub_hd hm
    revert h1 he; cases m.hd <;> cases m'.hd <;> simp [Mode.sub]
  | pair m a b x y va vb fa fb ha hb iha ihb => exact .pair _ _ _ _ _ _ _ _ _ (iha hm) (ihb hm)
  | st m a x v f h ih => exact .st _ _ _ _ _ (ih hm)
  | named m i x v f h ih => exact .named _ _ _ _ _ (ih hm)
  | sl m e xs b off cap ext vss hmm hs hext htag hcap hel hc htc ih =>
    obtain ⟨h1, h2⟩ := listSub_hd hm
    refine .sl m' e xs b off cap ext vss ?_ hs hext htag hcap (fun i x hx => ih i x hx h2) hc ?_
    · intro he; rw [he] at h1; revert h1 hmm; cases m.hd <;> simp [Mode.sub]
    · intro he; rw [he] at h1; refine htc ?_; revert h1 hmm; cases m.hd <;> simp [Mode.sub]
  | own m e xs b cap arr tt vss fps hmm hs hb hcap hsz hel hc ih =>
    obtain ⟨h1, h2⟩ := listSub_hd hm
    refine .own m' e xs b cap arr tt vss fps ?_ hs hb hcap hsz (fun i x hx => ih i x hx h2) hc
    revert h1; rw [hmm]; cases m'.hd <;> simp [Mode.sub]

theorem Rd.noOwn {m : Md} {t : Ty} {x : D X.T t} {v : List Value} {f : List Nat} (h : Rd X w S m t x v f) (hm : m.noOwn = true) : f = [] := by
  induction h with
  | pair m a b x y va vb fa fb ha hb iha ihb => rw [iha hm, ihb hm]; rfl
  | st m a x v f h ih => exact ih hm
  | named m i x v f h ih => exact ih hm
  | own m e xs b cap arr tt vss fps hmm => exact absurd hmm (Md.noOwn_hd hm).1
  | _ => rfl

/-- What was owned is laid down for good. -/
theorem Rd.freeze {m : Md} {t : Ty} {x : D X.T t} {v : List Value} {f : List Nat} (h : Rd X w S m t x v f) (hn : f.Nodup) :
    ∃ ext : Nat → Nat, (∀ b, FlC (ext b)) ∧ ∀ S' : Nat → Option Nat, (∀ b e, S b = some e → S' b = some e) → (∀ b ∈ f, S' b = some (ext b)) → Rd X w S' m.frz t x v [] := by
  induction h with
  | int => exact ⟨fun _ => 5, fun _ => FlC.five, fun _ _ _ => .int _ _ _⟩
  | bool => exact ⟨fun _ => 5, fun _ => FlC.five, fun _ _ _ => .bool _ _⟩
  | str => exact ⟨fun _ => 5, fun _ => FlC.five, fun _ _ _ => .str _ _⟩
  | ifc => exact ⟨fun _ => 5, fun _ => FlC.five, fun _ _ _ => .ifc _ _⟩
  | unit => exact ⟨fun _ => 5, fun _ => FlC.five, fun _ _ _ => .unit _⟩
  | fnv => exact ⟨fun _ => 5, fun _ => FlC.five, fun _ _ _ => .fnv _ _⟩
  | clo m f t x b hm h ih => obtain ⟨e, q, he⟩ := ih hn; exact ⟨e, q, fun S' hS hf => .clo _ _ _ _ _ (by rw [(Md.frz_hd m).1, hm]; rfl) (he S' hS hf)⟩
  | nil m e A hA => exact ⟨fun _ => 5, fun _ => FlC.five, fun _ _ _ => .nil _ _ _ fun h => hA fun he => h (by rw [(Md.frz_hd m).1, he]; rfl)⟩
  | pair m a b x y va vb fa fb ha hb iha ihb =>
    rw [List.nodup_append] at hn
    obtain ⟨ea, qa, ha'⟩ := iha hn.1
    obtain ⟨eb, qb, hb'⟩ := ihb hn.2.1
    refine ⟨fun c => if c ∈ fa then ea c else eb c, fun c => by by_cases hc : c ∈ fa <;> simp [hc, qa, qb], fun S' hS hf => ?_⟩
    exact .pair _ _ _ _ _ _ _ [] [] (ha' S' hS fun c hc => by simpa [hc] using hf c (List.mem_append_left _ hc))
      (hb' S' hS fun c hc => by
        have : c ∉ fa := fun h => hn.2.2 c h c hc rfl
        simpa [this] using hf c (List.mem_append_right _ hc))
  | st m a x v f h ih => obtain ⟨e, q, he⟩ := ih hn; exact ⟨e, q, fun S' hS hf => .st _ _ _ _ _ (he S' hS hf)⟩
  | named m i x v f h ih => obtain ⟨e, q, he⟩ := ih hn; exact ⟨e, q, fun S' hS hf => .named _ _ _ _ _ (he S' hS hf)⟩
  | sl m e xs b off cap ext vss hm hs hext htag hcap hel hc htc ih =>
    refine ⟨fun _ => 5, fun _ => FlC.five, fun S' hS hf => ?_⟩
    obtain ⟨h1, h2⟩ := Md.frz_hd m
    refine .sl m.frz e xs b off cap ext vss (by rw [h1]; exact Mode.frz_ne _) (hS _ _ hs) hext htag hcap (fun i x hx => ?_) hc ?_
    · obtain ⟨ex, _, hex⟩ := ih i x hx (by simp)
      rw [h2]; exact hex S' hS (by simp)
    · intro ht
      rw [h1] at ht
      refine (htc ?_).frame hs hS rfl
      revert ht hm; cases m.hd <;> simp [Mode.frz]
  | own m e xs b cap arr tt vss fps hm hs hb hcap hsz hel hc ih =>
    obtain ⟨h1, h2⟩ := Md.frz_hd m
    rw [List.nodup_cons] at hn
    have hnd : ∀ i, i < xs.length → (fps i).Nodup := fun i hi => flat_each hn.2 i (List.mem_range.2 hi)
    have hdis : ∀ i j, i < xs.length → j < xs.length → i ≠ j → ∀ c ∈ fps i, c ∉ fps j := fun i j hi hj =>
      flat_apart hn.2 i (List.mem_range.2 hi) j (List.mem_range.2 hj)
    have hch : ∀ i : Nat, ∃ ext : Nat → Nat, (∀ b, FlC (ext b)) ∧ ∀ x, xs[i]? = some x → ∀ S' : Nat → Option Nat, (∀ b e, S b = some e → S' b = some e) → (∀ b ∈ fps i, S' b = some (ext b)) → Rd X w S' m.tl.frz e x (vss i) [] := by
      intro i
      cases hx : xs[i]? with
      | none => exact ⟨fun _ => 5, fun _ => FlC.five, fun _ h => by simp at h⟩
      | some x =>
        obtain ⟨ex, q, hex⟩ := ih i x hx (hnd i (List.getElem?_eq_some_iff.1 hx).1)
        exact ⟨ex, q, fun y hy => by cases hy; exact hex⟩
    obtain ⟨ext, hext⟩ := Classical.axiomOfChoice hch
    refine ⟨fun c => if c = b then 64 * (xs.length * e.cells X.sz) + 4 * e.tag + 1 else if h : ∃ i, i < xs.length ∧ c ∈ fps i then ext (Classical.choose h) c else 5, fun c => ?_, fun S' hS hf => ?_⟩
    · by_cases hc : c = b
      · simp only [hc, if_true]; exact FlC.mk _ _
      · simp only [hc, if_false]
        split
        · exact (hext _).1 _
        · exact FlC.five
    have hSb : S' b = some (64 * (xs.length * e.cells X.sz) + 4 * e.tag + 1) := by have := hf b (by simp); simpa using this
    refine .sl m.frz e xs b 0 cap (64 * (xs.length * e.cells X.sz) + 4 * e.tag + 1) vss (by rw [h1]; exact Mode.frz_ne _) hSb (by rw [(tag_mk _ _).1]; omega) (.inr (tag_mk _ _).2.1) hcap (fun i x hx => ?_) ?_ ?_
    · rw [h2]
      have hi := (List.getElem?_eq_some_iff.1 hx).1
      refine (hext i).2 x hx S' hS (fun c hc => ?_)
      have hne : c ≠ b := fun h => hn.1 (h ▸ List.mem_flatMap.2 ⟨i, List.mem_range.2 hi, hc⟩)
      have hex : ∃ i, i < xs.length ∧ c ∈ fps i := ⟨i, hi, hc⟩
      have hci : Classical.choose hex = i := by
        have hsp := Classical.choose_spec hex
        rcases Nat.decEq (Classical.choose hex) i with h | h
        · exact absurd hc (hdis _ _ hsp.1 hi h c hsp.2)
        · exact h
      have := hf c (List.mem_cons_of_mem _ (List.mem_flatMap.2 ⟨i, List.mem_range.2 hi, hc⟩))
      simp only [if_neg hne, dif_pos hex, hci] at this
      exact this
    · intro i j v hi hv
      have := hc i j v hi hv
      simp [World.cell?, hb, this]
    · intro _
      exact ⟨_, hSb, by rw [(tag_mk _ _).2.2]; omega, fun _ => ⟨rfl, arr, tt, hb, hsz, .inr (tag_mk _ _).1⟩⟩

/-- What was owned is lent. -/
theorem Rd.lend {m : Md} {t : Ty} {x : D X.T t} {v : List Value} {f : List Nat} (h : Rd X w S m t x v f) (hn : f.Nodup) :
    ∃ ext : Nat → Nat, (∀ b, ext b % 4 = 2) ∧ ∀ S' : Nat → Option Nat, (∀ b e, S b = some e → S' b = some e) → (∀ b ∈ f, S' b = some (ext b)) → Rd X w S' m.lnd t x v [] := by
  induction h with
  | int => exact ⟨fun _ => 2, fun _ => rfl, fun _ _ _ => .int _ _ _⟩
  | bool => exact ⟨fun _ => 2, fun _ => rfl, fun _ _ _ => .bool _ _⟩
  | str => exact ⟨fun _ => 2, fun _ => rfl, fun _ _ _ => .str _ _⟩
  | ifc => exact ⟨fun _ => 2, fun _ => rfl, fun _ _ _ => .ifc _ _⟩
  | unit => exact ⟨fun _ => 2, fun _ => rfl, fun _ _ _ => .unit _⟩
  | fnv => exact ⟨fun _ => 2, fun _ => rfl, fun _ _ _ => .fnv _ _⟩
  | clo m f t x b hm h ih => obtain ⟨e, q, he⟩ := ih hn; exact ⟨e, q, fun S' hS hf => .clo _ _ _ _ _ (by rw [(Md.lnd_hd m).1, hm]; rfl) (he S' hS hf)⟩
  | nil m e A hA => exact ⟨fun _ => 2, fun _ => rfl, fun _ _ _ => .nil _ _ _ fun h => hA fun he => h (by rw [(Md.lnd_hd m).1, he]; rfl)⟩
  | pair m a b x y va vb fa fb ha hb iha ihb =>
    rw [List.nodup_append] at hn
    obtain ⟨ea, qa, ha'⟩ := iha hn.1
    obtain ⟨eb, qb, hb'⟩ := ihb hn.2.1
    refine ⟨fun c => if c ∈ fa then ea c else eb c, fun c => by by_cases hc : c ∈ fa <;> simp [hc, qa, qb], fun S' hS hf => ?_⟩
    exact .pair _ _ _ _ _ _ _ [] [] (ha' S' hS fun c hc => by simpa [hc] using hf c (List.mem_append_left _ hc))
      (hb' S' hS fun c hc => by
        have : c ∉ fa := fun h => hn.2.2 c h c hc rfl
        simpa [this] using hf c (List.mem_append_right _ hc))
  | st m a x v f h ih => obtain ⟨e, q, he⟩ := ih hn; exact ⟨e, q, fun S' hS hf => .st _ _ _ _ _ (he S' hS hf)⟩
  | named m i x v f h ih => obtain ⟨e, q, he⟩ := ih hn; exact ⟨e, q, fun S' hS hf => .named _ _ _ _ _ (he S' hS hf)⟩
  | sl m e xs b off cap ext vss hm hs hext htag hcap hel hc htc ih =>
    refine ⟨fun _ => 2, fun _ => rfl, fun S' hS hf => ?_⟩
    obtain ⟨h1, h2⟩ := Md.lnd_hd m
    refine .sl m.lnd e xs b off cap ext vss (by rw [h1]; exact Mode.lnd_ne _) (hS _ _ hs) hext htag hcap (fun i x hx => ?_) hc ?_
    · obtain ⟨ex, _, hex⟩ := ih i x hx (by simp)
      rw [h2]; exact hex S' hS (by simp)
    · intro ht
      rw [h1] at ht
      refine (htc ?_).frame hs hS rfl
      revert ht hm; cases m.hd <;> simp [Mode.lnd]
  | own m e xs b cap arr tt vss fps hm hs hb hcap hsz hel hc ih =>
    obtain ⟨h1, h2⟩ := Md.lnd_hd m
    rw [List.nodup_cons] at hn
    have hnd : ∀ i, i < xs.length → (fps i).Nodup := fun i hi => flat_each hn.2 i (List.mem_range.2 hi)
    have hdis : ∀ i j, i < xs.length → j < xs.length → i ≠ j → ∀ c ∈ fps i, c ∉ fps j := fun i j hi hj =>
      flat_apart hn.2 i (List.mem_range.2 hi) j (List.mem_range.2 hj)
    have hch : ∀ i : Nat, ∃ ext : Nat → Nat, (∀ b, ext b % 4 = 2) ∧ ∀ x, xs[i]? = some x → ∀ S' : Nat → Option Nat, (∀ b e, S b = some e → S' b = some e) → (∀ b ∈ fps i, S' b = some (ext b)) → Rd X w S' m.tl.lnd e x (vss i) [] := by
      intro i
      cases hx : xs[i]? with
      | none => exact ⟨fun _ => 2, fun _ => rfl, fun _ h => by simp at h⟩
      | some x =>
        obtain ⟨ex, q, hex⟩ := ih i x hx (hnd i (List.getElem?_eq_some_iff.1 hx).1)
        exact ⟨ex, q, fun y hy => by cases hy; exact hex⟩
    obtain ⟨ext, hext⟩ := Classical.axiomOfChoice hch
    refine ⟨fun c => if c = b then 64 * (xs.length * e.cells X.sz) + 2 else if h : ∃ i, i < xs.length ∧ c ∈ fps i then ext (Classical.choose h) c else 2, fun c => ?_, fun S' hS hf => ?_⟩
    · by_cases hc : c = b
      · simp only [hc, if_true]; omega
      · simp only [hc, if_false]
        split
        · exact (hext _).1 _
        · rfl
    have hSb : S' b = some (64 * (xs.length * e.cells X.sz) + 2) := by have := hf b (by simp); simpa using this
    refine .sl m.lnd e xs b 0 cap (64 * (xs.length * e.cells X.sz) + 2) vss (by rw [h1]; exact Mode.lnd_ne _) hSb (by omega) (.inl (by omega)) hcap (fun i x hx => ?_) ?_ ?_
    · rw [h2]
      have hi := (List.getElem?_eq_some_iff.1 hx).1
      refine (hext i).2 x hx S' hS (fun c hc => ?_)
      have hne : c ≠ b := fun h => hn.1 (h ▸ List.mem_flatMap.2 ⟨i, List.mem_range.2 hi, hc⟩)
      have hex : ∃ i, i < xs.length ∧ c ∈ fps i := ⟨i, hi, hc⟩
      have hci : Classical.choose hex = i := by
        have hsp := Classical.choose_spec hex
        rcases Nat.decEq (Classical.choose hex) i with h | h
        · exact absurd hc (hdis _ _ hsp.1 hi h c hsp.2)
        · exact h
      have := hf c (List.mem_cons_of_mem _ (List.mem_flatMap.2 ⟨i, List.mem_range.2 hi, hc⟩))
      simp only [if_neg hne, dif_pos hex, hci] at this
      exact this
    · intro i j v hi hv
      have := hc i j v hi hv
      simp [World.cell?, hb, this]
    · intro ht
      rw [h1, hm] at ht; cases ht

/-- What is all its own hangs on nothing that is kept. -/
theorem Rd.indep {S' : Nat → Option Nat} {m : Md} {t : Ty} {x : D X.T t} {v : List Value} {f : List Nat} (h : Rd X w S m t x v f) (hm : m.allOwn = true)
    (hf : ∀ b ∈ f, S' b = none) : Rd X w S' m t x v f := by
  induction h with
  | int => exact .int _ _ _
  | bool => exact .bool _ _
  | str => exact .str _ _
  | ifc => exact .ifc _ _
  | unit => exact .unit _
  | fnv => exact .fnv _ _
  | clo m f t x b hmm => exact absurd hmm (by rw [(Md.allOwn_hd hm).1]; simp)
  | nil m e A hA => exact .nil _ _ _ hA
  | pair m a b x y va vb fa fb ha hb iha ihb =>
    exact .pair _ _ _ _ _ _ _ _ _ (iha hm (fun b hb => hf b (List.mem_append_left _ hb))) (ihb hm (fun b hb => hf b (List.mem_append_right _ hb)))
  | st m a x v f h ih => exact .st _ _ _ _ _ (ih hm hf)
  | named m i x v f h ih => exact .named _ _ _ _ _ (ih hm hf)
  | sl m e xs b off cap ext vss hmm => exact absurd (Md.allOwn_hd hm).1 hmm
  | own m e xs b cap arr tt vss fps hmm hs hb hcap hsz hel hc ih =>
    exact .own m e xs b cap arr tt vss fps hmm (hf b (by simp)) hb hcap hsz
      (fun i x hx => ih i x hx (Md.allOwn_hd hm).2 (fun c hc => hf c (List.mem_cons_of_mem _ (List.mem_flatMap.2 ⟨i, List.mem_range.2 (List.getElem?_eq_some_iff.1 hx).1, hc⟩)))) hc

end

/-! a slice that lies in an element: taken out, and put back -/
structure Ln (X : Ext) (t : Ty) where
  e : Ty
  ys : List (D X.T e)
  put : List (D X.T e) → D X.T t
def lens (X : Ext) : (t : Ty) → D X.T t → Nat → Option (Ln X t)
  | .sl e, xs, 0 => some ⟨e, xs, fun ys => ys⟩
  | .pair a b, x, o => if o < a.cells X.sz then (match lens X a x.1 o with
      | some l => some ⟨l.e, l.ys, fun y => (l.put y, x.2)⟩
      | none => none) else (match lens X b x.2 (o - a.cells X.sz) with
      | some l => some ⟨l.e, l.ys, fun y => (x.1, l.put y)⟩
      | none => none)
  | .st a, x, o => match lens X a x o with
    | some l => some ⟨l.e, l.ys, l.put⟩
    | none => none
  | _, _, _ => none

/-- What is kept, and these blocks, are as they were. -/
def Frm (w : World) (S : Nat → Option Nat) (f : List Nat) (w' : World) (S' : Nat → Option Nat) : Prop :=
  (∀ b c, S b = some c → Kp1 w w' S' b c) ∧ (∀ b ∈ f, w'.heap[b]? = w.heap[b]?) ∧ (∀ b ∈ f, S' b = none)
theorem Frm.strong {w : World} {S : Nat → Option Nat} {f : List Nat} {w' : World} {S' : Nat → Option Nat} (h1 : ∀ b e, S b = some e → S' b = some e) (h2 : ∀ b, (S b ≠ none ∨ b ∈ f) → w'.heap[b]? = w.heap[b]?) (h3 : ∀ b ∈ f, S' b = none) : Frm w S f w' S' :=
  ⟨fun b c hb => .strong (h1 b c hb) (h2 b (.inl (by simp [hb]))), fun b hb => h2 b (.inr hb), h3⟩
theorem Frm.trans {w w' w'' : World} {S S' S'' : Nat → Option Nat} {f : List Nat} (h : Frm w S f w' S') (h' : Frm w' S' f w'' S'') : Frm w S f w'' S'' :=
  ⟨fun b c hb => (h.1 b c hb).trans (h'.1 b), fun b hb => (h'.2.1 b hb).trans (h.2.1 b hb), h'.2.2⟩
theorem Frm.sub {w w' : World} {S S' : Nat → Option Nat} {f g : List Nat} (h : Frm w S f w' S') (hg : ∀ b ∈ g, b ∈ f) : Frm w S g w' S' :=
  ⟨h.1, fun b hb => h.2.1 b (hg b hb), fun b hb => h.2.2 b (hg b hb)⟩

section
variable {X : Ext} {w : World} {S : Nat → Option Nat}
theorem Rd.frm {w' : World} {S' : Nat → Option Nat} {m : Md} {t : Ty} {x : D X.T t} {v : List Value} {f : List Nat} (h : Rd X w S m t x v f) (hf : Frm w S f w' S') : Rd X w' S' m t x v f := h.frameW hf.1 hf.2.1 hf.2.2

/-- The rest of a thing, once a slice in it has been taken out: whatever is put there, it is whole again. -/
def Wand (X : Ext) (w : World) (S : Nat → Option Nat) (mc m : Md) (t e : Ty) (put : List (D X.T e) → D X.T t) (vs : List Value) (h0 : Value) (f2 : List Nat) : Prop :=
  ∀ (w' : World) (S' : Nat → Option Nat) (ys : List (D X.T e)) (f1 : List Nat), Frm w S f2 w' S' → Rd X w' S' mc (.sl e) ys [h0] f1 → ∃ f, Rd X w' S' m t (put ys) vs f ∧ f.Perm (f1 ++ f2)
theorem Wand.frm {w' : World} {S' : Nat → Option Nat} {mc m : Md} {t e : Ty} {put : List (D X.T e) → D X.T t} {vs : List Value} {h0 : Value} {f : List Nat} (h : Wand X w S mc m t e put vs h0 f) (hf : Frm w S f w' S') :
    Wand X w' S' mc m t e put vs h0 f := fun w'' S'' ys f1 h1 h2 => h w'' S'' ys f1 (hf.trans h1) h2

theorem perm_swap3 {a b c d : List Nat} (h : a.Perm (b ++ c)) : (d ++ a).Perm (b ++ (d ++ c)) := by
  refine (h.append_left d).trans ?_
  rw [← List.append_assoc, ← List.append_assoc]
  exact List.perm_append_comm.append_right c
theorem Rd.take_out {m : Md} : ∀ (t : Ty) (x : D X.T t) (vs : List Value) (f : List Nat) (o : Nat) (l : Ln X t), Rd X w S m t x vs f → lens X t x o = some l →
    ∃ h f1 f2, vs[o]? = some h ∧ Rd X w S m (.sl l.e) l.ys [h] f1 ∧ f.Perm (f1 ++ f2) ∧ Wand X w S m m t l.e l.put vs h f2
  | .sl e, xs, vs, f, 0, l, hr, hl => by
    simp only [lens] at hl
    cases hl
    have hlen := hr.length
    match vs, hlen with
    | [v], _ => exact ⟨v, f, [], rfl, hr, by simp, fun w' S' ys f1 _ h => ⟨f1, h, by simp⟩⟩
  | .sl e, xs, vs, f, _ + 1, l, hr, hl => by simp [lens] at hl
  | .pair a b, x, vs, f, o, l, hr, hl => by
    cases hr with
    | pair _ _ _ xa xb va vb fa fb ha hb =>
      simp only [lens] at hl
      have hla := ha.length
      split at hl
      · rename_i ho
        split at hl
        case h_2 => cases hl
        case h_1 l' hl' =>
        cases hl
        obtain ⟨h, f1, f2, e1, e2, e3, e4⟩ := Rd.take_out a xa va fa o l' ha hl'
        refine ⟨h, f1, f2 ++ fb, by rw [List.getElem?_append_left (by omega)]; exact e1, e2, ?_, ?_⟩
        · rw [← List.append_assoc]; exact e3.append_right fb
        · intro w' S' ys g1 hf h1
          obtain ⟨g, p1, p2⟩ := e4 w' S' ys g1 (hf.sub fun b hb => List.mem_append_left _ hb) h1
          refine ⟨g ++ fb, .pair _ _ _ _ _ _ _ _ _ p1 (hb.frm (hf.sub fun b hb => List.mem_append_right _ hb)), ?_⟩
          rw [← List.append_assoc]; exact p2.append_right fb
      · rename_i ho
        split at hl
        case h_2 => cases hl
        case h_1 l' hl' =>
        cases hl
        obtain ⟨h, f1, f2, e1, e2, e3, e4⟩ := Rd.take_out b xb vb fb (o - a.cells X.sz) l' hb hl'
        refine ⟨h, f1, fa ++ f2, by rw [List.getElem?_append_right (by omega), hla]; exact e1, e2, perm_swap3 e3, ?_⟩
        intro w' S' ys g1 hf h1
        obtain ⟨g, p1, p2⟩ := e4 w' S' ys g1 (hf.sub fun b hb => List.mem_append_right _ hb) h1
        exact ⟨fa ++ g, .pair _ _ _ _ _ _ _ _ _ (ha.frm (hf.sub fun b hb => List.mem_append_left _ hb)) p1, perm_swap3 p2⟩
  | .st a, x, vs, f, o, l, hr, hl => by
    cases hr with
    | st _ _ _ _ _ hr =>
      simp only [lens] at hl
      split at hl
      case h_2 => cases hl
      case h_1 l' hl' =>
      cases hl
      obtain ⟨h, f1, f2, e1, e2, e3, e4⟩ := Rd.take_out a x vs f o l' hr hl'
      refine ⟨h, f1, f2, e1, e2, e3, fun w' S' ys g1 hf h1 => ?_⟩
      obtain ⟨g, p1, p2⟩ := e4 w' S' ys g1 hf h1
      exact ⟨g, .st _ _ _ _ _ p1, p2⟩
  | .int _, x, vs, f, o, l, hr, hl => by simp [lens] at hl
  | .bool, x, vs, f, o, l, hr, hl => by simp [lens] at hl
  | .str, x, vs, f, o, l, hr, hl => by simp [lens] at hl
  | .ifc, x, vs, f, o, l, hr, hl => by simp [lens] at hl
  | .unit, x, vs, f, o, l, hr, hl => by simp [lens] at hl
  | .named _, x, vs, f, o, l, hr, hl => by simp [lens] at hl
  | .fnv _, x, vs, f, o, l, hr, hl => by simp [lens] at hl
  | .clo _ _, x, vs, f, o, l, hr, hl => by simp [lens] at hl

theorem flat_perm {g : Nat → List Nat} {i : Nat} {a b : List Nat} (h : (g i).Perm (a ++ b)) : ∀ {l : List Nat}, l.Nodup → i ∈ l → (l.flatMap g).Perm (a ++ l.flatMap fun k => if k = i then b else g k)
  | [], _, hi => by simp at hi
  | k :: l, hn, hi => by
    rw [List.nodup_cons] at hn
    rw [List.flatMap_cons, List.flatMap_cons]
    by_cases hk : k = i
    · subst hk
      have hrest : (l.flatMap fun j => if j = k then b else g j) = l.flatMap g := by
        rw [List.flatMap_def, List.flatMap_def]
        congr 1
        refine List.map_congr_left fun j hj => ?_
        rw [if_neg (fun (he : j = k) => hn.1 (he ▸ hj))]
      rw [if_pos rfl, hrest, ← List.append_assoc]
      exact h.append_right _
    · rw [if_neg hk]
      have hi' : i ∈ l := by
        rcases List.mem_cons.1 hi with h1 | h1
        · exact absurd h1.symm hk
        · exact h1
      exact perm_swap3 (flat_perm h hn.2 hi')
theorem Md.own_tl (m : Md) : (Md.mk (.own :: m.l) m.d).hd = .own ∧ (Md.mk (.own :: m.l) m.d).tl = m := ⟨rfl, rfl⟩

/-- Out of an element of a row that one owns. -/
theorem Rd.row_out {m : Md} {e : Ty} {xs : List (D X.T e)} {b cap : Nat} {f : List Nat} {i o : Nat} {x : D X.T e} {l : Ln X e} (hr : Rd X w S (Md.mk (.own :: m.l) m.d) (.sl e) xs [.slice (some ⟨b, 0, none⟩) xs.length cap] f) (hx : xs[i]? = some x) (hl : lens X e x o = some l) :
    ∃ h f1 f2, w.cell? ⟨b, i * e.cells X.sz + o, none⟩ = some h ∧ Rd X w S m (.sl l.e) l.ys [h] f1 ∧ f.Perm (f1 ++ f2) ∧
      Wand X w S m (Md.mk (.own :: m.l) m.d) (.sl e) l.e (fun ys => xs.set i (l.put ys)) [.slice (some ⟨b, 0, none⟩) xs.length cap] h f2 := by
  have hi : i < xs.length := (List.getElem?_eq_some_iff.1 hx).1
  generalize hv : [Value.slice (some ⟨b, 0, none⟩) xs.length cap] = v at hr
  generalize hxs : xs = zs at hr
  cases hr with
  | nil _ _ A hA => subst hxs; simp at hi
  | sl _ _ _ _ _ _ _ _ hm => exact absurd rfl hm
  | own _ _ _ b' cap' arr tt vss fps hm hs hb hcap hsz hel hc =>
    subst hxs
    injection hv with hv _
    injection hv with h1 _ h3
    injection h1 with h1
    injection h1 with h1
    subst h1 h3
    obtain ⟨h, f1, f2, e1, e2, e3, e4⟩ := Rd.take_out e x (vss i) (fps i) o l (hel i x hx) hl
    have hcell := hc i o h hi e1
    refine ⟨h, f1, b :: (List.range xs.length).flatMap (fun k => if k = i then f2 else fps k), by simp [World.cell?, hb, hcell], e2, ?_, ?_⟩
    · have := flat_perm (g := fps) e3 List.nodup_range (List.mem_range.2 hi)
      exact (this.cons b).trans (List.perm_middle.symm)
    · intro w' S' ys g1 hf h1
      have hmem : ∀ k, k < xs.length → ∀ c ∈ (if k = i then f2 else fps k), c ∈ b :: (List.range xs.length).flatMap (fun k => if k = i then f2 else fps k) := fun k hk c hc =>
        List.mem_cons_of_mem _ (List.mem_flatMap.2 ⟨k, List.mem_range.2 hk, hc⟩)
      obtain ⟨g, p1, p2⟩ := e4 w' S' ys g1 (hf.sub fun c hc => hmem i hi c (by rw [if_pos rfl]; exact hc)) h1
      have hlen : (xs.set i (l.put ys)).length = xs.length := by simp
      refine ⟨b :: (List.range xs.length).flatMap (fun k => if k = i then g else fps k), ?_, ?_⟩
      · have := Rd.own (X := X) (w := w') (S := S') (Md.mk (.own :: m.l) m.d) e (xs.set i (l.put ys)) b cap arr tt vss (fun k => if k = i then g else fps k) hm (hf.2.2 b (by simp)) ((hf.2.1 b (by simp)).trans hb)
          (by rw [hlen]; exact hcap) hsz (fun k y hy => ?_) (by rw [hlen]; exact hc)
        · rw [hlen] at this; exact this
        · by_cases hk : k = i
          · subst hk
            rw [if_pos rfl]
            have : y = l.put ys := by
              rw [List.getElem?_set_self hi] at hy
              exact (Option.some.inj hy).symm
            rw [this]
            exact p1
          · rw [if_neg hk]
            rw [List.getElem?_set_ne (Ne.symm hk)] at hy
            have hk' := (List.getElem?_eq_some_iff.1 hy).1
            exact (hel k y hy).frm (hf.sub fun c hc => hmem k hk' c (by rw [if_neg hk]; exact hc))
      · have q := flat_perm (g := fun k => if k = i then g else fps k) (i := i) (a := g1) (b := f2) (by simpa using p2) List.nodup_range (List.mem_range.2 hi)
        have hcong : (List.range xs.length).flatMap (fun k => if k = i then f2 else (if k = i then g else fps k)) = (List.range xs.length).flatMap (fun k => if k = i then f2 else fps k) := by
          rw [List.flatMap_def, List.flatMap_def]
          congr 1
          refine List.map_congr_left fun k _ => ?_
          by_cases hk : k = i <;> simp [hk]
        rw [hcong] at q
        exact (q.cons b).trans List.perm_middle.symm
end
section
variable (X : Ext) (w : World) (S : Nat → Option Nat)

/-- A value of a type, as the machine hands it on. -/
def VR (m : Md) (t : Ty) (x : D X.T t) (v : Value) (fp : List Nat) : Prop :=
  if t.agg then ∃ vs, v = .agg vs.toArray ∧ Rd X w S m t x vs fp else Rd X w S m t x [v] fp
/-- One entry of a map: key and value. -/
def ME (k : Ty) (v : Ty) (m : Md) (p : D X.T k × D X.T v) (e : MapEntry) : Prop := Rd X w S m k p.1 [e.key] [] ∧ VR X w S m v p.2 e.val []
end
theorem VR.frameW {X : Ext} {w w' : World} {S S' : Nat → Option Nat} {m : Md} {t : Ty} {x : D X.T t} {v : Value} (h : VR X w S m t x v []) (hk : ∀ b c, S b = some c → Kp1 w w' S' b c) : VR X w' S' m t x v [] := by
  unfold VR at h ⊢
  split at h
  · rename_i ht
    rw [if_pos ht]
    obtain ⟨vs, h1, h2⟩ := h
    exact ⟨vs, h1, h2.frameW hk (by simp) (by simp)⟩
  · rename_i ht
    rw [if_neg ht]
    exact h.frameW hk (by simp) (by simp)
theorem ME.frameW {X : Ext} {w w' : World} {S S' : Nat → Option Nat} {m : Md} {k v : Ty} {p : D X.T k × D X.T v} {e : MapEntry} (h : ME X w S k v m p e) (hk : ∀ b c, S b = some c → Kp1 w w' S' b c) : ME X w' S' k v m p e :=
  ⟨h.1.frameW hk (by simp) (by simp), h.2.frameW hk⟩
theorem VR.sub {X : Ext} {w : World} {S : Nat → Option Nat} {m m' : Md} {t : Ty} {x : D X.T t} {v : Value} {f : List Nat} (h : VR X w S m t x v f) (hm : m.sub m' = true) : VR X w S m' t x v f := by
  unfold VR at h ⊢
  split at h
  · rename_i ht
    rw [if_pos ht]
    obtain ⟨vs, h1, h2⟩ := h
    exact ⟨vs, h1, h2.sub hm⟩
  · rename_i ht
    rw [if_neg ht]
    exact h.sub hm
theorem ME.sub {X : Ext} {w : World} {S : Nat → Option Nat} {m m' : Md} {k v : Ty} {p : D X.T k × D X.T v} {e : MapEntry} (h : ME X w S k v m p e) (hm : m.sub m' = true) : ME X w S k v m' p e := ⟨h.1.sub hm, h.2.sub hm⟩
end Go.Proofs.Ytmbnalaiobhaaaa.E
