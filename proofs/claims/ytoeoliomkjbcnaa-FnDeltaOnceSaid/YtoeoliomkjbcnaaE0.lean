/- The engine, part 0: types, typed values, and how a typed value lies in memory. -/
import Derived.Calls
import Derived.Tactics
import Derived.Orders
import Derived.KernelRfl
import Derived.Laws.World
import Derived.Laws.Cells
import Derived.Laws.Append
import Derived.Laws.Slices
import Derived.Deep.LoopGhost
namespace Go.Proofs.Ytoeoliomkjbcnaa.E
open Go

inductive Ty where
  | int (k : IntKind)
  | bool
  | str
  | unit
  | sl (e : Ty)
  | pair (a b : Ty)
  | st (a : Ty)
  | named (i : Nat)
  deriving DecidableEq

@[reducible] def D (T : Nat → Type) : Ty → Type
  | .int _ => Int
  | .bool => Bool
  | .str => ByteArray
  | .unit => Unit
  | .sl e => List (D T e)
  | .pair a b => D T a × D T b
  | .st a => D T a
  | .named i => T i

def Ty.cells (sz : Nat → Nat) : Ty → Nat
  | .int _ => 1
  | .bool => 1
  | .str => 1
  | .unit => 0
  | .sl _ => 1
  | .pair a b => a.cells sz + b.cells sz
  | .st a => a.cells sz
  | .named i => sz i

structure Ext where
  T : Nat → Type
  body : Nat → Ty
  sz : Nat → Nat
  out : (i : Nat) → T i → D T (body i)
  inn : (i : Nat) → D T (body i) → T i
  zer : (i : Nat) → T i
  out_inn : ∀ i y, out i (inn i y) = y
  sz_ok : ∀ i, (body i).cells sz = sz i

inductive Mode where
  | st | tc | own
  deriving DecidableEq

structure Md where
  l : List Mode
  d : Mode
  deriving DecidableEq

def Md.hd (m : Md) : Mode := match m.l with
  | [] => m.d
  | a :: _ => a
def Md.tl (m : Md) : Md := ⟨m.l.tail, m.d⟩
/-- 'a' may stand where 'b' is asked. -/
def Mode.ge : Mode → Mode → Bool
  | _, .st => true
  | .tc, .tc => true
  | .own, .tc => true
  | .own, .own => true
  | _, _ => false
/-- The same but for what is own: own stays own. -/
def Mode.sub : Mode → Mode → Bool
  | .st, .st => true
  | .tc, .st => true
  | .tc, .tc => true
  | .own, .own => true
  | _, _ => false
def listSub0 (d : Mode) : List Mode → Mode → Bool
  | [], e => d.sub e
  | b :: r, e => d.sub b && listSub0 d r e
def listSub : List Mode → Mode → List Mode → Mode → Bool
  | [], d, r, e => listSub0 d r e
  | a :: l, d, [], e => a.sub e && listSub l d [] e
  | a :: l, d, b :: r, e => a.sub b && listSub l d r e
def Md.sub (a b : Md) : Bool := listSub a.l a.d b.l b.d
/-- Nothing is own. -/
def Md.noOwn (m : Md) : Bool := m.l.all (· != .own) && m.d != .own
/-- All is own. -/
def Md.allOwn (m : Md) : Bool := m.l.all (· == .own) && m.d == .own
/-- What was own is a value that nobody writes any more. -/
def Mode.frz : Mode → Mode
  | .own => .tc
  | a => a
def Md.frz (m : Md) : Md := ⟨m.l.map Mode.frz, m.d.frz⟩

theorem listSub_hd {a b : Md} (h : a.sub b = true) : a.hd.sub b.hd = true ∧ a.tl.sub b.tl = true := by
  obtain ⟨l, d⟩ := a
  obtain ⟨r, e⟩ := b
  cases l <;> cases r <;> simp_all [Md.sub, listSub, listSub0, Md.hd, Md.tl]

theorem Md.noOwn_hd {m : Md} (h : m.noOwn = true) : m.hd ≠ .own ∧ m.tl.noOwn = true := by
  obtain ⟨l, d⟩ := m
  cases l <;> simp_all [Md.noOwn, Md.hd, Md.tl]
theorem Md.allOwn_hd {m : Md} (h : m.allOwn = true) : m.hd = .own ∧ m.tl.allOwn = true := by
  obtain ⟨l, d⟩ := m
  cases l with
  | nil => simp_all [Md.allOwn, Md.hd, Md.tl]
  | cons a l =>
    simp only [Md.allOwn, List.all_cons, Bool.and_eq_true, beq_iff_eq] at h
    simp [Md.allOwn, Md.hd, Md.tl, h.1.1, h.1.2, h.2]
theorem Md.frz_hd (m : Md) : m.frz.hd = m.hd.frz ∧ m.frz.tl = m.tl.frz := by
  obtain ⟨l, d⟩ := m
  cases l <;> simp [Md.frz, Md.hd, Md.tl]
theorem Mode.frz_ne (m : Mode) : m.frz ≠ .own := by cases m <;> simp [Mode.frz]
theorem Md.frz_noOwn (m : Md) : m.frz.noOwn = true := by
  obtain ⟨l, d⟩ := m
  simp only [Md.frz, Md.noOwn, Bool.and_eq_true, List.all_map, List.all_eq_true, Function.comp]
  refine ⟨fun a _ => ?_, ?_⟩
  · cases a <;> rfl
  · cases d <;> rfl

/-- What lies there may be appended to in place: nothing that is kept lies behind it. -/
def Tail (w : World) (S : Nat → Option Nat) (b off len cap sz : Nat) : Prop :=
  cap = len ∨ (∃ arr tt, w.heap[b]? = some (.cells arr tt (0, 0)) ∧ off + cap * sz ≤ arr.size ∧ S b = some (off + len * sz))

inductive Rd (X : Ext) (w : World) (S : Nat → Option Nat) : Md → (t : Ty) → D X.T t → List Value → List Nat → Prop
  | int (m : Md) (k : IntKind) (n : Int) : Rd X w S m (.int k) n [.int k n] []
  | bool (m : Md) (b : Bool) : Rd X w S m .bool b [.bool b] []
  | str (m : Md) (s : ByteArray) : Rd X w S m .str s [.string s] []
  | unit (m : Md) : Rd X w S m .unit () [] []
  | pair (m : Md) (a b : Ty) (x : D X.T a) (y : D X.T b) (va vb : List Value) (fa fb : List Nat) (ha : Rd X w S m a x va fa) (hb : Rd X w S m b y vb fb) :
      Rd X w S m (.pair a b) (x, y) (va ++ vb) (fa ++ fb)
  | st (m : Md) (a : Ty) (x : D X.T a) (v : List Value) (f : List Nat) (h : Rd X w S m a x v f) : Rd X w S m (.st a) x v f
  | named (m : Md) (i : Nat) (x : X.T i) (v : List Value) (f : List Nat) (h : Rd X w S m (X.body i) (X.out i x) v f) : Rd X w S m (.named i) x v f
  | nil (m : Md) (e : Ty) (A : Option Addr) (hA : m.hd = .own → ∃ o : Option Nat, A = o.map fun b => ⟨b, 0, none⟩) : Rd X w S m (.sl e) [] [.slice A 0 0] []
  | sl (m : Md) (e : Ty) (xs : List (D X.T e)) (b off cap ext : Nat) (vss : Nat → List Value) (hm : m.hd ≠ .own) (hs : S b = some ext)
      (hext : off + xs.length * e.cells X.sz ≤ ext) (hcap : xs.length ≤ cap)
      (hel : ∀ i x, xs[i]? = some x → Rd X w S m.tl e x (vss i) [])
      (hc : ∀ i j v, i < xs.length → (vss i)[j]? = some v → w.cell? ⟨b, off + i * e.cells X.sz + j, none⟩ = some v)
      (htc : m.hd = .tc → Tail w S b off xs.length cap (e.cells X.sz)) :
      Rd X w S m (.sl e) xs [.slice (some ⟨b, off, none⟩) xs.length cap] []
  | own (m : Md) (e : Ty) (xs : List (D X.T e)) (b cap : Nat) (arr : Array Value) (tt : TypeId) (vss : Nat → List Value) (fps : Nat → List Nat) (hm : m.hd = .own)
      (hs : S b = none) (hb : w.heap[b]? = some (.cells arr tt (0, 0))) (hcap : xs.length ≤ cap) (hsz : cap * e.cells X.sz ≤ arr.size)
      (hel : ∀ i x, xs[i]? = some x → Rd X w S m.tl e x (vss i) (fps i))
      (hc : ∀ i j v, i < xs.length → (vss i)[j]? = some v → arr[i * e.cells X.sz + j]? = some v) :
      Rd X w S m (.sl e) xs [.slice (some ⟨b, 0, none⟩) xs.length cap] (b :: (List.range xs.length).flatMap fps)

section
variable {X : Ext} {w : World} {S : Nat → Option Nat}

theorem Rd.length {m : Md} {t : Ty} {x : D X.T t} {v : List Value} {f : List Nat} (h : Rd X w S m t x v f) : v.length = t.cells X.sz := by
  induction h with
  | pair m a b x y va vb fa fb ha hb iha ihb => simp [Ty.cells, iha, ihb]
  | st m a x v f h ih => simpa [Ty.cells] using ih
  | named m i x v f h ih => simpa [Ty.cells, X.sz_ok i] using ih
  | _ => simp [Ty.cells]

/-- Blocks of which something is kept, and blocks that are owned, lie in the heap. -/
theorem Rd.lt {m : Md} {t : Ty} {x : D X.T t} {v : List Value} {f : List Nat} (h : Rd X w S m t x v f) : ∀ b ∈ f, b < w.heap.size ∧ S b = none := by
  induction h with
  | pair m a b x y va vb fa fb ha hb iha ihb =>
    intro c hc
    rcases List.mem_append.1 hc with h | h
    · exact iha c h
    · exact ihb c h
  | st m a x v f h ih => exact ih
  | named m i x v f h ih => exact ih
  | own m e xs b cap arr tt vss fps hm hs hb hcap hsz hel hc ih =>
    intro c hc
    rcases List.mem_cons.1 hc with rfl | h
    · refine ⟨?_, hs⟩
      rcases Nat.lt_or_ge c w.heap.size with h | h
      · exact h
      · simp [Array.getElem?_eq_none h] at hb
    · obtain ⟨i, hi, hci⟩ := List.mem_flatMap.1 h
      have hi' : i < xs.length := List.mem_range.1 hi
      exact ih i xs[i] (by simp) c hci
  | _ => intro c hc; simp at hc

theorem flat_each {f : Nat → List Nat} : ∀ {l : List Nat}, (l.flatMap f).Nodup → ∀ i ∈ l, (f i).Nodup
  | [], _, i, hi => by simp at hi
  | a :: l, h, i, hi => by
    rw [List.flatMap_cons, List.nodup_append] at h
    rcases List.mem_cons.1 hi with rfl | hi
    · exact h.1
    · exact flat_each h.2.1 i hi
theorem flat_apart {f : Nat → List Nat} : ∀ {l : List Nat}, (l.flatMap f).Nodup → ∀ i ∈ l, ∀ j ∈ l, i ≠ j → ∀ c ∈ f i, c ∉ f j
  | [], _, i, hi, _, _, _, _, _ => by simp at hi
  | a :: l, h, i, hi, j, hj, hne, c, hc => by
    rw [List.flatMap_cons, List.nodup_append] at h
    intro hcj
    rcases List.mem_cons.1 hi with hia | hi'
    · rcases List.mem_cons.1 hj with hja | hj'
      · exact hne (hia.trans hja.symm)
      · exact h.2.2 c (hia ▸ hc) c (List.mem_flatMap.2 ⟨j, hj', hcj⟩) rfl
    · rcases List.mem_cons.1 hj with hja | hj'
      · exact h.2.2 c (hja ▸ hcj) c (List.mem_flatMap.2 ⟨i, hi', hc⟩) rfl
      · exact flat_apart h.2.1 i hi' j hj' hne c hc hcj

theorem cell_congr {w w' : World} {b o : Nat} (h : w'.heap[b]? = w.heap[b]?) : w'.cell? ⟨b, o, none⟩ = w.cell? ⟨b, o, none⟩ := by
  simp [World.cell?, h]

theorem Tail.frame {w' : World} {S' : Nat → Option Nat} {b off len cap sz ext : Nat} (h : Tail w S b off len cap sz) (_ : S b = some ext)
    (hS : ∀ b e, S b = some e → S' b = some e) (hh : w'.heap[b]? = w.heap[b]?) : Tail w' S' b off len cap sz := by
  rcases h with h | ⟨arr, tt, h1, h2, h3⟩
  · exact .inl h
  · exact .inr ⟨arr, tt, hh.trans h1, h2, hS _ _ h3⟩

/-- The frame: what is kept and what is owned stays. -/
theorem Rd.frame {w' : World} {S' : Nat → Option Nat} {m : Md} {t : Ty} {x : D X.T t} {v : List Value} {f : List Nat} (h : Rd X w S m t x v f)
    (hS : ∀ b e, S b = some e → S' b = some e) (hh : ∀ b, (S b ≠ none ∨ b ∈ f) → w'.heap[b]? = w.heap[b]?) (hf : ∀ b ∈ f, S' b = none) : Rd X w' S' m t x v f := by
  induction h with
  | int => exact .int _ _ _
  | bool => exact .bool _ _
  | str => exact .str _ _
  | unit => exact .unit _
  | nil m e A hA => exact .nil _ _ _ hA
  | pair m a b x y va vb fa fb ha hb iha ihb =>
    exact .pair _ _ _ _ _ _ _ _ _ (iha (fun b hb => hh b (hb.imp id (List.mem_append_left _))) (fun b hb => hf b (List.mem_append_left _ hb)))
      (ihb (fun b hb => hh b (hb.imp id (List.mem_append_right _))) (fun b hb => hf b (List.mem_append_right _ hb)))
  | st m a x v f h ih => exact .st _ _ _ _ _ (ih hh hf)
  | named m i x v f h ih => exact .named _ _ _ _ _ (ih hh hf)
  | sl m e xs b off cap ext vss hm hs hext hcap hel hc htc ih =>
    have hb : w'.heap[b]? = w.heap[b]? := hh b (.inl (by simp [hs]))
    exact .sl m e xs b off cap ext vss hm (hS _ _ hs) hext hcap (fun i x hx => ih i x hx (fun b hb => hh b (.inl (hb.resolve_right (by simp)))) (by simp))
      (fun i j v hi hv => (cell_congr hb).trans (hc i j v hi hv)) (fun ht => (htc ht).frame hs hS hb)
  | own m e xs b cap arr tt vss fps hm hs hb hcap hsz hel hc ih =>
    have mem : ∀ i (x : D X.T e), xs[i]? = some x → ∀ c ∈ fps i, c ∈ b :: (List.range xs.length).flatMap fps := fun i x hx c hc =>
      List.mem_cons_of_mem _ (List.mem_flatMap.2 ⟨i, List.mem_range.2 (List.getElem?_eq_some_iff.1 hx).1, hc⟩)
    exact .own m e xs b cap arr tt vss fps hm (hf b (by simp)) ((hh b (.inr (by simp))).trans hb) hcap hsz
      (fun i x hx => ih i x hx (fun c hc => hh c (hc.imp id (mem i x hx c))) (fun c hc => hf c (mem i x hx c hc))) hc

theorem Rd.sub {m m' : Md} {t : Ty} {x : D X.T t} {v : List Value} {f : List Nat} (h : Rd X w S m t x v f) (hm : m.sub m' = true) : Rd X w S m' t x v f := by
  induction h generalizing m' with
  | int => exact .int _ _ _
  | bool => exact .bool _ _
  | str => exact .str _ _
  | unit => exact .unit _
  | nil m e A hA =>
    refine .nil _ _ _ fun he => hA ?_
    obtain ⟨h1, h2⟩ := listSub_hd hm
    rw [he] at h1; revert h1; cases m.hd <;> simp [Mode.sub]
  | pair m a b x y va vb fa fb ha hb iha ihb => exact .pair _ _ _ _ _ _ _ _ _ (iha hm) (ihb hm)
  | st m a x v f h ih => exact .st _ _ _ _ _ (ih hm)
  | named m i x v f h ih => exact .named _ _ _ _ _ (ih hm)
  | sl m e xs b off cap ext vss hmm hs hext hcap hel hc htc ih =>
    obtain ⟨h1, h2⟩ := listSub_hd hm
    refine .sl m' e xs b off cap ext vss ?_ hs hext hcap (fun i x hx => ih i x hx h2) hc ?_
    · intro he; rw [he] at h1; revert h1 hmm; cases m.hd <;> simp [Mode.sub]
    · intro he; rw [he] at h1; refine htc ?_; revert h1 hmm; cases m.hd <;> simp [Mode.sub]
  | own m e xs b cap arr tt vss fps hmm hs hb hcap hsz hel hc ih =>
    obtain ⟨h1, h2⟩ := listSub_hd hm
    refine .own m' e xs b cap arr tt vss fps ?_ hs hb hcap hsz (fun i x hx => ih i x hx h2) hc
    revert h1; rw [hmm]; cases m'.hd <;> simp [Mode.sub]

theorem Rd.noOwn {m : Md} {t : Ty} {x : D X.T t} {v : List Value} {f : List Nat} (h : Rd X w S m t x v f) (hm : m.noOwn = true) : f = [] := by
  induction h with
  | pair m a b x y va vb fa fb ha hb iha ihb => rw [iha hm, ihb hm]; rfl
  | st m a x v f h ih => exact ih hm
  | named m i x v f h ih => exact ih hm
  | own m e xs b cap arr tt vss fps hmm => exact absurd hmm (Md.noOwn_hd hm).1
  | _ => rfl

/-- What was owned is laid down for good. -/
theorem Rd.freeze {m : Md} {t : Ty} {x : D X.T t} {v : List Value} {f : List Nat} (h : Rd X w S m t x v f) (hn : f.Nodup) :
    ∃ ext : Nat → Nat, ∀ S' : Nat → Option Nat, (∀ b e, S b = some e → S' b = some e) → (∀ b ∈ f, S' b = some (ext b)) → Rd X w S' m.frz t x v [] := by
  induction h with
  | int => exact ⟨fun _ => 0, fun _ _ _ => .int _ _ _⟩
  | bool => exact ⟨fun _ => 0, fun _ _ _ => .bool _ _⟩
  | str => exact ⟨fun _ => 0, fun _ _ _ => .str _ _⟩
  | unit => exact ⟨fun _ => 0, fun _ _ _ => .unit _⟩
  | nil m e A hA => exact ⟨fun _ => 0, fun _ _ _ => .nil _ _ _ fun h => absurd ((Md.frz_hd m).1.symm.trans h) (Mode.frz_ne _)⟩
  | pair m a b x y va vb fa fb ha hb iha ihb =>
    rw [List.nodup_append] at hn
    obtain ⟨ea, ha'⟩ := iha hn.1
    obtain ⟨eb, hb'⟩ := ihb hn.2.1
    refine ⟨fun c => if c ∈ fa then ea c else eb c, fun S' hS hf => ?_⟩
    exact .pair _ _ _ _ _ _ _ [] [] (ha' S' hS fun c hc => by simpa [hc] using hf c (List.mem_append_left _ hc))
      (hb' S' hS fun c hc => by
        have : c ∉ fa := fun h => hn.2.2 c h c hc rfl
        simpa [this] using hf c (List.mem_append_right _ hc))
  | st m a x v f h ih => obtain ⟨e, he⟩ := ih hn; exact ⟨e, fun S' hS hf => .st _ _ _ _ _ (he S' hS hf)⟩
  | named m i x v f h ih => obtain ⟨e, he⟩ := ih hn; exact ⟨e, fun S' hS hf => .named _ _ _ _ _ (he S' hS hf)⟩
  | sl m e xs b off cap ext vss hm hs hext hcap hel hc htc ih =>
    refine ⟨fun _ => 0, fun S' hS hf => ?_⟩
    obtain ⟨h1, h2⟩ := Md.frz_hd m
    refine .sl m.frz e xs b off cap ext vss (by rw [h1]; exact Mode.frz_ne _) (hS _ _ hs) hext hcap (fun i x hx => ?_) hc ?_
    · obtain ⟨ex, hex⟩ := ih i x hx (by simp)
      rw [h2]; exact hex S' hS (by simp)
    · intro ht
      rw [h1] at ht
      refine (htc ?_).frame hs hS rfl
      revert ht hm; cases m.hd <;> simp [Mode.frz]
  | own m e xs b cap arr tt vss fps hm hs hb hcap hsz hel hc ih =>
    obtain ⟨h1, h2⟩ := Md.frz_hd m
    rw [List.nodup_cons] at hn
    have hnd : ∀ i, i < xs.length → (fps i).Nodup := fun i hi => flat_each hn.2 i (List.mem_range.2 hi)
    have hdis : ∀ i j, i < xs.length → j < xs.length → i ≠ j → ∀ c ∈ fps i, c ∉ fps j := fun i j hi hj =>
      flat_apart hn.2 i (List.mem_range.2 hi) j (List.mem_range.2 hj)
    have hch : ∀ i : Nat, ∃ ext : Nat → Nat, ∀ x, xs[i]? = some x → ∀ S' : Nat → Option Nat, (∀ b e, S b = some e → S' b = some e) → (∀ b ∈ fps i, S' b = some (ext b)) → Rd X w S' m.tl.frz e x (vss i) [] := by
      intro i
      cases hx : xs[i]? with
      | none => exact ⟨fun _ => 0, fun _ h => by simp at h⟩
      | some x =>
        obtain ⟨ex, hex⟩ := ih i x hx (hnd i (List.getElem?_eq_some_iff.1 hx).1)
        exact ⟨ex, fun y hy => by cases hy; exact hex⟩
    obtain ⟨ext, hext⟩ := Classical.axiomOfChoice hch
    refine ⟨fun c => if c = b then xs.length * e.cells X.sz else if h : ∃ i, i < xs.length ∧ c ∈ fps i then ext (Classical.choose h) c else 0, fun S' hS hf => ?_⟩
    have hSb : S' b = some (xs.length * e.cells X.sz) := by have := hf b (by simp); simpa using this
    refine .sl m.frz e xs b 0 cap (xs.length * e.cells X.sz) vss (by rw [h1]; exact Mode.frz_ne _) hSb (by omega) hcap (fun i x hx => ?_) ?_ ?_
    · rw [h2]
      have hi := (List.getElem?_eq_some_iff.1 hx).1
      refine hext i x hx S' hS (fun c hc => ?_)
      have hne : c ≠ b := fun h => hn.1 (h ▸ List.mem_flatMap.2 ⟨i, List.mem_range.2 hi, hc⟩)
      have hex : ∃ i, i < xs.length ∧ c ∈ fps i := ⟨i, hi, hc⟩
      have hci : Classical.choose hex = i := by
        have hsp := Classical.choose_spec hex
        rcases Nat.decEq (Classical.choose hex) i with h | h
        · exact absurd hc (hdis _ _ hsp.1 hi h c hsp.2)
        · exact h
      have := hf c (List.mem_cons_of_mem _ (List.mem_flatMap.2 ⟨i, List.mem_range.2 hi, hc⟩))
      simp only [if_neg hne, dif_pos hex, hci] at this
      exact this
    · intro i j v hi hv
      have := hc i j v hi hv
      simp [World.cell?, hb, this]
    · intro _
      exact .inr ⟨arr, tt, hb, by omega, by simpa using hSb⟩

/-- What is all its own hangs on nothing that is kept. -/
theorem Rd.indep {S' : Nat → Option Nat} {m : Md} {t : Ty} {x : D X.T t} {v : List Value} {f : List Nat} (h : Rd X w S m t x v f) (hm : m.allOwn = true)
    (hf : ∀ b ∈ f, S' b = none) : Rd X w S' m t x v f := by
  induction h with
  | int => exact .int _ _ _
  | bool => exact .bool _ _
  | str => exact .str _ _
  | unit => exact .unit _
  | nil m e A hA => exact .nil _ _ _ hA
  | pair m a b x y va vb fa fb ha hb iha ihb =>
    exact .pair _ _ _ _ _ _ _ _ _ (iha hm (fun b hb => hf b (List.mem_append_left _ hb))) (ihb hm (fun b hb => hf b (List.mem_append_right _ hb)))
  | st m a x v f h ih => exact .st _ _ _ _ _ (ih hm hf)
  | named m i x v f h ih => exact .named _ _ _ _ _ (ih hm hf)
  | sl m e xs b off cap ext vss hmm => exact absurd (Md.allOwn_hd hm).1 hmm
  | own m e xs b cap arr tt vss fps hmm hs hb hcap hsz hel hc ih =>
    exact .own m e xs b cap arr tt vss fps hmm (hf b (by simp)) hb hcap hsz
      (fun i x hx => ih i x hx (Md.allOwn_hd hm).2 (fun c hc => hf c (List.mem_cons_of_mem _ (List.mem_flatMap.2 ⟨i, List.mem_range.2 (List.getElem?_eq_some_iff.1 hx).1, hc⟩)))) hc

end
end Go.Proofs.Ytoeoliomkjbcnaa.E
