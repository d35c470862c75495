/- What is proved by walking the text: what is reckoned of a row (CellOf); its error is a variable of the package. -/
import Derived.Test.YtkhmejkpfphkpaaDoorF1
import Derived.Test.YtkhmejkpfphkpaaDoorChecked
import Derived.WalkKit
import Derived.LaidEql
import Derived.Stop.Asserts
import Derived.RowKitTokens
import Derived.Deep.QuietTactic
import Derived.BigQuiet
namespace Go.Proofs.YtkhmejkpfphkpaaDoor.E
open Go Go.RowKit Go.Extern
variable {O : World}

/-- The package's variables, as the world outside has them: the error is one of errors.New's make. -/
class GlobOk (O : World) : Prop where
  sent : ∃ a : Addr, O.cell? ⟨0, 0, none⟩ = some (.iface 132 (.pointer (some a)))

/-! errors.Is -/
theorem isTypeOf (v : Value) (w : World) : (callFunc 65 #[.iface 132 v]).run Tryd.prog w = .ok (.value (.iface 120 (.agg #[.pointer (some ⟨1, 132, none⟩)]))) w := by kernel_rfl
theorem isComparable (w : World) : (callFunc 124 #[.agg #[.pointer (some ⟨1, 132, none⟩)]]).run Tryd.prog w = .ok (.value (.bool true)) w := by kernel_rfl
theorem isMethodComparable (v : Value) (w : World) : (Go.method 272 120 v "Comparable").run Tryd.prog w = .ok (124, v) w := by kernel_rfl
theorem isComp : (Tryd.prog.info? 132).map (·.comparable) = some true := by kernel_rfl
theorem isSize : (Tryd.prog.info? 159).map (·.size) = some 1 := by kernel_rfl
/-- errors.Is(x, x), x a pointer to an errors.errorString. -/
theorem is_same (a : Addr) (w : World) :
    Calls Tryd.prog 37 #[.iface 132 (.pointer (some a)), .iface 132 (.pointer (some a))] w fun e w' => e = .returned (.bool true) ∧ w' = w := by
  obtain ⟨i, hi, hcmp⟩ := Option.map_eq_some_iff.1 isComp
  obtain ⟨j, hj, hjs⟩ := Option.map_eq_some_iff.1 isSize
  have tT := isTypeOf
  have cT := isComparable
  have mR := isMethodComparable
  have heq := run_eql_iface_ptr_same (P := Tryd.prog) w a Tryd.underlying65 Tryd.underlying132 hi hcmp hj
  go_enter Tryd.func37, Tryd.ntmps37
  go_wp2
  refine wp_loop_rounds 1 ?_
  rw [rounds_succ]
  go_wp2
  go_ret
  exact ⟨rfl, rfl⟩
/-- errors.Is(nil, x). -/
theorem is_nil (b : Addr) (w : World) :
    Calls Tryd.prog 37 #[.nilIface, .iface 132 (.pointer (some b))] w fun e w' => e = .returned (.bool false) ∧ w' = w := by
  have hn := run_eql_iface_nil_left (P := Tryd.prog) w 132 (.pointer (some b)) Tryd.underlying65
  go_enter Tryd.func37, Tryd.ntmps37
  go_wp2
  go_ret
  exact ⟨rfl, rfl⟩

/-! from a contract of values to one of the walk -/
/-- What lay there is as it was. -/
structure Kept (w w' : World) : Prop where
  heap : ∀ b, b < w.heap.size → w'.heap[b]? = w.heap[b]?
  size : w.heap.size ≤ w'.heap.size
  io : Io w w'
theorem Kept.refl (w : World) : Kept w w := ⟨fun _ _ => rfl, Nat.le_refl _, rfl, rfl⟩
theorem Kept.trans {w w' w'' : World} (h : Kept w w') (h' : Kept w' w'') : Kept w w'' :=
  ⟨fun b hb => (h'.heap b (Nat.lt_of_lt_of_le hb h.size)).trans (h.heap b hb), Nat.le_trans h.size h'.size, h'.io.1.trans h.io.1, h'.io.2.trans h.io.2⟩
theorem Kept.cell {w w' : World} (h : Kept w w') {b o : Nat} {v : Value} (hc : w.cell? ⟨b, o, none⟩ = some v) : w'.cell? ⟨b, o, none⟩ = some v := by
  have hb : b < w.heap.size := by
    rcases Nat.lt_or_ge b w.heap.size with h' | h'
    · exact h'
    · simp [World.cell?, Array.getElem?_eq_none h'] at hc
  rw [cell_congr (h.heap b hb)]; exact hc
theorem Kept.alloc (w : World) (o : Obj) : Kept w (w.alloc o) := ⟨fun b hb => alloc_old w o hb, by show w.heap.size ≤ (w.heap.push o).size; simp, rfl, rfl⟩
theorem Kept.drew (w : World) : Kept w w.drew := ⟨fun _ _ => rfl, Nat.le_refl _, rfl, rfl⟩
theorem Kept.drewN (w : World) (n : Nat) : Kept w (w.drewN n) := ⟨fun _ _ => rfl, Nat.le_refl _, rfl, rfl⟩
theorem Call1.calls {P : Program} {f : FuncId} {fn : Func} {args : Array Value} {w : World} {R : Value → World → Prop} (h : Call1 P f args w R) (hf : P.funcs[f]? = some fn) (hname : (fn.name == "runtime.NumGoroutine") = false) (hbody : fn.body.isNone = false) :
    Calls P f args w fun e w' => ∃ v, e = .returned v ∧ R v w' := by
  rcases h with ⟨v, w', hv, _⟩ | ⟨_, hc⟩
  · exfalso
    have h1 : fn.name ≠ "runtime.NumGoroutine" := by simpa using hname
    have h2 : fn.body ≠ none := fun h => by rw [h] at hbody; cases hbody
    simp [callFunc, hf, h1, h2] at hv
  · exact hc
theorem Call1.of_calls {P : Program} {f : FuncId} {fn : Func} {c : Code} {args : Array Value} {w : World} {R : Value → World → Prop} (hf : P.funcs[f]? = some fn) (hname : (fn.name == "runtime.NumGoroutine") = false) (hb : fn.body = some c)
    (h : Calls P f args w fun e w' => ∃ v, e = .returned v ∧ R v w') : Call1 P f args w R := by
  refine .inr ⟨?_, h⟩
  have h1 : fn.name ≠ "runtime.NumGoroutine" := by simpa using hname
  simp [callFunc, hf, h1, hb]
/-- A function of read parameters that answers one bool. -/
theorem boolCalls {P : Program} {X : Ext} {f : FuncId} {fn : Func} {sp : Spec X} {m : Md} (ok : ∀ O : World, SpecOk P X O f sp) (hrs : sp.rs = [⟨false, m, .bool⟩]) (hf : P.funcs[f]? = some fn) (hname : (fn.name == "runtime.NumGoroutine") = false) (hbody : fn.body.isNone = false)
    {x : InT X.T sp.ps} {y} {b : Bool} {w : World} {S : Nat → Option Nat} {args : List Value} {fs : List (List Nat)} (hy : sp.f x = some y) (hyb : toL _ y = [⟨.bool, b⟩]) (ha : ArgsR X w S sp.ps x args fs) (hfs : fs.flatten = []) (hS : ∀ b, S b ≠ none → b < w.heap.size) :
    Calls P f args.toArray w fun e w' => e = .returned (.bool b) ∧ Kept w w' := by
  refine ((ok w x y w S args fs hy ha (by rw [hfs]; exact List.nodup_nil) hS ⟨fun b _ => ⟨rfl, by rw [hfs]; simp⟩, Nat.le_refl _⟩).calls hf hname hbody).mono fun e w' he => ?_
  obtain ⟨v, rfl, S', post⟩ := he
  obtain ⟨d1, d2, vs, f1, f2, htl, rfl, hr, _, _, _⟩ := post.res
  refine ⟨?_, fun b hb => post.heap b hb (by rw [hfs]; simp), post.size, post.io⟩
  rw [hrs] at hr
  obtain ⟨xb, ds', v0, vs', f, fs', rfl, rfl, rfl, h1, h2⟩ := hr
  obtain ⟨rfl, rfl, rfl⟩ := h2
  rw [hyb] at htl
  simp only [List.singleton_append, List.cons.injEq, DV.mk.injEq, heq_eq_eq, true_and] at htl
  obtain ⟨hxb, _⟩ := htl
  have h1' : VR X w' S' m .bool xb v0 f := h1
  unfold VR at h1'
  simp only [Ty.agg, Bool.false_eq_true, if_false] at h1'
  cases h1'
  rw [hxb]; rfl
theorem rowOk_calls {r : List Int} {a : Bool} {v : Value} {w : World} {S : Nat → Option Nat} (ha : fi_RowOk r = some a) (hr : Rd X0 w S mS yRow r [v] []) (hS : ∀ b, S b ≠ none → b < w.heap.size) :
    Calls Tryd.prog 20 #[v] w fun e w' => e = .returned (.bool a) ∧ Kept w w' :=
  boolCalls (args := [v]) (fs := [[]]) (x := (r, ())) (y := a) (fun _ => oki_RowOk) rfl Tryd.func20 (by kernel_rfl) (by kernel_rfl) ha rfl ⟨v, [], [], [], rfl, rfl, ⟨rfl, rfl, hr⟩, rfl, rfl⟩ rfl hS
theorem cellOk_calls {c : Int × (Int × (Int × Int))} {n : Int} {b : Bool} {w : World} (hb : fi_CellOk c n = some b) :
    Calls Tryd.prog 35 #[.agg #[.int .i64 c.1, .int .i64 c.2.1, .int .i64 c.2.2.1, .int .i64 c.2.2.2], .int .i64 n] w fun e w' => e = .returned (.bool b) ∧ Kept w w' :=
  boolCalls (args := [.agg #[.int .i64 c.1, .int .i64 c.2.1, .int .i64 c.2.2.1, .int .i64 c.2.2.2], .int .i64 n]) (fs := [[], []]) (x := (c, n, ())) (y := b) (S := fun _ => none) (fun _ => oki_CellOk) rfl Tryd.func35 (by kernel_rfl) (by kernel_rfl) hb rfl
    ⟨_, [], _, [[]], rfl, rfl, ⟨rfl, rfl, ⟨[.int .i64 c.1, .int .i64 c.2.1, .int .i64 c.2.2.1, .int .i64 c.2.2.2], rfl, .st _ _ _ _ _ (.pair _ _ _ _ _ [_] [_, _, _] [] [] (.int _ _ _) (.pair _ _ _ _ _ [_] [_, _] [] [] (.int _ _ _) (.pair _ _ _ _ _ [_] [_] [] [] (.int _ _ _) (.int _ _ _))))⟩⟩, _, _, [], [], rfl, rfl, ⟨rfl, rfl, .int _ _ _⟩, rfl, rfl⟩ rfl (fun _ h => absurd rfl h)

theorem row_cells {r : List Int} {v : Value} {w : World} {S : Nat → Option Nat} (hr : Rd X0 w S mS yRow r [v] []) :
    ∃ ad cap, v = .slice ad r.length cap ∧ ∀ i, i < r.length → ∃ b off, ad = some ⟨b, off, none⟩ ∧ w.cell? ⟨b, off + i, none⟩ = some (.int .i64 (r.getD i 0)) := by
  cases hr with
  | nil _ _ A _ => exact ⟨A, 0, rfl, fun i hi => by simp at hi⟩
  | sl _ _ _ b off cap ext vss hm hs hext htag hcap hel hc htc =>
    refine ⟨_, cap, rfl, fun i hi => ⟨b, off, rfl, ?_⟩⟩
    have h1 := hel i r[i] (List.getElem?_eq_getElem hi)
    have h2 := hc i 0 (.int .i64 r[i]) hi
    generalize vss i = q at h1 h2
    cases h1
    have h3 := h2 rfl
    simp only [Ty.cells, Nat.mul_one, Nat.add_zero] at h3
    rw [h3]
    simp [List.getD_eq_getElem?_getD, hi]
theorem mOf1 (v : Value) (w : World) : (Go.method 272 95 v "loop.example/milldam/impl.of").run Tryd.prog w = .ok (109, v) w := by kernel_rfl
theorem mOf2 (v : Value) (w : World) : (Go.method 272 97 v "loop.example/milldam/impl.of").run Tryd.prog w = .ok (114, v) w := by kernel_rfl
theorem mOf3 (v : Value) (w : World) : (Go.method 272 99 v "loop.example/milldam/impl.of").run Tryd.prog w = .ok (118, v) w := by kernel_rfl

set_option maxRecDepth 100000 in
theorem cellOf1 {c : Int × (Int × (Int × Int))} {r : List Int} {ad : Option Addr} {cap : Nat} {w : World} {S : Nat → Option Nat} (hr : Rd X0 w S mS yRow r [.slice ad r.length cap] []) (hS : ∀ b, S b ≠ none → b < w.heap.size) (ha : fi_RowOk r = some false) :
    Calls Tryd.prog 13 #[.agg #[.int .i64 c.1, .int .i64 c.2.1, .int .i64 c.2.2.1, .int .i64 c.2.2.2], .slice ad r.length cap] w fun e w' => e = .returned (.tuple #[.int .i64 0, .bool false]) ∧ Kept w w' := by
  have hc := fun (o : Obj) => rowOk_calls (w := w.alloc o) ha (hr.frame (S' := S) (fun _ _ h => h) (fun b hb => alloc_old w o (hS b (by simpa using hb))) (by simp)) (fun b hb => Nat.lt_of_lt_of_le (hS b hb) (Kept.alloc w o).size)
  have hk := Kept.alloc w
  clear hr hS ha
  go_enter Tryd.func13, Tryd.ntmps13
  go_wp2_with (go_at_call 20; refine (hc _).mono ?_; rintro e w' ⟨rfl, hk'⟩)
  go_ret2
  exact ⟨rfl, (hk _).trans hk'⟩

theorem box4 {w w2 : World} {a b c d : Value} {tt : TypeId} (h : Kept (w.alloc (.cells #[a, b, c, d] tt)) w2) :
    w2.cell? ⟨w.heap.size, 0, none⟩ = some a ∧ w2.cell? ⟨w.heap.size, 1, none⟩ = some b ∧ w2.cell? ⟨w.heap.size, 2, none⟩ = some c ∧ w2.cell? ⟨w.heap.size, 3, none⟩ = some d := by
  have hb : (w.alloc (.cells #[a, b, c, d] tt)).heap[w.heap.size]? = some (.cells #[a, b, c, d] tt) := alloc_new w _
  refine ⟨h.cell ?_, h.cell ?_, h.cell ?_, h.cell ?_⟩ <;> simp only [World.cell?, hb] <;> rfl
set_option maxRecDepth 100000 in
theorem cellOf2 {c : Int × (Int × (Int × Int))} {r : List Int} {ad : Option Addr} {cap : Nat} {w : World} {S : Nat → Option Nat} (hr : Rd X0 w S mS yRow r [.slice ad r.length cap] []) (hS : ∀ b, S b ≠ none → b < w.heap.size) (ha : fi_RowOk r = some true) (hb : fi_CellOk c r.length = some false) :
    Calls Tryd.prog 13 #[.agg #[.int .i64 c.1, .int .i64 c.2.1, .int .i64 c.2.2.1, .int .i64 c.2.2.2], .slice ad r.length cap] w fun e w' => e = .returned (.tuple #[.int .i64 0, .bool false]) ∧ Kept w w' := by
  have hc := fun (o : Obj) => rowOk_calls (w := w.alloc o) ha (hr.frame (S' := S) (fun _ _ h => h) (fun b hb => alloc_old w o (hS b (by simpa using hb))) (by simp)) (fun b hb => Nat.lt_of_lt_of_le (hS b hb) (Kept.alloc w o).size)
  have hk := Kept.alloc w
  have hd := fun w => cellOk_calls (w := w) hb
  clear hr hS ha hb
  go_enter Tryd.func13, Tryd.ntmps13
  go_wp2_with (first
    | (go_at_call 20; refine (hc _).mono ?_; rintro e w2 ⟨rfl, hk2⟩; obtain ⟨c0, c1, c2, c3⟩ := box4 hk2)
    | (go_at_call 35; refine (hd _).mono ?_; rintro e w3 ⟨rfl, hk3⟩))
  go_ret2
  exact ⟨rfl, ((hk _).trans hk2).trans hk3⟩

theorem cell_lt {w : World} {b o : Nat} {v : Value} (hc : w.cell? ⟨b, o, none⟩ = some v) : b < w.heap.size := by
  rcases Nat.lt_or_ge b w.heap.size with h' | h'
  · exact h'
  · simp [World.cell?, Array.getElem?_eq_none h'] at hc
set_option maxRecDepth 100000 in
theorem cellOf3 {A B Nn : Int} {r : List Int} {b0 off : Nat} {cap : Nat} {w : World} {S : Nat → Option Nat} (hr : Rd X0 w S mS yRow r [.slice (some ⟨b0, off, none⟩) r.length cap] []) (hS : ∀ b, S b ≠ none → b < w.heap.size) (ha : fi_RowOk r = some true) (hb : fi_CellOk (1, (A, (B, Nn))) r.length = some true)
    (h0 : 0 ≤ A) (h1 : A < (r.length : Int)) {n : Int} (hn : w.cell? ⟨b0, off + A.toNat, none⟩ = some (.int .i64 n)) {a : Addr} (hg : w.cell? ⟨0, 0, none⟩ = some (.iface 132 (.pointer (some a)))) :
    Calls Tryd.prog 13 #[.agg #[.int .i64 1, .int .i64 A, .int .i64 B, .int .i64 Nn], .slice (some ⟨b0, off, none⟩) r.length cap] w fun e w' => e = .returned (.tuple #[.int .i64 n, .bool true]) ∧ Kept w w' := by
  have hc := fun (o : Obj) => rowOk_calls (w := w.alloc o) ha (hr.frame (S' := S) (fun _ _ h => h) (fun b hb => alloc_old w o (hS b (by simpa using hb))) (by simp)) (fun b hb => Nat.lt_of_lt_of_le (hS b hb) (Kept.alloc w o).size)
  have hk := Kept.alloc w
  have hd := fun w => cellOk_calls (w := w) hb
  have m1 := mOf1
  have hl := cell_lt hn
  have hl0 := cell_lt hg
  clear hr hS ha hb
  go_enter Tryd.func13, Tryd.ntmps13
  go_wp2_with (first
    | (go_at_call 20; refine (hc _).mono ?_; rintro e w2 ⟨rfl, hk2⟩; obtain ⟨c0, c1, c2, c3⟩ := box4 hk2)
    | (go_at_call 35; refine (hd _).mono ?_; rintro e w3 ⟨rfl, hk3⟩; obtain ⟨d0, d1, d2, d3⟩ := box4 (hk2.trans hk3); have hg3 := (((hk _).trans hk2).trans hk3).cell hg; have hn3 := (((hk _).trans hk2).trans hk3).cell hn; have hz0 := cell_lt hg3; have hz1 := cell_lt hn3; have hz2 := cell_lt d0)
    | (go_at_call 37; refine (is_nil a _).mono ?_; rintro e w4 ⟨rfl, rfl⟩)
    | go_in)
  go_ret2
  exact ⟨rfl, ((((hk _).trans hk2).trans hk3).trans (Kept.alloc _ _)).trans (Kept.alloc _ _)⟩

set_option maxRecDepth 100000 in
theorem cellOf4 {A B Nn : Int} {r : List Int} {ad : Option Addr} {cap : Nat} {w : World} {S : Nat → Option Nat} (hr : Rd X0 w S mS yRow r [.slice ad r.length cap] []) (hS : ∀ b, S b ≠ none → b < w.heap.size) (ha : fi_RowOk r = some true) (hb : fi_CellOk (2, (A, (B, Nn))) r.length = some true)
    {a : Addr} (hg : w.cell? ⟨0, 0, none⟩ = some (.iface 132 (.pointer (some a)))) :
    Calls Tryd.prog 13 #[.agg #[.int .i64 2, .int .i64 A, .int .i64 B, .int .i64 Nn], .slice ad r.length cap] w fun e w' => e = .returned (.tuple #[.int .i64 Nn, .bool true]) ∧ Kept w w' := by
  have hc := fun (o : Obj) => rowOk_calls (w := w.alloc o) ha (hr.frame (S' := S) (fun _ _ h => h) (fun b hb => alloc_old w o (hS b (by simpa using hb))) (by simp)) (fun b hb => Nat.lt_of_lt_of_le (hS b hb) (Kept.alloc w o).size)
  have hk := Kept.alloc w
  have hd := fun w => cellOk_calls (w := w) hb
  have m2 := mOf2
  have hl0 := cell_lt hg
  clear hr hS ha hb
  go_enter Tryd.func13, Tryd.ntmps13
  go_wp2_with (first
    | (go_at_call 20; refine (hc _).mono ?_; rintro e w2 ⟨rfl, hk2⟩; obtain ⟨c0, c1, c2, c3⟩ := box4 hk2)
    | (go_at_call 35; refine (hd _).mono ?_; rintro e w3 ⟨rfl, hk3⟩; obtain ⟨d0, d1, d2, d3⟩ := box4 (hk2.trans hk3); have hg3 := (((hk _).trans hk2).trans hk3).cell hg; have hz0 := cell_lt hg3; have hz2 := cell_lt d0)
    | (go_at_call 37; refine (is_nil a _).mono ?_; rintro e w4 ⟨rfl, rfl⟩)
    | go_in)
  go_ret2
  exact ⟨rfl, ((((hk _).trans hk2).trans hk3).trans (Kept.alloc _ _)).trans (Kept.alloc _ _)⟩

set_option maxRecDepth 100000 in
theorem cellOf5 {A B Nn : Int} {r : List Int} {b0 off : Nat} {cap : Nat} {w : World} {S : Nat → Option Nat} (hr : Rd X0 w S mS yRow r [.slice (some ⟨b0, off, none⟩) r.length cap] []) (hS : ∀ b, S b ≠ none → b < w.heap.size) (ha : fi_RowOk r = some true) (hb : fi_CellOk (3, (A, (B, Nn))) r.length = some true)
    (h0 : 0 ≤ A) (h1 : A < (r.length : Int)) (h2 : 0 ≤ B) (h3 : B < (r.length : Int)) {n k s : Int} (hn : w.cell? ⟨b0, off + A.toNat, none⟩ = some (.int .i64 n)) (hm : w.cell? ⟨b0, off + B.toNat, none⟩ = some (.int .i64 k)) (hs : IntKind.i64.wrap (n + k) = s)
    (hs1 : -1000000000 ≤ s) (hs2 : s ≤ 1000000000)
    {a : Addr} (hg : w.cell? ⟨0, 0, none⟩ = some (.iface 132 (.pointer (some a)))) :
    Calls Tryd.prog 13 #[.agg #[.int .i64 3, .int .i64 A, .int .i64 B, .int .i64 Nn], .slice (some ⟨b0, off, none⟩) r.length cap] w fun e w' => e = .returned (.tuple #[.int .i64 s, .bool true]) ∧ Kept w w' := by
  have hc := fun (o : Obj) => rowOk_calls (w := w.alloc o) ha (hr.frame (S' := S) (fun _ _ h => h) (fun b hb => alloc_old w o (hS b (by simpa using hb))) (by simp)) (fun b hb => Nat.lt_of_lt_of_le (hS b hb) (Kept.alloc w o).size)
  have hk := Kept.alloc w
  have hd := fun w => cellOk_calls (w := w) hb
  have m3 := mOf3
  have hl := cell_lt hn
  have hl0 := cell_lt hg
  clear hr hS ha hb
  go_enter Tryd.func13, Tryd.ntmps13
  go_wp2_with (first
    | (go_at_call 20; refine (hc _).mono ?_; rintro e w2 ⟨rfl, hk2⟩; obtain ⟨c0, c1, c2, c3⟩ := box4 hk2)
    | (go_at_call 35; refine (hd _).mono ?_; rintro e w3 ⟨rfl, hk3⟩; obtain ⟨d0, d1, d2, d3⟩ := box4 (hk2.trans hk3); have hg3 := (((hk _).trans hk2).trans hk3).cell hg; have hn3 := (((hk _).trans hk2).trans hk3).cell hn; have hm3 := (((hk _).trans hk2).trans hk3).cell hm; have hz0 := cell_lt hg3; have hz1 := cell_lt hn3; have hz2 := cell_lt d0)
    | (go_at_call 37; refine (is_nil a _).mono ?_; rintro e w4 ⟨rfl, rfl⟩)
    | go_in)
  go_quiet (fail)
  go_wp2_with (first
    | (go_at_call 37; refine (is_nil a _).mono ?_; rintro e w4 ⟨rfl, rfl⟩)
    | go_in)
  go_ret2
  exact ⟨rfl, (((((hk _).trans hk2).trans hk3).trans (Kept.alloc _ _)).trans (Kept.alloc _ _)).trans (Kept.drewN _ _)⟩

set_option maxRecDepth 100000 in
theorem cellOf6 {A B Nn : Int} {r : List Int} {b0 off : Nat} {cap : Nat} {w : World} {S : Nat → Option Nat} (hr : Rd X0 w S mS yRow r [.slice (some ⟨b0, off, none⟩) r.length cap] []) (hS : ∀ b, S b ≠ none → b < w.heap.size) (ha : fi_RowOk r = some true) (hb : fi_CellOk (3, (A, (B, Nn))) r.length = some true)
    (h0 : 0 ≤ A) (h1 : A < (r.length : Int)) (h2 : 0 ≤ B) (h3 : B < (r.length : Int)) {n k s : Int} (hn : w.cell? ⟨b0, off + A.toNat, none⟩ = some (.int .i64 n)) (hm : w.cell? ⟨b0, off + B.toNat, none⟩ = some (.int .i64 k)) (hs : IntKind.i64.wrap (n + k) = s)
    (hs1 : s < -1000000000 ∨ 1000000000 < s)
    {a : Addr} (hg : w.cell? ⟨0, 0, none⟩ = some (.iface 132 (.pointer (some a)))) :
    Calls Tryd.prog 13 #[.agg #[.int .i64 3, .int .i64 A, .int .i64 B, .int .i64 Nn], .slice (some ⟨b0, off, none⟩) r.length cap] w fun e w' => e = .returned (.tuple #[.int .i64 0, .bool false]) ∧ Kept w w' := by
  have hc := fun (o : Obj) => rowOk_calls (w := w.alloc o) ha (hr.frame (S' := S) (fun _ _ h => h) (fun b hb => alloc_old w o (hS b (by simpa using hb))) (by simp)) (fun b hb => Nat.lt_of_lt_of_le (hS b hb) (Kept.alloc w o).size)
  have hk := Kept.alloc w
  have hd := fun w => cellOk_calls (w := w) hb
  have m3 := mOf3
  have hl := cell_lt hn
  have hl0 := cell_lt hg
  clear hr hS ha hb
  rcases hs1 with hs1 | hs1
  · have hs2 : ¬ -1000000000 ≤ s := by omega
    go_enter Tryd.func13, Tryd.ntmps13
    go_wp2_with (first
      | (go_at_call 20; refine (hc _).mono ?_; rintro e w2 ⟨rfl, hk2⟩; obtain ⟨c0, c1, c2, c3⟩ := box4 hk2)
      | (go_at_call 35; refine (hd _).mono ?_; rintro e w3 ⟨rfl, hk3⟩; obtain ⟨d0, d1, d2, d3⟩ := box4 (hk2.trans hk3); have hg3 := (((hk _).trans hk2).trans hk3).cell hg; have hn3 := (((hk _).trans hk2).trans hk3).cell hn; have hm3 := (((hk _).trans hk2).trans hk3).cell hm; have hz0 := cell_lt hg3; have hz1 := cell_lt hn3; have hz2 := cell_lt d0)
      | (go_at_call 37; refine (is_same a _).mono ?_; rintro e w4 ⟨rfl, rfl⟩)
      | go_in)
    go_quiet (fail)
    go_wp2_with (first
      | (go_at_call 37; refine (is_same a _).mono ?_; rintro e w4 ⟨rfl, rfl⟩)
      | go_in)
    go_quiet (fail)
    go_wp2_with (first
      | (go_at_call 37; refine (is_same a _).mono ?_; rintro e w4 ⟨rfl, rfl⟩)
      | go_in)
    go_ret2
    exact ⟨rfl, (((((hk _).trans hk2).trans hk3).trans (Kept.alloc _ _)).trans (Kept.alloc _ _)).trans (Kept.drewN _ _)⟩
  · have hs2 : -1000000000 ≤ s := by omega
    have hs3 : decide (s ≤ 1000000000) = false := by simp; omega
    have hs4 : 1000000000 < s := hs1
    go_enter Tryd.func13, Tryd.ntmps13
    go_wp2_with (first
      | (go_at_call 20; refine (hc _).mono ?_; rintro e w2 ⟨rfl, hk2⟩; obtain ⟨c0, c1, c2, c3⟩ := box4 hk2)
      | (go_at_call 35; refine (hd _).mono ?_; rintro e w3 ⟨rfl, hk3⟩; obtain ⟨d0, d1, d2, d3⟩ := box4 (hk2.trans hk3); have hg3 := (((hk _).trans hk2).trans hk3).cell hg; have hn3 := (((hk _).trans hk2).trans hk3).cell hn; have hm3 := (((hk _).trans hk2).trans hk3).cell hm; have hz0 := cell_lt hg3; have hz1 := cell_lt hn3; have hz2 := cell_lt d0)
      | (go_at_call 37; refine (is_same a _).mono ?_; rintro e w4 ⟨rfl, rfl⟩)
      | go_in)
    go_quiet (fail)
    go_wp2_with (first
      | (go_at_call 37; refine (is_same a _).mono ?_; rintro e w4 ⟨rfl, rfl⟩)
      | go_in)
    go_quiet (fail)
    go_wp2_with (first
      | (go_at_call 37; refine (is_same a _).mono ?_; rintro e w4 ⟨rfl, rfl⟩)
      | go_in)
    go_ret2
    exact ⟨rfl, (((((hk _).trans hk2).trans hk3).trans (Kept.alloc _ _)).trans (Kept.alloc _ _)).trans (Kept.drewN _ _)⟩

theorem cellVal_in {A B Nn : Int} {r : List Int} (h : -1000000000 ≤ w64 (r.getD A.toNat 0 + r.getD B.toNat 0) ∧ w64 (r.getD A.toNat 0 + r.getD B.toNat 0) ≤ 1000000000) :
    cellVal (3, (A, (B, Nn))) r = (w64 (r.getD A.toNat 0 + r.getD B.toNat 0), true) := by
  unfold cellVal
  generalize w64 (r.getD A.toNat 0 + r.getD B.toNat 0) = s at h
  rw [decide_eq_true h.1, decide_eq_true h.2]
  rfl
theorem cellVal_out {A B Nn : Int} {r : List Int} (h : ¬ (-1000000000 ≤ w64 (r.getD A.toNat 0 + r.getD B.toNat 0) ∧ w64 (r.getD A.toNat 0 + r.getD B.toNat 0) ≤ 1000000000)) :
    cellVal (3, (A, (B, Nn))) r = (0, false) := by
  unfold cellVal
  generalize w64 (r.getD A.toNat 0 + r.getD B.toNat 0) = s at h
  have : (decide (-1000000000 ≤ s) && decide (s ≤ 1000000000)) = false := by
    simp only [Bool.and_eq_false_iff, decide_eq_false_iff_not]
    omega
  simp only [this]
  rfl
theorem oki_CellOf [GlobOk O] : SpecOk Tryd.prog X0 O 13 spi_CellOf := by
  intro x y w S args fs hy hargs hnd hS hO
  obtain ⟨⟨k, A, B, Nn⟩, r, ⟨⟩⟩ := x
  obtain ⟨vc, f1, vs, fs1, rfl, rfl, ⟨_, rfl, hc⟩, vr, f2, vs2, fs2, rfl, rfl, ⟨_, rfl, hr⟩, rfl, rfl⟩ := hargs
  have hr' : Rd X0 w S mS yRow r [vr] [] := hr
  have hcv : vc = .agg #[.int .i64 k, .int .i64 A, .int .i64 B, .int .i64 Nn] := by
    have key : ∀ us f, Rd X0 w S mS yCell (k, A, B, Nn) us f → us = [.int .i64 k, .int .i64 A, .int .i64 B, .int .i64 Nn] := by
      intro us f h
      cases h with
      | st _ _ _ _ _ h =>
      cases h with
      | pair _ _ _ _ _ _ _ _ _ h1 h =>
      cases h1
      cases h with
      | pair _ _ _ _ _ _ _ _ _ h1 h =>
      cases h1
      cases h with
      | pair _ _ _ _ _ _ _ _ _ h1 h =>
      cases h1
      cases h
      rfl
    obtain ⟨us, rfl, h⟩ := hc
    rw [key us _ h]
  subst hcv
  obtain ⟨ad, cap, rfl, hcell⟩ := row_cells hr'
  obtain ⟨a, hg0⟩ := GlobOk.sent (O := O)
  have hg : w.cell? ⟨0, 0, none⟩ = some (.iface 132 (.pointer (some a))) := by
    rw [cell_congr (hO.heap _ (cell_lt hg0)).1]; exact hg0
  have fin : ∀ (n : Int) (b : Bool), y = (n, b) → (Calls Tryd.prog 13 #[.agg #[.int .i64 k, .int .i64 A, .int .i64 B, .int .i64 Nn], .slice ad r.length cap] w fun e w' => e = .returned (.tuple #[.int .i64 n, .bool b]) ∧ Kept w w') →
      Call1 Tryd.prog 13 #[.agg #[.int .i64 k, .int .i64 A, .int .i64 B, .int .i64 Nn], .slice ad r.length cap] w fun v w' => ∃ S', Post X0 w w' S S' spi_CellOf [.agg #[.int .i64 k, .int .i64 A, .int .i64 B, .int .i64 Nn], .slice ad r.length cap] [[], []] y v := by
    rintro n b rfl hcl
    refine Call1.of_calls (c := (Tryd.f13.body).getD .skip) Tryd.func13 (by kernel_rfl) (by kernel_rfl) (hcl.mono fun e w' ⟨he, hk⟩ => ⟨_, he, S, ?_⟩)
    exact ⟨fun _ _ h => h, fun b hb _ => hk.heap b hb, hk.size, hk.io, fun _ _ _ => rfl, fun b hb => Nat.lt_of_lt_of_le (hS b hb) hk.size, fun _ b c h h' => (by rw [h'] at h; cases h),
      ⟨[⟨yI, n⟩, ⟨yBo, b⟩], [], [.int .i64 n, .bool b], [[], []], [], rfl, rfl, ⟨n, _, _, _, _, _, rfl, rfl, rfl, .int _ _ _, b, _, _, _, _, _, rfl, rfl, rfl, .bool _ _, rfl, rfl, rfl⟩, ⟨rfl, rfl⟩, by simp, by simp⟩⟩
  have hy : fi_CellOf (k, A, B, Nn) r = some y := hy
  unfold fi_CellOf at hy
  cases hra : fi_RowOk r with
  | none => rw [hra] at hy; cases hy
  | some q =>
  rw [hra] at hy
  cases q with
  | false =>
    cases hy
    exact fin _ _ rfl (cellOf1 (c := (k, A, B, Nn)) hr' hS hra)
  | true =>
  simp only [Option.bind_some, Bool.not_true, cond_false] at hy
  cases hrb : fi_CellOk (k, A, B, Nn) r.length with
  | none => rw [hrb] at hy; cases hy
  | some q =>
  rw [hrb] at hy
  cases q with
  | false =>
    cases hy
    exact fin _ _ rfl (cellOf2 (c := (k, A, B, Nn)) hr' hS hra hrb)
  | true =>
  simp only [Option.bind_some, Bool.not_true, cond_false] at hy
  cases hat : cellAt (k, A, B, Nn) r.length with
  | false => rw [hat] at hy; cases hy
  | true =>
  rw [hat] at hy
  cases hy
  unfold cellAt at hat
  simp only [Bool.or_eq_true, Bool.and_eq_true, decide_eq_true_eq, inR] at hat
  rcases hat with (⟨rfl, h0, h1⟩ | rfl) | ⟨⟨rfl, h0, h1⟩, h2, h3⟩
  · obtain ⟨b0, off, rfl, hn⟩ := hcell A.toNat (by omega)
    exact fin _ _ rfl (cellOf3 hr' hS hra hrb h0 h1 hn hg)
  · exact fin _ _ rfl (cellOf4 hr' hS hra hrb hg)
  · obtain ⟨b0, off, rfl, hn⟩ := hcell A.toNat (by omega)
    obtain ⟨b1, off1, he, hm⟩ := hcell B.toNat (by omega)
    cases he
    have hw : IntKind.i64.wrap (r.getD A.toNat 0 + r.getD B.toNat 0) = w64 (r.getD A.toNat 0 + r.getD B.toNat 0) := rfl
    by_cases hs : -1000000000 ≤ w64 (r.getD A.toNat 0 + r.getD B.toNat 0) ∧ w64 (r.getD A.toNat 0 + r.getD B.toNat 0) ≤ 1000000000
    · exact fin _ _ (cellVal_in hs) (cellOf5 hr' hS hra hrb h0 h1 h2 h3 hn hm hw hs.1 hs.2 hg)
    · refine fin _ _ (cellVal_out hs) (cellOf6 hr' hS hra hrb h0 h1 h2 h3 hn hm hw ?_ hg)
      generalize w64 (r.getD A.toNat 0 + r.getD B.toNat 0) = s at hs ⊢
      omega
end Go.Proofs.YtkhmejkpfphkpaaDoor.E
