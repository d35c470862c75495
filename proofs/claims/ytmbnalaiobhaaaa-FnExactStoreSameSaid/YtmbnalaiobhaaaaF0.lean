/- The types of the program, as the engine has them. -/
import Derived.Test.YtmbnalaiobhaaaaE23
import Derived.Test.YtmbnalaiobhaaaaProg
namespace Go.Proofs.Ytmbnalaiobhaaaa.E
open Go

inductive PlanT where
  | mk (c0 : Int) (c1 : Int) (c2 : (Int × (Bool × ((Int × (Int × (Int × Int))) × (Int × (Int × (Int × Int))))))) (c3 : (List (Int × (Int × (Int × Int))))) (c4 : Int) (c5 : Int) (c6 : (List Int)) (c7 : Int) (c8 : Int) (c9 : (List PlanT))
def PlanT.c0 : PlanT → Int
  | .mk x _ _ _ _ _ _ _ _ _ => x
def PlanT.c1 : PlanT → Int
  | .mk _ x _ _ _ _ _ _ _ _ => x
def PlanT.c2 : PlanT → (Int × (Bool × ((Int × (Int × (Int × Int))) × (Int × (Int × (Int × Int))))))
  | .mk _ _ x _ _ _ _ _ _ _ => x
def PlanT.c3 : PlanT → (List (Int × (Int × (Int × Int))))
  | .mk _ _ _ x _ _ _ _ _ _ => x
def PlanT.c4 : PlanT → Int
  | .mk _ _ _ _ x _ _ _ _ _ => x
def PlanT.c5 : PlanT → Int
  | .mk _ _ _ _ _ x _ _ _ _ => x
def PlanT.c6 : PlanT → (List Int)
  | .mk _ _ _ _ _ _ x _ _ _ => x
def PlanT.c7 : PlanT → Int
  | .mk _ _ _ _ _ _ _ x _ _ => x
def PlanT.c8 : PlanT → Int
  | .mk _ _ _ _ _ _ _ _ x _ => x
def PlanT.c9 : PlanT → (List PlanT)
  | .mk _ _ _ _ _ _ _ _ _ x => x
def named_out0 (x : PlanT) : Int × Int × (Int × (Bool × ((Int × (Int × (Int × Int))) × (Int × (Int × (Int × Int)))))) × (List (Int × (Int × (Int × Int)))) × Int × Int × (List Int) × Int × Int × (List PlanT) := (x.c0, x.c1, x.c2, x.c3, x.c4, x.c5, x.c6, x.c7, x.c8, x.c9)
def named_in0 (x : Int × Int × (Int × (Bool × ((Int × (Int × (Int × Int))) × (Int × (Int × (Int × Int)))))) × (List (Int × (Int × (Int × Int)))) × Int × Int × (List Int) × Int × Int × (List PlanT)) : PlanT := .mk x.1 x.2.1 x.2.2.1 x.2.2.2.1 x.2.2.2.2.1 x.2.2.2.2.2.1 x.2.2.2.2.2.2.1 x.2.2.2.2.2.2.2.1 x.2.2.2.2.2.2.2.2.1 x.2.2.2.2.2.2.2.2.2
def named_zer0 : PlanT := .mk (0 : Int) (0 : Int) ((0 : Int), (false, (((0 : Int), ((0 : Int), ((0 : Int), (0 : Int)))), ((0 : Int), ((0 : Int), ((0 : Int), (0 : Int))))))) [] (0 : Int) (0 : Int) [] (0 : Int) (0 : Int) []
inductive FlowT where
  | mk (c0 : PlanT) (c1 : (List (List ((List Int) × Int)))) (c2 : (List (List ((List Int) × Int)))) (c3 : (List FlowT))
def FlowT.c0 : FlowT → PlanT
  | .mk x _ _ _ => x
def FlowT.c1 : FlowT → (List (List ((List Int) × Int)))
  | .mk _ x _ _ => x
def FlowT.c2 : FlowT → (List (List ((List Int) × Int)))
  | .mk _ _ x _ => x
def FlowT.c3 : FlowT → (List FlowT)
  | .mk _ _ _ x => x
def named_out1 (x : FlowT) : PlanT × (List (List ((List Int) × Int))) × (List (List ((List Int) × Int))) × (List FlowT) := (x.c0, x.c1, x.c2, x.c3)
def named_in1 (x : PlanT × (List (List ((List Int) × Int))) × (List (List ((List Int) × Int))) × (List FlowT)) : FlowT := .mk x.1 x.2.1 x.2.2.1 x.2.2.2
def named_zer1 : FlowT := .mk named_zer0 [] [] []
@[reducible] def T0 : Nat → Type
  | 0 => PlanT
  | 1 => FlowT
  | _ + 2 => Int
@[reducible] def B0 : Nat → Ty
  | 0 => (.st (.pair (.int .i64) (.pair (.int .i64) (.pair (.st (.pair (.int .i64) (.pair .bool (.pair (.st (.pair (.int .i64) (.pair (.int .i64) (.pair (.int .i64) (.int .i64))))) (.st (.pair (.int .i64) (.pair (.int .i64) (.pair (.int .i64) (.int .i64))))))))) (.pair (.sl (.st (.pair (.int .i64) (.pair (.int .i64) (.pair (.int .i64) (.int .i64)))))) (.pair (.int .i64) (.pair (.int .i64) (.pair (.sl (.int .i64)) (.pair (.int .i64) (.pair (.int .i64) (.sl (.named 0))))))))))))
  | 1 => (.st (.pair (.named 0) (.pair (.st (.sl (.sl (.st (.pair (.sl (.int .i64)) (.int .i64)))))) (.pair (.st (.sl (.sl (.st (.pair (.sl (.int .i64)) (.int .i64)))))) (.sl (.named 1))))))
  | _ + 2 => .int .i64
@[reducible] def sz0 : Nat → Nat
  | 0 => 19
  | 1 => 22
  | _ + 2 => 1
@[reducible] def out0 : (i : Nat) → T0 i → D T0 (B0 i)
  | 0 => named_out0
  | 1 => named_out1
  | _ + 2 => fun x => x
@[reducible] def in0 : (i : Nat) → D T0 (B0 i) → T0 i
  | 0 => named_in0
  | 1 => named_in1
  | _ + 2 => fun x => x
@[reducible] def zer0 : (i : Nat) → T0 i
  | 0 => named_zer0
  | 1 => named_zer1
  | _ + 2 => (0 : Int)
theorem out_in0 : ∀ i y, out0 i (in0 i y) = y
  | 0, _ => rfl
  | 1, _ => rfl
  | _ + 2, _ => rfl
theorem sz_ok0 : ∀ i, (B0 i).cells sz0 = sz0 i
  | 0 => rfl
  | 1 => rfl
  | _ + 2 => rfl
theorem sz_no0 : ∀ i, sz0 i ≠ 0 ∧ (B0 i).zok = true
  | 0 => ⟨by decide, rfl⟩
  | 1 => ⟨by decide, rfl⟩
  | _ + 2 => ⟨Nat.one_ne_zero, rfl⟩
@[reducible] def X0 : Ext := ⟨T0, B0, sz0, out0, in0, zer0, out_in0, sz_ok0⟩
theorem Post.other {X : Ext} {w w' : World} {S S' : Nat → Option Nat} {ps : List PK} {rs : List RK} {fl : Bool} {f f' : InT X.T ps → Option (OutT X.T (rs.map (·.t) ++ ps.flatMap PK.out))} {args : List Value} {fs : List (List Nat)} {y : OutT X.T (rs.map (·.t) ++ ps.flatMap PK.out)} {v : Value} (p : Post X w w' S S' ⟨ps, rs, f, fl⟩ args fs y v) : Post X w w' S S' ⟨ps, rs, f', fl⟩ args fs y v := ⟨p.grow, p.heap, p.size, p.io, p.Sold, p.Slt, p.fl, p.res⟩
theorem SpecOk.of_each {P : Program} {X : Ext} {O : World} {fid : FuncId} {ps : List PK} {rs : List RK} {fl : Bool} (F : Nat → InT X.T ps → Option (OutT X.T (rs.map (·.t) ++ ps.flatMap PK.out))) (dep : InT X.T ps → Nat) (h : ∀ n, SpecOk P X O fid ⟨ps, rs, F n, fl⟩) : SpecOk P X O fid ⟨ps, rs, fun x => F (dep x) x, fl⟩ := fun x y w S args fs hy ha hnd hS hO => by
  rcases h (dep x) x y w S args fs hy ha hnd hS hO with ⟨v, w', e, S', p⟩ | ⟨e, hc⟩
  · exact .inl ⟨v, w', e, S', p.other⟩
  · exact .inr ⟨e, hc.mono fun e W' he => by
      obtain ⟨v, ev, S', p⟩ := he
      exact ⟨v, ev, S', p.other⟩⟩
theorem SpecOk.none {P : Program} {X : Ext} {O : World} {fid : FuncId} {ps : List PK} {rs : List RK} {fl : Bool} : SpecOk P X O fid ⟨ps, rs, fun _ => Option.none, fl⟩ := fun x y w S args fs hy => by cases hy
noncomputable def PlanT.dep : PlanT → Nat := PlanT.rec (motive_1 := fun _ => Nat) (motive_2 := fun _ => Nat) (fun _ _ _ _ _ _ _ _ _ _ n => n + 1) 0 (fun _ _ m n => max m n)
noncomputable def PlanT.deps : List PlanT → Nat := PlanT.rec_1 (motive_1 := fun _ => Nat) (motive_2 := fun _ => Nat) (fun _ _ _ _ _ _ _ _ _ _ n => n + 1) 0 (fun _ _ m n => max m n)
noncomputable def FlowT.dep : FlowT → Nat := FlowT.rec (motive_1 := fun _ => Nat) (motive_2 := fun _ => Nat) (fun _ _ _ _ n => n + 1) 0 (fun _ _ m n => max m n)
noncomputable def FlowT.deps : List FlowT → Nat := FlowT.rec_1 (motive_1 := fun _ => Nat) (motive_2 := fun _ => Nat) (fun _ _ _ _ n => n + 1) 0 (fun _ _ m n => max m n)
@[reducible] def mS : Md := ⟨[], .st⟩
@[reducible] def mT : Md := ⟨[], .tc⟩
@[reducible] def yI : Ty := .int .i64
@[reducible] def yB : Ty := .int .u8
@[reducible] def yBo : Ty := .bool
@[reducible] def yU : Ty := .int .u64
@[reducible] def yStr : Ty := .str
@[reducible] def yQ5 : Ty := .pair yI yI
@[reducible] def yQ6 : Ty := .pair yI yQ5
@[reducible] def yQ7 : Ty := .pair yI yQ6
@[reducible] def yCell : Ty := .st yQ7
@[reducible] def yCells : Ty := .sl yCell
@[reducible] def yRow : Ty := .sl yI
@[reducible] def yPlan : Ty := .named 0
@[reducible] def yPlans : Ty := .sl yPlan
@[reducible] def yT6 : Ty := .pair yRow yI
@[reducible] def yItem : Ty := .st yT6
@[reducible] def yRun : Ty := .sl yItem
@[reducible] def yRuns : Ty := .sl yRun
@[reducible] def ySpine : Ty := .st yRuns
@[reducible] def yFlow : Ty := .named 1
@[reducible] def yFlows : Ty := .sl yFlow
@[reducible] def yQ20 : Ty := .pair yCell yCell
@[reducible] def yQ21 : Ty := .pair yBo yQ20
@[reducible] def yQ22 : Ty := .pair yI yQ21
@[reducible] def yTest : Ty := .st yQ22
@[reducible] def yQ24 : Ty := .pair yI yRun
@[reducible] def yPast : Ty := .st yQ24
@[reducible] def yPasts : Ty := .sl yPast
@[reducible] def yQ27 : Ty := .pair yRun yPasts
@[reducible] def yQ28 : Ty := .pair yI yQ27
@[reducible] def yQ29 : Ty := .pair yFlow yQ28
@[reducible] def yView : Ty := .st yQ29
@[reducible] def yViews : Ty := .sl yView
@[reducible] def yQ32 : Ty := .pair yViews yQ5
@[reducible] def yQ33 : Ty := .pair yRuns yQ32
@[reducible] def yQ34 : Ty := .pair yRow yQ33
@[reducible] def yStore : Ty := .st yQ34
@[reducible] def yQ36 : Ty := .fnv 38
@[reducible] def yQ37 : Ty := .clo 40 yQ36
def tab0L : List (Nat × Option TI) := [
 (3, some ⟨yI, false, false, 0, []⟩),
 (4, some ⟨yBo, false, false, 0, []⟩),
 (23, some ⟨yCell, true, false, 0, [(0, 1), (1, 1), (2, 1), (3, 1)]⟩),
 (25, some ⟨yTest, true, false, 0, [(0, 1), (1, 1), (2, 4), (6, 4)]⟩),
 (26, some ⟨yCells, false, true, 23, []⟩),
 (27, some ⟨yRow, false, true, 3, []⟩),
 (28, some ⟨yPlans, false, true, 30, []⟩),
 (30, some ⟨yPlan, true, false, 0, [(0, 1), (1, 1), (2, 10), (12, 1), (13, 1), (14, 1), (15, 1), (16, 1), (17, 1), (18, 1)]⟩),
 (31, some ⟨yRuns, false, true, 105, []⟩),
 (33, some ⟨ySpine, true, false, 0, [(0, 1)]⟩),
 (34, some ⟨yFlows, false, true, 36, []⟩),
 (36, some ⟨yFlow, true, false, 0, [(0, 19), (19, 1), (20, 1), (21, 1)]⟩),
 (39, some ⟨yCell, true, false, 0, [(0, 1), (1, 1), (2, 1), (3, 1)]⟩),
 (41, some ⟨yTest, true, false, 0, [(0, 1), (1, 1), (2, 4), (6, 4)]⟩),
 (42, some ⟨yCells, false, true, 39, []⟩),
 (43, some ⟨yPlans, false, true, 45, []⟩),
 (45, some ⟨yPlan, true, false, 0, [(0, 1), (1, 1), (2, 10), (12, 1), (13, 1), (14, 1), (15, 1), (16, 1), (17, 1), (18, 1)]⟩),
 (46, some ⟨yRuns, false, true, 79, []⟩),
 (48, some ⟨ySpine, true, false, 0, [(0, 1)]⟩),
 (49, some ⟨yFlows, false, true, 51, []⟩),
 (51, some ⟨yFlow, true, false, 0, [(0, 19), (19, 1), (20, 1), (21, 1)]⟩),
 (54, some ⟨yViews, false, true, 109, []⟩),
 (56, some ⟨yStore, true, false, 0, [(0, 1), (1, 1), (2, 1), (3, 1), (4, 1)]⟩),
 (59, some ⟨yViews, false, true, 83, []⟩),
 (61, some ⟨yStore, true, false, 0, [(0, 1), (1, 1), (2, 1), (3, 1), (4, 1)]⟩),
 (79, some ⟨yRun, false, true, 112, []⟩),
 (81, some ⟨yPasts, false, true, 88, []⟩),
 (83, some ⟨yView, true, false, 0, [(0, 22), (22, 1), (23, 1), (24, 1)]⟩),
 (88, some ⟨yPast, true, false, 0, [(0, 1), (1, 1)]⟩),
 (89, some ⟨yQ36, false, false, 0, []⟩),
 (105, some ⟨yRun, false, true, 120, []⟩),
 (107, some ⟨yPasts, false, true, 127, []⟩),
 (109, some ⟨yView, true, false, 0, [(0, 22), (22, 1), (23, 1), (24, 1)]⟩),
 (112, some ⟨yItem, true, false, 0, [(0, 1), (1, 1)]⟩),
 (120, some ⟨yItem, true, false, 0, [(0, 1), (1, 1)]⟩),
 (127, some ⟨yPast, true, false, 0, [(0, 1), (1, 1)]⟩)]
def tab0 (t : TypeId) : Option TI := tabOf tab0L t
def eqs0 : TypeId → Bool := eqsL [39, 41]
theorem eqsOk0 : EqsOk Try.prog tab0 [39, 41] := ⟨⟨by kernel_rfl, by kernel_rfl⟩, ⟨by kernel_rfl, by kernel_rfl⟩, trivial⟩
def mps0L : List (Nat × (Nat × Nat)) := []
def mps0 (t : TypeId) : Option (TypeId × TypeId) := mpsL mps0L t
theorem mpsOk0 : MpsOk Try.prog tab0 mps0L := trivial
theorem toks0 : TOks Try.prog X0 tab0L := ⟨TOk.of (by kernel_rfl) (by kernel_rfl) (by kernel_rfl) (by kernel_rfl), TOk.of (by kernel_rfl) (by kernel_rfl) (by kernel_rfl) (by kernel_rfl), TOk.of (by kernel_rfl) (by kernel_rfl) (by kernel_rfl) (by kernel_rfl), TOk.of (by kernel_rfl) (by kernel_rfl) (by kernel_rfl) (by kernel_rfl), TOk.of (by kernel_rfl) (by kernel_rfl) (by kernel_rfl) (by kernel_rfl), TOk.of (by kernel_rfl) (by kernel_rfl) (by kernel_rfl) (by kernel_rfl), TOk.of (by kernel_rfl) (by kernel_rfl) (by kernel_rfl) (by kernel_rfl), TOk.of (by kernel_rfl) (by kernel_rfl) (by kernel_rfl) (by kernel_rfl), TOk.of (by kernel_rfl) (by kernel_rfl) (by kernel_rfl) (by kernel_rfl), TOk.of (by kernel_rfl) (by kernel_rfl) (by kernel_rfl) (by kernel_rfl), TOk.of (by kernel_rfl) (by kernel_rfl) (by kernel_rfl) (by kernel_rfl), TOk.of (by kernel_rfl) (by kernel_rfl) (by kernel_rfl) (by kernel_rfl), TOk.of (by kernel_rfl) (by kernel_rfl) (by kernel_rfl) (by kernel_rfl), TOk.of (by kernel_rfl) (by kernel_rfl) (by kernel_rfl) (by kernel_rfl), TOk.of (by kernel_rfl) (by kernel_rfl) (by kernel_rfl) (by kernel_rfl), TOk.of (by kernel_rfl) (by kernel_rfl) (by kernel_rfl) (by kernel_rfl), TOk.of (by kernel_rfl) (by kernel_rfl) (by kernel_rfl) (by kernel_rfl), TOk.of (by kernel_rfl) (by kernel_rfl) (by kernel_rfl) (by kernel_rfl), TOk.of (by kernel_rfl) (by kernel_rfl) (by kernel_rfl) (by kernel_rfl), TOk.of (by kernel_rfl) (by kernel_rfl) (by kernel_rfl) (by kernel_rfl), TOk.of (by kernel_rfl) (by kernel_rfl) (by kernel_rfl) (by kernel_rfl), TOk.of (by kernel_rfl) (by kernel_rfl) (by kernel_rfl) (by kernel_rfl), TOk.of (by kernel_rfl) (by kernel_rfl) (by kernel_rfl) (by kernel_rfl), TOk.of (by kernel_rfl) (by kernel_rfl) (by kernel_rfl) (by kernel_rfl), TOk.of (by kernel_rfl) (by kernel_rfl) (by kernel_rfl) (by kernel_rfl), TOk.of (by kernel_rfl) (by kernel_rfl) (by kernel_rfl) (by kernel_rfl), TOk.of (by kernel_rfl) (by kernel_rfl) (by kernel_rfl) (by kernel_rfl), TOk.of (by kernel_rfl) (by kernel_rfl) (by kernel_rfl) (by kernel_rfl), TOk.of (by kernel_rfl) (by kernel_rfl) (by kernel_rfl) (by kernel_rfl), TOk.of (by kernel_rfl) (by kernel_rfl) (by kernel_rfl) (by kernel_rfl), TOk.of (by kernel_rfl) (by kernel_rfl) (by kernel_rfl) (by kernel_rfl), TOk.of (by kernel_rfl) (by kernel_rfl) (by kernel_rfl) (by kernel_rfl), TOk.of (by kernel_rfl) (by kernel_rfl) (by kernel_rfl) (by kernel_rfl), TOk.of (by kernel_rfl) (by kernel_rfl) (by kernel_rfl) (by kernel_rfl), TOk.of (by kernel_rfl) (by kernel_rfl) (by kernel_rfl) (by kernel_rfl), TOk.of (by kernel_rfl) (by kernel_rfl) (by kernel_rfl) (by kernel_rfl), trivial⟩
theorem tabOk0 (nt : Nat) (ann : Nat → Bool × Md) (fz : Nat → Bool) (cl : Nat → Option (Nat × Nat)) (gr mkd : Bool) (tw : Nat → Option (Nat × Nat × Nat)) (clos : Nat → Option Ty) : TabOk Try.prog X0 ⟨tab0, nt, ann, fz, cl, gr, mkd, tw, eqs0, mps0, clos⟩   := ⟨sz_no0, fun t ti h => tabOf_ok toks0 t ti h, fun t ti h ht => eqsL_ok eqsOk0 t ti h ht, fun t k v h => mpsL_ok mpsOk0 t k v h⟩
theorem mixed : Try.prog.follows .mixedOrders = true := by kernel_rfl
def w64 (n : Int) : Int := IntKind.i64.wrap n
def wu64 (n : Int) : Int := IntKind.u64.wrap n
def wu8 (n : Int) : Int := IntKind.u8.wrap n
def wu32 (n : Int) : Int := IntKind.u32.wrap n
def wi32 (n : Int) : Int := IntKind.i32.wrap n
def rdI (xs : List Int) (i : Int) : Int := rd (X := X0) yI xs i
def zeroI : Int := zeroD X0 yI
def rdB (xs : List Int) (i : Int) : Int := rd (X := X0) yB xs i
def zeroB : Int := zeroD X0 yB
def rdBo (xs : List Bool) (i : Int) : Bool := rd (X := X0) yBo xs i
def zeroBo : Bool := zeroD X0 yBo
def rdU (xs : List Int) (i : Int) : Int := rd (X := X0) yU xs i
def zeroU : Int := zeroD X0 yU
def rdStr (xs : List ByteArray) (i : Int) : ByteArray := rd (X := X0) yStr xs i
def zeroStr : ByteArray := zeroD X0 yStr
def rdQ5 (xs : List (Int × Int)) (i : Int) : (Int × Int) := rd (X := X0) yQ5 xs i
def zeroQ5 : (Int × Int) := zeroD X0 yQ5
def rdQ6 (xs : List (Int × (Int × Int))) (i : Int) : (Int × (Int × Int)) := rd (X := X0) yQ6 xs i
def zeroQ6 : (Int × (Int × Int)) := zeroD X0 yQ6
def rdQ7 (xs : List (Int × (Int × (Int × Int)))) (i : Int) : (Int × (Int × (Int × Int))) := rd (X := X0) yQ7 xs i
def zeroQ7 : (Int × (Int × (Int × Int))) := zeroD X0 yQ7
def rdCell (xs : List (Int × (Int × (Int × Int)))) (i : Int) : (Int × (Int × (Int × Int))) := rd (X := X0) yCell xs i
def zeroCell : (Int × (Int × (Int × Int))) := zeroD X0 yCell
def rdCells (xs : List (List (Int × (Int × (Int × Int))))) (i : Int) : (List (Int × (Int × (Int × Int)))) := rd (X := X0) yCells xs i
def zeroCells : (List (Int × (Int × (Int × Int)))) := zeroD X0 yCells
def rdRow (xs : List (List Int)) (i : Int) : (List Int) := rd (X := X0) yRow xs i
def zeroRow : (List Int) := zeroD X0 yRow
def rdPlan (xs : List PlanT) (i : Int) : PlanT := rd (X := X0) yPlan xs i
def zeroPlan : PlanT := zeroD X0 yPlan
def rdPlans (xs : List (List PlanT)) (i : Int) : (List PlanT) := rd (X := X0) yPlans xs i
def zeroPlans : (List PlanT) := zeroD X0 yPlans
def rdT6 (xs : List ((List Int) × Int)) (i : Int) : ((List Int) × Int) := rd (X := X0) yT6 xs i
def zeroT6 : ((List Int) × Int) := zeroD X0 yT6
def rdItem (xs : List ((List Int) × Int)) (i : Int) : ((List Int) × Int) := rd (X := X0) yItem xs i
def zeroItem : ((List Int) × Int) := zeroD X0 yItem
def rdRun (xs : List (List ((List Int) × Int))) (i : Int) : (List ((List Int) × Int)) := rd (X := X0) yRun xs i
def zeroRun : (List ((List Int) × Int)) := zeroD X0 yRun
def rdRuns (xs : List (List (List ((List Int) × Int)))) (i : Int) : (List (List ((List Int) × Int))) := rd (X := X0) yRuns xs i
def zeroRuns : (List (List ((List Int) × Int))) := zeroD X0 yRuns
def rdSpine (xs : List (List (List ((List Int) × Int)))) (i : Int) : (List (List ((List Int) × Int))) := rd (X := X0) ySpine xs i
def zeroSpine : (List (List ((List Int) × Int))) := zeroD X0 ySpine
def rdFlow (xs : List FlowT) (i : Int) : FlowT := rd (X := X0) yFlow xs i
def zeroFlow : FlowT := zeroD X0 yFlow
def rdFlows (xs : List (List FlowT)) (i : Int) : (List FlowT) := rd (X := X0) yFlows xs i
def zeroFlows : (List FlowT) := zeroD X0 yFlows
def rdQ20 (xs : List ((Int × (Int × (Int × Int))) × (Int × (Int × (Int × Int))))) (i : Int) : ((Int × (Int × (Int × Int))) × (Int × (Int × (Int × Int)))) := rd (X := X0) yQ20 xs i
def zeroQ20 : ((Int × (Int × (Int × Int))) × (Int × (Int × (Int × Int)))) := zeroD X0 yQ20
def rdQ21 (xs : List (Bool × ((Int × (Int × (Int × Int))) × (Int × (Int × (Int × Int)))))) (i : Int) : (Bool × ((Int × (Int × (Int × Int))) × (Int × (Int × (Int × Int))))) := rd (X := X0) yQ21 xs i
def zeroQ21 : (Bool × ((Int × (Int × (Int × Int))) × (Int × (Int × (Int × Int))))) := zeroD X0 yQ21
def rdQ22 (xs : List (Int × (Bool × ((Int × (Int × (Int × Int))) × (Int × (Int × (Int × Int))))))) (i : Int) : (Int × (Bool × ((Int × (Int × (Int × Int))) × (Int × (Int × (Int × Int)))))) := rd (X := X0) yQ22 xs i
def zeroQ22 : (Int × (Bool × ((Int × (Int × (Int × Int))) × (Int × (Int × (Int × Int)))))) := zeroD X0 yQ22
def rdTest (xs : List (Int × (Bool × ((Int × (Int × (Int × Int))) × (Int × (Int × (Int × Int))))))) (i : Int) : (Int × (Bool × ((Int × (Int × (Int × Int))) × (Int × (Int × (Int × Int)))))) := rd (X := X0) yTest xs i
def zeroTest : (Int × (Bool × ((Int × (Int × (Int × Int))) × (Int × (Int × (Int × Int)))))) := zeroD X0 yTest
def rdQ24 (xs : List (Int × (List ((List Int) × Int)))) (i : Int) : (Int × (List ((List Int) × Int))) := rd (X := X0) yQ24 xs i
def zeroQ24 : (Int × (List ((List Int) × Int))) := zeroD X0 yQ24
def rdPast (xs : List (Int × (List ((List Int) × Int)))) (i : Int) : (Int × (List ((List Int) × Int))) := rd (X := X0) yPast xs i
def zeroPast : (Int × (List ((List Int) × Int))) := zeroD X0 yPast
def rdPasts (xs : List (List (Int × (List ((List Int) × Int))))) (i : Int) : (List (Int × (List ((List Int) × Int)))) := rd (X := X0) yPasts xs i
def zeroPasts : (List (Int × (List ((List Int) × Int)))) := zeroD X0 yPasts
def rdQ27 (xs : List ((List ((List Int) × Int)) × (List (Int × (List ((List Int) × Int)))))) (i : Int) : ((List ((List Int) × Int)) × (List (Int × (List ((List Int) × Int))))) := rd (X := X0) yQ27 xs i
def zeroQ27 : ((List ((List Int) × Int)) × (List (Int × (List ((List Int) × Int))))) := zeroD X0 yQ27
def rdQ28 (xs : List (Int × ((List ((List Int) × Int)) × (List (Int × (List ((List Int) × Int))))))) (i : Int) : (Int × ((List ((List Int) × Int)) × (List (Int × (List ((List Int) × Int)))))) := rd (X := X0) yQ28 xs i
def zeroQ28 : (Int × ((List ((List Int) × Int)) × (List (Int × (List ((List Int) × Int)))))) := zeroD X0 yQ28
def rdQ29 (xs : List (FlowT × (Int × ((List ((List Int) × Int)) × (List (Int × (List ((List Int) × Int)))))))) (i : Int) : (FlowT × (Int × ((List ((List Int) × Int)) × (List (Int × (List ((List Int) × Int))))))) := rd (X := X0) yQ29 xs i
def zeroQ29 : (FlowT × (Int × ((List ((List Int) × Int)) × (List (Int × (List ((List Int) × Int))))))) := zeroD X0 yQ29
def rdView (xs : List (FlowT × (Int × ((List ((List Int) × Int)) × (List (Int × (List ((List Int) × Int)))))))) (i : Int) : (FlowT × (Int × ((List ((List Int) × Int)) × (List (Int × (List ((List Int) × Int))))))) := rd (X := X0) yView xs i
def zeroView : (FlowT × (Int × ((List ((List Int) × Int)) × (List (Int × (List ((List Int) × Int))))))) := zeroD X0 yView
def rdViews (xs : List (List (FlowT × (Int × ((List ((List Int) × Int)) × (List (Int × (List ((List Int) × Int))))))))) (i : Int) : (List (FlowT × (Int × ((List ((List Int) × Int)) × (List (Int × (List ((List Int) × Int)))))))) := rd (X := X0) yViews xs i
def zeroViews : (List (FlowT × (Int × ((List ((List Int) × Int)) × (List (Int × (List ((List Int) × Int)))))))) := zeroD X0 yViews
def rdQ32 (xs : List ((List (FlowT × (Int × ((List ((List Int) × Int)) × (List (Int × (List ((List Int) × Int)))))))) × (Int × Int))) (i : Int) : ((List (FlowT × (Int × ((List ((List Int) × Int)) × (List (Int × (List ((List Int) × Int)))))))) × (Int × Int)) := rd (X := X0) yQ32 xs i
def zeroQ32 : ((List (FlowT × (Int × ((List ((List Int) × Int)) × (List (Int × (List ((List Int) × Int)))))))) × (Int × Int)) := zeroD X0 yQ32
def rdQ33 (xs : List ((List (List ((List Int) × Int))) × ((List (FlowT × (Int × ((List ((List Int) × Int)) × (List (Int × (List ((List Int) × Int)))))))) × (Int × Int)))) (i : Int) : ((List (List ((List Int) × Int))) × ((List (FlowT × (Int × ((List ((List Int) × Int)) × (List (Int × (List ((List Int) × Int)))))))) × (Int × Int))) := rd (X := X0) yQ33 xs i
def zeroQ33 : ((List (List ((List Int) × Int))) × ((List (FlowT × (Int × ((List ((List Int) × Int)) × (List (Int × (List ((List Int) × Int)))))))) × (Int × Int))) := zeroD X0 yQ33
def rdQ34 (xs : List ((List Int) × ((List (List ((List Int) × Int))) × ((List (FlowT × (Int × ((List ((List Int) × Int)) × (List (Int × (List ((List Int) × Int)))))))) × (Int × Int))))) (i : Int) : ((List Int) × ((List (List ((List Int) × Int))) × ((List (FlowT × (Int × ((List ((List Int) × Int)) × (List (Int × (List ((List Int) × Int)))))))) × (Int × Int)))) := rd (X := X0) yQ34 xs i
def zeroQ34 : ((List Int) × ((List (List ((List Int) × Int))) × ((List (FlowT × (Int × ((List ((List Int) × Int)) × (List (Int × (List ((List Int) × Int)))))))) × (Int × Int)))) := zeroD X0 yQ34
def rdStore (xs : List ((List Int) × ((List (List ((List Int) × Int))) × ((List (FlowT × (Int × ((List ((List Int) × Int)) × (List (Int × (List ((List Int) × Int)))))))) × (Int × Int))))) (i : Int) : ((List Int) × ((List (List ((List Int) × Int))) × ((List (FlowT × (Int × ((List ((List Int) × Int)) × (List (Int × (List ((List Int) × Int)))))))) × (Int × Int)))) := rd (X := X0) yStore xs i
def zeroStore : ((List Int) × ((List (List ((List Int) × Int))) × ((List (FlowT × (Int × ((List ((List Int) × Int)) × (List (Int × (List ((List Int) × Int)))))))) × (Int × Int)))) := zeroD X0 yStore
def rdQ36 (xs : List Unit) (i : Int) : Unit := rd (X := X0) yQ36 xs i
def zeroQ36 : Unit := zeroD X0 yQ36
def rdQ37 (xs : List Unit) (i : Int) : Unit := rd (X := X0) yQ37 xs i
def zeroQ37 : Unit := zeroD X0 yQ37

end Go.Proofs.Ytmbnalaiobhaaaa.E
