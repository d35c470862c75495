/- Parts of the proof, many texts in one: F0, HA, HB, F1, F2, F3. -/
import Derived.Test.YtmbnalaiobhaaaaGreatA3
import Derived.Test.YtmbnalaiobhaaaaGreatProg
import Derived.RangeFuncIn
import Derived.RangeFuncRecord
import Derived.RangeFuncCalls
import Derived.OwnWalkIn
import Derived.TacticsInMore
import Derived.LoopIn
import Derived.LoopNIn
import Derived.WalkKit
import Derived.Lib.Walk
import Derived.Lib.SliceRun
/- The types of the program, as the engine has them. -/
namespace Go.Proofs.YtmbnalaiobhaaaaGreat.E
noncomputable section
open Go
inductive PlanT where
  | mk (c0 : Int) (c1 : Int) (c2 : (Int × (Bool × ((Int × (Int × (Int × Int))) × (Int × (Int × (Int × Int))))))) (c3 : (List (Int × (Int × (Int × Int))))) (c4 : Int) (c5 : Int) (c6 : (List Int)) (c7 : Int) (c8 : Int) (c9 : (List PlanT))
def PlanT.c0 : PlanT → Int
  | .mk x _ _ _ _ _ _ _ _ _ => x
def PlanT.c1 : PlanT → Int
  | .mk _ x _ _ _ _ _ _ _ _ => x
def PlanT.c2 : PlanT → (Int × (Bool × ((Int × (Int × (Int × Int))) × (Int × (Int × (Int × Int))))))
  | .mk _ _ x _ _ _ _ _ _ _ => x
def PlanT.c3 : PlanT → (List (Int × (Int × (Int × Int))))
  | .mk _ _ _ x _ _ _ _ _ _ => x
def PlanT.c4 : PlanT → Int
  | .mk _ _ _ _ x _ _ _ _ _ => x
def PlanT.c5 : PlanT → Int
  | .mk _ _ _ _ _ x _ _ _ _ => x
def PlanT.c6 : PlanT → (List Int)
  | .mk _ _ _ _ _ _ x _ _ _ => x
def PlanT.c7 : PlanT → Int
  | .mk _ _ _ _ _ _ _ x _ _ => x
def PlanT.c8 : PlanT → Int
  | .mk _ _ _ _ _ _ _ _ x _ => x
def PlanT.c9 : PlanT → (List PlanT)
  | .mk _ _ _ _ _ _ _ _ _ x => x
def oA (x : PlanT) : Int × Int × (Int × (Bool × ((Int × (Int × (Int × Int))) × (Int × (Int × (Int × Int)))))) × (List (Int × (Int × (Int × Int)))) × Int × Int × (List Int) × Int × Int × (List PlanT) := (x.c0, x.c1, x.c2, x.c3, x.c4, x.c5, x.c6, x.c7, x.c8, x.c9)
def iA (x : Int × Int × (Int × (Bool × ((Int × (Int × (Int × Int))) × (Int × (Int × (Int × Int)))))) × (List (Int × (Int × (Int × Int)))) × Int × Int × (List Int) × Int × Int × (List PlanT)) : PlanT := .mk x.1 x.2.1 x.2.2.1 x.2.2.2.1 x.2.2.2.2.1 x.2.2.2.2.2.1 x.2.2.2.2.2.2.1 x.2.2.2.2.2.2.2.1 x.2.2.2.2.2.2.2.2.1 x.2.2.2.2.2.2.2.2.2
def named_zer0 : PlanT := .mk (0 : Int) (0 : Int) ((0 : Int), (false, (((0 : Int), ((0 : Int), ((0 : Int), (0 : Int)))), ((0 : Int), ((0 : Int), ((0 : Int), (0 : Int))))))) [] (0 : Int) (0 : Int) [] (0 : Int) (0 : Int) []
inductive FlowT where
  | mk (c0 : PlanT) (c1 : (List (List ((List Int) × Int)))) (c2 : (List (List ((List Int) × Int)))) (c3 : (List FlowT))
def FlowT.c0 : FlowT → PlanT
  | .mk x _ _ _ => x
def FlowT.c1 : FlowT → (List (List ((List Int) × Int)))
  | .mk _ x _ _ => x
def FlowT.c2 : FlowT → (List (List ((List Int) × Int)))
  | .mk _ _ x _ => x
def FlowT.c3 : FlowT → (List FlowT)
  | .mk _ _ _ x => x
def oB (x : FlowT) : PlanT × (List (List ((List Int) × Int))) × (List (List ((List Int) × Int))) × (List FlowT) := (x.c0, x.c1, x.c2, x.c3)
def iB (x : PlanT × (List (List ((List Int) × Int))) × (List (List ((List Int) × Int))) × (List FlowT)) : FlowT := .mk x.1 x.2.1 x.2.2.1 x.2.2.2
@[reducible] def eP (x : PlanT) : PlanT := iA ((oA x).1, ((oA x).2.1, (((oA x).2.2.1.1, ((oA x).2.2.1.2.1, (((oA x).2.2.1.2.2.1.1, ((oA x).2.2.1.2.2.1.2.1, ((oA x).2.2.1.2.2.1.2.2.1, (oA x).2.2.1.2.2.1.2.2.2))), ((oA x).2.2.1.2.2.2.1, ((oA x).2.2.1.2.2.2.2.1, ((oA x).2.2.1.2.2.2.2.2.1, (oA x).2.2.1.2.2.2.2.2.2)))))), ((oA x).2.2.2.1, ((oA x).2.2.2.2.1, ((oA x).2.2.2.2.2.1, ((oA x).2.2.2.2.2.2.1, ((oA x).2.2.2.2.2.2.2.1, ((oA x).2.2.2.2.2.2.2.2.1, (oA x).2.2.2.2.2.2.2.2.2)))))))))
@[reducible] def eF (x : FlowT) : FlowT := iB ((eP (oB x).1), ((oB x).2.1, ((oB x).2.2.1, (oB x).2.2.2)))
def named_zer1 : FlowT := .mk named_zer0 [] [] []
@[reducible] def T0 : Nat → Type
  | 0 => PlanT
  | 1 => FlowT
  | _ + 2 => Int
@[reducible] def B0 : Nat → Ty
  | 0 => (.st (.pair (.int .i64) (.pair (.int .i64) (.pair (.st (.pair (.int .i64) (.pair .bool (.pair (.st (.pair (.int .i64) (.pair (.int .i64) (.pair (.int .i64) (.int .i64))))) (.st (.pair (.int .i64) (.pair (.int .i64) (.pair (.int .i64) (.int .i64))))))))) (.pair (.sl (.st (.pair (.int .i64) (.pair (.int .i64) (.pair (.int .i64) (.int .i64)))))) (.pair (.int .i64) (.pair (.int .i64) (.pair (.sl (.int .i64)) (.pair (.int .i64) (.pair (.int .i64) (.sl (.named 0))))))))))))
  | 1 => (.st (.pair (.named 0) (.pair (.st (.sl (.sl (.st (.pair (.sl (.int .i64)) (.int .i64)))))) (.pair (.st (.sl (.sl (.st (.pair (.sl (.int .i64)) (.int .i64)))))) (.sl (.named 1))))))
  | _ + 2 => .int .i64
@[reducible] def sz0 : Nat → Nat
  | 0 => 19
  | 1 => 22
  | _ + 2 => 1
@[reducible] def out0 : (i : Nat) → T0 i → D T0 (B0 i)
  | 0 => oA
  | 1 => oB
  | _ + 2 => fun x => x
@[reducible] def in0 : (i : Nat) → D T0 (B0 i) → T0 i
  | 0 => iA
  | 1 => iB
  | _ + 2 => fun x => x
@[reducible] def zer0 : (i : Nat) → T0 i
  | 0 => named_zer0
  | 1 => named_zer1
  | _ + 2 => (0 : Int)
theorem out_in0 : ∀ i y, out0 i (in0 i y) = y
  | 0, _ => rfl
  | 1, _ => rfl
  | _ + 2, _ => rfl
theorem sz_ok0 : ∀ i, (B0 i).cells sz0 = sz0 i
  | 0 => rfl
  | 1 => rfl
  | _ + 2 => rfl
theorem sz_no0 : ∀ i, sz0 i ≠ 0 ∧ (B0 i).zok = true
  | 0 => ⟨by decide, rfl⟩
  | 1 => ⟨by decide, rfl⟩
  | _ + 2 => ⟨Nat.one_ne_zero, rfl⟩
@[reducible] def X0 : Ext := ⟨T0, B0, sz0, out0, in0, zer0, out_in0, sz_ok0⟩
theorem Post.other {X : Ext} {w w' : World} {S S' : Nat → Option Nat} {ps : List PK} {rs : List RK} {fl : Bool} {f f' : InT X.T ps → Option (OutT X.T (rs.map (·.t) ++ ps.flatMap PK.out))} {args : List Value} {fs : List (List Nat)} {y : OutT X.T (rs.map (·.t) ++ ps.flatMap PK.out)} {v : Value} (p : Post X w w' S S' ⟨ps, rs, f, fl⟩ args fs y v) : Post X w w' S S' ⟨ps, rs, f', fl⟩ args fs y v := ⟨p.grow, p.heap, p.size, p.io, p.Sold, p.Slt, p.fl, p.res⟩
theorem SpecOk.of_each {P : Program} {X : Ext} {O : World} {fid : FuncId} {ps : List PK} {rs : List RK} {fl : Bool} (F : Nat → InT X.T ps → Option (OutT X.T (rs.map (·.t) ++ ps.flatMap PK.out))) (dep : InT X.T ps → Nat) (h : ∀ n, SpecOk P X O fid ⟨ps, rs, F n, fl⟩) : SpecOk P X O fid ⟨ps, rs, fun x => F (dep x) x, fl⟩ := fun x y w S args fs hy ha hnd hS hO => by
  rcases h (dep x) x y w S args fs hy ha hnd hS hO with ⟨v, w', e, S', p⟩ | ⟨e, hc⟩
  · exact .inl ⟨v, w', e, S', p.other⟩
  · exact .inr ⟨e, hc.mono fun e W' he => by
      obtain ⟨v, ev, S', p⟩ := he
      exact ⟨v, ev, S', p.other⟩⟩
theorem SpecOk.none {P : Program} {X : Ext} {O : World} {fid : FuncId} {ps : List PK} {rs : List RK} {fl : Bool} : SpecOk P X O fid ⟨ps, rs, fun _ => Option.none, fl⟩ := fun x y w S args fs hy => by cases hy
def PlanT.dep : PlanT → Nat := PlanT.rec (motive_1 := fun _ => Nat) (motive_2 := fun _ => Nat) (fun _ _ _ _ _ _ _ _ _ _ n => n + 1) 0 (fun _ _ m n => max m n)
def PlanT.deps : List PlanT → Nat := PlanT.rec_1 (motive_1 := fun _ => Nat) (motive_2 := fun _ => Nat) (fun _ _ _ _ _ _ _ _ _ _ n => n + 1) 0 (fun _ _ m n => max m n)
def FlowT.dep : FlowT → Nat := FlowT.rec (motive_1 := fun _ => Nat) (motive_2 := fun _ => Nat) (fun _ _ _ _ n => n + 1) 0 (fun _ _ m n => max m n)
def FlowT.deps : List FlowT → Nat := FlowT.rec_1 (motive_1 := fun _ => Nat) (motive_2 := fun _ => Nat) (fun _ _ _ _ n => n + 1) 0 (fun _ _ m n => max m n)
def PlanT.cnt : PlanT → Nat := PlanT.rec (motive_1 := fun _ => Nat) (motive_2 := fun _ => Nat) (fun _ _ _ _ _ _ _ _ _ _ n => n + 1) 0 (fun _ _ m n => m + n)
def PlanT.cnts : List PlanT → Nat := PlanT.rec_1 (motive_1 := fun _ => Nat) (motive_2 := fun _ => Nat) (fun _ _ _ _ _ _ _ _ _ _ n => n + 1) 0 (fun _ _ m n => m + n)
@[reducible] def mS : Md := ⟨[], .st⟩
@[reducible] def yI : Ty := .int .i64
@[reducible] def yBo : Ty := .bool
@[reducible] def yQ5 : Ty := .pair yI yI
@[reducible] def yQ6 : Ty := .pair yI yQ5
@[reducible] def yQ7 : Ty := .pair yI yQ6
@[reducible] def yCell : Ty := .st yQ7
@[reducible] def zcJ : Ty := .sl yCell
@[reducible] def yRow : Ty := .sl yI
@[reducible] def yPlan : Ty := .named 0
@[reducible] def zev : Ty := .sl yPlan
@[reducible] def yT6 : Ty := .pair yRow yI
@[reducible] def yItem : Ty := .st yT6
@[reducible] def yRun : Ty := .sl yItem
@[reducible] def yRuns : Ty := .sl yRun
@[reducible] def zdn : Ty := .st yRuns
@[reducible] def yFlow : Ty := .named 1
@[reducible] def zjB : Ty := .sl yFlow
@[reducible] def yQ20 : Ty := .pair yCell yCell
@[reducible] def yQ21 : Ty := .pair yBo yQ20
@[reducible] def yQ22 : Ty := .pair yI yQ21
@[reducible] def yTest : Ty := .st yQ22
@[reducible] def yIfc : Ty := .ifc
@[reducible] def yQ25 : Ty := .pair yI yIfc
@[reducible] def yQ26 : Ty := .sl yQ25
@[reducible] def yQ27 : Ty := .unit
@[reducible] def yQ28 : Ty := .st yQ27
@[reducible] def yQ29 : Ty := .st yI
@[reducible] def yQ30 : Ty := .st yQ5
@[reducible] def yQ31 : Ty := .clo 266 yRow
@[reducible] def yQ32 : Ty := .pair yI yRun
@[reducible] def yPast : Ty := .st yQ32
@[reducible] def zhL : Ty := .sl yPast
@[reducible] def yQ35 : Ty := .pair yRun zhL
@[reducible] def yQ36 : Ty := .pair yI yQ35
@[reducible] def yQ37 : Ty := .pair yFlow yQ36
@[reducible] def yView : Ty := .st yQ37
@[reducible] def zeu : Ty := .sl yView
@[reducible] def yQ40 : Ty := .pair zeu yQ5
@[reducible] def yQ41 : Ty := .pair yRuns yQ40
@[reducible] def yQ42 : Ty := .pair yRow yQ41
@[reducible] def zcf : Ty := .st yQ42
@[reducible] def yQ44 : Ty := .clo 168 yI
@[reducible] def yQ45 : Ty := .clo 80 zcf
@[reducible] def yQ46 : Ty := .sl zdn
def tab0L : List (Nat × Option TI) := [
 (3, some ⟨yI, false, false, 0, []⟩),
 (4, some ⟨yBo, false, false, 0, []⟩),
 (23, some ⟨yCell, true, false, 0, [(0, 1), (1, 1), (2, 1), (3, 1)]⟩),
 (25, some ⟨yTest, true, false, 0, [(0, 1), (1, 1), (2, 4), (6, 4)]⟩),
 (26, some ⟨zcJ, false, true, 23, []⟩),
 (27, some ⟨yRow, false, true, 3, []⟩),
 (28, some ⟨zev, false, true, 30, []⟩),
 (30, some ⟨yPlan, true, false, 0, [(0, 1), (1, 1), (2, 10), (12, 1), (13, 1), (14, 1), (15, 1), (16, 1), (17, 1), (18, 1)]⟩),
 (32, some ⟨yCell, true, false, 0, [(0, 1), (1, 1), (2, 1), (3, 1)]⟩),
 (34, some ⟨yTest, true, false, 0, [(0, 1), (1, 1), (2, 4), (6, 4)]⟩),
 (35, some ⟨zcJ, false, true, 32, []⟩),
 (36, some ⟨zev, false, true, 38, []⟩),
 (38, some ⟨yPlan, true, false, 0, [(0, 1), (1, 1), (2, 10), (12, 1), (13, 1), (14, 1), (15, 1), (16, 1), (17, 1), (18, 1)]⟩),
 (39, some ⟨yRuns, false, true, 80, []⟩),
 (41, some ⟨zdn, true, false, 0, [(0, 1)]⟩),
 (42, some ⟨zjB, false, true, 44, []⟩),
 (44, some ⟨yFlow, true, false, 0, [(0, 19), (19, 1), (20, 1), (21, 1)]⟩),
 (52, some ⟨yRuns, false, true, 150, []⟩),
 (54, some ⟨zdn, true, false, 0, [(0, 1)]⟩),
 (55, some ⟨zjB, false, true, 57, []⟩),
 (57, some ⟨yFlow, true, false, 0, [(0, 19), (19, 1), (20, 1), (21, 1)]⟩),
 (66, some ⟨zeu, false, true, 154, []⟩),
 (68, some ⟨zcf, true, false, 0, [(0, 1), (1, 1), (2, 1), (3, 1), (4, 1)]⟩),
 (71, some ⟨zeu, false, true, 116, []⟩),
 (73, some ⟨zcf, true, false, 0, [(0, 1), (1, 1), (2, 1), (3, 1), (4, 1)]⟩),
 (80, some ⟨yRun, false, true, 129, []⟩),
 (114, some ⟨zhL, false, true, 158, []⟩),
 (116, some ⟨yView, true, false, 0, [(0, 22), (22, 1), (23, 1), (24, 1)]⟩),
 (129, some ⟨yItem, true, false, 0, [(0, 1), (1, 1)]⟩),
 (143, some ⟨yQ46, false, true, 41, []⟩),
 (150, some ⟨yRun, false, true, 187, []⟩),
 (152, some ⟨zhL, false, true, 224, []⟩),
 (154, some ⟨yView, true, false, 0, [(0, 22), (22, 1), (23, 1), (24, 1)]⟩),
 (158, some ⟨yPast, true, false, 0, [(0, 1), (1, 1)]⟩),
 (180, some ⟨yIfc, false, false, 0, []⟩),
 (187, some ⟨yItem, true, false, 0, [(0, 1), (1, 1)]⟩),
 (214, some ⟨yQ28, true, false, 0, []⟩),
 (215, some ⟨yQ28, true, false, 0, []⟩),
 (216, some ⟨yQ28, true, false, 0, []⟩),
 (217, some ⟨yQ28, true, false, 0, []⟩),
 (218, some ⟨yQ28, true, false, 0, []⟩),
 (219, some ⟨yQ28, true, false, 0, []⟩),
 (220, some ⟨yQ28, true, false, 0, []⟩),
 (224, some ⟨yPast, true, false, 0, [(0, 1), (1, 1)]⟩),
 (277, some ⟨yIfc, false, false, 0, []⟩),
 (281, some ⟨yQ29, true, false, 0, [(0, 1)]⟩),
 (283, some ⟨yQ29, true, false, 0, [(0, 1)]⟩),
 (285, some ⟨yQ30, true, false, 0, [(0, 1), (1, 1)]⟩)]
def tab0 (t : TypeId) : Option TI := tabOf tab0L t
def eqs0 : TypeId → Bool := eqsL [32, 34]
theorem eqsOk0 : EqsOk Tryz.prog tab0 [32, 34] := ⟨⟨by kernel_rfl, by kernel_rfl⟩, ⟨by kernel_rfl, by kernel_rfl⟩, trivial⟩
def mps0L : List (Nat × (Nat × Nat)) := [(181, (3, 180))]
def mps0 (t : TypeId) : Option (TypeId × TypeId) := mpsL mps0L t
theorem mpsOk0 : MpsOk Tryz.prog tab0 mps0L := ⟨⟨by kernel_rfl, by kernel_rfl⟩, trivial⟩
theorem toks0 : TOks Tryz.prog X0 tab0L := ⟨TOk.of (by kernel_rfl) (by kernel_rfl) (by kernel_rfl) (by kernel_rfl), TOk.of (by kernel_rfl) (by kernel_rfl) (by kernel_rfl) (by kernel_rfl), TOk.of (by kernel_rfl) (by kernel_rfl) (by kernel_rfl) (by kernel_rfl), TOk.of (by kernel_rfl) (by kernel_rfl) (by kernel_rfl) (by kernel_rfl), TOk.of (by kernel_rfl) (by kernel_rfl) (by kernel_rfl) (by kernel_rfl), TOk.of (by kernel_rfl) (by kernel_rfl) (by kernel_rfl) (by kernel_rfl), TOk.of (by kernel_rfl) (by kernel_rfl) (by kernel_rfl) (by kernel_rfl), TOk.of (by kernel_rfl) (by kernel_rfl) (by kernel_rfl) (by kernel_rfl), TOk.of (by kernel_rfl) (by kernel_rfl) (by kernel_rfl) (by kernel_rfl), TOk.of (by kernel_rfl) (by kernel_rfl) (by kernel_rfl) (by kernel_rfl), TOk.of (by kernel_rfl) (by kernel_rfl) (by kernel_rfl) (by kernel_rfl), TOk.of (by kernel_rfl) (by kernel_rfl) (by kernel_rfl) (by kernel_rfl), TOk.of (by kernel_rfl) (by kernel_rfl) (by kernel_rfl) (by kernel_rfl), TOk.of (by kernel_rfl) (by kernel_rfl) (by kernel_rfl) (by kernel_rfl), TOk.of (by kernel_rfl) (by kernel_rfl) (by kernel_rfl) (by kernel_rfl), TOk.of (by kernel_rfl) (by kernel_rfl) (by kernel_rfl) (by kernel_rfl), TOk.of (by kernel_rfl) (by kernel_rfl) (by kernel_rfl) (by kernel_rfl), TOk.of (by kernel_rfl) (by kernel_rfl) (by kernel_rfl) (by kernel_rfl), TOk.of (by kernel_rfl) (by kernel_rfl) (by kernel_rfl) (by kernel_rfl), TOk.of (by kernel_rfl) (by kernel_rfl) (by kernel_rfl) (by kernel_rfl), TOk.of (by kernel_rfl) (by kernel_rfl) (by kernel_rfl) (by kernel_rfl), TOk.of (by kernel_rfl) (by kernel_rfl) (by kernel_rfl) (by kernel_rfl), TOk.of (by kernel_rfl) (by kernel_rfl) (by kernel_rfl) (by kernel_rfl), TOk.of (by kernel_rfl) (by kernel_rfl) (by kernel_rfl) (by kernel_rfl), TOk.of (by kernel_rfl) (by kernel_rfl) (by kernel_rfl) (by kernel_rfl), TOk.of (by kernel_rfl) (by kernel_rfl) (by kernel_rfl) (by kernel_rfl), TOk.of (by kernel_rfl) (by kernel_rfl) (by kernel_rfl) (by kernel_rfl), TOk.of (by kernel_rfl) (by kernel_rfl) (by kernel_rfl) (by kernel_rfl), TOk.of (by kernel_rfl) (by kernel_rfl) (by kernel_rfl) (by kernel_rfl), TOk.of (by kernel_rfl) (by kernel_rfl) (by kernel_rfl) (by kernel_rfl), TOk.of (by kernel_rfl) (by kernel_rfl) (by kernel_rfl) (by kernel_rfl), TOk.of (by kernel_rfl) (by kernel_rfl) (by kernel_rfl) (by kernel_rfl), TOk.of (by kernel_rfl) (by kernel_rfl) (by kernel_rfl) (by kernel_rfl), TOk.of (by kernel_rfl) (by kernel_rfl) (by kernel_rfl) (by kernel_rfl), TOk.of (by kernel_rfl) (by kernel_rfl) (by kernel_rfl) (by kernel_rfl), TOk.of (by kernel_rfl) (by kernel_rfl) (by kernel_rfl) (by kernel_rfl), TOk.of (by kernel_rfl) (by kernel_rfl) (by kernel_rfl) (by kernel_rfl), TOk.of (by kernel_rfl) (by kernel_rfl) (by kernel_rfl) (by kernel_rfl), TOk.of (by kernel_rfl) (by kernel_rfl) (by kernel_rfl) (by kernel_rfl), TOk.of (by kernel_rfl) (by kernel_rfl) (by kernel_rfl) (by kernel_rfl), TOk.of (by kernel_rfl) (by kernel_rfl) (by kernel_rfl) (by kernel_rfl), TOk.of (by kernel_rfl) (by kernel_rfl) (by kernel_rfl) (by kernel_rfl), TOk.of (by kernel_rfl) (by kernel_rfl) (by kernel_rfl) (by kernel_rfl), TOk.of (by kernel_rfl) (by kernel_rfl) (by kernel_rfl) (by kernel_rfl), TOk.of (by kernel_rfl) (by kernel_rfl) (by kernel_rfl) (by kernel_rfl), TOk.of (by kernel_rfl) (by kernel_rfl) (by kernel_rfl) (by kernel_rfl), TOk.of (by kernel_rfl) (by kernel_rfl) (by kernel_rfl) (by kernel_rfl), TOk.of (by kernel_rfl) (by kernel_rfl) (by kernel_rfl) (by kernel_rfl), trivial⟩
theorem zad (nt : Nat) (ann : Nat → Bool × Md) (fz : Nat → Bool) (cl : Nat → Option (Nat × Nat)) (gr mkd : Bool) (tw : Nat → Option (Nat × Nat × Nat)) (clos : Nat → Option Ty) : TabOk Tryz.prog X0 ⟨tab0, nt, ann, fz, cl, gr, mkd, tw, eqs0, mps0, clos⟩   := ⟨sz_no0, fun t ti h => zmh toks0 t ti h, fun t ti h ht => eqsL_ok eqsOk0 t ti h ht, fun t k v h => mpsL_ok mpsOk0 t k v h⟩
theorem mixed : Tryz.prog.follows .mixedOrders = true := by kernel_rfl
def w64 (n : Int) : Int := IntKind.i64.wrap n
def rdI (xs : List Int) (i : Int) : Int := rd (X := X0) yI xs i
def zeroI : Int := zeroD X0 yI
def zaH (xs : List (Int × (Int × (Int × Int)))) (i : Int) : (Int × (Int × (Int × Int))) := rd (X := X0) yCell xs i
def zeroCell : (Int × (Int × (Int × Int))) := zeroD X0 yCell
def zeroCells : (List (Int × (Int × (Int × Int)))) := zeroD X0 zcJ
def zaG (xs : List PlanT) (i : Int) : PlanT := rd (X := X0) yPlan xs i
def zgl : PlanT := zeroD X0 yPlan
def zah (xs : List ((List Int) × Int)) (i : Int) : ((List Int) × Int) := rd (X := X0) yItem xs i
def zaK : ((List Int) × Int) := zeroD X0 yItem
def rdRun (xs : List (List ((List Int) × Int))) (i : Int) : (List ((List Int) × Int)) := rd (X := X0) yRun xs i
def zeroRun : (List ((List Int) × Int)) := zeroD X0 yRun
def zoL : (List (List ((List Int) × Int))) := zeroD X0 zdn
def zbl (xs : List FlowT) (i : Int) : FlowT := rd (X := X0) yFlow xs i
def zkc : FlowT := zeroD X0 yFlow
def zhg : IV := zeroD X0 yIfc
def zaN (xs : List (Int × (List ((List Int) × Int)))) (i : Int) : (Int × (List ((List Int) × Int))) := rd (X := X0) yPast xs i
def zeroPast : (Int × (List ((List Int) × Int))) := zeroD X0 yPast
def zbk (xs : List (FlowT × (Int × ((List ((List Int) × Int)) × (List (Int × (List ((List Int) × Int)))))))) (i : Int) : (FlowT × (Int × ((List ((List Int) × Int)) × (List (Int × (List ((List Int) × Int))))))) := rd (X := X0) yView xs i
def zmg : (FlowT × (Int × ((List ((List Int) × Int)) × (List (Int × (List ((List Int) × Int))))))) := zeroD X0 yView
end
end Go.Proofs.YtmbnalaiobhaaaaGreat.E
namespace Go.Proofs.YtmbnalaiobhaaaaGreat.E
noncomputable section
open Go
theorem PlanT.dep_eq' (x : PlanT) : x.dep = PlanT.deps x.c9 + 1 := by cases x; rfl
theorem PlanT.cnt_eq (x : PlanT) : x.cnt = PlanT.cnts x.c9 + 1 := by cases x; rfl
theorem PlanT.deps_cons (p : PlanT) (l : List PlanT) : PlanT.deps (p :: l) = max p.dep (PlanT.deps l) := rfl
theorem PlanT.cnts_cons (p : PlanT) (l : List PlanT) : PlanT.cnts (p :: l) = p.cnt + PlanT.cnts l := rfl
theorem PlanT.deps_nil : PlanT.deps [] = 0 := rfl
theorem PlanT.cnts_nil : PlanT.cnts [] = 0 := rfl
structure Laid (w w' : World) (o : Obj) : Prop where
  new : w'.heap[w.heap.size]? = some o
  size : w'.heap.size = w.heap.size + 1
  old : ∀ b, b < w.heap.size → w'.heap[b]? = w.heap[b]?
  io : Io w w'
theorem Laid.alloc (w : World) (o : Obj) : Laid w (w.alloc o) o := ⟨zlZ w o, by simp, fun b hb => zlY w o hb, rfl, rfl⟩
structure Wrote (w w' : World) (b : Nat) (o : Obj) : Prop where
  at_ : w'.heap[b]? = some o
  size : w'.heap.size = w.heap.size
  other : ∀ b', b' ≠ b → w'.heap[b']? = w.heap[b']?
  io : Io w w'
theorem Wrote.setCell {w : World} {b : Nat} {v0 v : Value} {t : TypeId} (h : w.heap[b]? = some (.cells #[v0] t (0, 0))) : Wrote w (w.setCell ⟨b, 0, none⟩ v) b (.cells #[v] t (0, 0)) := by
  refine ⟨?_, by simp [World.setCell], fun b' hb => set_other hb, rfl, rfl⟩
  simp [World.setCell, Array.getElem?_modify, h]
theorem cell1 {w : World} {b : Nat} {v : Value} {t : TypeId} (h : w.heap[b]? = some (.cells #[v] t (0, 0))) : w.cell? ⟨b, 0, none⟩ = some v := by simp [World.cell?, h]
theorem cellL {w : World} {b j : Nat} {cs : List Value} {v : Value} {t : TypeId} (h : w.heap[b]? = some (.cells cs.toArray t (0, 0))) (hj : cs[j]? = some v) : w.cell? ⟨b, j, none⟩ = some v := by simp [World.cell?, h, hj]
section
variable {X : Ext} {w : World} {S : Nat → Option Nat} {m : Md}
theorem Rd.unnamed {i : Nat} {x : X.T i} {v : List Value} {f : List Nat} (h : Rd X w S m (.named i) x v f) : Rd X w S m (X.body i) (X.out i x) v f := by cases h with | named _ _ _ _ _ h => exact h
theorem Rd.unst {a : Ty} {x : D X.T a} {v : List Value} {f : List Nat} (h : Rd X w S m (.st a) x v f) : Rd X w S m a x v f := by cases h with | st _ _ _ _ _ h => exact h
theorem Rd.unpair {a b : Ty} {x : D X.T a × D X.T b} {v : List Value} (h : Rd X w S m (.pair a b) x v []) : ∃ va vb, v = va ++ vb ∧ va.length = a.cells X.sz ∧ Rd X w S m a x.1 va [] ∧ Rd X w S m b x.2 vb [] := by
  have key : ∀ us f, Rd X w S m (.pair a b) x us f → f = [] → ∃ va vb, us = va ++ vb ∧ va.length = a.cells X.sz ∧ Rd X w S m a x.1 va [] ∧ Rd X w S m b x.2 vb [] := by
    intro us f h hf
    cases h with
    | pair _ _ _ _ _ va vb fa fb ha hb =>
    obtain ⟨h1, h2⟩ := List.append_eq_nil_iff.1 hf
    subst h1 h2
    exact ⟨va, vb, rfl, ha.length, ha, hb⟩
  exact key _ _ h rfl
theorem Rd.one {t : Ty} {x : D X.T t} {v : List Value} {f : List Nat} (h : Rd X w S m t x v f) (h1 : t.cells X.sz = 1) : ∃ u, v = [u] := by
  have := h.length
  rw [h1] at this
  match v, this with
  | [u], _ => exact ⟨u, rfl⟩
theorem row_cells (hd : m.hd = .st) {e : Ty} {ks : List (D X.T e)} {v : Value} (h : Rd X w S m (.sl e) ks [v] []) : ∃ (A : Option Addr) (cap : Nat) (vss : Nat → List Value), v = .slice A ks.length cap ∧
    ∀ i k, ks[i]? = some k → ∃ b off, A = some ⟨b, off, none⟩ ∧ S b ≠ none ∧ Rd X w S m.tl e k (vss i) [] ∧ ∀ j u, (vss i)[j]? = some u → w.cell? ⟨b, off + i * e.cells X.sz + j, none⟩ = some u := by
  have key : ∀ us f, Rd X w S m (.sl e) ks us f → us = [v] → ∃ (A : Option Addr) (cap : Nat) (vss : Nat → List Value), v = .slice A ks.length cap ∧
    ∀ i k, ks[i]? = some k → ∃ b off, A = some ⟨b, off, none⟩ ∧ S b ≠ none ∧ Rd X w S m.tl e k (vss i) [] ∧ ∀ j u, (vss i)[j]? = some u → w.cell? ⟨b, off + i * e.cells X.sz + j, none⟩ = some u := by
    intro us f h hu
    cases h with
    | nil _ _ A _ =>
      cases hu
      exact ⟨A, 0, fun _ => [], rfl, fun i k hk => by simp at hk⟩
    | sl _ _ _ b off cap ext vss hmm hs hext htag hcap hel hc htc =>
      cases hu
      refine ⟨some ⟨b, off, none⟩, cap, vss, rfl, fun i k hk => ⟨b, off, rfl, by rw [hs]; simp, hel i k hk, fun j u hj => hc i j u ?_ hj⟩⟩
      exact (List.getElem?_eq_some_iff.1 hk).1
    | own _ _ _ b cap arr tt vss fps hm => rw [hd] at hm; cases hm
  exact key _ _ h rfl
end
section
variable {F : Fence} {n : Nat} {P : Program} {ops : Array Oper} {Q : Exit → Act → World → Prop} {a : Act} {w : World} {rest : List Oper} {o : Oper}
theorem zgm (hg : o.guard = none) {v : Value} {w' : World} (hd : ∀ c, o.op ≠ .defer c) (hab : o.about P w a.eval = none) (hr : (execOp a.eval o).run P w = .ok (.value v) w') (hK : wpListIn F n P ops Q rest (a.put o.dst v) w') :
    wpListIn F n P ops Q (o :: rest) a w := by
  refine wpListIn_plain hg fun K hK' => ⟨fun f hf => (by rw [hab] at hf; cases hf), ?_⟩
  rw [Oper.semAt_eq _ _ _ hd, hr]
  exact hK' _ _ hK
theorem zgn (hg : o.guard = none) {w' : World} (hd : ∀ c, o.op ≠ .defer c) (hab : o.about P w a.eval = none) (hr : (execOp a.eval o).run P w = .ok .skip w') (hK : wpListIn F n P ops Q rest (a.put o.dst undef) w') :
    wpListIn F n P ops Q (o :: rest) a w := by
  refine wpListIn_plain hg fun K hK' => ⟨fun f hf => (by rw [hab] at hf; cases hf), ?_⟩
  rw [Oper.semAt_eq _ _ _ hd, hr]
  exact hK' _ _ hK
theorem zdo {X : Ext} {t : TypeId} {ti : TI} (hT : TOk P X t ti) (hg : o.guard = none) (x : Operand) (hop : o.op = .load t x) (hagg : ti.agg = true) {b off : Nat} {cs : List Value} (hx : a.eval x = .pointer (some ⟨b, off, none⟩))
    (hl : cs.length = ti.ty.cells X.sz) (hc : ∀ j v, cs[j]? = some v → w.cell? ⟨b, off + j, none⟩ = some v) (hK : wpListIn F n P ops Q rest (a.put o.dst (.agg cs.toArray)) w) : wpListIn F n P ops Q (o :: rest) a w := by
  obtain ⟨v, hr, rfl⟩ := zhR (w := w) hT hl hc
  rw [hagg] at hr
  refine zgm hg (by simp [hop]) (by simp [Oper.about, hop]) (v := .agg cs.toArray) (w' := w) ?_ hK
  simp only [execOp, hop, hx, Sem.run_bind, hr, Result.andThen_ok, if_true, Sem.run_pure]
theorem zqT {X : Ext} {t : TypeId} {ti : TI} (hT : TOk P X t ti) (hg : o.guard = none) (hop : o.op = .alloc t)
    (hK : ∀ (zs : List Value) (w' : World), zs.length = ti.ty.cells X.sz → Laid w w' (.cells zs.toArray t) → wpListIn F n P ops Q rest (a.put o.dst (.pointer (some ⟨w.heap.size, 0, none⟩))) w') : wpListIn F n P ops Q (o :: rest) a w := by
  obtain ⟨i, z, hi, hs, hz, hzc, _⟩ := hT.info
  have hzl : (z.cells.toList).length = ti.ty.cells X.sz := by rw [hzc, hT.zlen]
  refine zgm hg (by simp [hop]) (by simp [Oper.about, hop]) (v := .pointer (some ⟨w.heap.size, 0, none⟩)) (w' := w.alloc (.cells z.cells t)) ?_ (by simpa using hK z.cells.toList _ hzl (Laid.alloc w _))
  simp only [execOp, hop, Instr.alloc, newVar, Go.newRow, Sem.run_bind, r_zero hi hz, Result.andThen_ok, Sem.run_pure, run_newObj_alloc]
theorem zhM (hg : o.guard = none) (t : TypeId) (x : Operand) (hop : o.op = .box t x) {cs : List Value} (hx : a.eval x = .agg cs.toArray)
    (hK : ∀ w', Laid w w' (.cells cs.toArray t) → wpListIn F n P ops Q rest (a.put o.dst (.pointer (some ⟨w.heap.size, 0, none⟩))) w') : wpListIn F n P ops Q (o :: rest) a w := by
  have hK := hK _ (Laid.alloc w _)
  refine zgm hg (by simp [hop]) (by simp [Oper.about, hop]) (v := .pointer (some ⟨w.heap.size, 0, none⟩)) (w' := w.alloc (.cells cs.toArray t)) ?_ hK
  simp only [execOp, hop, hx, Instr.box, newVar, Go.newRow, Value.cells, Sem.run_bind, Result.andThen_ok, Sem.run_pure, run_newObj_alloc]
theorem zpu {α : Type} (ls s : List α) (h : s.length = ls.length) : setSeg ls 0 s = s := by
  simp [setSeg, h]
theorem zqS {X : Ext} {t : TypeId} {ti : TI} (hT : TOk P X t ti) (hg : o.guard = none) (x y : Operand) (hop : o.op = .store t x y) {b : Nat} {cs zs : List Value} {tt : TypeId} (hx : a.eval x = .pointer (some ⟨b, 0, none⟩)) (hy : a.eval y = .agg cs.toArray)
    (hb : w.heap[b]? = some (.cells zs.toArray tt (0, 0))) (hz : zs.length = ti.ty.cells X.sz) (hl : cs.length = ti.ty.cells X.sz) (h1 : ∀ u ∈ cs, OneC u)
    (hK : ∀ w' : World, Wrote w w' b (.cells cs.toArray tt) → wpListIn F n P ops Q rest (a.put o.dst undef) w') : wpListIn F n P ops Q (o :: rest) a w := by
  obtain ⟨w', hr, h2, h3, h4, h5⟩ := zjd (P := P) (X := X) (v := .agg cs.toArray) (off := 0) hT (show Blk w b zs tt from hb) (by simpa [Value.cells] using hl) (by simp [Value.cells, hl, hz]) (by simpa [Value.cells] using h1)
  have h2' : w'.heap[b]? = some (.cells cs.toArray tt (0, 0)) := by
    have : Blk w' b (setSeg zs 0 cs) tt := by simpa [Value.cells] using h2
    rw [zpu _ _ (by rw [hl, hz])] at this
    exact this
  refine zgn hg (by simp [hop]) (by simp [Oper.about, hop]) (w' := w') ?_ (hK w' ⟨h2', h3, h4, h5⟩)
  simp only [execOp, hop, hx, hy, Sem.run_bind, hr, Result.andThen_ok, Sem.run_pure]
theorem zdS {X : Ext} {t : TypeId} {ti : TI} (hT : TOk P X t ti) (hg : o.guard = none) (x y : Operand) (hop : o.op = .store t x y) (hagg : ti.agg = false) {b : Nat} {v v0 : Value} {tt : TypeId} (hx : a.eval x = .pointer (some ⟨b, 0, none⟩)) (hy : a.eval y = v)
    (hb : w.heap[b]? = some (.cells #[v0] tt (0, 0))) (h1 : OneC v) (hK : ∀ w' : World, Wrote w w' b (.cells #[v] tt) → wpListIn F n P ops Q rest (a.put o.dst undef) w') : wpListIn F n P ops Q (o :: rest) a w := by
  have hl := hT.one hagg
  have hv := h1.cells
  obtain ⟨w', hr, h2, h3, h4, h5⟩ := zjd (P := P) (X := X) (v := v) (off := 0) hT (show Blk w b [v0] tt from hb) (by simp [hv, hl]) (by simp [hv]) (by simpa [hv] using h1)
  have h2' : w'.heap[b]? = some (.cells #[v] tt (0, 0)) := by
    have : Blk w' b (setSeg [v0] 0 [v]) tt := by simpa [hv] using h2
    rw [zpu [v0] [v] rfl] at this
    exact this
  refine zgn hg (by simp [hop]) (by simp [Oper.about, hop]) (w' := w') ?_ (hK w' ⟨h2', h3, h4, h5⟩)
  simp only [execOp, hop, hx, hy, Sem.run_bind, hr, Result.andThen_ok, Sem.run_pure]
theorem zoV {t : TypeId} (hs : (P.info? t).map (·.size) = some 1) (hg : o.guard = none) (x y : Operand) (hop : o.op = .store t x y) {b : Nat} {v v0 : Value} {tt : TypeId} (hx : a.eval x = .pointer (some ⟨b, 0, none⟩)) (hy : a.eval y = v)
    (hb : w.heap[b]? = some (.cells #[v0] tt (0, 0))) (h1 : OneC v) (hK : ∀ w' : World, Wrote w w' b (.cells #[v] tt) → wpListIn F n P ops Q rest (a.put o.dst undef) w') : wpListIn F n P ops Q (o :: rest) a w := by
  have hv := h1.cells
  obtain ⟨i, hi, hs⟩ := Option.map_eq_some_iff.1 hs
  obtain ⟨w', e1, e2, e3, e4, e5⟩ := zdq (P := P) (b := b) (tt := tt) 0 [v] 0 w [v0] hb (by simp) (by simpa using h1)
  have h2' : w'.heap[b]? = some (.cells #[v] tt (0, 0)) := by
    have : Blk w' b (setSeg [v0] 0 [v]) tt := by simpa using e2
    rw [zpu [v0] [v] rfl] at this
    exact this
  have hr : (Instr.storeAt t (.pointer (some ⟨b, 0, none⟩)) v).run P w = .ok () w' := by
    simp only [Instr.storeAt, Instr.sureAddr, storeVar, Sem.run_bind, Sem.run_pure, Result.andThen_ok, zhE hi]
    simp [hs, hv, e1]
  refine zgn hg (by simp [hop]) (by simp [Oper.about, hop]) (w' := w') ?_ (hK w' ⟨h2', e3, e4, e5⟩)
  simp only [execOp, hop, hx, hy, Sem.run_bind, hr, Result.andThen_ok, Sem.run_pure]
end
theorem zkQ {p : PlanT} {cs : List Value} {w : World} {S : Nat → Option Nat} (h : Rd X0 w S mS yPlan p cs []) : cs.length = 19 ∧ (∀ u ∈ cs, OneC u) ∧ ∃ v, cs[18]? = some v ∧ Rd X0 w S mS zev p.c9 [v] [] := by
  refine ⟨by simpa [Ty.cells] using h.length, h.oneC, ?_⟩
  obtain ⟨v0, r0, rfl, l0, _, h⟩ := (Rd.unnamed (X := X0) h).unst.unpair
  obtain ⟨v1, r1, rfl, l1, _, h⟩ := h.unpair
  obtain ⟨v2, r2, rfl, l2, _, h⟩ := h.unpair
  obtain ⟨v3, r3, rfl, l3, _, h⟩ := h.unpair
  obtain ⟨v4, r4, rfl, l4, _, h⟩ := h.unpair
  obtain ⟨v5, r5, rfl, l5, _, h⟩ := h.unpair
  obtain ⟨v6, r6, rfl, l6, _, h⟩ := h.unpair
  obtain ⟨v7, r7, rfl, l7, _, h⟩ := h.unpair
  obtain ⟨v8, r8, rfl, l8, _, h⟩ := h.unpair
  obtain ⟨v, rfl⟩ := h.one rfl
  refine ⟨v, ?_, h⟩
  simp only [Ty.cells] at l0 l1 l2 l3 l4 l5 l6 l7 l8
  simp [l0, l1, l2, l3, l4, l5, l6, l7, l8]
theorem tokInt : TOk Tryz.prog X0 3 ⟨yI, false, false, 0, []⟩ := zmh toks0 _ _ (by kernel_rfl)
theorem tokBool : TOk Tryz.prog X0 4 ⟨yBo, false, false, 0, []⟩ := zmh toks0 _ _ (by kernel_rfl)
theorem zoX : TOk Tryz.prog X0 38 ⟨yPlan, true, false, 0, [(0, 1), (1, 1), (2, 10), (12, 1), (13, 1), (14, 1), (15, 1), (16, 1), (17, 1), (18, 1)]⟩ := zmh toks0 _ _ (by kernel_rfl)
end
end Go.Proofs.YtmbnalaiobhaaaaGreat.E
namespace Go.Proofs.YtmbnalaiobhaaaaGreat.E
noncomputable section
open Go Go.RowKit Go.Lib
attribute [local go_sem] Oper.semAt_some
structure Go1 (w0 : World) (rec : LoopState → Option Code → Loop) (a m : Nat) (W : World) : Prop where
  old : ∀ b, b < w0.heap.size → W.heap[b]? = w0.heap[b]?
  size : w0.heap.size + 9 ≤ W.heap.size
  io : Io w0 W
  ok : W.heap[w0.heap.size + 1]? = some (.cells #[.bool false] 4 (0, 0))
  many : W.heap[w0.heap.size + 2]? = some (.cells #[.int .i64 a] 3 (0, 0))
  dfr : W.heap[w0.heap.size + 4]? = some (.deferred (some []))
  l : W.heap[w0.heap.size + 5]? = some (.loop (rec .ready none))
  Y : ∃ t, W.heap[w0.heap.size + 6]? = some (.cells #[.func (.yield (w0.heap.size + 5)) #[] #[]] t (0, 0))
  M : W.heap[w0.heap.size + 7]? = some (.cells #[.int .i64 m] 3 (0, 0))
  K : ∃ t, W.heap[w0.heap.size + 8]? = some (.cells #[.func (.func 183) #[] #[.pointer (some ⟨w0.heap.size + 7, 0, none⟩), .pointer (some ⟨w0.heap.size + 6, 0, none⟩), .pointer (some ⟨w0.heap.size + 8, 0, none⟩)]] t (0, 0))
structure Left1 (w0 : World) (rec : LoopState → Option Code → Loop) (W : World) : Prop where
  old : ∀ b, b < w0.heap.size → W.heap[b]? = w0.heap[b]?
  size : w0.heap.size + 9 ≤ W.heap.size
  io : Io w0 W
  ok : W.heap[w0.heap.size + 1]? = some (.cells #[.bool false] 4 (0, 0))
  dfr : W.heap[w0.heap.size + 4]? = some (.deferred (some []))
  l : W.heap[w0.heap.size + 5]? = some (.loop (rec .done (some .ret)))
theorem Io.trans' {a b c : World} (h : Io a b) (h' : Io b c) : Io a c := ⟨h'.1.trans h.1, h'.2.trans h.2⟩
theorem Go1.laid {w0 : World} {rec : LoopState → Option Code → Loop} {a m : Nat} {W W' : World} {o : Obj} (h : Go1 w0 rec a m W) (hl : Laid W W' o) : Go1 w0 rec a m W' := by
  have e : ∀ b, b < w0.heap.size + 9 → W'.heap[b]? = W.heap[b]? := fun b hb => hl.old b (Nat.lt_of_lt_of_le hb h.size)
  obtain ⟨tY, hY⟩ := h.Y
  obtain ⟨tK, hK⟩ := h.K
  exact ⟨fun b hb => (e b (by omega)).trans (h.old b hb), by rw [hl.size]; exact Nat.le_succ_of_le h.size, h.io.trans' hl.io, (e _ (by omega)).trans h.ok, (e _ (by omega)).trans h.many, (e _ (by omega)).trans h.dfr, (e _ (by omega)).trans h.l,
    ⟨tY, (e _ (by omega)).trans hY⟩, (e _ (by omega)).trans h.M, ⟨tK, (e _ (by omega)).trans hK⟩⟩
theorem Go1.wrote {w0 : World} {rec : LoopState → Option Code → Loop} {a m : Nat} {W W' : World} {b0 : Nat} {o : Obj} (h : Go1 w0 rec a m W) (hl : Wrote W W' b0 o) (hb : w0.heap.size + 9 ≤ b0) : Go1 w0 rec a m W' := by
  have e : ∀ b, b < w0.heap.size + 9 → W'.heap[b]? = W.heap[b]? := fun b hb => hl.other b (by omega)
  obtain ⟨tY, hY⟩ := h.Y
  obtain ⟨tK, hK⟩ := h.K
  exact ⟨fun b hb => (e b (by omega)).trans (h.old b hb), by rw [hl.size]; exact h.size, h.io.trans' hl.io, (e _ (by omega)).trans h.ok, (e _ (by omega)).trans h.many, (e _ (by omega)).trans h.dfr, (e _ (by omega)).trans h.l,
    ⟨tY, (e _ (by omega)).trans hY⟩, (e _ (by omega)).trans h.M, ⟨tK, (e _ (by omega)).trans hK⟩⟩
theorem Go1.wroteM {w0 : World} {rec : LoopState → Option Code → Loop} {a m m' : Nat} {W W' : World} (h : Go1 w0 rec a m W) (hl : Wrote W W' (w0.heap.size + 7) (.cells #[.int .i64 m'] 3 (0, 0))) : Go1 w0 rec a m' W' := by
  have e : ∀ b, b ≠ w0.heap.size + 7 → W'.heap[b]? = W.heap[b]? := fun b hb => hl.other b hb
  obtain ⟨tY, hY⟩ := h.Y
  obtain ⟨tK, hK⟩ := h.K
  exact ⟨fun b hb => (e b (by omega)).trans (h.old b hb), by rw [hl.size]; exact h.size, h.io.trans' hl.io, (e _ (by omega)).trans h.ok, (e _ (by omega)).trans h.many, (e _ (by omega)).trans h.dfr, (e _ (by omega)).trans h.l,
    ⟨tY, (e _ (by omega)).trans hY⟩, hl.at_, ⟨tK, (e _ (by omega)).trans hK⟩⟩
theorem Go1.rd {w0 W : World} {rec : LoopState → Option Code → Loop} {a m : Nat} (h : Go1 w0 rec a m W) {S : Nat → Option Nat} (hS : ∀ b, S b ≠ none → b < w0.heap.size) {md : Md} {t : Ty} {x : D X0.T t} {v : List Value} (hr : Rd X0 w0 S md t x v []) : Rd X0 W S md t x v [] :=
  hr.frameW (fun b c hb => .strong hb (h.old b (hS b (by rw [hb]; simp)))) (by simp) (by simp)
theorem Go1.cell {w0 W : World} {rec : LoopState → Option Code → Loop} {a m : Nat} (h : Go1 w0 rec a m W) {p : Addr} (hp : p.block < w0.heap.size) : W.cell? p = w0.cell? p := by
  simp only [World.cell?, h.old _ hp]
def Round1 (w0 : World) (rec : LoopState → Option Code → Loop) : Prop :=
  ∀ (k a d m : Nat) (pv : Value) (W : World), a ≤ 10 → d ≤ 6 → Go1 w0 rec a m W → YieldAt Fence.wide k Tryz.prog (w0.heap.size + 5) #[.int .i64 d, pv] W fun e W' =>
    W'.heap.size = W.heap.size ∧ (∀ b, b ≠ w0.heap.size + 1 → b ≠ w0.heap.size + 2 → b ≠ w0.heap.size + 5 → W'.heap[b]? = W.heap[b]?) ∧
    ((e = .returned (.bool true) ∧ (a + 1 ≤ 10 ∧ d < 6) ∧ Go1 w0 rec (a + 1) m W') ∨ (e = .returned (.bool false) ∧ ¬ (a + 1 ≤ 10 ∧ d < 6) ∧ Left1 w0 rec W'))
def WalkP (w0 : World) (rec : LoopState → Option Code → Loop) (a d : Nat) (p : PlanT) (e : Ending) (W' : World) : Prop :=
  (e = .returned (.bool true) ∧ (a + p.cnt ≤ 10 ∧ d + p.dep ≤ 6) ∧ Go1 w0 rec (a + p.cnt) (a + p.cnt) W') ∨ (e = .returned (.bool false) ∧ ¬ (a + p.cnt ≤ 10 ∧ d + p.dep ≤ 6) ∧ Left1 w0 rec W')
def WalkOk (w0 : World) (rec : LoopState → Option Code → Loop) (S : Nat → Option Nat) (p : PlanT) : Prop :=
  ∀ (a d : Nat) (cs : List Value) (W : World), a ≤ 10 → d ≤ 6 → Go1 w0 rec a a W → Rd X0 w0 S mS yPlan p cs [] →
    Calls Tryz.prog 183 #[.agg cs.toArray, .int .i64 d, .pointer (some ⟨w0.heap.size + 7, 0, none⟩), .pointer (some ⟨w0.heap.size + 6, 0, none⟩), .pointer (some ⟨w0.heap.size + 8, 0, none⟩)] W (WalkP w0 rec a d p)
theorem PlanT.cnt_pos (p : PlanT) : 1 ≤ p.cnt ∧ 1 ≤ p.dep := by rw [p.cnt_eq, p.dep_eq']; omega
theorem wr1 {a : Nat} (h : a ≤ 10) : wrap64 ((a : Int) + 1) = ((a + 1 : Nat) : Int) := by unfold wrap64; omega
structure LoopI (w0 : World) (rec : LoopState → Option Code → Loop) (a1 d : Nat) (l : List PlanT) (wr : World) : Prop where
  cnt : a1 + PlanT.cnts l ≤ 10
  dep : d + 1 + PlanT.deps l ≤ 6
  go : Go1 w0 rec (a1 + PlanT.cnts l) (a1 + PlanT.cnts l) wr
theorem PlanT.cnts_snoc (l : List PlanT) (k : PlanT) : PlanT.cnts (l ++ [k]) = PlanT.cnts l + k.cnt := by
  induction l with
  | nil => simp [PlanT.cnts_cons, PlanT.cnts_nil]
  | cons q l ih => simp only [List.cons_append, PlanT.cnts_cons, ih]; omega
theorem PlanT.deps_snoc (l : List PlanT) (k : PlanT) : PlanT.deps (l ++ [k]) = max (PlanT.deps l) k.dep := by
  induction l with
  | nil => simp [PlanT.deps_cons, PlanT.deps_nil]
  | cons q l ih => simp only [List.cons_append, PlanT.deps_cons, ih]; omega
theorem PlanT.len_le (l : List PlanT) : l.length ≤ PlanT.cnts l := by
  induction l with
  | nil => simp
  | cons q l ih => have := q.cnt_pos; simp only [List.length_cons, PlanT.cnts_cons]; omega
theorem zoM {α : Type} {l : List α} {i : Nat} {k : α} (h : l[i]? = some k) : l.take (i + 1) = l.take i ++ [k] := by
  rw [List.take_add_one, h]; rfl
theorem PlanT.cnts_mem (l : List PlanT) (i : Nat) (k : PlanT) (h : l[i]? = some k) : PlanT.cnts (l.take i) + k.cnt ≤ PlanT.cnts l ∧ PlanT.deps (l.take i) ≤ PlanT.deps l ∧ k.dep ≤ PlanT.deps l := by
  have h1 := l.take_append_drop (i + 1)
  have h2 : ∀ (q r : List PlanT), PlanT.cnts (q ++ r) = PlanT.cnts q + PlanT.cnts r ∧ PlanT.deps (q ++ r) = max (PlanT.deps q) (PlanT.deps r) := by
    intro q r
    induction q with
    | nil => simp [PlanT.cnts_nil, PlanT.deps_nil]
    | cons x q ih => simp only [List.cons_append, PlanT.cnts_cons, PlanT.deps_cons, ih.1, ih.2]; omega
  have h3 := h2 (l.take (i + 1)) (l.drop (i + 1))
  rw [h1, zoM h, PlanT.cnts_snoc, PlanT.deps_snoc] at h3
  omega
set_option maxRecDepth 100000 in
set_option maxHeartbeats 4000000 in
theorem walk_step {w0 : World} {rec : LoopState → Option Code → Loop} {S : Nat → Option Nat} (hS : ∀ b, S b ≠ none → b < w0.heap.size) (hR : Round1 w0 rec) (p : PlanT) (ih : ∀ k ∈ p.c9, WalkOk w0 rec S k) : WalkOk w0 rec S p := by
  intro a d cs W ha hd hg hp
  obtain ⟨hcl, hco, kv, hkv, hks⟩ := zkQ hp
  obtain ⟨A, cap, vss, rfl, hkid⟩ := row_cells rfl hks
  have hkid' : Aside _ := hkid
  have hkv' : Aside _ := hkv
  clear hkid hkv
  have hR' : Aside (Round1 w0 rec) := hR
  have ih' : Aside (∀ k ∈ p.c9, WalkOk w0 rec S k) := ih
  have hg' : Aside (Go1 w0 rec a a W) := hg
  have hp' : Aside (Rd X0 w0 S mS yPlan p cs []) := hp
  have hS' : Aside (∀ b, S b ≠ none → b < w0.heap.size) := hS
  have hco' : Aside (∀ u ∈ cs, OneC u) := hco
  have hcl' : Aside (cs.length = 19) := hcl
  clear hR ih hg hp hks hS hco hcl
  refine (callsIn_wide (n := 3)).1 ?_
  refine callsIn_of_wp Tryz.func183 rfl trivial ?_
  simp only [Tryz.ntmps183, List.size_toArray, List.length_cons, List.length_nil, Nat.reduceAdd, Nat.reduceSub, Array.replicate_succ, Array.replicate_zero, List.push_toArray, List.append_toArray, List.nil_append, List.cons_append]
  obtain ⟨a1, ha1⟩ : ∃ a1, a1 = a + 1 := ⟨_, rfl⟩
  have hw1 : wrap64 ((a : Int) + 1) = (a1 : Int) := by rw [ha1]; exact wr1 ha
  have hcM := cell1 (hg'.out.laid (Laid.alloc W (.cells cs.toArray 38))).M
  clear hcM
  have ha1' : Aside (a1 = a + 1) := ha1
  clear ha1
  gi_wp2_with (first
    | (refine zhM rfl _ _ rfl rfl fun W1 hW1 => ?_; have g1 : Aside _ := hg'.out.laid hW1; have hB1 : Aside _ := hW1.new; have hz1 : Aside _ := hW1.size; clear hW1; have hcM := cell1 g1.out.M)
    | (refine zdS tokInt rfl _ _ rfl rfl rfl (congrArg (Value.int .i64) (show ((a : Int) + 1) = (a1 : Int) by have h := ha1'.out; omega)) g1.out.M (show OneC (.int .i64 _) from rfl) fun W2 hW2 => ?_; clear hcM; have g2 : Aside (Go1 w0 rec a a1 W2) := g1.out.wroteM hW2; have hB2 : Aside _ := (hW2.other W.heap.size (by have := hg'.out.size; omega)).trans hB1.out
       have hz2 : Aside (W2.heap.size = W.heap.size + 1) := hW2.size.trans hz1.out; clear hW2
       have hcM := cell1 g2.out.M; obtain ⟨tY, hcY⟩ := g2.out.Y; have hcY := cell1 hcY; obtain ⟨fn, tmps, assign, body, hy, hRd⟩ := hR'.out _ a d a1 (.agg cs.toArray) W2 ha hd g2.out)
    | (refine zdo zoX rfl _ rfl rfl rfl hcl'.out (fun j v hj => by rw [Nat.zero_add]; exact cellL hB2.out hj) ?_)
    | ((try refine ⟨(fun h => by cases h), ?_⟩); refine hRd.mono ?_; clear hRd hy hcM hcY; rintro e W3 ⟨hz3, hk3, hh⟩
       have hB3 : Aside (W3.heap[W.heap.size]? = _) := (hk3 W.heap.size (by have := hg'.out.size; omega) (by have := hg'.out.size; omega) (by have := hg'.out.size; omega)).trans hB2.out
       have hz3 : Aside (W3.heap.size = W.heap.size + 1) := hz3.trans hz2.out
       clear hk3
       have hh' : (e = .returned (.bool true) ∧ (a1 : Int) ≤ 10 ∧ (d : Int) < 6 ∧ W3.cell? ⟨w0.heap.size + 7, 0, none⟩ = some (.int .i64 a1) ∧ W3.cell? ⟨W.heap.size, 18, none⟩ = some (.slice A p.c9.length cap) ∧ Aside (Go1 w0 rec a1 a1 W3)) ∨
           (e = .returned (.bool false) ∧ Aside (¬ (a + 1 ≤ 10 ∧ d < 6)) ∧ Aside (Left1 w0 rec W3)) := by
         rcases hh with ⟨rfl, ⟨hc1, hc2⟩, g3⟩ | ⟨rfl, hc, l3⟩
         · exact .inl ⟨rfl, by have h := ha1'.out; omega, by omega, cell1 g3.M, cellL hB3.out hkv'.out, (by have h := ha1'.out; subst h; exact g3 : Go1 w0 rec a1 a1 W3)⟩
         · exact .inr ⟨rfl, hc, l3⟩
       clear hh
       rcases hh' with ⟨rfl, h10, h6, hcM, hcB, hg3⟩ | ⟨rfl, hc, hl3⟩))
  · clear hcM hcB
    have hI : Aside (LoopI w0 rec a1 d (p.c9.take 0) W3) := (⟨by have h := h10; simp [PlanT.cnts_nil]; omega, by simp [PlanT.deps_nil]; omega, by simpa [PlanT.cnts_nil] using hg3.out⟩ : LoopI w0 rec a1 d (p.c9.take 0) W3)
    gi_loopw [28] (fun v wr => ∃ i : Nat, i ≤ p.c9.length ∧ v = .int .i64 i ∧ Aside (LoopI w0 rec a1 d (p.c9.take i) wr)) (fun v _ => p.c9.length - (RowKit.intOf v).toNat)
    case atStart => exact ⟨0, Nat.zero_le _, rfl, hI⟩
    case round =>
      clear hI
      obtain ⟨i, hi, rfl, hI⟩ := hrel
      by_cases hlt : i < p.c9.length
      · have hltz : (i : Int) < (p.c9.length : Int) := by omega
        obtain ⟨k, hk⟩ : ∃ k, p.c9[i]? = some k := ⟨p.c9[i], by simp [hlt]⟩
        obtain ⟨b, off, had, hSb, hrk, hck⟩ := hkid'.out i k hk
        obtain ⟨hkl, hko, _⟩ := zkQ hrk
        have hbl : b < w0.heap.size := hS'.out b hSb
        have hck' : Aside (∀ W', Go1 w0 rec (a1 + PlanT.cnts (p.c9.take i)) (a1 + PlanT.cnts (p.c9.take i)) W' → ∀ j u, (vss i)[j]? = some u → W'.cell? ⟨b, off + i * 19 + j, none⟩ = some u) := (fun W' hW' j u hj => by
          rw [hW'.cell (by exact hbl)]; exact hck j u hj : ∀ W', Go1 w0 rec (a1 + PlanT.cnts (p.c9.take i)) (a1 + PlanT.cnts (p.c9.take i)) W' → ∀ j u, (vss i)[j]? = some u → W'.cell? ⟨b, off + i * 19 + j, none⟩ = some u)
        have hkl' : Aside ((vss i).length = 19) := hkl
        have hko' : Aside (∀ u ∈ vss i, OneC u) := hko
        have hrk' : Aside (Rd X0 w0 S mS yPlan k (vss i) []) := hrk
        have hk' : Aside (p.c9[i]? = some k) := hk
        clear hck hrk hkl hko hSb hk hbl
        subst had
        clear h6 h10
        have hi10 : (i : Int) ≤ 10 := by have h1 := PlanT.len_le (p.c9.take i); have h2 := hI.out.cnt; rw [List.length_take] at h1; omega
        have hd6 : (d : Int) ≤ 5 := by have := hI.out.dep; omega
        gi_wp2_with (first
          | (refine zdo zoX rfl _ rfl rfl rfl hkl'.out (hck'.out _ hI.out.go) ?_)
          | (refine zqT zoX rfl rfl fun zs W4 hzs hW4 => ?_; have hzs' : Aside _ := hzs; have hW4' : Aside _ := hW4; clear hzs hW4)
          | (refine zqS zoX rfl _ _ rfl rfl rfl hW4'.out.new hzs'.out hkl'.out hko'.out fun W5 hW5 => ?_
             have g5 : Aside (Go1 w0 rec (a1 + PlanT.cnts (p.c9.take i)) (a1 + PlanT.cnts (p.c9.take i)) W5) := (hI.out.go.laid hW4'.out).wrote hW5 hI.out.go.size
             have hB5 : Aside _ := hW5.at_
             clear hW5
             obtain ⟨tK, hcK⟩ := g5.out.K
             have hcK := cell1 hcK)
          | (refine zdo zoX rfl _ rfl rfl rfl hkl'.out (fun j v hj => by rw [Nat.zero_add]; exact cellL hB5.out hj) ?_)
          | (refine ⟨trivial, ?_⟩; gi_at_call 183; go_loud (refine (callsIn_wide.2 (ih'.out k (List.mem_of_getElem? hk'.out) (a1 + PlanT.cnts (p.c9.take i)) (d + 1) (vss i) W5 hI.out.cnt (by have := hI.out.dep; omega) g5.out hrk'.out)).mono ?_); rintro e W6 hp6
             clear hcK
             have hp7 : (e = .returned (.bool true) ∧ Aside (a1 + PlanT.cnts (p.c9.take i) + k.cnt ≤ 10 ∧ d + 1 + k.dep ≤ 6) ∧ Aside (Go1 w0 rec (a1 + PlanT.cnts (p.c9.take i) + k.cnt) (a1 + PlanT.cnts (p.c9.take i) + k.cnt) W6)) ∨
               (e = .returned (.bool false) ∧ Aside (¬ (a1 + PlanT.cnts (p.c9.take i) + k.cnt ≤ 10 ∧ d + 1 + k.dep ≤ 6)) ∧ Aside (Left1 w0 rec W6)) := hp6
             clear hp6
             rcases hp7 with ⟨rfl, hc6, g6⟩ | ⟨rfl, hc6, l6⟩))
        · go_roundw
          case rel =>
            refine ⟨i + 1, by omega, rfl, (⟨?_, ?_, ?_⟩ : LoopI w0 rec a1 d (p.c9.take (i + 1)) W6)⟩
            · rw [zoM hk'.out, PlanT.cnts_snoc]; have := hc6.out; omega
            · rw [zoM hk'.out, PlanT.deps_snoc]; have := hc6.out; have := hI.out.dep; omega
            · rw [zoM hk'.out, PlanT.cnts_snoc, ← Nat.add_assoc]; exact g6.out
          case measure =>
            simp [RowKit.intOf]
            omega
        · go_ret
          refine .inr ⟨rfl, ?_, l6.out⟩
          have h1 := PlanT.cnts_mem p.c9 i k hk'.out
          have h2 := hc6.out
          have h3 := ha1'.out
          rw [p.cnt_eq, p.dep_eq']
          omega
      · obtain rfl : i = p.c9.length := by omega
        clear hi
        have hltz : ¬ ((p.c9.length : Int) < (p.c9.length : Int)) := by omega
        gi_wp2
        go_ret
        rw [List.take_length] at hI
        have h1 := hI.out.cnt
        have h2 := hI.out.dep
        have h3 := ha1'.out
        refine .inl ⟨rfl, ?_, ?_⟩
        · rw [p.cnt_eq, p.dep_eq']; omega
        · have e : a + p.cnt = a1 + PlanT.cnts p.c9 := by rw [p.cnt_eq]; omega
          rw [e]
          exact hI.out.go
  · go_ret
    refine .inr ⟨rfl, ?_, hl3.out⟩
    have h1 := p.cnt_pos
    have h2 := hc.out
    rw [p.cnt_eq, p.dep_eq']
    omega
theorem walk_ok {w0 : World} {rec : LoopState → Option Code → Loop} {S : Nat → Option Nat} (hS : ∀ b, S b ≠ none → b < w0.heap.size) (hR : Round1 w0 rec) : ∀ (n : Nat) (p : PlanT), p.dep ≤ n → WalkOk w0 rec S p
  | 0, p, h => by have := p.cnt_pos; omega
  | n + 1, p, h => walk_step hS hR p fun k hk => walk_ok hS hR n k (by
      obtain ⟨i, hi⟩ := List.mem_iff_getElem?.1 hk
      have := (PlanT.cnts_mem p.c9 i k hi).2.2
      rw [p.dep_eq'] at h
      omega)
end
end Go.Proofs.YtmbnalaiobhaaaaGreat.E
namespace Go.Proofs.YtmbnalaiobhaaaaGreat.E
noncomputable section
open Go
variable {O : World}
def cw_szCellS : Code := (Tryz.f35.body).getD .skip
def Ew_szCellS : AEnv X0 := ⟨⟨⟨tab0, 12, fun d => look2 (true, mS) [] d, fun d => look2 false [] d, fun d => look2 none [] d, true, false, fun d => look2 none [] d, eqs0, mps0, fun q => look2 none [] q⟩, callL [], invL [], cloL []⟩, fun q => look2 none [] q, []⟩
def gw_szCellS (x : InT X0.T [.inp mS zcJ, .inp mS yI]) := fnF Ew_szCellS [.inp mS zcJ, .inp mS yI] [⟨false, mS, yI⟩] true Tryz.f35.results.toList cw_szCellS x
def zif (p_a : (List (Int × (Int × (Int × Int))))) (p_left : Int) : Option Int := bif (decide ((w64 (p_left - ((List.length p_a) : Int))) < (0 : Int))) then some (-(1 : Int)) else some (w64 (p_left - ((List.length p_a) : Int)))
def spw_szCellS : Spec X0 := ⟨[.inp mS zcJ, .inp mS yI], [⟨false, mS, yI⟩], fun x => zif x.1 x.2.1, true⟩
theorem eqw_szCellS : gw_szCellS = fun x => zif x.1 x.2.1 := by kernel_rfl
theorem okw_szCellS : SpecOk Tryz.prog X0 O 35 spw_szCellS := fn_ok (E := Ew_szCellS) (c := cw_szCellS) mixed (zad _ _ _ _ _ _ _ _) ⟨zaa trivial, zab trivial, zac trivial⟩ Tryz.func35 (by kernel_rfl) (by kernel_rfl) rfl (by kernel_rfl) (of_decide_eq_true (by kernel_rfl)) rfl (by kernel_rfl) (fun x => congrFun eqw_szCellS x)
def cw_szIntS : Code := (Tryz.f36.body).getD .skip
def Ew_szIntS : AEnv X0 := ⟨⟨⟨tab0, 12, fun d => look2 (true, mS) [] d, fun d => look2 false [] d, fun d => look2 none [] d, true, false, fun d => look2 none [] d, eqs0, mps0, fun q => look2 none [] q⟩, callL [], invL [], cloL []⟩, fun q => look2 none [] q, []⟩
def gw_szIntS (x : InT X0.T [.inp mS yRow, .inp mS yI]) := fnF Ew_szIntS [.inp mS yRow, .inp mS yI] [⟨false, mS, yI⟩] true Tryz.f36.results.toList cw_szIntS x
def zgO (p_a : (List Int)) (p_left : Int) : Option Int := bif (decide ((w64 (p_left - ((List.length p_a) : Int))) < (0 : Int))) then some (-(1 : Int)) else some (w64 (p_left - ((List.length p_a) : Int)))
def zkG : Spec X0 := ⟨[.inp mS yRow, .inp mS yI], [⟨false, mS, yI⟩], fun x => zgO x.1 x.2.1, true⟩
theorem eqw_szIntS : gw_szIntS = fun x => zgO x.1 x.2.1 := by kernel_rfl
theorem zpD : SpecOk Tryz.prog X0 O 36 zkG := fn_ok (E := Ew_szIntS) (c := cw_szIntS) mixed (zad _ _ _ _ _ _ _ _) ⟨zaa trivial, zab trivial, zac trivial⟩ Tryz.func36 (by kernel_rfl) (by kernel_rfl) rfl (by kernel_rfl) (of_decide_eq_true (by kernel_rfl)) rfl (by kernel_rfl) (fun x => congrFun eqw_szIntS x)
def ziW (fw_szPlanr : PlanT → Int → Option (Int)) : Spec X0 := ⟨[.inp mS yPlan, .inp mS yI], [⟨false, mS, yI⟩], fun x => fw_szPlanr x.1 x.2.1, true⟩
def cw_szPlanS : Code := (Tryz.f37.body).getD .skip
def Ew_szPlanS (fw_szPlanr : PlanT → Int → Option (Int)) : AEnv X0 := ⟨⟨⟨tab0, 27, fun d => look2 (true, mS) [] d, fun d => look2 false [] d, fun d => look2 none [] d, true, false, fun d => look2 none [] d, eqs0, mps0, fun q => look2 none [] q⟩, callL [(9, [], (ziW fw_szPlanr))], invL [], cloL []⟩, fun q => look2 none [(5, some ⟨⟨[(0, .one (.sl mS yPlan)), (1, .one (.int .i64)), (5, .one (.int .i64))], []⟩, [(.exit 0, ⟨[(1, .one (.int .i64))], []⟩), (.ret, ⟨[(4, .one (.int .i64))], []⟩)]⟩)] q, []⟩
def gw_szPlanS (fw_szPlanr : PlanT → Int → Option (Int)) (x : InT X0.T [.inp mS zev, .inp mS yI]) := fnF (Ew_szPlanS fw_szPlanr) [.inp mS zev, .inp mS yI] [⟨false, mS, yI⟩] true Tryz.f37.results.toList cw_szPlanS x
def zgz (fw_szPlanr : PlanT → Int → Option (Int)) (v1 : (List PlanT)) (v2 : Int) (v3 : Int) : Option (((List PlanT) × (Int × Int)) ⊕ (Int ⊕ Int)) := bif (decide (v3 < ((List.length v1) : Int))) then bif (inR v3 (List.length v1)) then ((fw_szPlanr (eP (zaG v1 v3)) v2)).bind fun y4 => bif (decide (y4 < (0 : Int))) then some (.inr (.inr (-(1 : Int)))) else some (.inl (v1, y4, (w64 (v3 + (1 : Int))))) else none else some (.inr (.inl v2))
def zib (fw_szPlanr : PlanT → Int → Option (Int)) (p_a : (List PlanT)) (p_left : Int) : Option Int := bif (decide ((w64 (p_left - ((List.length p_a) : Int))) < (0 : Int))) then some (-(1 : Int)) else (loopS (fun t => (zgz fw_szPlanr) t.1 t.2.1 t.2.2) (p_a, (w64 (p_left - ((List.length p_a) : Int))), (0 : Int))).bind fun y5 => (match y5 with | .inl z6 => some z6 | .inr z7 => some z7)
def spw_szPlanS (fw_szPlanr : PlanT → Int → Option (Int)) : Spec X0 := ⟨[.inp mS zev, .inp mS yI], [⟨false, mS, yI⟩], fun x => (zib fw_szPlanr) x.1 x.2.1, true⟩
theorem eqw_szPlanS (fw_szPlanr : PlanT → Int → Option (Int)) : (gw_szPlanS fw_szPlanr) = fun x => (zib fw_szPlanr) x.1 x.2.1 := by kernel_rfl
theorem okw_szPlanS (fw_szPlanr : PlanT → Int → Option (Int)) (hw_szPlanr : SpecOk Tryz.prog X0 O 9 (ziW fw_szPlanr)) : SpecOk Tryz.prog X0 O 37 (spw_szPlanS fw_szPlanr) := fn_ok (E := (Ew_szPlanS fw_szPlanr)) (c := cw_szPlanS) mixed (zad _ _ _ _ _ _ _ _) ⟨zaa ⟨hw_szPlanr, trivial⟩, zab trivial, zac trivial⟩ Tryz.func37 (by kernel_rfl) (by kernel_rfl) rfl (by kernel_rfl) (of_decide_eq_true (by kernel_rfl)) rfl (by kernel_rfl) (fun x => congrFun (eqw_szPlanS fw_szPlanr) x)
def cw_szPlanb : Code := (Tryz.f9.body).getD .skip
def Ew_szPlanb (fw_szPlanr : PlanT → Int → Option (Int)) : AEnv X0 := ⟨⟨⟨tab0, 24, fun d => look2 (true, mS) [] d, fun d => look2 false [] d, fun d => look2 none [] d, true, false, fun d => look2 none [] d, eqs0, mps0, fun q => look2 none [] q⟩, callL [(35, [], spw_szCellS), (36, [], zkG), (37, [], (spw_szPlanS fw_szPlanr))], invL [], cloL []⟩, fun q => look2 none [] q, []⟩
def gw_szPlanb (fw_szPlanr : PlanT → Int → Option (Int)) (x : InT X0.T [.inp mS yPlan, .inp mS yI]) := fnF (Ew_szPlanb fw_szPlanr) [.inp mS yPlan, .inp mS yI] [⟨false, mS, yI⟩] true Tryz.f9.results.toList cw_szPlanb x
def zia (fw_szPlanr : PlanT → Int → Option (Int)) (p_a : PlanT) (p_left : Int) : Option Int := ((zif (oA p_a).2.2.2.1 p_left)).bind fun y0 => bif (decide (y0 < (0 : Int))) then some (-(1 : Int)) else ((zgO (oA p_a).2.2.2.2.2.2.1 y0)).bind fun y1 => bif (decide (y1 < (0 : Int))) then some (-(1 : Int)) else (((zib fw_szPlanr) (oA p_a).2.2.2.2.2.2.2.2.2 y1)).bind fun y2 => bif (decide (y2 < (0 : Int))) then some (-(1 : Int)) else some y2
def spw_szPlanb (fw_szPlanr : PlanT → Int → Option (Int)) : Spec X0 := ⟨[.inp mS yPlan, .inp mS yI], [⟨false, mS, yI⟩], fun x => (zia fw_szPlanr) x.1 x.2.1, true⟩
theorem eqw_szPlanb (fw_szPlanr : PlanT → Int → Option (Int)) : (gw_szPlanb fw_szPlanr) = fun x => (zia fw_szPlanr) x.1 x.2.1 := by kernel_rfl
theorem okw_szPlanb (fw_szPlanr : PlanT → Int → Option (Int)) (hw_szPlanr : SpecOk Tryz.prog X0 O 9 (ziW fw_szPlanr)) : SpecOk Tryz.prog X0 O 9 (spw_szPlanb fw_szPlanr) := fn_ok (E := (Ew_szPlanb fw_szPlanr)) (c := cw_szPlanb) mixed (zad _ _ _ _ _ _ _ _) ⟨zaa ⟨okw_szCellS, zpD, (okw_szPlanS fw_szPlanr hw_szPlanr), trivial⟩, zab trivial, zac trivial⟩ Tryz.func9 (by kernel_rfl) (by kernel_rfl) rfl (by kernel_rfl) (of_decide_eq_true (by kernel_rfl)) rfl (by kernel_rfl) (fun x => congrFun (eqw_szPlanb fw_szPlanr) x)
def zfq : Nat → PlanT → Int → Option (Int)
 | 0, _, _ => none
 | n + 1, a0, a1 => zia (zfq n) a0 a1
theorem okFw_szPlan : ∀ n, SpecOk Tryz.prog X0 O 9 (ziW (zfq n))
 | 0 => SpecOk.none
 | n + 1 => okw_szPlanb (zfq n) (okFw_szPlan n)
def fw_szPlan (a0 : PlanT) (a1 : Int) : Option (Int) := zfq (a0.dep) a0 a1
def spw_szPlan : Spec X0 := ⟨[.inp mS yPlan, .inp mS yI], [⟨false, mS, yI⟩], fun x => fw_szPlan x.1 x.2.1, true⟩
theorem okw_szPlan : SpecOk Tryz.prog X0 O 9 spw_szPlan := SpecOk.of_each (X := X0) (ps := [.inp mS yPlan, .inp mS yI]) (rs := [⟨false, mS, yI⟩]) (fl := true) (fun n x => zfq n x.1 x.2.1) (fun x => x.1.dep) okFw_szPlan
def cw_szItem : Code := (Tryz.f157.body).getD .skip
def Ew_szItem : AEnv X0 := ⟨⟨⟨tab0, 12, fun d => look2 (true, mS) [] d, fun d => look2 false [] d, fun d => look2 none [] d, true, false, fun d => look2 none [] d, eqs0, mps0, fun q => look2 none [] q⟩, callL [(36, [], zkG)], invL [], cloL []⟩, fun q => look2 none [] q, []⟩
def gw_szItem (x : InT X0.T [.inp mS yItem, .inp mS yI]) := fnF Ew_szItem [.inp mS yItem, .inp mS yI] [⟨false, mS, yI⟩] true Tryz.f157.results.toList cw_szItem x
def zly (p_a : ((List Int) × Int)) (p_left : Int) : Option Int := ((zgO p_a.1 p_left)).bind fun y0 => bif (decide (y0 < (0 : Int))) then some (-(1 : Int)) else some y0
def spw_szItem : Spec X0 := ⟨[.inp mS yItem, .inp mS yI], [⟨false, mS, yI⟩], fun x => zly x.1 x.2.1, true⟩
theorem eqw_szItem : gw_szItem = fun x => zly x.1 x.2.1 := by kernel_rfl
theorem okw_szItem : SpecOk Tryz.prog X0 O 157 spw_szItem := fn_ok (E := Ew_szItem) (c := cw_szItem) mixed (zad _ _ _ _ _ _ _ _) ⟨zaa ⟨zpD, trivial⟩, zab trivial, zac trivial⟩ Tryz.func157 (by kernel_rfl) (by kernel_rfl) rfl (by kernel_rfl) (of_decide_eq_true (by kernel_rfl)) rfl (by kernel_rfl) (fun x => congrFun eqw_szItem x)
def cw_szItemS : Code := (Tryz.f118.body).getD .skip
def Ew_szItemS : AEnv X0 := ⟨⟨⟨tab0, 27, fun d => look2 (true, mS) [] d, fun d => look2 false [] d, fun d => look2 none [] d, true, false, fun d => look2 none [] d, eqs0, mps0, fun q => look2 none [] q⟩, callL [(157, [], spw_szItem)], invL [], cloL []⟩, fun q => look2 none [(5, some ⟨⟨[(0, .one (.sl mS yItem)), (1, .one (.int .i64)), (5, .one (.int .i64))], []⟩, [(.exit 0, ⟨[(1, .one (.int .i64))], []⟩), (.ret, ⟨[(4, .one (.int .i64))], []⟩)]⟩)] q, []⟩
def gw_szItemS (x : InT X0.T [.inp mS yRun, .inp mS yI]) := fnF Ew_szItemS [.inp mS yRun, .inp mS yI] [⟨false, mS, yI⟩] true Tryz.f118.results.toList cw_szItemS x
def zgA (v1 : (List ((List Int) × Int))) (v2 : Int) (v3 : Int) : Option (((List ((List Int) × Int)) × (Int × Int)) ⊕ (Int ⊕ Int)) := bif (decide (v3 < ((List.length v1) : Int))) then bif (inR v3 (List.length v1)) then ((zly ((zah v1 v3).1, (zah v1 v3).2) v2)).bind fun y4 => bif (decide (y4 < (0 : Int))) then some (.inr (.inr (-(1 : Int)))) else some (.inl (v1, y4, (w64 (v3 + (1 : Int))))) else none else some (.inr (.inl v2))
def zeB (p_a : (List ((List Int) × Int))) (p_left : Int) : Option Int := bif (decide ((w64 (p_left - ((List.length p_a) : Int))) < (0 : Int))) then some (-(1 : Int)) else (loopS (fun t => zgA t.1 t.2.1 t.2.2) (p_a, (w64 (p_left - ((List.length p_a) : Int))), (0 : Int))).bind fun y5 => (match y5 with | .inl z6 => some z6 | .inr z7 => some z7)
def ziX : Spec X0 := ⟨[.inp mS yRun, .inp mS yI], [⟨false, mS, yI⟩], fun x => zeB x.1 x.2.1, true⟩
theorem eqw_szItemS : gw_szItemS = fun x => zeB x.1 x.2.1 := by kernel_rfl
theorem zmC : SpecOk Tryz.prog X0 O 118 ziX := fn_ok (E := Ew_szItemS) (c := cw_szItemS) mixed (zad _ _ _ _ _ _ _ _) ⟨zaa ⟨okw_szItem, trivial⟩, zab trivial, zac trivial⟩ Tryz.func118 (by kernel_rfl) (by kernel_rfl) rfl (by kernel_rfl) (of_decide_eq_true (by kernel_rfl)) rfl (by kernel_rfl) (fun x => congrFun eqw_szItemS x)
def cw_szItemSS : Code := (Tryz.f72.body).getD .skip
def Ew_szItemSS : AEnv X0 := ⟨⟨⟨tab0, 27, fun d => look2 (true, mS) [] d, fun d => look2 false [] d, fun d => look2 none [] d, true, false, fun d => look2 none [] d, eqs0, mps0, fun q => look2 none [] q⟩, callL [(118, [], ziX)], invL [], cloL []⟩, fun q => look2 none [(5, some ⟨⟨[(0, .one (.sl mS yRun)), (1, .one (.int .i64)), (5, .one (.int .i64))], []⟩, [(.exit 0, ⟨[(1, .one (.int .i64))], []⟩), (.ret, ⟨[(4, .one (.int .i64))], []⟩)]⟩)] q, []⟩
def gw_szItemSS (x : InT X0.T [.inp mS yRuns, .inp mS yI]) := fnF Ew_szItemSS [.inp mS yRuns, .inp mS yI] [⟨false, mS, yI⟩] true Tryz.f72.results.toList cw_szItemSS x
def zfg (v1 : (List (List ((List Int) × Int)))) (v2 : Int) (v3 : Int) : Option (((List (List ((List Int) × Int))) × (Int × Int)) ⊕ (Int ⊕ Int)) := bif (decide (v3 < ((List.length v1) : Int))) then bif (inR v3 (List.length v1)) then ((zeB (rdRun v1 v3) v2)).bind fun y4 => bif (decide (y4 < (0 : Int))) then some (.inr (.inr (-(1 : Int)))) else some (.inl (v1, y4, (w64 (v3 + (1 : Int))))) else none else some (.inr (.inl v2))
def zeq (p_a : (List (List ((List Int) × Int)))) (p_left : Int) : Option Int := bif (decide ((w64 (p_left - ((List.length p_a) : Int))) < (0 : Int))) then some (-(1 : Int)) else (loopS (fun t => zfg t.1 t.2.1 t.2.2) (p_a, (w64 (p_left - ((List.length p_a) : Int))), (0 : Int))).bind fun y5 => (match y5 with | .inl z6 => some z6 | .inr z7 => some z7)
def zkg : Spec X0 := ⟨[.inp mS yRuns, .inp mS yI], [⟨false, mS, yI⟩], fun x => zeq x.1 x.2.1, true⟩
theorem eqw_szItemSS : gw_szItemSS = fun x => zeq x.1 x.2.1 := by kernel_rfl
theorem zpC : SpecOk Tryz.prog X0 O 72 zkg := fn_ok (E := Ew_szItemSS) (c := cw_szItemSS) mixed (zad _ _ _ _ _ _ _ _) ⟨zaa ⟨zmC, trivial⟩, zab trivial, zac trivial⟩ Tryz.func72 (by kernel_rfl) (by kernel_rfl) rfl (by kernel_rfl) (of_decide_eq_true (by kernel_rfl)) rfl (by kernel_rfl) (fun x => congrFun eqw_szItemSS x)
def cw_szSpine : Code := (Tryz.f60.body).getD .skip
def Ew_szSpine : AEnv X0 := ⟨⟨⟨tab0, 12, fun d => look2 (true, mS) [] d, fun d => look2 false [] d, fun d => look2 none [] d, true, false, fun d => look2 none [] d, eqs0, mps0, fun q => look2 none [] q⟩, callL [(72, [], zkg)], invL [], cloL []⟩, fun q => look2 none [] q, []⟩
def gw_szSpine (x : InT X0.T [.inp mS zdn, .inp mS yI]) := fnF Ew_szSpine [.inp mS zdn, .inp mS yI] [⟨false, mS, yI⟩] true Tryz.f60.results.toList cw_szSpine x
def zfK (p_a : (List (List ((List Int) × Int)))) (p_left : Int) : Option Int := ((zeq p_a p_left)).bind fun y0 => bif (decide (y0 < (0 : Int))) then some (-(1 : Int)) else some y0
def spw_szSpine : Spec X0 := ⟨[.inp mS zdn, .inp mS yI], [⟨false, mS, yI⟩], fun x => zfK x.1 x.2.1, true⟩
theorem eqw_szSpine : gw_szSpine = fun x => zfK x.1 x.2.1 := by kernel_rfl
theorem okw_szSpine : SpecOk Tryz.prog X0 O 60 spw_szSpine := fn_ok (E := Ew_szSpine) (c := cw_szSpine) mixed (zad _ _ _ _ _ _ _ _) ⟨zaa ⟨zpC, trivial⟩, zab trivial, zac trivial⟩ Tryz.func60 (by kernel_rfl) (by kernel_rfl) rfl (by kernel_rfl) (of_decide_eq_true (by kernel_rfl)) rfl (by kernel_rfl) (fun x => congrFun eqw_szSpine x)
def ziY (fw_szFlowr : FlowT → Int → Option (Int)) : Spec X0 := ⟨[.inp mS yFlow, .inp mS yI], [⟨false, mS, yI⟩], fun x => fw_szFlowr x.1 x.2.1, true⟩
def cw_szFlowS : Code := (Tryz.f61.body).getD .skip
def Ew_szFlowS (fw_szFlowr : FlowT → Int → Option (Int)) : AEnv X0 := ⟨⟨⟨tab0, 27, fun d => look2 (true, mS) [] d, fun d => look2 false [] d, fun d => look2 none [] d, true, false, fun d => look2 none [] d, eqs0, mps0, fun q => look2 none [] q⟩, callL [(18, [], (ziY fw_szFlowr))], invL [], cloL []⟩, fun q => look2 none [(5, some ⟨⟨[(0, .one (.sl mS yFlow)), (1, .one (.int .i64)), (5, .one (.int .i64))], []⟩, [(.exit 0, ⟨[(1, .one (.int .i64))], []⟩), (.ret, ⟨[(4, .one (.int .i64))], []⟩)]⟩)] q, []⟩
def gw_szFlowS (fw_szFlowr : FlowT → Int → Option (Int)) (x : InT X0.T [.inp mS zjB, .inp mS yI]) := fnF (Ew_szFlowS fw_szFlowr) [.inp mS zjB, .inp mS yI] [⟨false, mS, yI⟩] true Tryz.f61.results.toList cw_szFlowS x
def zgB (fw_szFlowr : FlowT → Int → Option (Int)) (v1 : (List FlowT)) (v2 : Int) (v3 : Int) : Option (((List FlowT) × (Int × Int)) ⊕ (Int ⊕ Int)) := bif (decide (v3 < ((List.length v1) : Int))) then bif (inR v3 (List.length v1)) then ((fw_szFlowr (eF (zbl v1 v3)) v2)).bind fun y4 => bif (decide (y4 < (0 : Int))) then some (.inr (.inr (-(1 : Int)))) else some (.inl (v1, y4, (w64 (v3 + (1 : Int))))) else none else some (.inr (.inl v2))
def zie (fw_szFlowr : FlowT → Int → Option (Int)) (p_a : (List FlowT)) (p_left : Int) : Option Int := bif (decide ((w64 (p_left - ((List.length p_a) : Int))) < (0 : Int))) then some (-(1 : Int)) else (loopS (fun t => (zgB fw_szFlowr) t.1 t.2.1 t.2.2) (p_a, (w64 (p_left - ((List.length p_a) : Int))), (0 : Int))).bind fun y5 => (match y5 with | .inl z6 => some z6 | .inr z7 => some z7)
def spw_szFlowS (fw_szFlowr : FlowT → Int → Option (Int)) : Spec X0 := ⟨[.inp mS zjB, .inp mS yI], [⟨false, mS, yI⟩], fun x => (zie fw_szFlowr) x.1 x.2.1, true⟩
theorem eqw_szFlowS (fw_szFlowr : FlowT → Int → Option (Int)) : (gw_szFlowS fw_szFlowr) = fun x => (zie fw_szFlowr) x.1 x.2.1 := by kernel_rfl
theorem okw_szFlowS (fw_szFlowr : FlowT → Int → Option (Int)) (hw_szFlowr : SpecOk Tryz.prog X0 O 18 (ziY fw_szFlowr)) : SpecOk Tryz.prog X0 O 61 (spw_szFlowS fw_szFlowr) := fn_ok (E := (Ew_szFlowS fw_szFlowr)) (c := cw_szFlowS) mixed (zad _ _ _ _ _ _ _ _) ⟨zaa ⟨hw_szFlowr, trivial⟩, zab trivial, zac trivial⟩ Tryz.func61 (by kernel_rfl) (by kernel_rfl) rfl (by kernel_rfl) (of_decide_eq_true (by kernel_rfl)) rfl (by kernel_rfl) (fun x => congrFun (eqw_szFlowS fw_szFlowr) x)
def cw_szFlowb : Code := (Tryz.f18.body).getD .skip
def Ew_szFlowb (fw_szFlowr : FlowT → Int → Option (Int)) : AEnv X0 := ⟨⟨⟨tab0, 30, fun d => look2 (true, mS) [] d, fun d => look2 false [] d, fun d => look2 none [] d, true, false, fun d => look2 none [] d, eqs0, mps0, fun q => look2 none [] q⟩, callL [(9, [], spw_szPlan), (60, [], spw_szSpine), (61, [], (spw_szFlowS fw_szFlowr))], invL [], cloL []⟩, fun q => look2 none [] q, []⟩
def gw_szFlowb (fw_szFlowr : FlowT → Int → Option (Int)) (x : InT X0.T [.inp mS yFlow, .inp mS yI]) := fnF (Ew_szFlowb fw_szFlowr) [.inp mS yFlow, .inp mS yI] [⟨false, mS, yI⟩] true Tryz.f18.results.toList cw_szFlowb x
def zid (fw_szFlowr : FlowT → Int → Option (Int)) (p_a : FlowT) (p_left : Int) : Option Int := ((fw_szPlan (eP (oB p_a).1) p_left)).bind fun y0 => bif (decide (y0 < (0 : Int))) then some (-(1 : Int)) else ((zfK (oB p_a).2.1 y0)).bind fun y1 => bif (decide (y1 < (0 : Int))) then some (-(1 : Int)) else ((zfK (oB p_a).2.2.1 y1)).bind fun y2 => bif (decide (y2 < (0 : Int))) then some (-(1 : Int)) else (((zie fw_szFlowr) (oB p_a).2.2.2 y2)).bind fun y3 => bif (decide (y3 < (0 : Int))) then some (-(1 : Int)) else some y3
def spw_szFlowb (fw_szFlowr : FlowT → Int → Option (Int)) : Spec X0 := ⟨[.inp mS yFlow, .inp mS yI], [⟨false, mS, yI⟩], fun x => (zid fw_szFlowr) x.1 x.2.1, true⟩
theorem eqw_szFlowb (fw_szFlowr : FlowT → Int → Option (Int)) : (gw_szFlowb fw_szFlowr) = fun x => (zid fw_szFlowr) x.1 x.2.1 := by kernel_rfl
theorem okw_szFlowb (fw_szFlowr : FlowT → Int → Option (Int)) (hw_szFlowr : SpecOk Tryz.prog X0 O 18 (ziY fw_szFlowr)) : SpecOk Tryz.prog X0 O 18 (spw_szFlowb fw_szFlowr) := fn_ok (E := (Ew_szFlowb fw_szFlowr)) (c := cw_szFlowb) mixed (zad _ _ _ _ _ _ _ _) ⟨zaa ⟨okw_szPlan, okw_szSpine, (okw_szFlowS fw_szFlowr hw_szFlowr), trivial⟩, zab trivial, zac trivial⟩ Tryz.func18 (by kernel_rfl) (by kernel_rfl) rfl (by kernel_rfl) (of_decide_eq_true (by kernel_rfl)) rfl (by kernel_rfl) (fun x => congrFun (eqw_szFlowb fw_szFlowr) x)
def zfr : Nat → FlowT → Int → Option (Int)
 | 0, _, _ => none
 | n + 1, a0, a1 => zid (zfr n) a0 a1
theorem okFw_szFlow : ∀ n, SpecOk Tryz.prog X0 O 18 (ziY (zfr n))
 | 0 => SpecOk.none
 | n + 1 => okw_szFlowb (zfr n) (okFw_szFlow n)
def fw_szFlow (a0 : FlowT) (a1 : Int) : Option (Int) := zfr (a0.dep) a0 a1
def spw_szFlow : Spec X0 := ⟨[.inp mS yFlow, .inp mS yI], [⟨false, mS, yI⟩], fun x => fw_szFlow x.1 x.2.1, true⟩
theorem okw_szFlow : SpecOk Tryz.prog X0 O 18 spw_szFlow := SpecOk.of_each (X := X0) (ps := [.inp mS yFlow, .inp mS yI]) (rs := [⟨false, mS, yI⟩]) (fl := true) (fun n x => zfr n x.1 x.2.1) (fun x => x.1.dep) okFw_szFlow
def cw_toCell : Code := (Tryz.f98.body).getD .skip
def Ew_toCell : AEnv X0 := ⟨⟨⟨tab0, 17, fun d => look2 (true, mS) [] d, fun d => look2 false [] d, fun d => look2 none [] d, true, false, fun d => look2 none [] d, eqs0, mps0, fun q => look2 none [] q⟩, callL [], invL [], cloL []⟩, fun q => look2 none [] q, []⟩
def gw_toCell (x : InT X0.T [.inp mS yCell]) := fnF Ew_toCell [.inp mS yCell] [⟨false, mS, yCell⟩] true Tryz.f98.results.toList cw_toCell x
def fw_toCell (p_a : (Int × (Int × (Int × Int)))) : Option (Int × (Int × (Int × Int))) := some (p_a.1, (p_a.2.1, (p_a.2.2.1, p_a.2.2.2)))
def zoY : Spec X0 := ⟨[.inp mS yCell], [⟨false, mS, yCell⟩], fun x => fw_toCell x.1, true⟩
theorem eqw_toCell : gw_toCell = fun x => fw_toCell x.1 := by kernel_rfl
theorem okw_toCell : SpecOk Tryz.prog X0 O 98 zoY := fn_ok (E := Ew_toCell) (c := cw_toCell) mixed (zad _ _ _ _ _ _ _ _) ⟨zaa trivial, zab trivial, zac trivial⟩ Tryz.func98 (by kernel_rfl) (by kernel_rfl) rfl (by kernel_rfl) (of_decide_eq_true (by kernel_rfl)) rfl (by kernel_rfl) (fun x => congrFun eqw_toCell x)
def cw_toTest : Code := (Tryz.f40.body).getD .skip
def Ew_toTest : AEnv X0 := ⟨⟨⟨tab0, 19, fun d => look2 (true, mS) [] d, fun d => look2 false [] d, fun d => look2 none [] d, true, false, fun d => look2 none [] d, eqs0, mps0, fun q => look2 none [] q⟩, callL [(98, [], zoY)], invL [], cloL []⟩, fun q => look2 none [] q, []⟩
def gw_toTest (x : InT X0.T [.inp mS yTest]) := fnF Ew_toTest [.inp mS yTest] [⟨false, mS, yTest⟩] true Tryz.f40.results.toList cw_toTest x
def fw_toTest (p_a : (Int × (Bool × ((Int × (Int × (Int × Int))) × (Int × (Int × (Int × Int))))))) : Option (Int × (Bool × ((Int × (Int × (Int × Int))) × (Int × (Int × (Int × Int)))))) := some (p_a.1, (p_a.2.1, ((p_a.2.2.1.1, (p_a.2.2.1.2.1, (p_a.2.2.1.2.2.1, p_a.2.2.1.2.2.2))), (p_a.2.2.2.1, (p_a.2.2.2.2.1, (p_a.2.2.2.2.2.1, p_a.2.2.2.2.2.2))))))
def spw_toTest : Spec X0 := ⟨[.inp mS yTest], [⟨false, mS, yTest⟩], fun x => fw_toTest x.1, true⟩
theorem eqw_toTest : gw_toTest = fun x => fw_toTest x.1 := by kernel_rfl
theorem okw_toTest : SpecOk Tryz.prog X0 O 40 spw_toTest := fn_ok (E := Ew_toTest) (c := cw_toTest) mixed (zad _ _ _ _ _ _ _ _) ⟨zaa ⟨okw_toCell, trivial⟩, zab trivial, zac trivial⟩ Tryz.func40 (by kernel_rfl) (by kernel_rfl) rfl (by kernel_rfl) (of_decide_eq_true (by kernel_rfl)) rfl (by kernel_rfl) (fun x => congrFun eqw_toTest x)
def cw_toCellS : Code := (Tryz.f41.body).getD .skip
def Ew_toCellS : AEnv X0 := ⟨⟨⟨tab0, 23, fun d => look2 (true, mS) [] d, fun d => look2 false [] d, fun d => look2 none [] d, true, false, fun d => look2 none [] d, eqs0, mps0, fun q => look2 none [] q⟩, callL [(98, [], zoY)], invL [], cloL []⟩, fun q => look2 none [(3, some ⟨⟨[(0, .one (.sl mS yCell)), (3, .one (.whole 3)), (4, .one (.int .i64))], [(3, .row yCell mS)]⟩, [(.exit 0, ⟨[(3, .one (.whole 3))], [(3, .row yCell mS)]⟩)]⟩)] q, []⟩
def gw_toCellS (x : InT X0.T [.inp mS zcJ]) := fnF Ew_toCellS [.inp mS zcJ] [⟨false, ⟨[.own], .st⟩, zcJ⟩] true Tryz.f41.results.toList cw_toCellS x
def zgy (v1 : (List (Int × (Int × (Int × Int))))) (v2 : Int) (v3 : (List (Int × (Int × (Int × Int))))) : Option (((List (Int × (Int × (Int × Int)))) × (Int × (List (Int × (Int × (Int × Int)))))) ⊕ (List (Int × (Int × (Int × Int))))) := bif (decide (v2 < ((List.length v1) : Int))) then bif (inR v2 (List.length v1)) then bif (inR v2 (List.length v3)) then some (.inl (v1, (w64 (v2 + (1 : Int))), (List.set v3 (Int.toNat v2) ((zaH v1 v2).1, ((zaH v1 v2).2.1, ((zaH v1 v2).2.2.1, (zaH v1 v2).2.2.2)))))) else none else none else some (.inr v3)
def zhY (p_a : (List (Int × (Int × (Int × Int))))) : Option (List (Int × (Int × (Int × Int)))) := bif ((decide ((0 : Int) ≤ ((List.length p_a) : Int))) && (decide ((Int.toNat ((List.length p_a) : Int)) ≤ lim))) then (loopS (fun t => zgy t.1 t.2.1 t.2.2) (p_a, (0 : Int), (List.replicate (Int.toNat ((List.length p_a) : Int)) zeroCell))).bind fun y4 => some y4 else none
def spw_toCellS : Spec X0 := ⟨[.inp mS zcJ], [⟨false, ⟨[.own], .st⟩, zcJ⟩], fun x => zhY x.1, true⟩
theorem eqw_toCellS : gw_toCellS = fun x => zhY x.1 := by kernel_rfl
theorem okw_toCellS : SpecOk Tryz.prog X0 O 41 spw_toCellS := fn_ok (E := Ew_toCellS) (c := cw_toCellS) mixed (zad _ _ _ _ _ _ _ _) ⟨zaa ⟨okw_toCell, trivial⟩, zab trivial, zac trivial⟩ Tryz.func41 (by kernel_rfl) (by kernel_rfl) rfl (by kernel_rfl) (of_decide_eq_true (by kernel_rfl)) rfl (by kernel_rfl) (fun x => congrFun eqw_toCellS x)
def cw_toIntS : Code := (Tryz.f42.body).getD .skip
def Ew_toIntS : AEnv X0 := ⟨⟨⟨tab0, 22, fun d => look2 (true, mS) [] d, fun d => look2 false [] d, fun d => look2 none [] d, true, false, fun d => look2 none [] d, eqs0, mps0, fun q => look2 none [] q⟩, callL [], invL [], cloL []⟩, fun q => look2 none [(3, some ⟨⟨[(0, .one (.sl mS yI)), (3, .one (.whole 3)), (4, .one (.int .i64))], [(3, .row yI mS)]⟩, [(.exit 0, ⟨[(3, .one (.whole 3))], [(3, .row yI mS)]⟩)]⟩)] q, []⟩
def gw_toIntS (x : InT X0.T [.inp mS yRow]) := fnF Ew_toIntS [.inp mS yRow] [⟨false, ⟨[.own], .st⟩, yRow⟩] true Tryz.f42.results.toList cw_toIntS x
def zjg (v1 : (List Int)) (v2 : Int) (v3 : (List Int)) : Option (((List Int) × (Int × (List Int))) ⊕ (List Int)) := bif (decide (v2 < ((List.length v1) : Int))) then bif (inR v2 (List.length v1)) then bif (inR v2 (List.length v3)) then some (.inl (v1, (w64 (v2 + (1 : Int))), (List.set v3 (Int.toNat v2) (rdI v1 v2)))) else none else none else some (.inr v3)
def zgN (p_a : (List Int)) : Option (List Int) := bif ((decide ((0 : Int) ≤ ((List.length p_a) : Int))) && (decide ((Int.toNat ((List.length p_a) : Int)) ≤ lim))) then (loopS (fun t => zjg t.1 t.2.1 t.2.2) (p_a, (0 : Int), (List.replicate (Int.toNat ((List.length p_a) : Int)) zeroI))).bind fun y4 => some y4 else none
def zkF : Spec X0 := ⟨[.inp mS yRow], [⟨false, ⟨[.own], .st⟩, yRow⟩], fun x => zgN x.1, true⟩
theorem eqw_toIntS : gw_toIntS = fun x => zgN x.1 := by kernel_rfl
theorem zpB : SpecOk Tryz.prog X0 O 42 zkF := fn_ok (E := Ew_toIntS) (c := cw_toIntS) mixed (zad _ _ _ _ _ _ _ _) ⟨zaa trivial, zab trivial, zac trivial⟩ Tryz.func42 (by kernel_rfl) (by kernel_rfl) rfl (by kernel_rfl) (of_decide_eq_true (by kernel_rfl)) rfl (by kernel_rfl) (fun x => congrFun eqw_toIntS x)
def ziT (fw_toPlanr : PlanT → Option (PlanT)) : Spec X0 := ⟨[.inp mS yPlan], [⟨false, ⟨[.own], .st⟩, yPlan⟩], fun x => fw_toPlanr x.1, true⟩
def cw_toPlanS : Code := (Tryz.f43.body).getD .skip
def Ew_toPlanS (fw_toPlanr : PlanT → Option (PlanT)) : AEnv X0 := ⟨⟨⟨tab0, 23, fun d => look2 (true, mS) [(20, (false, mS))] d, fun d => look2 false [] d, fun d => look2 none [] d, true, false, fun d => look2 none [] d, eqs0, mps0, fun q => look2 none [] q⟩, callL [(11, [], (ziT fw_toPlanr))], invL [], cloL []⟩, fun q => look2 none [(3, some ⟨⟨[(0, .one (.sl mS yPlan)), (3, .one (.whole 3)), (4, .one (.int .i64))], [(3, .row yPlan mS)]⟩, [(.exit 0, ⟨[(3, .one (.whole 3))], [(3, .row yPlan mS)]⟩)]⟩)] q, []⟩
def gw_toPlanS (fw_toPlanr : PlanT → Option (PlanT)) (x : InT X0.T [.inp mS zev]) := fnF (Ew_toPlanS fw_toPlanr) [.inp mS zev] [⟨false, ⟨[.own], .st⟩, zev⟩] true Tryz.f43.results.toList cw_toPlanS x
def zgv (fw_toPlanr : PlanT → Option (PlanT)) (v1 : (List PlanT)) (v2 : Int) (v3 : (List PlanT)) : Option (((List PlanT) × (Int × (List PlanT))) ⊕ (List PlanT)) := bif (decide (v2 < ((List.length v1) : Int))) then bif (inR v2 (List.length v1)) then ((fw_toPlanr (eP (zaG v1 v2)))).bind fun y4 => bif (inR v2 (List.length v3)) then some (.inl (v1, (w64 (v2 + (1 : Int))), (List.set v3 (Int.toNat v2) (eP y4)))) else none else none else some (.inr v3)
def zfI (fw_toPlanr : PlanT → Option (PlanT)) (p_a : (List PlanT)) : Option (List PlanT) := bif ((decide ((0 : Int) ≤ ((List.length p_a) : Int))) && (decide ((Int.toNat ((List.length p_a) : Int)) ≤ lim))) then (loopS (fun t => (zgv fw_toPlanr) t.1 t.2.1 t.2.2) (p_a, (0 : Int), (List.replicate (Int.toNat ((List.length p_a) : Int)) zgl))).bind fun y5 => some y5 else none
def zrs (fw_toPlanr : PlanT → Option (PlanT)) : Spec X0 := ⟨[.inp mS zev], [⟨false, ⟨[.own], .st⟩, zev⟩], fun x => (zfI fw_toPlanr) x.1, true⟩
theorem eqw_toPlanS (fw_toPlanr : PlanT → Option (PlanT)) : (gw_toPlanS fw_toPlanr) = fun x => (zfI fw_toPlanr) x.1 := by kernel_rfl
theorem okw_toPlanS (fw_toPlanr : PlanT → Option (PlanT)) (hw_toPlanr : SpecOk Tryz.prog X0 O 11 (ziT fw_toPlanr)) : SpecOk Tryz.prog X0 O 43 (zrs fw_toPlanr) := fn_ok (E := (Ew_toPlanS fw_toPlanr)) (c := cw_toPlanS) mixed (zad _ _ _ _ _ _ _ _) ⟨zaa ⟨hw_toPlanr, trivial⟩, zab trivial, zac trivial⟩ Tryz.func43 (by kernel_rfl) (by kernel_rfl) rfl (by kernel_rfl) (of_decide_eq_true (by kernel_rfl)) rfl (by kernel_rfl) (fun x => congrFun (eqw_toPlanS fw_toPlanr) x)
def cw_toPlanb : Code := (Tryz.f11.body).getD .skip
def Ew_toPlanb (fw_toPlanr : PlanT → Option (PlanT)) : AEnv X0 := ⟨⟨⟨tab0, 39, fun d => look2 (true, mS) [] d, fun d => look2 false [] d, fun d => look2 none [] d, true, false, fun d => look2 none [] d, eqs0, mps0, fun q => look2 none [] q⟩, callL [(40, [], spw_toTest), (41, [], spw_toCellS), (42, [], zkF), (43, [], (zrs fw_toPlanr))], invL [], cloL []⟩, fun q => look2 none [] q, []⟩
def gw_toPlanb (fw_toPlanr : PlanT → Option (PlanT)) (x : InT X0.T [.inp mS yPlan]) := fnF (Ew_toPlanb fw_toPlanr) [.inp mS yPlan] [⟨false, ⟨[.own], .st⟩, yPlan⟩] true Tryz.f11.results.toList cw_toPlanb x
def zhV (fw_toPlanr : PlanT → Option (PlanT)) (p_a : PlanT) : Option PlanT := ((zhY (oA p_a).2.2.2.1)).bind fun y0 => ((zgN (oA p_a).2.2.2.2.2.2.1)).bind fun y1 => (((zfI fw_toPlanr) (oA p_a).2.2.2.2.2.2.2.2.2)).bind fun y2 => some (iA ((oA p_a).1, ((oA p_a).2.1, (((oA p_a).2.2.1.1, ((oA p_a).2.2.1.2.1, (((oA p_a).2.2.1.2.2.1.1, ((oA p_a).2.2.1.2.2.1.2.1, ((oA p_a).2.2.1.2.2.1.2.2.1, (oA p_a).2.2.1.2.2.1.2.2.2))), ((oA p_a).2.2.1.2.2.2.1, ((oA p_a).2.2.1.2.2.2.2.1, ((oA p_a).2.2.1.2.2.2.2.2.1, (oA p_a).2.2.1.2.2.2.2.2.2)))))), (y0, ((oA p_a).2.2.2.2.1, ((oA p_a).2.2.2.2.2.1, (y1, ((oA p_a).2.2.2.2.2.2.2.1, ((oA p_a).2.2.2.2.2.2.2.2.1, y2))))))))))
def spw_toPlanb (fw_toPlanr : PlanT → Option (PlanT)) : Spec X0 := ⟨[.inp mS yPlan], [⟨false, ⟨[.own], .st⟩, yPlan⟩], fun x => (zhV fw_toPlanr) x.1, true⟩
theorem eqw_toPlanb (fw_toPlanr : PlanT → Option (PlanT)) : (gw_toPlanb fw_toPlanr) = fun x => (zhV fw_toPlanr) x.1 := by kernel_rfl
theorem okw_toPlanb (fw_toPlanr : PlanT → Option (PlanT)) (hw_toPlanr : SpecOk Tryz.prog X0 O 11 (ziT fw_toPlanr)) : SpecOk Tryz.prog X0 O 11 (spw_toPlanb fw_toPlanr) := fn_ok (E := (Ew_toPlanb fw_toPlanr)) (c := cw_toPlanb) mixed (zad _ _ _ _ _ _ _ _) ⟨zaa ⟨okw_toTest, okw_toCellS, zpB, (okw_toPlanS fw_toPlanr hw_toPlanr), trivial⟩, zab trivial, zac trivial⟩ Tryz.func11 (by kernel_rfl) (by kernel_rfl) rfl (by kernel_rfl) (of_decide_eq_true (by kernel_rfl)) rfl (by kernel_rfl) (fun x => congrFun (eqw_toPlanb fw_toPlanr) x)
def zfo : Nat → PlanT → Option (PlanT)
 | 0, _ => none
 | n + 1, a0 => zhV (zfo n) a0
theorem okFw_toPlan : ∀ n, SpecOk Tryz.prog X0 O 11 (ziT (zfo n))
 | 0 => SpecOk.none
 | n + 1 => okw_toPlanb (zfo n) (okFw_toPlan n)
def fw_toPlan (a0 : PlanT) : Option (PlanT) := zfo (a0.dep) a0
def spw_toPlan : Spec X0 := ⟨[.inp mS yPlan], [⟨false, ⟨[.own], .st⟩, yPlan⟩], fun x => fw_toPlan x.1, true⟩
theorem okw_toPlan : SpecOk Tryz.prog X0 O 11 spw_toPlan := SpecOk.of_each (X := X0) (ps := [.inp mS yPlan]) (rs := [⟨false, ⟨[.own], .st⟩, yPlan⟩]) (fl := true) (fun n x => zfo n x.1) (fun x => x.1.dep) okFw_toPlan
def cw_toItem : Code := (Tryz.f163.body).getD .skip
def Ew_toItem : AEnv X0 := ⟨⟨⟨tab0, 12, fun d => look2 (true, mS) [] d, fun d => look2 false [] d, fun d => look2 none [] d, true, false, fun d => look2 none [] d, eqs0, mps0, fun q => look2 none [] q⟩, callL [(42, [], zkF)], invL [], cloL []⟩, fun q => look2 none [] q, []⟩
def gw_toItem (x : InT X0.T [.inp mS yItem]) := fnF Ew_toItem [.inp mS yItem] [⟨false, ⟨[.own], .st⟩, yItem⟩] true Tryz.f163.results.toList cw_toItem x
def zlu (p_a : ((List Int) × Int)) : Option ((List Int) × Int) := ((zgN p_a.1)).bind fun y0 => some (y0, p_a.2)
def spw_toItem : Spec X0 := ⟨[.inp mS yItem], [⟨false, ⟨[.own], .st⟩, yItem⟩], fun x => zlu x.1, true⟩
theorem eqw_toItem : gw_toItem = fun x => zlu x.1 := by kernel_rfl
theorem okw_toItem : SpecOk Tryz.prog X0 O 163 spw_toItem := fn_ok (E := Ew_toItem) (c := cw_toItem) mixed (zad _ _ _ _ _ _ _ _) ⟨zaa ⟨zpB, trivial⟩, zab trivial, zac trivial⟩ Tryz.func163 (by kernel_rfl) (by kernel_rfl) rfl (by kernel_rfl) (of_decide_eq_true (by kernel_rfl)) rfl (by kernel_rfl) (fun x => congrFun eqw_toItem x)
def cw_toItemS : Code := (Tryz.f124.body).getD .skip
def Ew_toItemS : AEnv X0 := ⟨⟨⟨tab0, 23, fun d => look2 (true, mS) [(7, (true, ⟨[.own], .st⟩))] d, fun d => look2 false [] d, fun d => look2 none [] d, true, false, fun d => look2 none [] d, eqs0, mps0, fun q => look2 none [] q⟩, callL [(163, [], spw_toItem)], invL [], cloL []⟩, fun q => look2 none [(3, some ⟨⟨[(0, .one (.sl mS yItem)), (3, .one (.whole 3)), (4, .one (.int .i64))], [(3, .row yItem ⟨[.own], .st⟩)]⟩, [(.exit 0, ⟨[(3, .one (.whole 3))], [(3, .row yItem ⟨[.own], .st⟩)]⟩)]⟩)] q, []⟩
def gw_toItemS (x : InT X0.T [.inp mS yRun]) := fnF Ew_toItemS [.inp mS yRun] [⟨false, ⟨[.own, .own], .st⟩, yRun⟩] true Tryz.f124.results.toList cw_toItemS x
def zgw (v1 : (List ((List Int) × Int))) (v2 : Int) (v3 : (List ((List Int) × Int))) : Option (((List ((List Int) × Int)) × (Int × (List ((List Int) × Int)))) ⊕ (List ((List Int) × Int))) := bif (decide (v2 < ((List.length v1) : Int))) then bif (inR v2 (List.length v1)) then ((zlu ((zah v1 v2).1, (zah v1 v2).2))).bind fun y4 => bif (inR v2 (List.length v3)) then some (.inl (v1, (w64 (v2 + (1 : Int))), (List.set v3 (Int.toNat v2) (y4.1, y4.2)))) else none else none else some (.inr v3)
def zeA (p_a : (List ((List Int) × Int))) : Option (List ((List Int) × Int)) := bif ((decide ((0 : Int) ≤ ((List.length p_a) : Int))) && (decide ((Int.toNat ((List.length p_a) : Int)) ≤ lim))) then (loopS (fun t => zgw t.1 t.2.1 t.2.2) (p_a, (0 : Int), (List.replicate (Int.toNat ((List.length p_a) : Int)) zaK))).bind fun y5 => some y5 else none
def ziU : Spec X0 := ⟨[.inp mS yRun], [⟨false, ⟨[.own, .own], .st⟩, yRun⟩], fun x => zeA x.1, true⟩
theorem eqw_toItemS : gw_toItemS = fun x => zeA x.1 := by kernel_rfl
theorem zmB : SpecOk Tryz.prog X0 O 124 ziU := fn_ok (E := Ew_toItemS) (c := cw_toItemS) mixed (zad _ _ _ _ _ _ _ _) ⟨zaa ⟨okw_toItem, trivial⟩, zab trivial, zac trivial⟩ Tryz.func124 (by kernel_rfl) (by kernel_rfl) rfl (by kernel_rfl) (of_decide_eq_true (by kernel_rfl)) rfl (by kernel_rfl) (fun x => congrFun eqw_toItemS x)
def cw_toItemSS : Code := (Tryz.f76.body).getD .skip
def Ew_toItemSS : AEnv X0 := ⟨⟨⟨tab0, 23, fun d => look2 (true, mS) [(7, (true, ⟨[.own, .own], .st⟩))] d, fun d => look2 false [] d, fun d => look2 none [] d, true, false, fun d => look2 none [] d, eqs0, mps0, fun q => look2 none [] q⟩, callL [(124, [], ziU)], invL [], cloL []⟩, fun q => look2 none [(3, some ⟨⟨[(0, .one (.sl mS yRun)), (3, .one (.whole 3)), (4, .one (.int .i64))], [(3, .row yRun ⟨[.own, .own], .st⟩)]⟩, [(.exit 0, ⟨[(3, .one (.whole 3))], [(3, .row yRun ⟨[.own, .own], .st⟩)]⟩)]⟩)] q, []⟩
def gw_toItemSS (x : InT X0.T [.inp mS yRuns]) := fnF Ew_toItemSS [.inp mS yRuns] [⟨false, ⟨[.own, .own, .own], .st⟩, yRuns⟩] true Tryz.f76.results.toList cw_toItemSS x
def zff (v1 : (List (List ((List Int) × Int)))) (v2 : Int) (v3 : (List (List ((List Int) × Int)))) : Option (((List (List ((List Int) × Int))) × (Int × (List (List ((List Int) × Int))))) ⊕ (List (List ((List Int) × Int)))) := bif (decide (v2 < ((List.length v1) : Int))) then bif (inR v2 (List.length v1)) then ((zeA (rdRun v1 v2))).bind fun y4 => bif (inR v2 (List.length v3)) then some (.inl (v1, (w64 (v2 + (1 : Int))), (List.set v3 (Int.toNat v2) y4))) else none else none else some (.inr v3)
def zep (p_a : (List (List ((List Int) × Int)))) : Option (List (List ((List Int) × Int))) := bif ((decide ((0 : Int) ≤ ((List.length p_a) : Int))) && (decide ((Int.toNat ((List.length p_a) : Int)) ≤ lim))) then (loopS (fun t => zff t.1 t.2.1 t.2.2) (p_a, (0 : Int), (List.replicate (Int.toNat ((List.length p_a) : Int)) zeroRun))).bind fun y5 => some y5 else none
def zkf : Spec X0 := ⟨[.inp mS yRuns], [⟨false, ⟨[.own, .own, .own], .st⟩, yRuns⟩], fun x => zep x.1, true⟩
theorem eqw_toItemSS : gw_toItemSS = fun x => zep x.1 := by kernel_rfl
theorem zpA : SpecOk Tryz.prog X0 O 76 zkf := fn_ok (E := Ew_toItemSS) (c := cw_toItemSS) mixed (zad _ _ _ _ _ _ _ _) ⟨zaa ⟨zmB, trivial⟩, zab trivial, zac trivial⟩ Tryz.func76 (by kernel_rfl) (by kernel_rfl) rfl (by kernel_rfl) (of_decide_eq_true (by kernel_rfl)) rfl (by kernel_rfl) (fun x => congrFun eqw_toItemSS x)
def cw_toSpine : Code := (Tryz.f63.body).getD .skip
def Ew_toSpine : AEnv X0 := ⟨⟨⟨tab0, 9, fun d => look2 (true, mS) [] d, fun d => look2 false [] d, fun d => look2 none [] d, true, false, fun d => look2 none [] d, eqs0, mps0, fun q => look2 none [] q⟩, callL [(76, [], zkf)], invL [], cloL []⟩, fun q => look2 none [] q, []⟩
def gw_toSpine (x : InT X0.T [.inp mS zdn]) := fnF Ew_toSpine [.inp mS zdn] [⟨false, ⟨[.own, .own, .own], .st⟩, zdn⟩] true Tryz.f63.results.toList cw_toSpine x
def zfH (p_a : (List (List ((List Int) × Int)))) : Option (List (List ((List Int) × Int))) := ((zep p_a)).bind fun y0 => some y0
def zrr : Spec X0 := ⟨[.inp mS zdn], [⟨false, ⟨[.own, .own, .own], .st⟩, zdn⟩], fun x => zfH x.1, true⟩
theorem eqw_toSpine : gw_toSpine = fun x => zfH x.1 := by kernel_rfl
theorem okw_toSpine : SpecOk Tryz.prog X0 O 63 zrr := fn_ok (E := Ew_toSpine) (c := cw_toSpine) mixed (zad _ _ _ _ _ _ _ _) ⟨zaa ⟨zpA, trivial⟩, zab trivial, zac trivial⟩ Tryz.func63 (by kernel_rfl) (by kernel_rfl) rfl (by kernel_rfl) (of_decide_eq_true (by kernel_rfl)) rfl (by kernel_rfl) (fun x => congrFun eqw_toSpine x)
def ziV (fw_toFlowr : FlowT → Option (FlowT)) : Spec X0 := ⟨[.inp mS yFlow], [⟨false, ⟨[.tc], .st⟩, yFlow⟩], fun x => fw_toFlowr x.1, true⟩
def cw_toFlowS : Code := (Tryz.f64.body).getD .skip
def Ew_toFlowS (fw_toFlowr : FlowT → Option (FlowT)) : AEnv X0 := ⟨⟨⟨tab0, 23, fun d => look2 (true, mS) [(20, (false, mS))] d, fun d => look2 false [] d, fun d => look2 none [] d, true, false, fun d => look2 none [] d, eqs0, mps0, fun q => look2 none [] q⟩, callL [(20, [], (ziV fw_toFlowr))], invL [], cloL []⟩, fun q => look2 none [(3, some ⟨⟨[(0, .one (.sl mS yFlow)), (3, .one (.whole 3)), (4, .one (.int .i64))], [(3, .row yFlow mS)]⟩, [(.exit 0, ⟨[(3, .one (.whole 3))], [(3, .row yFlow mS)]⟩)]⟩)] q, []⟩
def gw_toFlowS (fw_toFlowr : FlowT → Option (FlowT)) (x : InT X0.T [.inp mS zjB]) := fnF (Ew_toFlowS fw_toFlowr) [.inp mS zjB] [⟨false, ⟨[.own], .st⟩, zjB⟩] true Tryz.f64.results.toList cw_toFlowS x
def zgx (fw_toFlowr : FlowT → Option (FlowT)) (v1 : (List FlowT)) (v2 : Int) (v3 : (List FlowT)) : Option (((List FlowT) × (Int × (List FlowT))) ⊕ (List FlowT)) := bif (decide (v2 < ((List.length v1) : Int))) then bif (inR v2 (List.length v1)) then ((fw_toFlowr (eF (zbl v1 v2)))).bind fun y4 => bif (inR v2 (List.length v3)) then some (.inl (v1, (w64 (v2 + (1 : Int))), (List.set v3 (Int.toNat v2) (eF y4)))) else none else none else some (.inr v3)
def zfJ (fw_toFlowr : FlowT → Option (FlowT)) (p_a : (List FlowT)) : Option (List FlowT) := bif ((decide ((0 : Int) ≤ ((List.length p_a) : Int))) && (decide ((Int.toNat ((List.length p_a) : Int)) ≤ lim))) then (loopS (fun t => (zgx fw_toFlowr) t.1 t.2.1 t.2.2) (p_a, (0 : Int), (List.replicate (Int.toNat ((List.length p_a) : Int)) zkc))).bind fun y5 => some y5 else none
def spw_toFlowS (fw_toFlowr : FlowT → Option (FlowT)) : Spec X0 := ⟨[.inp mS zjB], [⟨false, ⟨[.own], .st⟩, zjB⟩], fun x => (zfJ fw_toFlowr) x.1, true⟩
theorem eqw_toFlowS (fw_toFlowr : FlowT → Option (FlowT)) : (gw_toFlowS fw_toFlowr) = fun x => (zfJ fw_toFlowr) x.1 := by kernel_rfl
theorem okw_toFlowS (fw_toFlowr : FlowT → Option (FlowT)) (hw_toFlowr : SpecOk Tryz.prog X0 O 20 (ziV fw_toFlowr)) : SpecOk Tryz.prog X0 O 64 (spw_toFlowS fw_toFlowr) := fn_ok (E := (Ew_toFlowS fw_toFlowr)) (c := cw_toFlowS) mixed (zad _ _ _ _ _ _ _ _) ⟨zaa ⟨hw_toFlowr, trivial⟩, zab trivial, zac trivial⟩ Tryz.func64 (by kernel_rfl) (by kernel_rfl) rfl (by kernel_rfl) (of_decide_eq_true (by kernel_rfl)) rfl (by kernel_rfl) (fun x => congrFun (eqw_toFlowS fw_toFlowr) x)
def cw_toFlowb : Code := (Tryz.f20.body).getD .skip
def Ew_toFlowb (fw_toFlowr : FlowT → Option (FlowT)) : AEnv X0 := ⟨⟨⟨tab0, 21, fun d => look2 (true, mS) [(6, (false, mS))] d, fun d => look2 false [(20, true)] d, fun d => look2 none [] d, true, false, fun d => look2 none [] d, eqs0, mps0, fun q => look2 none [] q⟩, callL [(11, [], spw_toPlan), (63, [], zrr), (64, [], (spw_toFlowS fw_toFlowr))], invL [], cloL []⟩, fun q => look2 none [] q, []⟩
def gw_toFlowb (fw_toFlowr : FlowT → Option (FlowT)) (x : InT X0.T [.inp mS yFlow]) := fnF (Ew_toFlowb fw_toFlowr) [.inp mS yFlow] [⟨false, ⟨[.tc], .st⟩, yFlow⟩] true Tryz.f20.results.toList cw_toFlowb x
def zhX (fw_toFlowr : FlowT → Option (FlowT)) (p_a : FlowT) : Option FlowT := ((fw_toPlan (eP (oB p_a).1))).bind fun y0 => ((zfH (oB p_a).2.1)).bind fun y1 => ((zfH (oB p_a).2.2.1)).bind fun y2 => (((zfJ fw_toFlowr) (oB p_a).2.2.2)).bind fun y3 => some (iB ((eP y0), (y1, (y2, y3))))
def spw_toFlowb (fw_toFlowr : FlowT → Option (FlowT)) : Spec X0 := ⟨[.inp mS yFlow], [⟨false, ⟨[.tc], .st⟩, yFlow⟩], fun x => (zhX fw_toFlowr) x.1, true⟩
theorem eqw_toFlowb (fw_toFlowr : FlowT → Option (FlowT)) : (gw_toFlowb fw_toFlowr) = fun x => (zhX fw_toFlowr) x.1 := by kernel_rfl
theorem okw_toFlowb (fw_toFlowr : FlowT → Option (FlowT)) (hw_toFlowr : SpecOk Tryz.prog X0 O 20 (ziV fw_toFlowr)) : SpecOk Tryz.prog X0 O 20 (spw_toFlowb fw_toFlowr) := fn_ok (E := (Ew_toFlowb fw_toFlowr)) (c := cw_toFlowb) mixed (zad _ _ _ _ _ _ _ _) ⟨zaa ⟨okw_toPlan, okw_toSpine, (okw_toFlowS fw_toFlowr hw_toFlowr), trivial⟩, zab trivial, zac trivial⟩ Tryz.func20 (by kernel_rfl) (by kernel_rfl) rfl (by kernel_rfl) (of_decide_eq_true (by kernel_rfl)) rfl (by kernel_rfl) (fun x => congrFun (eqw_toFlowb fw_toFlowr) x)
def zfp : Nat → FlowT → Option (FlowT)
 | 0, _ => none
 | n + 1, a0 => zhX (zfp n) a0
theorem okFw_toFlow : ∀ n, SpecOk Tryz.prog X0 O 20 (ziV (zfp n))
 | 0 => SpecOk.none
 | n + 1 => okw_toFlowb (zfp n) (okFw_toFlow n)
def fw_toFlow (a0 : FlowT) : Option (FlowT) := zfp (a0.dep) a0
def spw_toFlow : Spec X0 := ⟨[.inp mS yFlow], [⟨false, ⟨[.tc], .st⟩, yFlow⟩], fun x => fw_toFlow x.1, true⟩
theorem okw_toFlow : SpecOk Tryz.prog X0 O 20 spw_toFlow := SpecOk.of_each (X := X0) (ps := [.inp mS yFlow]) (rs := [⟨false, ⟨[.tc], .st⟩, yFlow⟩]) (fl := true) (fun n x => zfp n x.1) (fun x => x.1.dep) okFw_toFlow
def cs_l4Kids : Code := (Tryz.f140.body).getD .skip
def Es_l4Kids : AEnv X0 := ⟨⟨⟨tab0, 14, fun d => look2 (true, mS) [] d, fun d => look2 false [] d, fun d => look2 none [] d, true, false, fun d => look2 none [] d, eqs0, mps0, fun q => look2 none [] q⟩, callL [], invL [], cloL []⟩, fun q => look2 none [] q, []⟩
def gs_l4Kids (x : InT X0.T [.inp mS yI]) := fnF Es_l4Kids [.inp mS yI] [⟨false, mS, yI⟩] true Tryz.f140.results.toList cs_l4Kids x
def zjv (p_kind : Int) : Option Int := bif (decide (p_kind = (1 : Int))) then some (0 : Int) else bif (decide (p_kind = (2 : Int))) then bif (decide (p_kind = (2 : Int))) then some (1 : Int) else bif (decide (p_kind = (4 : Int))) then bif (decide (p_kind = (4 : Int))) then some (2 : Int) else some (-(1 : Int)) else bif (decide (p_kind = (5 : Int))) then some (2 : Int) else some (-(1 : Int)) else bif (decide (p_kind = (3 : Int))) then bif (decide (p_kind = (3 : Int))) then some (1 : Int) else bif (decide (p_kind = (4 : Int))) then bif (decide (p_kind = (4 : Int))) then some (2 : Int) else some (-(1 : Int)) else bif (decide (p_kind = (5 : Int))) then some (2 : Int) else some (-(1 : Int)) else bif (decide (p_kind = (6 : Int))) then bif (decide (p_kind = (6 : Int))) then some (1 : Int) else bif (decide (p_kind = (4 : Int))) then bif (decide (p_kind = (4 : Int))) then some (2 : Int) else some (-(1 : Int)) else bif (decide (p_kind = (5 : Int))) then some (2 : Int) else some (-(1 : Int)) else bif (decide (p_kind = (7 : Int))) then some (1 : Int) else bif (decide (p_kind = (4 : Int))) then bif (decide (p_kind = (4 : Int))) then some (2 : Int) else some (-(1 : Int)) else bif (decide (p_kind = (5 : Int))) then some (2 : Int) else some (-(1 : Int))
def zpb : Spec X0 := ⟨[.inp mS yI], [⟨false, mS, yI⟩], fun x => zjv x.1, true⟩
theorem eqs_l4Kids : gs_l4Kids = fun x => zjv x.1 := by kernel_rfl
theorem oks_l4Kids : SpecOk Tryz.prog X0 O 140 zpb := fn_ok (E := Es_l4Kids) (c := cs_l4Kids) mixed (zad _ _ _ _ _ _ _ _) ⟨zaa trivial, zab trivial, zac trivial⟩ Tryz.func140 (by kernel_rfl) (by kernel_rfl) rfl (by kernel_rfl) (of_decide_eq_true (by kernel_rfl)) rfl (by kernel_rfl) (fun x => congrFun eqs_l4Kids x)
end
end Go.Proofs.YtmbnalaiobhaaaaGreat.E
namespace Go.Proofs.YtmbnalaiobhaaaaGreat.E
noncomputable section
open Go
variable {O : World}
def cs_l4Clean : Code := (Tryz.f141.body).getD .skip
def Es_l4Clean : AEnv X0 := ⟨⟨⟨tab0, 77, fun d => look2 (true, mS) [] d, fun d => look2 false [] d, fun d => look2 none [] d, true, false, fun d => look2 none [] d, eqs0, mps0, fun q => look2 none [] q⟩, callL [], invL [], cloL []⟩, fun q => look2 none [] q, []⟩
def gs_l4Clean (x : InT X0.T [.inp mS yPlan]) := fnF Es_l4Clean [.inp mS yPlan] [⟨false, mS, yBo⟩] true Tryz.f141.results.toList cs_l4Clean x
def zfS (p_p : PlanT) : Option Bool := bif (decide ((oA p_p).1 = (1 : Int))) then bif (decide ((oA p_p).1 = (2 : Int))) then bif (decide ((oA p_p).1 = (3 : Int))) then bif (decide ((oA p_p).1 = (4 : Int))) then bif (decide ((oA p_p).1 = (7 : Int))) then some true else bif (decide (((List.length (oA p_p).2.2.2.2.2.2.1) : Int) = (0 : Int))) then bif (decide ((oA p_p).2.2.2.2.2.2.2.1 = (0 : Int))) then some (decide ((oA p_p).2.2.2.2.2.2.2.2.1 = (0 : Int))) else some false else some false else bif (decide ((oA p_p).2.2.2.2.1 = (0 : Int))) then bif (decide ((oA p_p).2.2.2.2.2.1 = (0 : Int))) then bif (decide ((oA p_p).1 = (7 : Int))) then some true else bif (decide (((List.length (oA p_p).2.2.2.2.2.2.1) : Int) = (0 : Int))) then bif (decide ((oA p_p).2.2.2.2.2.2.2.1 = (0 : Int))) then some (decide ((oA p_p).2.2.2.2.2.2.2.2.1 = (0 : Int))) else some false else some false else some false else some false else bif (decide (((List.length (oA p_p).2.2.2.1) : Int) = (0 : Int))) then bif (decide ((oA p_p).1 = (4 : Int))) then bif (decide ((oA p_p).1 = (7 : Int))) then some true else bif (decide (((List.length (oA p_p).2.2.2.2.2.2.1) : Int) = (0 : Int))) then bif (decide ((oA p_p).2.2.2.2.2.2.2.1 = (0 : Int))) then some (decide ((oA p_p).2.2.2.2.2.2.2.2.1 = (0 : Int))) else some false else some false else bif (decide ((oA p_p).2.2.2.2.1 = (0 : Int))) then bif (decide ((oA p_p).2.2.2.2.2.1 = (0 : Int))) then bif (decide ((oA p_p).1 = (7 : Int))) then some true else bif (decide (((List.length (oA p_p).2.2.2.2.2.2.1) : Int) = (0 : Int))) then bif (decide ((oA p_p).2.2.2.2.2.2.2.1 = (0 : Int))) then some (decide ((oA p_p).2.2.2.2.2.2.2.2.1 = (0 : Int))) else some false else some false else some false else some false else some false else bif ((decide ((oA p_p).2.2.1.1 = (0 : Int))) && (((oA p_p).2.2.1.2.1 == false) && (((decide ((oA p_p).2.2.1.2.2.1.1 = (0 : Int))) && ((decide ((oA p_p).2.2.1.2.2.1.2.1 = (0 : Int))) && ((decide ((oA p_p).2.2.1.2.2.1.2.2.1 = (0 : Int))) && (decide ((oA p_p).2.2.1.2.2.1.2.2.2 = (0 : Int)))))) && ((decide ((oA p_p).2.2.1.2.2.2.1 = (0 : Int))) && ((decide ((oA p_p).2.2.1.2.2.2.2.1 = (0 : Int))) && ((decide ((oA p_p).2.2.1.2.2.2.2.2.1 = (0 : Int))) && (decide ((oA p_p).2.2.1.2.2.2.2.2.2 = (0 : Int))))))))) then bif (decide ((oA p_p).1 = (3 : Int))) then bif (decide ((oA p_p).1 = (4 : Int))) then bif (decide ((oA p_p).1 = (7 : Int))) then some true else bif (decide (((List.length (oA p_p).2.2.2.2.2.2.1) : Int) = (0 : Int))) then bif (decide ((oA p_p).2.2.2.2.2.2.2.1 = (0 : Int))) then some (decide ((oA p_p).2.2.2.2.2.2.2.2.1 = (0 : Int))) else some false else some false else bif (decide ((oA p_p).2.2.2.2.1 = (0 : Int))) then bif (decide ((oA p_p).2.2.2.2.2.1 = (0 : Int))) then bif (decide ((oA p_p).1 = (7 : Int))) then some true else bif (decide (((List.length (oA p_p).2.2.2.2.2.2.1) : Int) = (0 : Int))) then bif (decide ((oA p_p).2.2.2.2.2.2.2.1 = (0 : Int))) then some (decide ((oA p_p).2.2.2.2.2.2.2.2.1 = (0 : Int))) else some false else some false else some false else some false else bif (decide (((List.length (oA p_p).2.2.2.1) : Int) = (0 : Int))) then bif (decide ((oA p_p).1 = (4 : Int))) then bif (decide ((oA p_p).1 = (7 : Int))) then some true else bif (decide (((List.length (oA p_p).2.2.2.2.2.2.1) : Int) = (0 : Int))) then bif (decide ((oA p_p).2.2.2.2.2.2.2.1 = (0 : Int))) then some (decide ((oA p_p).2.2.2.2.2.2.2.2.1 = (0 : Int))) else some false else some false else bif (decide ((oA p_p).2.2.2.2.1 = (0 : Int))) then bif (decide ((oA p_p).2.2.2.2.2.1 = (0 : Int))) then bif (decide ((oA p_p).1 = (7 : Int))) then some true else bif (decide (((List.length (oA p_p).2.2.2.2.2.2.1) : Int) = (0 : Int))) then bif (decide ((oA p_p).2.2.2.2.2.2.2.1 = (0 : Int))) then some (decide ((oA p_p).2.2.2.2.2.2.2.2.1 = (0 : Int))) else some false else some false else some false else some false else some false else some false else bif (decide ((oA p_p).2.1 = (0 : Int))) then bif (decide ((oA p_p).1 = (2 : Int))) then bif (decide ((oA p_p).1 = (3 : Int))) then bif (decide ((oA p_p).1 = (4 : Int))) then bif (decide ((oA p_p).1 = (7 : Int))) then some true else bif (decide (((List.length (oA p_p).2.2.2.2.2.2.1) : Int) = (0 : Int))) then bif (decide ((oA p_p).2.2.2.2.2.2.2.1 = (0 : Int))) then some (decide ((oA p_p).2.2.2.2.2.2.2.2.1 = (0 : Int))) else some false else some false else bif (decide ((oA p_p).2.2.2.2.1 = (0 : Int))) then bif (decide ((oA p_p).2.2.2.2.2.1 = (0 : Int))) then bif (decide ((oA p_p).1 = (7 : Int))) then some true else bif (decide (((List.length (oA p_p).2.2.2.2.2.2.1) : Int) = (0 : Int))) then bif (decide ((oA p_p).2.2.2.2.2.2.2.1 = (0 : Int))) then some (decide ((oA p_p).2.2.2.2.2.2.2.2.1 = (0 : Int))) else some false else some false else some false else some false else bif (decide (((List.length (oA p_p).2.2.2.1) : Int) = (0 : Int))) then bif (decide ((oA p_p).1 = (4 : Int))) then bif (decide ((oA p_p).1 = (7 : Int))) then some true else bif (decide (((List.length (oA p_p).2.2.2.2.2.2.1) : Int) = (0 : Int))) then bif (decide ((oA p_p).2.2.2.2.2.2.2.1 = (0 : Int))) then some (decide ((oA p_p).2.2.2.2.2.2.2.2.1 = (0 : Int))) else some false else some false else bif (decide ((oA p_p).2.2.2.2.1 = (0 : Int))) then bif (decide ((oA p_p).2.2.2.2.2.1 = (0 : Int))) then bif (decide ((oA p_p).1 = (7 : Int))) then some true else bif (decide (((List.length (oA p_p).2.2.2.2.2.2.1) : Int) = (0 : Int))) then bif (decide ((oA p_p).2.2.2.2.2.2.2.1 = (0 : Int))) then some (decide ((oA p_p).2.2.2.2.2.2.2.2.1 = (0 : Int))) else some false else some false else some false else some false else some false else bif ((decide ((oA p_p).2.2.1.1 = (0 : Int))) && (((oA p_p).2.2.1.2.1 == false) && (((decide ((oA p_p).2.2.1.2.2.1.1 = (0 : Int))) && ((decide ((oA p_p).2.2.1.2.2.1.2.1 = (0 : Int))) && ((decide ((oA p_p).2.2.1.2.2.1.2.2.1 = (0 : Int))) && (decide ((oA p_p).2.2.1.2.2.1.2.2.2 = (0 : Int)))))) && ((decide ((oA p_p).2.2.1.2.2.2.1 = (0 : Int))) && ((decide ((oA p_p).2.2.1.2.2.2.2.1 = (0 : Int))) && ((decide ((oA p_p).2.2.1.2.2.2.2.2.1 = (0 : Int))) && (decide ((oA p_p).2.2.1.2.2.2.2.2.2 = (0 : Int))))))))) then bif (decide ((oA p_p).1 = (3 : Int))) then bif (decide ((oA p_p).1 = (4 : Int))) then bif (decide ((oA p_p).1 = (7 : Int))) then some true else bif (decide (((List.length (oA p_p).2.2.2.2.2.2.1) : Int) = (0 : Int))) then bif (decide ((oA p_p).2.2.2.2.2.2.2.1 = (0 : Int))) then some (decide ((oA p_p).2.2.2.2.2.2.2.2.1 = (0 : Int))) else some false else some false else bif (decide ((oA p_p).2.2.2.2.1 = (0 : Int))) then bif (decide ((oA p_p).2.2.2.2.2.1 = (0 : Int))) then bif (decide ((oA p_p).1 = (7 : Int))) then some true else bif (decide (((List.length (oA p_p).2.2.2.2.2.2.1) : Int) = (0 : Int))) then bif (decide ((oA p_p).2.2.2.2.2.2.2.1 = (0 : Int))) then some (decide ((oA p_p).2.2.2.2.2.2.2.2.1 = (0 : Int))) else some false else some false else some false else some false else bif (decide (((List.length (oA p_p).2.2.2.1) : Int) = (0 : Int))) then bif (decide ((oA p_p).1 = (4 : Int))) then bif (decide ((oA p_p).1 = (7 : Int))) then some true else bif (decide (((List.length (oA p_p).2.2.2.2.2.2.1) : Int) = (0 : Int))) then bif (decide ((oA p_p).2.2.2.2.2.2.2.1 = (0 : Int))) then some (decide ((oA p_p).2.2.2.2.2.2.2.2.1 = (0 : Int))) else some false else some false else bif (decide ((oA p_p).2.2.2.2.1 = (0 : Int))) then bif (decide ((oA p_p).2.2.2.2.2.1 = (0 : Int))) then bif (decide ((oA p_p).1 = (7 : Int))) then some true else bif (decide (((List.length (oA p_p).2.2.2.2.2.2.1) : Int) = (0 : Int))) then bif (decide ((oA p_p).2.2.2.2.2.2.2.1 = (0 : Int))) then some (decide ((oA p_p).2.2.2.2.2.2.2.2.1 = (0 : Int))) else some false else some false else some false else some false else some false else some false else some false
def zmm : Spec X0 := ⟨[.inp mS yPlan], [⟨false, mS, yBo⟩], fun x => zfS x.1, true⟩
theorem eqs_l4Clean : gs_l4Clean = fun x => zfS x.1 := by kernel_rfl
theorem oks_l4Clean : SpecOk Tryz.prog X0 O 141 zmm := fn_ok (E := Es_l4Clean) (c := cs_l4Clean) mixed (zad _ _ _ _ _ _ _ _) ⟨zaa trivial, zab trivial, zac trivial⟩ Tryz.func141 (by kernel_rfl) (by kernel_rfl) rfl (by kernel_rfl) (of_decide_eq_true (by kernel_rfl)) rfl (by kernel_rfl) (fun x => congrFun eqs_l4Clean x)
def zml (fs_l4Formr : PlanT → Int → Option (Bool)) : Spec X0 := ⟨[.inp mS yPlan, .inp mS yI], [⟨false, mS, yBo⟩], fun x => fs_l4Formr x.1 x.2.1, true⟩
def cs_l3Col : Code := (Tryz.f144.body).getD .skip
def Es_l3Col : AEnv X0 := ⟨⟨⟨tab0, 16, fun d => look2 (true, mS) [] d, fun d => look2 false [] d, fun d => look2 none [] d, true, false, fun d => look2 none [] d, eqs0, mps0, fun q => look2 none [] q⟩, callL [], invL [], cloL []⟩, fun q => look2 none [] q, []⟩
def gs_l3Col (x : InT X0.T [.inp mS yI, .inp mS yI]) := fnF Es_l3Col [.inp mS yI, .inp mS yI] [⟨false, mS, yBo⟩] true Tryz.f144.results.toList cs_l3Col x
def zdy (p_n : Int) (p_wide : Int) : Option Bool := bif (decide ((0 : Int) ≤ p_n)) then bif (decide (p_n < p_wide)) then some (decide (p_n < (6 : Int))) else some false else some false
def zkI : Spec X0 := ⟨[.inp mS yI, .inp mS yI], [⟨false, mS, yBo⟩], fun x => zdy x.1 x.2.1, true⟩
theorem eqs_l3Col : gs_l3Col = fun x => zdy x.1 x.2.1 := by kernel_rfl
theorem zoP : SpecOk Tryz.prog X0 O 144 zkI := fn_ok (E := Es_l3Col) (c := cs_l3Col) mixed (zad _ _ _ _ _ _ _ _) ⟨zaa trivial, zab trivial, zac trivial⟩ Tryz.func144 (by kernel_rfl) (by kernel_rfl) rfl (by kernel_rfl) (of_decide_eq_true (by kernel_rfl)) rfl (by kernel_rfl) (fun x => congrFun eqs_l3Col x)
def cs_l1Cell : Code := (Tryz.f189.body).getD .skip
def Es_l1Cell : AEnv X0 := ⟨⟨⟨tab0, 9, fun d => look2 (true, mS) [] d, fun d => look2 false [] d, fun d => look2 none [] d, true, false, fun d => look2 none [] d, eqs0, mps0, fun q => look2 none [] q⟩, callL [], invL [], cloL []⟩, fun q => look2 none [] q, []⟩
def gs_l1Cell (x : InT X0.T [.inp mS yI]) := fnF Es_l1Cell [.inp mS yI] [⟨false, mS, yBo⟩] true Tryz.f189.results.toList cs_l1Cell x
def zjx (p_n : Int) : Option Bool := bif (decide ((-(1000000000 : Int)) ≤ p_n)) then some (decide (p_n ≤ (1000000000 : Int))) else some false
def zpe : Spec X0 := ⟨[.inp mS yI], [⟨false, mS, yBo⟩], fun x => zjx x.1, true⟩
theorem eqs_l1Cell : gs_l1Cell = fun x => zjx x.1 := by kernel_rfl
theorem oks_l1Cell : SpecOk Tryz.prog X0 O 189 zpe := fn_ok (E := Es_l1Cell) (c := cs_l1Cell) mixed (zad _ _ _ _ _ _ _ _) ⟨zaa trivial, zab trivial, zac trivial⟩ Tryz.func189 (by kernel_rfl) (by kernel_rfl) rfl (by kernel_rfl) (of_decide_eq_true (by kernel_rfl)) rfl (by kernel_rfl) (fun x => congrFun eqs_l1Cell x)
def cs_CellOk : Code := (Tryz.f181.body).getD .skip
def Es_CellOk : AEnv X0 := ⟨⟨⟨tab0, 55, fun d => look2 (true, mS) [] d, fun d => look2 false [] d, fun d => look2 none [] d, true, false, fun d => look2 none [] d, eqs0, mps0, fun q => look2 none [] q⟩, callL [(144, [], zkI), (189, [], zpe)], invL [], cloL []⟩, fun q => look2 none [] q, []⟩
def gs_CellOk (x : InT X0.T [.inp mS yCell, .inp mS yI]) := fnF Es_CellOk [.inp mS yCell, .inp mS yI] [⟨false, mS, yBo⟩] true Tryz.f181.results.toList cs_CellOk x
def zem (p_c : (Int × (Int × (Int × Int)))) (p_wide : Int) : Option Bool := bif (decide (p_c.1 = (1 : Int))) then ((zdy p_c.2.1 p_wide)).bind fun y0 => bif y0 then bif (decide (p_c.2.2.1 = (0 : Int))) then some (decide (p_c.2.2.2 = (0 : Int))) else some false else some false else bif (decide (p_c.1 = (2 : Int))) then bif (decide (p_c.2.1 = (0 : Int))) then bif (decide (p_c.2.2.1 = (0 : Int))) then ((zjx p_c.2.2.2)).bind fun y1 => some y1 else some false else some false else bif (decide (p_c.1 = (3 : Int))) then ((zdy p_c.2.1 p_wide)).bind fun y2 => bif y2 then ((zdy p_c.2.2.1 p_wide)).bind fun y3 => bif y3 then some (decide (p_c.2.2.2 = (0 : Int))) else some false else some false else some false
def zpi : Spec X0 := ⟨[.inp mS yCell, .inp mS yI], [⟨false, mS, yBo⟩], fun x => zem x.1 x.2.1, true⟩
theorem eqs_CellOk : gs_CellOk = fun x => zem x.1 x.2.1 := by kernel_rfl
theorem oks_CellOk : SpecOk Tryz.prog X0 O 181 zpi := fn_ok (E := Es_CellOk) (c := cs_CellOk) mixed (zad _ _ _ _ _ _ _ _) ⟨zaa ⟨zoP, oks_l1Cell, trivial⟩, zab trivial, zac trivial⟩ Tryz.func181 (by kernel_rfl) (by kernel_rfl) rfl (by kernel_rfl) (of_decide_eq_true (by kernel_rfl)) rfl (by kernel_rfl) (fun x => congrFun eqs_CellOk x)
def cs_TestOk : Code := (Tryz.f142.body).getD .skip
def Es_TestOk : AEnv X0 := ⟨⟨⟨tab0, 25, fun d => look2 (true, mS) [] d, fun d => look2 false [] d, fun d => look2 none [] d, true, false, fun d => look2 none [] d, eqs0, mps0, fun q => look2 none [] q⟩, callL [(181, [], zpi)], invL [], cloL []⟩, fun q => look2 none [] q, []⟩
def gs_TestOk (x : InT X0.T [.inp mS yTest, .inp mS yI]) := fnF Es_TestOk [.inp mS yTest, .inp mS yI] [⟨false, mS, yBo⟩] true Tryz.f142.results.toList cs_TestOk x
def zgS (p_t : (Int × (Bool × ((Int × (Int × (Int × Int))) × (Int × (Int × (Int × Int))))))) (p_wide : Int) : Option Bool := bif (decide (p_t.1 = (1 : Int))) then ((zem (p_t.2.2.1.1, (p_t.2.2.1.2.1, (p_t.2.2.1.2.2.1, p_t.2.2.1.2.2.2))) p_wide)).bind fun y0 => bif y0 then ((zem (p_t.2.2.2.1, (p_t.2.2.2.2.1, (p_t.2.2.2.2.2.1, p_t.2.2.2.2.2.2))) p_wide)).bind fun y1 => some y1 else some false else bif (decide (p_t.1 = (2 : Int))) then ((zem (p_t.2.2.1.1, (p_t.2.2.1.2.1, (p_t.2.2.1.2.2.1, p_t.2.2.1.2.2.2))) p_wide)).bind fun y2 => bif y2 then ((zem (p_t.2.2.2.1, (p_t.2.2.2.2.1, (p_t.2.2.2.2.2.1, p_t.2.2.2.2.2.2))) p_wide)).bind fun y3 => some y3 else some false else some false
def zpf : Spec X0 := ⟨[.inp mS yTest, .inp mS yI], [⟨false, mS, yBo⟩], fun x => zgS x.1 x.2.1, true⟩
theorem eqs_TestOk : gs_TestOk = fun x => zgS x.1 x.2.1 := by kernel_rfl
theorem oks_TestOk : SpecOk Tryz.prog X0 O 142 zpf := fn_ok (E := Es_TestOk) (c := cs_TestOk) mixed (zad _ _ _ _ _ _ _ _) ⟨zaa ⟨oks_CellOk, trivial⟩, zab trivial, zac trivial⟩ Tryz.func142 (by kernel_rfl) (by kernel_rfl) rfl (by kernel_rfl) (of_decide_eq_true (by kernel_rfl)) rfl (by kernel_rfl) (fun x => congrFun eqs_TestOk x)
def cs_l4Cells : Code := (Tryz.f143.body).getD .skip
def Es_l4Cells : AEnv X0 := ⟨⟨⟨tab0, 27, fun d => look2 (true, mS) [] d, fun d => look2 false [] d, fun d => look2 none [] d, true, false, fun d => look2 none [] d, eqs0, mps0, fun q => look2 none [] q⟩, callL [(181, [], zpi)], invL [], cloL []⟩, fun q => look2 none [(2, some ⟨⟨[(0, .one (.sl mS yCell)), (1, .one (.int .i64)), (5, .one (.int .i64))], []⟩, [(.exit 0, ⟨[(0, .one (.sl mS yCell))], []⟩), (.ret, ⟨[(4, .one (.bool))], []⟩)]⟩)] q, []⟩
def gs_l4Cells (x : InT X0.T [.inp mS zcJ, .inp mS yI]) := fnF Es_l4Cells [.inp mS zcJ, .inp mS yI] [⟨false, mS, yBo⟩] true Tryz.f143.results.toList cs_l4Cells x
def zgI (v1 : (List (Int × (Int × (Int × Int))))) (v2 : Int) (v3 : Int) : Option (((List (Int × (Int × (Int × Int)))) × (Int × Int)) ⊕ ((List (Int × (Int × (Int × Int)))) ⊕ Bool)) := bif (decide (v3 < ((List.length v1) : Int))) then bif (inR v3 (List.length v1)) then ((zem ((zaH v1 v3).1, ((zaH v1 v3).2.1, ((zaH v1 v3).2.2.1, (zaH v1 v3).2.2.2))) v2)).bind fun y4 => bif (!y4) then some (.inr (.inr false)) else some (.inl (v1, v2, (w64 (v3 + (1 : Int))))) else none else some (.inr (.inl v1))
def zfT (p_list : (List (Int × (Int × (Int × Int))))) (p_wide : Int) : Option Bool := (loopS (fun t => zgI t.1 t.2.1 t.2.2) (p_list, p_wide, (0 : Int))).bind fun y5 => (match y5 with | .inl z6 => bif (decide ((1 : Int) ≤ ((List.length z6) : Int))) then some (decide (((List.length z6) : Int) ≤ (6 : Int))) else some false | .inr z7 => some z7)
def zmn : Spec X0 := ⟨[.inp mS zcJ, .inp mS yI], [⟨false, mS, yBo⟩], fun x => zfT x.1 x.2.1, true⟩
theorem eqs_l4Cells : gs_l4Cells = fun x => zfT x.1 x.2.1 := by kernel_rfl
theorem oks_l4Cells : SpecOk Tryz.prog X0 O 143 zmn := fn_ok (E := Es_l4Cells) (c := cs_l4Cells) mixed (zad _ _ _ _ _ _ _ _) ⟨zaa ⟨oks_CellOk, trivial⟩, zab trivial, zac trivial⟩ Tryz.func143 (by kernel_rfl) (by kernel_rfl) rfl (by kernel_rfl) (of_decide_eq_true (by kernel_rfl)) rfl (by kernel_rfl) (fun x => congrFun eqs_l4Cells x)
def cs_l4Keys : Code := (Tryz.f145.body).getD .skip
def Es_l4Keys : AEnv X0 := ⟨⟨⟨tab0, 37, fun d => look2 (true, mS) [] d, fun d => look2 false [] d, fun d => look2 none [] d, true, false, fun d => look2 none [] d, eqs0, mps0, fun q => look2 none [] q⟩, callL [(144, [], zkI)], invL [], cloL []⟩, fun q => look2 none [(7, some ⟨⟨[(0, .one (.sl mS yI)), (1, .one (.int .i64)), (5, .one (.int .i64)), (6, .one (.int .i64))], []⟩, [(.exit 2, ⟨[(0, .one (.sl mS yI)), (1, .one (.int .i64)), (5, .one (.int .i64))], []⟩), (.ret, ⟨[(4, .one (.bool))], []⟩)]⟩), (2, some ⟨⟨[(0, .one (.sl mS yI)), (1, .one (.int .i64)), (5, .one (.int .i64))], []⟩, [(.exit 0, ⟨[(0, .one (.sl mS yI))], []⟩), (.ret, ⟨[(4, .one (.bool))], []⟩)]⟩)] q, []⟩
def gs_l4Keys (x : InT X0.T [.inp mS yRow, .inp mS yI]) := fnF Es_l4Keys [.inp mS yRow, .inp mS yI] [⟨false, mS, yBo⟩] true Tryz.f145.results.toList cs_l4Keys x
def zfF (v6 : (List Int)) (v7 : Int) (v8 : Int) (v9 : Int) : Option (((List Int) × (Int × (Int × Int))) ⊕ (((List Int) × (Int × Int)) ⊕ Bool)) := bif (decide (v9 < v8)) then bif (inR v9 (List.length v6)) then bif (inR v8 (List.length v6)) then bif (decide ((rdI v6 v9) = (rdI v6 v8))) then some (.inr (.inr false)) else some (.inl (v6, v7, v8, (w64 (v9 + (1 : Int))))) else none else none else some (.inr (.inl (v6, v7, v8)))
def zjk (v1 : (List Int)) (v2 : Int) (v3 : Int) : Option (((List Int) × (Int × Int)) ⊕ ((List Int) ⊕ Bool)) := bif (decide (v3 < ((List.length v1) : Int))) then bif (inR v3 (List.length v1)) then ((zdy (rdI v1 v3) v2)).bind fun y4 => bif (!y4) then some (.inr (.inr false)) else (loopS (fun t => zfF t.1 t.2.1 t.2.2.1 t.2.2.2) (v1, v2, v3, (0 : Int))).bind fun y10 => (match y10 with | .inl (z11, z12, z13) => some (.inl (z11, z12, (w64 (z13 + (1 : Int))))) | .inr z14 => some (.inr (.inr z14))) else none else some (.inr (.inl v1))
def zjw (p_list : (List Int)) (p_wide : Int) : Option Bool := (loopS (fun t => zjk t.1 t.2.1 t.2.2) (p_list, p_wide, (0 : Int))).bind fun y15 => (match y15 with | .inl z16 => some (decide (((List.length z16) : Int) < (6 : Int))) | .inr z17 => some z17)
def zpc : Spec X0 := ⟨[.inp mS yRow, .inp mS yI], [⟨false, mS, yBo⟩], fun x => zjw x.1 x.2.1, true⟩
theorem eqs_l4Keys : gs_l4Keys = fun x => zjw x.1 x.2.1 := by kernel_rfl
theorem oks_l4Keys : SpecOk Tryz.prog X0 O 145 zpc := fn_ok (E := Es_l4Keys) (c := cs_l4Keys) mixed (zad _ _ _ _ _ _ _ _) ⟨zaa ⟨zoP, trivial⟩, zab trivial, zac trivial⟩ Tryz.func145 (by kernel_rfl) (by kernel_rfl) rfl (by kernel_rfl) (of_decide_eq_true (by kernel_rfl)) rfl (by kernel_rfl) (fun x => congrFun eqs_l4Keys x)
end
end Go.Proofs.YtmbnalaiobhaaaaGreat.E
namespace Go.Proofs.YtmbnalaiobhaaaaGreat.E
noncomputable section
open Go
variable {O : World}
def cs_l4Formb : Code := (Tryz.f95.body).getD .skip
def Es_l4Formb (fs_l4Formr : PlanT → Int → Option (Bool)) : AEnv X0 := ⟨⟨⟨tab0, 94, fun d => look2 (true, mS) [] d, fun d => look2 false [] d, fun d => look2 none [] d, true, false, fun d => look2 none [] d, eqs0, mps0, fun q => look2 none [] q⟩, callL [(140, [], zpb), (141, [], zmm), (95, [], (zml fs_l4Formr)), (142, [], zpf), (143, [], zmn), (144, [], zkI), (145, [], zpc)], invL [], cloL []⟩, fun q => look2 none [(16, some ⟨⟨[(1, .one (.int .i64)), (2, .one (.ptr 2 0)), (5, .one (.bool)), (6, .one (.int .i64))], [(2, .box [.int .i64, .int .i64, .int .i64, .bool, .int .i64, .int .i64, .int .i64, .int .i64, .int .i64, .int .i64, .int .i64, .int .i64, .sl mS yCell, .int .i64, .int .i64, .sl mS yI, .int .i64, .int .i64, .sl mS yPlan])]⟩, [(.exit 1, ⟨[(5, .one (.bool))], []⟩)]⟩)] q, []⟩
def gs_l4Formb (fs_l4Formr : PlanT → Int → Option (Bool)) (x : InT X0.T [.inp mS yPlan, .inp mS yI]) := fnF (Es_l4Formb fs_l4Formr) [.inp mS yPlan, .inp mS yI] [⟨false, mS, yBo⟩] true Tryz.f95.results.toList cs_l4Formb x
def zaO (fs_l4Formr : PlanT → Int → Option (Bool)) (v3 : Int) (v4 : Bool) (v5 : Int) (v6 : Int) (v7 : Int) (v8 : Int) (v9 : Bool) (v10 : Int) (v11 : Int) (v12 : Int) (v13 : Int) (v14 : Int) (v15 : Int) (v16 : Int) (v17 : Int) (v18 : (List (Int × (Int × (Int × Int))))) (v19 : Int) (v20 : Int) (v21 : (List Int)) (v22 : Int) (v23 : Int) (v24 : (List PlanT)) : Option ((Int × (Bool × (Int × (Int × (Int × (Int × (Bool × (Int × (Int × (Int × (Int × (Int × (Int × (Int × (Int × ((List (Int × (Int × (Int × Int)))) × (Int × (Int × ((List Int) × (Int × (Int × (List PlanT)))))))))))))))))))))) ⊕ Bool) := bif (decide (v5 < ((List.length v24) : Int))) then bif v4 then bif (inR v5 (List.length v24)) then ((fs_l4Formr (eP (zaG v24 v5)) (w64 (v3 - (1 : Int))))).bind fun y25 => some (.inl (v3, y25, (w64 (v5 + (1 : Int))), v6, v7, v8, v9, v10, v11, v12, v13, v14, v15, v16, v17, v18, v19, v20, v21, v22, v23, v24)) else none else some (.inr v4) else some (.inr v4)
def znA (fs_l4Formr : PlanT → Int → Option (Bool)) (v28 : Int) (v29 : Bool) (v30 : Int) (v31 : Int) (v32 : Int) (v33 : Int) (v34 : Bool) (v35 : Int) (v36 : Int) (v37 : Int) (v38 : Int) (v39 : Int) (v40 : Int) (v41 : Int) (v42 : Int) (v43 : (List (Int × (Int × (Int × Int))))) (v44 : Int) (v45 : Int) (v46 : (List Int)) (v47 : Int) (v48 : Int) (v49 : (List PlanT)) : Option ((Int × (Bool × (Int × (Int × (Int × (Int × (Bool × (Int × (Int × (Int × (Int × (Int × (Int × (Int × (Int × ((List (Int × (Int × (Int × Int)))) × (Int × (Int × ((List Int) × (Int × (Int × (List PlanT)))))))))))))))))))))) ⊕ Bool) := bif (decide (v30 < ((List.length v49) : Int))) then bif v29 then bif (inR v30 (List.length v49)) then ((fs_l4Formr (eP (zaG v49 v30)) (w64 (v28 - (1 : Int))))).bind fun y50 => some (.inl (v28, y50, (w64 (v30 + (1 : Int))), v31, v32, v33, v34, v35, v36, v37, v38, v39, v40, v41, v42, v43, v44, v45, v46, v47, v48, v49)) else none else some (.inr v29) else some (.inr v29)
def znz (fs_l4Formr : PlanT → Int → Option (Bool)) (v54 : Int) (v55 : Bool) (v56 : Int) (v57 : Int) (v58 : Int) (v59 : Int) (v60 : Bool) (v61 : Int) (v62 : Int) (v63 : Int) (v64 : Int) (v65 : Int) (v66 : Int) (v67 : Int) (v68 : Int) (v69 : (List (Int × (Int × (Int × Int))))) (v70 : Int) (v71 : Int) (v72 : (List Int)) (v73 : Int) (v74 : Int) (v75 : (List PlanT)) : Option ((Int × (Bool × (Int × (Int × (Int × (Int × (Bool × (Int × (Int × (Int × (Int × (Int × (Int × (Int × (Int × ((List (Int × (Int × (Int × Int)))) × (Int × (Int × ((List Int) × (Int × (Int × (List PlanT)))))))))))))))))))))) ⊕ Bool) := bif (decide (v56 < ((List.length v75) : Int))) then bif v55 then bif (inR v56 (List.length v75)) then ((fs_l4Formr (eP (zaG v75 v56)) (w64 (v54 - (1 : Int))))).bind fun y76 => some (.inl (v54, y76, (w64 (v56 + (1 : Int))), v57, v58, v59, v60, v61, v62, v63, v64, v65, v66, v67, v68, v69, v70, v71, v72, v73, v74, v75)) else none else some (.inr v55) else some (.inr v55)
def zny (fs_l4Formr : PlanT → Int → Option (Bool)) (v80 : Int) (v81 : Bool) (v82 : Int) (v83 : Int) (v84 : Int) (v85 : Int) (v86 : Bool) (v87 : Int) (v88 : Int) (v89 : Int) (v90 : Int) (v91 : Int) (v92 : Int) (v93 : Int) (v94 : Int) (v95 : (List (Int × (Int × (Int × Int))))) (v96 : Int) (v97 : Int) (v98 : (List Int)) (v99 : Int) (v100 : Int) (v101 : (List PlanT)) : Option ((Int × (Bool × (Int × (Int × (Int × (Int × (Bool × (Int × (Int × (Int × (Int × (Int × (Int × (Int × (Int × ((List (Int × (Int × (Int × Int)))) × (Int × (Int × ((List Int) × (Int × (Int × (List PlanT)))))))))))))))))))))) ⊕ Bool) := bif (decide (v82 < ((List.length v101) : Int))) then bif v81 then bif (inR v82 (List.length v101)) then ((fs_l4Formr (eP (zaG v101 v82)) (w64 (v80 - (1 : Int))))).bind fun y102 => some (.inl (v80, y102, (w64 (v82 + (1 : Int))), v83, v84, v85, v86, v87, v88, v89, v90, v91, v92, v93, v94, v95, v96, v97, v98, v99, v100, v101)) else none else some (.inr v81) else some (.inr v81)
def zlk (fs_l4Formr : PlanT → Int → Option (Bool)) (v107 : Int) (v108 : Bool) (v109 : Int) (v110 : Int) (v111 : Int) (v112 : Int) (v113 : Bool) (v114 : Int) (v115 : Int) (v116 : Int) (v117 : Int) (v118 : Int) (v119 : Int) (v120 : Int) (v121 : Int) (v122 : (List (Int × (Int × (Int × Int))))) (v123 : Int) (v124 : Int) (v125 : (List Int)) (v126 : Int) (v127 : Int) (v128 : (List PlanT)) : Option ((Int × (Bool × (Int × (Int × (Int × (Int × (Bool × (Int × (Int × (Int × (Int × (Int × (Int × (Int × (Int × ((List (Int × (Int × (Int × Int)))) × (Int × (Int × ((List Int) × (Int × (Int × (List PlanT)))))))))))))))))))))) ⊕ Bool) := bif (decide (v109 < ((List.length v128) : Int))) then bif v108 then bif (inR v109 (List.length v128)) then ((fs_l4Formr (eP (zaG v128 v109)) (w64 (v107 - (1 : Int))))).bind fun y129 => some (.inl (v107, y129, (w64 (v109 + (1 : Int))), v110, v111, v112, v113, v114, v115, v116, v117, v118, v119, v120, v121, v122, v123, v124, v125, v126, v127, v128)) else none else some (.inr v108) else some (.inr v108)
def zlj (fs_l4Formr : PlanT → Int → Option (Bool)) (v132 : Int) (v133 : Bool) (v134 : Int) (v135 : Int) (v136 : Int) (v137 : Int) (v138 : Bool) (v139 : Int) (v140 : Int) (v141 : Int) (v142 : Int) (v143 : Int) (v144 : Int) (v145 : Int) (v146 : Int) (v147 : (List (Int × (Int × (Int × Int))))) (v148 : Int) (v149 : Int) (v150 : (List Int)) (v151 : Int) (v152 : Int) (v153 : (List PlanT)) : Option ((Int × (Bool × (Int × (Int × (Int × (Int × (Bool × (Int × (Int × (Int × (Int × (Int × (Int × (Int × (Int × ((List (Int × (Int × (Int × Int)))) × (Int × (Int × ((List Int) × (Int × (Int × (List PlanT)))))))))))))))))))))) ⊕ Bool) := bif (decide (v134 < ((List.length v153) : Int))) then bif v133 then bif (inR v134 (List.length v153)) then ((fs_l4Formr (eP (zaG v153 v134)) (w64 (v132 - (1 : Int))))).bind fun y154 => some (.inl (v132, y154, (w64 (v134 + (1 : Int))), v135, v136, v137, v138, v139, v140, v141, v142, v143, v144, v145, v146, v147, v148, v149, v150, v151, v152, v153)) else none else some (.inr v133) else some (.inr v133)
def zli (fs_l4Formr : PlanT → Int → Option (Bool)) (v159 : Int) (v160 : Bool) (v161 : Int) (v162 : Int) (v163 : Int) (v164 : Int) (v165 : Bool) (v166 : Int) (v167 : Int) (v168 : Int) (v169 : Int) (v170 : Int) (v171 : Int) (v172 : Int) (v173 : Int) (v174 : (List (Int × (Int × (Int × Int))))) (v175 : Int) (v176 : Int) (v177 : (List Int)) (v178 : Int) (v179 : Int) (v180 : (List PlanT)) : Option ((Int × (Bool × (Int × (Int × (Int × (Int × (Bool × (Int × (Int × (Int × (Int × (Int × (Int × (Int × (Int × ((List (Int × (Int × (Int × Int)))) × (Int × (Int × ((List Int) × (Int × (Int × (List PlanT)))))))))))))))))))))) ⊕ Bool) := bif (decide (v161 < ((List.length v180) : Int))) then bif v160 then bif (inR v161 (List.length v180)) then ((fs_l4Formr (eP (zaG v180 v161)) (w64 (v159 - (1 : Int))))).bind fun y181 => some (.inl (v159, y181, (w64 (v161 + (1 : Int))), v162, v163, v164, v165, v166, v167, v168, v169, v170, v171, v172, v173, v174, v175, v176, v177, v178, v179, v180)) else none else some (.inr v160) else some (.inr v160)
def zlh (fs_l4Formr : PlanT → Int → Option (Bool)) (v184 : Int) (v185 : Bool) (v186 : Int) (v187 : Int) (v188 : Int) (v189 : Int) (v190 : Bool) (v191 : Int) (v192 : Int) (v193 : Int) (v194 : Int) (v195 : Int) (v196 : Int) (v197 : Int) (v198 : Int) (v199 : (List (Int × (Int × (Int × Int))))) (v200 : Int) (v201 : Int) (v202 : (List Int)) (v203 : Int) (v204 : Int) (v205 : (List PlanT)) : Option ((Int × (Bool × (Int × (Int × (Int × (Int × (Bool × (Int × (Int × (Int × (Int × (Int × (Int × (Int × (Int × ((List (Int × (Int × (Int × Int)))) × (Int × (Int × ((List Int) × (Int × (Int × (List PlanT)))))))))))))))))))))) ⊕ Bool) := bif (decide (v186 < ((List.length v205) : Int))) then bif v185 then bif (inR v186 (List.length v205)) then ((fs_l4Formr (eP (zaG v205 v186)) (w64 (v184 - (1 : Int))))).bind fun y206 => some (.inl (v184, y206, (w64 (v186 + (1 : Int))), v187, v188, v189, v190, v191, v192, v193, v194, v195, v196, v197, v198, v199, v200, v201, v202, v203, v204, v205)) else none else some (.inr v185) else some (.inr v185)
def zlg (fs_l4Formr : PlanT → Int → Option (Bool)) (v209 : Int) (v210 : Bool) (v211 : Int) (v212 : Int) (v213 : Int) (v214 : Int) (v215 : Bool) (v216 : Int) (v217 : Int) (v218 : Int) (v219 : Int) (v220 : Int) (v221 : Int) (v222 : Int) (v223 : Int) (v224 : (List (Int × (Int × (Int × Int))))) (v225 : Int) (v226 : Int) (v227 : (List Int)) (v228 : Int) (v229 : Int) (v230 : (List PlanT)) : Option ((Int × (Bool × (Int × (Int × (Int × (Int × (Bool × (Int × (Int × (Int × (Int × (Int × (Int × (Int × (Int × ((List (Int × (Int × (Int × Int)))) × (Int × (Int × ((List Int) × (Int × (Int × (List PlanT)))))))))))))))))))))) ⊕ Bool) := bif (decide (v211 < ((List.length v230) : Int))) then bif v210 then bif (inR v211 (List.length v230)) then ((fs_l4Formr (eP (zaG v230 v211)) (w64 (v209 - (1 : Int))))).bind fun y231 => some (.inl (v209, y231, (w64 (v211 + (1 : Int))), v212, v213, v214, v215, v216, v217, v218, v219, v220, v221, v222, v223, v224, v225, v226, v227, v228, v229, v230)) else none else some (.inr v210) else some (.inr v210)
def zlf (fs_l4Formr : PlanT → Int → Option (Bool)) (v234 : Int) (v235 : Bool) (v236 : Int) (v237 : Int) (v238 : Int) (v239 : Int) (v240 : Bool) (v241 : Int) (v242 : Int) (v243 : Int) (v244 : Int) (v245 : Int) (v246 : Int) (v247 : Int) (v248 : Int) (v249 : (List (Int × (Int × (Int × Int))))) (v250 : Int) (v251 : Int) (v252 : (List Int)) (v253 : Int) (v254 : Int) (v255 : (List PlanT)) : Option ((Int × (Bool × (Int × (Int × (Int × (Int × (Bool × (Int × (Int × (Int × (Int × (Int × (Int × (Int × (Int × ((List (Int × (Int × (Int × Int)))) × (Int × (Int × ((List Int) × (Int × (Int × (List PlanT)))))))))))))))))))))) ⊕ Bool) := bif (decide (v236 < ((List.length v255) : Int))) then bif v235 then bif (inR v236 (List.length v255)) then ((fs_l4Formr (eP (zaG v255 v236)) (w64 (v234 - (1 : Int))))).bind fun y256 => some (.inl (v234, y256, (w64 (v236 + (1 : Int))), v237, v238, v239, v240, v241, v242, v243, v244, v245, v246, v247, v248, v249, v250, v251, v252, v253, v254, v255)) else none else some (.inr v235) else some (.inr v235)
def zle (fs_l4Formr : PlanT → Int → Option (Bool)) (v259 : Int) (v260 : Bool) (v261 : Int) (v262 : Int) (v263 : Int) (v264 : Int) (v265 : Bool) (v266 : Int) (v267 : Int) (v268 : Int) (v269 : Int) (v270 : Int) (v271 : Int) (v272 : Int) (v273 : Int) (v274 : (List (Int × (Int × (Int × Int))))) (v275 : Int) (v276 : Int) (v277 : (List Int)) (v278 : Int) (v279 : Int) (v280 : (List PlanT)) : Option ((Int × (Bool × (Int × (Int × (Int × (Int × (Bool × (Int × (Int × (Int × (Int × (Int × (Int × (Int × (Int × ((List (Int × (Int × (Int × Int)))) × (Int × (Int × ((List Int) × (Int × (Int × (List PlanT)))))))))))))))))))))) ⊕ Bool) := bif (decide (v261 < ((List.length v280) : Int))) then bif v260 then bif (inR v261 (List.length v280)) then ((fs_l4Formr (eP (zaG v280 v261)) (w64 (v259 - (1 : Int))))).bind fun y281 => some (.inl (v259, y281, (w64 (v261 + (1 : Int))), v262, v263, v264, v265, v266, v267, v268, v269, v270, v271, v272, v273, v274, v275, v276, v277, v278, v279, v280)) else none else some (.inr v260) else some (.inr v260)
def zfR (fs_l4Formr : PlanT → Int → Option (Bool)) (p_p : PlanT) (p_deep : Int) : Option Bool := bif (decide (p_deep < (1 : Int))) then some false else ((zjv (oA p_p).1)).bind fun y0 => bif (!(decide (y0 = ((List.length (oA p_p).2.2.2.2.2.2.2.2.2) : Int)))) then some false else ((zfS (eP p_p))).bind fun y1 => bif (!y1) then some false else bif (decide ((oA p_p).1 = (1 : Int))) then bif (decide ((0 : Int) ≤ (oA p_p).2.1)) then (loopS (fun t => (zaO fs_l4Formr) t.1 t.2.1 t.2.2.1 t.2.2.2.1 t.2.2.2.2.1 t.2.2.2.2.2.1 t.2.2.2.2.2.2.1 t.2.2.2.2.2.2.2.1 t.2.2.2.2.2.2.2.2.1 t.2.2.2.2.2.2.2.2.2.1 t.2.2.2.2.2.2.2.2.2.2.1 t.2.2.2.2.2.2.2.2.2.2.2.1 t.2.2.2.2.2.2.2.2.2.2.2.2.1 t.2.2.2.2.2.2.2.2.2.2.2.2.2.1 t.2.2.2.2.2.2.2.2.2.2.2.2.2.2.1 t.2.2.2.2.2.2.2.2.2.2.2.2.2.2.2.1 t.2.2.2.2.2.2.2.2.2.2.2.2.2.2.2.2.1 t.2.2.2.2.2.2.2.2.2.2.2.2.2.2.2.2.2.1 t.2.2.2.2.2.2.2.2.2.2.2.2.2.2.2.2.2.2.1 t.2.2.2.2.2.2.2.2.2.2.2.2.2.2.2.2.2.2.2.1 t.2.2.2.2.2.2.2.2.2.2.2.2.2.2.2.2.2.2.2.2.1 t.2.2.2.2.2.2.2.2.2.2.2.2.2.2.2.2.2.2.2.2.2) (p_deep, (decide ((oA p_p).2.1 < (3 : Int))), (0 : Int), (oA p_p).1, (oA p_p).2.1, (oA p_p).2.2.1.1, (oA p_p).2.2.1.2.1, (oA p_p).2.2.1.2.2.1.1, (oA p_p).2.2.1.2.2.1.2.1, (oA p_p).2.2.1.2.2.1.2.2.1, (oA p_p).2.2.1.2.2.1.2.2.2, (oA p_p).2.2.1.2.2.2.1, (oA p_p).2.2.1.2.2.2.2.1, (oA p_p).2.2.1.2.2.2.2.2.1, (oA p_p).2.2.1.2.2.2.2.2.2, (oA p_p).2.2.2.1, (oA p_p).2.2.2.2.1, (oA p_p).2.2.2.2.2.1, (oA p_p).2.2.2.2.2.2.1, (oA p_p).2.2.2.2.2.2.2.1, (oA p_p).2.2.2.2.2.2.2.2.1, (oA p_p).2.2.2.2.2.2.2.2.2)).bind fun y26 => some y26 else (loopS (fun t => (znA fs_l4Formr) t.1 t.2.1 t.2.2.1 t.2.2.2.1 t.2.2.2.2.1 t.2.2.2.2.2.1 t.2.2.2.2.2.2.1 t.2.2.2.2.2.2.2.1 t.2.2.2.2.2.2.2.2.1 t.2.2.2.2.2.2.2.2.2.1 t.2.2.2.2.2.2.2.2.2.2.1 t.2.2.2.2.2.2.2.2.2.2.2.1 t.2.2.2.2.2.2.2.2.2.2.2.2.1 t.2.2.2.2.2.2.2.2.2.2.2.2.2.1 t.2.2.2.2.2.2.2.2.2.2.2.2.2.2.1 t.2.2.2.2.2.2.2.2.2.2.2.2.2.2.2.1 t.2.2.2.2.2.2.2.2.2.2.2.2.2.2.2.2.1 t.2.2.2.2.2.2.2.2.2.2.2.2.2.2.2.2.2.1 t.2.2.2.2.2.2.2.2.2.2.2.2.2.2.2.2.2.2.1 t.2.2.2.2.2.2.2.2.2.2.2.2.2.2.2.2.2.2.2.1 t.2.2.2.2.2.2.2.2.2.2.2.2.2.2.2.2.2.2.2.2.1 t.2.2.2.2.2.2.2.2.2.2.2.2.2.2.2.2.2.2.2.2.2) (p_deep, false, (0 : Int), (oA p_p).1, (oA p_p).2.1, (oA p_p).2.2.1.1, (oA p_p).2.2.1.2.1, (oA p_p).2.2.1.2.2.1.1, (oA p_p).2.2.1.2.2.1.2.1, (oA p_p).2.2.1.2.2.1.2.2.1, (oA p_p).2.2.1.2.2.1.2.2.2, (oA p_p).2.2.1.2.2.2.1, (oA p_p).2.2.1.2.2.2.2.1, (oA p_p).2.2.1.2.2.2.2.2.1, (oA p_p).2.2.1.2.2.2.2.2.2, (oA p_p).2.2.2.1, (oA p_p).2.2.2.2.1, (oA p_p).2.2.2.2.2.1, (oA p_p).2.2.2.2.2.2.1, (oA p_p).2.2.2.2.2.2.2.1, (oA p_p).2.2.2.2.2.2.2.2.1, (oA p_p).2.2.2.2.2.2.2.2.2)).bind fun y51 => some y51 else bif (decide ((oA p_p).1 = (2 : Int))) then ((zgS ((oA p_p).2.2.1.1, ((oA p_p).2.2.1.2.1, (((oA p_p).2.2.1.2.2.1.1, ((oA p_p).2.2.1.2.2.1.2.1, ((oA p_p).2.2.1.2.2.1.2.2.1, (oA p_p).2.2.1.2.2.1.2.2.2))), ((oA p_p).2.2.1.2.2.2.1, ((oA p_p).2.2.1.2.2.2.2.1, ((oA p_p).2.2.1.2.2.2.2.2.1, (oA p_p).2.2.1.2.2.2.2.2.2)))))) (6 : Int))).bind fun y52 => (loopS (fun t => (znz fs_l4Formr) t.1 t.2.1 t.2.2.1 t.2.2.2.1 t.2.2.2.2.1 t.2.2.2.2.2.1 t.2.2.2.2.2.2.1 t.2.2.2.2.2.2.2.1 t.2.2.2.2.2.2.2.2.1 t.2.2.2.2.2.2.2.2.2.1 t.2.2.2.2.2.2.2.2.2.2.1 t.2.2.2.2.2.2.2.2.2.2.2.1 t.2.2.2.2.2.2.2.2.2.2.2.2.1 t.2.2.2.2.2.2.2.2.2.2.2.2.2.1 t.2.2.2.2.2.2.2.2.2.2.2.2.2.2.1 t.2.2.2.2.2.2.2.2.2.2.2.2.2.2.2.1 t.2.2.2.2.2.2.2.2.2.2.2.2.2.2.2.2.1 t.2.2.2.2.2.2.2.2.2.2.2.2.2.2.2.2.2.1 t.2.2.2.2.2.2.2.2.2.2.2.2.2.2.2.2.2.2.1 t.2.2.2.2.2.2.2.2.2.2.2.2.2.2.2.2.2.2.2.1 t.2.2.2.2.2.2.2.2.2.2.2.2.2.2.2.2.2.2.2.2.1 t.2.2.2.2.2.2.2.2.2.2.2.2.2.2.2.2.2.2.2.2.2) (p_deep, y52, (0 : Int), (oA p_p).1, (oA p_p).2.1, (oA p_p).2.2.1.1, (oA p_p).2.2.1.2.1, (oA p_p).2.2.1.2.2.1.1, (oA p_p).2.2.1.2.2.1.2.1, (oA p_p).2.2.1.2.2.1.2.2.1, (oA p_p).2.2.1.2.2.1.2.2.2, (oA p_p).2.2.1.2.2.2.1, (oA p_p).2.2.1.2.2.2.2.1, (oA p_p).2.2.1.2.2.2.2.2.1, (oA p_p).2.2.1.2.2.2.2.2.2, (oA p_p).2.2.2.1, (oA p_p).2.2.2.2.1, (oA p_p).2.2.2.2.2.1, (oA p_p).2.2.2.2.2.2.1, (oA p_p).2.2.2.2.2.2.2.1, (oA p_p).2.2.2.2.2.2.2.2.1, (oA p_p).2.2.2.2.2.2.2.2.2)).bind fun y77 => some y77 else bif (decide ((oA p_p).1 = (3 : Int))) then ((zfT (oA p_p).2.2.2.1 (6 : Int))).bind fun y78 => (loopS (fun t => (zny fs_l4Formr) t.1 t.2.1 t.2.2.1 t.2.2.2.1 t.2.2.2.2.1 t.2.2.2.2.2.1 t.2.2.2.2.2.2.1 t.2.2.2.2.2.2.2.1 t.2.2.2.2.2.2.2.2.1 t.2.2.2.2.2.2.2.2.2.1 t.2.2.2.2.2.2.2.2.2.2.1 t.2.2.2.2.2.2.2.2.2.2.2.1 t.2.2.2.2.2.2.2.2.2.2.2.2.1 t.2.2.2.2.2.2.2.2.2.2.2.2.2.1 t.2.2.2.2.2.2.2.2.2.2.2.2.2.2.1 t.2.2.2.2.2.2.2.2.2.2.2.2.2.2.2.1 t.2.2.2.2.2.2.2.2.2.2.2.2.2.2.2.2.1 t.2.2.2.2.2.2.2.2.2.2.2.2.2.2.2.2.2.1 t.2.2.2.2.2.2.2.2.2.2.2.2.2.2.2.2.2.2.1 t.2.2.2.2.2.2.2.2.2.2.2.2.2.2.2.2.2.2.2.1 t.2.2.2.2.2.2.2.2.2.2.2.2.2.2.2.2.2.2.2.2.1 t.2.2.2.2.2.2.2.2.2.2.2.2.2.2.2.2.2.2.2.2.2) (p_deep, y78, (0 : Int), (oA p_p).1, (oA p_p).2.1, (oA p_p).2.2.1.1, (oA p_p).2.2.1.2.1, (oA p_p).2.2.1.2.2.1.1, (oA p_p).2.2.1.2.2.1.2.1, (oA p_p).2.2.1.2.2.1.2.2.1, (oA p_p).2.2.1.2.2.1.2.2.2, (oA p_p).2.2.1.2.2.2.1, (oA p_p).2.2.1.2.2.2.2.1, (oA p_p).2.2.1.2.2.2.2.2.1, (oA p_p).2.2.1.2.2.2.2.2.2, (oA p_p).2.2.2.1, (oA p_p).2.2.2.2.1, (oA p_p).2.2.2.2.2.1, (oA p_p).2.2.2.2.2.2.1, (oA p_p).2.2.2.2.2.2.2.1, (oA p_p).2.2.2.2.2.2.2.2.1, (oA p_p).2.2.2.2.2.2.2.2.2)).bind fun y103 => some y103 else bif (decide ((oA p_p).1 = (4 : Int))) then ((zdy (oA p_p).2.2.2.2.1 (6 : Int))).bind fun y104 => bif y104 then ((zdy (oA p_p).2.2.2.2.2.1 (6 : Int))).bind fun y105 => (loopS (fun t => (zlk fs_l4Formr) t.1 t.2.1 t.2.2.1 t.2.2.2.1 t.2.2.2.2.1 t.2.2.2.2.2.1 t.2.2.2.2.2.2.1 t.2.2.2.2.2.2.2.1 t.2.2.2.2.2.2.2.2.1 t.2.2.2.2.2.2.2.2.2.1 t.2.2.2.2.2.2.2.2.2.2.1 t.2.2.2.2.2.2.2.2.2.2.2.1 t.2.2.2.2.2.2.2.2.2.2.2.2.1 t.2.2.2.2.2.2.2.2.2.2.2.2.2.1 t.2.2.2.2.2.2.2.2.2.2.2.2.2.2.1 t.2.2.2.2.2.2.2.2.2.2.2.2.2.2.2.1 t.2.2.2.2.2.2.2.2.2.2.2.2.2.2.2.2.1 t.2.2.2.2.2.2.2.2.2.2.2.2.2.2.2.2.2.1 t.2.2.2.2.2.2.2.2.2.2.2.2.2.2.2.2.2.2.1 t.2.2.2.2.2.2.2.2.2.2.2.2.2.2.2.2.2.2.2.1 t.2.2.2.2.2.2.2.2.2.2.2.2.2.2.2.2.2.2.2.2.1 t.2.2.2.2.2.2.2.2.2.2.2.2.2.2.2.2.2.2.2.2.2) (p_deep, y105, (0 : Int), (oA p_p).1, (oA p_p).2.1, (oA p_p).2.2.1.1, (oA p_p).2.2.1.2.1, (oA p_p).2.2.1.2.2.1.1, (oA p_p).2.2.1.2.2.1.2.1, (oA p_p).2.2.1.2.2.1.2.2.1, (oA p_p).2.2.1.2.2.1.2.2.2, (oA p_p).2.2.1.2.2.2.1, (oA p_p).2.2.1.2.2.2.2.1, (oA p_p).2.2.1.2.2.2.2.2.1, (oA p_p).2.2.1.2.2.2.2.2.2, (oA p_p).2.2.2.1, (oA p_p).2.2.2.2.1, (oA p_p).2.2.2.2.2.1, (oA p_p).2.2.2.2.2.2.1, (oA p_p).2.2.2.2.2.2.2.1, (oA p_p).2.2.2.2.2.2.2.2.1, (oA p_p).2.2.2.2.2.2.2.2.2)).bind fun y130 => some y130 else (loopS (fun t => (zlj fs_l4Formr) t.1 t.2.1 t.2.2.1 t.2.2.2.1 t.2.2.2.2.1 t.2.2.2.2.2.1 t.2.2.2.2.2.2.1 t.2.2.2.2.2.2.2.1 t.2.2.2.2.2.2.2.2.1 t.2.2.2.2.2.2.2.2.2.1 t.2.2.2.2.2.2.2.2.2.2.1 t.2.2.2.2.2.2.2.2.2.2.2.1 t.2.2.2.2.2.2.2.2.2.2.2.2.1 t.2.2.2.2.2.2.2.2.2.2.2.2.2.1 t.2.2.2.2.2.2.2.2.2.2.2.2.2.2.1 t.2.2.2.2.2.2.2.2.2.2.2.2.2.2.2.1 t.2.2.2.2.2.2.2.2.2.2.2.2.2.2.2.2.1 t.2.2.2.2.2.2.2.2.2.2.2.2.2.2.2.2.2.1 t.2.2.2.2.2.2.2.2.2.2.2.2.2.2.2.2.2.2.1 t.2.2.2.2.2.2.2.2.2.2.2.2.2.2.2.2.2.2.2.1 t.2.2.2.2.2.2.2.2.2.2.2.2.2.2.2.2.2.2.2.2.1 t.2.2.2.2.2.2.2.2.2.2.2.2.2.2.2.2.2.2.2.2.2) (p_deep, false, (0 : Int), (oA p_p).1, (oA p_p).2.1, (oA p_p).2.2.1.1, (oA p_p).2.2.1.2.1, (oA p_p).2.2.1.2.2.1.1, (oA p_p).2.2.1.2.2.1.2.1, (oA p_p).2.2.1.2.2.1.2.2.1, (oA p_p).2.2.1.2.2.1.2.2.2, (oA p_p).2.2.1.2.2.2.1, (oA p_p).2.2.1.2.2.2.2.1, (oA p_p).2.2.1.2.2.2.2.2.1, (oA p_p).2.2.1.2.2.2.2.2.2, (oA p_p).2.2.2.1, (oA p_p).2.2.2.2.1, (oA p_p).2.2.2.2.2.1, (oA p_p).2.2.2.2.2.2.1, (oA p_p).2.2.2.2.2.2.2.1, (oA p_p).2.2.2.2.2.2.2.2.1, (oA p_p).2.2.2.2.2.2.2.2.2)).bind fun y155 => some y155 else bif (decide ((oA p_p).1 = (7 : Int))) then ((zjw (oA p_p).2.2.2.2.2.2.1 (6 : Int))).bind fun y156 => bif y156 then bif (decide ((0 : Int) ≤ (oA p_p).2.2.2.2.2.2.2.1)) then bif (decide ((oA p_p).2.2.2.2.2.2.2.1 ≤ (3 : Int))) then ((zdy (oA p_p).2.2.2.2.2.2.2.2.1 (6 : Int))).bind fun y157 => (loopS (fun t => (zli fs_l4Formr) t.1 t.2.1 t.2.2.1 t.2.2.2.1 t.2.2.2.2.1 t.2.2.2.2.2.1 t.2.2.2.2.2.2.1 t.2.2.2.2.2.2.2.1 t.2.2.2.2.2.2.2.2.1 t.2.2.2.2.2.2.2.2.2.1 t.2.2.2.2.2.2.2.2.2.2.1 t.2.2.2.2.2.2.2.2.2.2.2.1 t.2.2.2.2.2.2.2.2.2.2.2.2.1 t.2.2.2.2.2.2.2.2.2.2.2.2.2.1 t.2.2.2.2.2.2.2.2.2.2.2.2.2.2.1 t.2.2.2.2.2.2.2.2.2.2.2.2.2.2.2.1 t.2.2.2.2.2.2.2.2.2.2.2.2.2.2.2.2.1 t.2.2.2.2.2.2.2.2.2.2.2.2.2.2.2.2.2.1 t.2.2.2.2.2.2.2.2.2.2.2.2.2.2.2.2.2.2.1 t.2.2.2.2.2.2.2.2.2.2.2.2.2.2.2.2.2.2.2.1 t.2.2.2.2.2.2.2.2.2.2.2.2.2.2.2.2.2.2.2.2.1 t.2.2.2.2.2.2.2.2.2.2.2.2.2.2.2.2.2.2.2.2.2) (p_deep, y157, (0 : Int), (oA p_p).1, (oA p_p).2.1, (oA p_p).2.2.1.1, (oA p_p).2.2.1.2.1, (oA p_p).2.2.1.2.2.1.1, (oA p_p).2.2.1.2.2.1.2.1, (oA p_p).2.2.1.2.2.1.2.2.1, (oA p_p).2.2.1.2.2.1.2.2.2, (oA p_p).2.2.1.2.2.2.1, (oA p_p).2.2.1.2.2.2.2.1, (oA p_p).2.2.1.2.2.2.2.2.1, (oA p_p).2.2.1.2.2.2.2.2.2, (oA p_p).2.2.2.1, (oA p_p).2.2.2.2.1, (oA p_p).2.2.2.2.2.1, (oA p_p).2.2.2.2.2.2.1, (oA p_p).2.2.2.2.2.2.2.1, (oA p_p).2.2.2.2.2.2.2.2.1, (oA p_p).2.2.2.2.2.2.2.2.2)).bind fun y182 => some y182 else (loopS (fun t => (zlh fs_l4Formr) t.1 t.2.1 t.2.2.1 t.2.2.2.1 t.2.2.2.2.1 t.2.2.2.2.2.1 t.2.2.2.2.2.2.1 t.2.2.2.2.2.2.2.1 t.2.2.2.2.2.2.2.2.1 t.2.2.2.2.2.2.2.2.2.1 t.2.2.2.2.2.2.2.2.2.2.1 t.2.2.2.2.2.2.2.2.2.2.2.1 t.2.2.2.2.2.2.2.2.2.2.2.2.1 t.2.2.2.2.2.2.2.2.2.2.2.2.2.1 t.2.2.2.2.2.2.2.2.2.2.2.2.2.2.1 t.2.2.2.2.2.2.2.2.2.2.2.2.2.2.2.1 t.2.2.2.2.2.2.2.2.2.2.2.2.2.2.2.2.1 t.2.2.2.2.2.2.2.2.2.2.2.2.2.2.2.2.2.1 t.2.2.2.2.2.2.2.2.2.2.2.2.2.2.2.2.2.2.1 t.2.2.2.2.2.2.2.2.2.2.2.2.2.2.2.2.2.2.2.1 t.2.2.2.2.2.2.2.2.2.2.2.2.2.2.2.2.2.2.2.2.1 t.2.2.2.2.2.2.2.2.2.2.2.2.2.2.2.2.2.2.2.2.2) (p_deep, false, (0 : Int), (oA p_p).1, (oA p_p).2.1, (oA p_p).2.2.1.1, (oA p_p).2.2.1.2.1, (oA p_p).2.2.1.2.2.1.1, (oA p_p).2.2.1.2.2.1.2.1, (oA p_p).2.2.1.2.2.1.2.2.1, (oA p_p).2.2.1.2.2.1.2.2.2, (oA p_p).2.2.1.2.2.2.1, (oA p_p).2.2.1.2.2.2.2.1, (oA p_p).2.2.1.2.2.2.2.2.1, (oA p_p).2.2.1.2.2.2.2.2.2, (oA p_p).2.2.2.1, (oA p_p).2.2.2.2.1, (oA p_p).2.2.2.2.2.1, (oA p_p).2.2.2.2.2.2.1, (oA p_p).2.2.2.2.2.2.2.1, (oA p_p).2.2.2.2.2.2.2.2.1, (oA p_p).2.2.2.2.2.2.2.2.2)).bind fun y207 => some y207 else (loopS (fun t => (zlg fs_l4Formr) t.1 t.2.1 t.2.2.1 t.2.2.2.1 t.2.2.2.2.1 t.2.2.2.2.2.1 t.2.2.2.2.2.2.1 t.2.2.2.2.2.2.2.1 t.2.2.2.2.2.2.2.2.1 t.2.2.2.2.2.2.2.2.2.1 t.2.2.2.2.2.2.2.2.2.2.1 t.2.2.2.2.2.2.2.2.2.2.2.1 t.2.2.2.2.2.2.2.2.2.2.2.2.1 t.2.2.2.2.2.2.2.2.2.2.2.2.2.1 t.2.2.2.2.2.2.2.2.2.2.2.2.2.2.1 t.2.2.2.2.2.2.2.2.2.2.2.2.2.2.2.1 t.2.2.2.2.2.2.2.2.2.2.2.2.2.2.2.2.1 t.2.2.2.2.2.2.2.2.2.2.2.2.2.2.2.2.2.1 t.2.2.2.2.2.2.2.2.2.2.2.2.2.2.2.2.2.2.1 t.2.2.2.2.2.2.2.2.2.2.2.2.2.2.2.2.2.2.2.1 t.2.2.2.2.2.2.2.2.2.2.2.2.2.2.2.2.2.2.2.2.1 t.2.2.2.2.2.2.2.2.2.2.2.2.2.2.2.2.2.2.2.2.2) (p_deep, false, (0 : Int), (oA p_p).1, (oA p_p).2.1, (oA p_p).2.2.1.1, (oA p_p).2.2.1.2.1, (oA p_p).2.2.1.2.2.1.1, (oA p_p).2.2.1.2.2.1.2.1, (oA p_p).2.2.1.2.2.1.2.2.1, (oA p_p).2.2.1.2.2.1.2.2.2, (oA p_p).2.2.1.2.2.2.1, (oA p_p).2.2.1.2.2.2.2.1, (oA p_p).2.2.1.2.2.2.2.2.1, (oA p_p).2.2.1.2.2.2.2.2.2, (oA p_p).2.2.2.1, (oA p_p).2.2.2.2.1, (oA p_p).2.2.2.2.2.1, (oA p_p).2.2.2.2.2.2.1, (oA p_p).2.2.2.2.2.2.2.1, (oA p_p).2.2.2.2.2.2.2.2.1, (oA p_p).2.2.2.2.2.2.2.2.2)).bind fun y232 => some y232 else (loopS (fun t => (zlf fs_l4Formr) t.1 t.2.1 t.2.2.1 t.2.2.2.1 t.2.2.2.2.1 t.2.2.2.2.2.1 t.2.2.2.2.2.2.1 t.2.2.2.2.2.2.2.1 t.2.2.2.2.2.2.2.2.1 t.2.2.2.2.2.2.2.2.2.1 t.2.2.2.2.2.2.2.2.2.2.1 t.2.2.2.2.2.2.2.2.2.2.2.1 t.2.2.2.2.2.2.2.2.2.2.2.2.1 t.2.2.2.2.2.2.2.2.2.2.2.2.2.1 t.2.2.2.2.2.2.2.2.2.2.2.2.2.2.1 t.2.2.2.2.2.2.2.2.2.2.2.2.2.2.2.1 t.2.2.2.2.2.2.2.2.2.2.2.2.2.2.2.2.1 t.2.2.2.2.2.2.2.2.2.2.2.2.2.2.2.2.2.1 t.2.2.2.2.2.2.2.2.2.2.2.2.2.2.2.2.2.2.1 t.2.2.2.2.2.2.2.2.2.2.2.2.2.2.2.2.2.2.2.1 t.2.2.2.2.2.2.2.2.2.2.2.2.2.2.2.2.2.2.2.2.1 t.2.2.2.2.2.2.2.2.2.2.2.2.2.2.2.2.2.2.2.2.2) (p_deep, false, (0 : Int), (oA p_p).1, (oA p_p).2.1, (oA p_p).2.2.1.1, (oA p_p).2.2.1.2.1, (oA p_p).2.2.1.2.2.1.1, (oA p_p).2.2.1.2.2.1.2.1, (oA p_p).2.2.1.2.2.1.2.2.1, (oA p_p).2.2.1.2.2.1.2.2.2, (oA p_p).2.2.1.2.2.2.1, (oA p_p).2.2.1.2.2.2.2.1, (oA p_p).2.2.1.2.2.2.2.2.1, (oA p_p).2.2.1.2.2.2.2.2.2, (oA p_p).2.2.2.1, (oA p_p).2.2.2.2.1, (oA p_p).2.2.2.2.2.1, (oA p_p).2.2.2.2.2.2.1, (oA p_p).2.2.2.2.2.2.2.1, (oA p_p).2.2.2.2.2.2.2.2.1, (oA p_p).2.2.2.2.2.2.2.2.2)).bind fun y257 => some y257 else (loopS (fun t => (zle fs_l4Formr) t.1 t.2.1 t.2.2.1 t.2.2.2.1 t.2.2.2.2.1 t.2.2.2.2.2.1 t.2.2.2.2.2.2.1 t.2.2.2.2.2.2.2.1 t.2.2.2.2.2.2.2.2.1 t.2.2.2.2.2.2.2.2.2.1 t.2.2.2.2.2.2.2.2.2.2.1 t.2.2.2.2.2.2.2.2.2.2.2.1 t.2.2.2.2.2.2.2.2.2.2.2.2.1 t.2.2.2.2.2.2.2.2.2.2.2.2.2.1 t.2.2.2.2.2.2.2.2.2.2.2.2.2.2.1 t.2.2.2.2.2.2.2.2.2.2.2.2.2.2.2.1 t.2.2.2.2.2.2.2.2.2.2.2.2.2.2.2.2.1 t.2.2.2.2.2.2.2.2.2.2.2.2.2.2.2.2.2.1 t.2.2.2.2.2.2.2.2.2.2.2.2.2.2.2.2.2.2.1 t.2.2.2.2.2.2.2.2.2.2.2.2.2.2.2.2.2.2.2.1 t.2.2.2.2.2.2.2.2.2.2.2.2.2.2.2.2.2.2.2.2.1 t.2.2.2.2.2.2.2.2.2.2.2.2.2.2.2.2.2.2.2.2.2) (p_deep, true, (0 : Int), (oA p_p).1, (oA p_p).2.1, (oA p_p).2.2.1.1, (oA p_p).2.2.1.2.1, (oA p_p).2.2.1.2.2.1.1, (oA p_p).2.2.1.2.2.1.2.1, (oA p_p).2.2.1.2.2.1.2.2.1, (oA p_p).2.2.1.2.2.1.2.2.2, (oA p_p).2.2.1.2.2.2.1, (oA p_p).2.2.1.2.2.2.2.1, (oA p_p).2.2.1.2.2.2.2.2.1, (oA p_p).2.2.1.2.2.2.2.2.2, (oA p_p).2.2.2.1, (oA p_p).2.2.2.2.1, (oA p_p).2.2.2.2.2.1, (oA p_p).2.2.2.2.2.2.1, (oA p_p).2.2.2.2.2.2.2.1, (oA p_p).2.2.2.2.2.2.2.2.1, (oA p_p).2.2.2.2.2.2.2.2.2)).bind fun y282 => some y282
def sps_l4Formb (fs_l4Formr : PlanT → Int → Option (Bool)) : Spec X0 := ⟨[.inp mS yPlan, .inp mS yI], [⟨false, mS, yBo⟩], fun x => (zfR fs_l4Formr) x.1 x.2.1, true⟩
theorem eqs_l4Formb (fs_l4Formr : PlanT → Int → Option (Bool)) : (gs_l4Formb fs_l4Formr) = fun x => (zfR fs_l4Formr) x.1 x.2.1 := by kernel_rfl
theorem oks_l4Formb (fs_l4Formr : PlanT → Int → Option (Bool)) (hs_l4Formr : SpecOk Tryz.prog X0 O 95 (zml fs_l4Formr)) : SpecOk Tryz.prog X0 O 95 (sps_l4Formb fs_l4Formr) := fn_ok (E := (Es_l4Formb fs_l4Formr)) (c := cs_l4Formb) mixed (zad _ _ _ _ _ _ _ _) ⟨zaa ⟨oks_l4Kids, oks_l4Clean, hs_l4Formr, oks_TestOk, oks_l4Cells, zoP, oks_l4Keys, trivial⟩, zab trivial, zac trivial⟩ Tryz.func95 (by kernel_rfl) (by kernel_rfl) rfl (by kernel_rfl) (of_decide_eq_true (by kernel_rfl)) rfl (by kernel_rfl) (fun x => congrFun (eqs_l4Formb fs_l4Formr) x)
def zhd : Nat → PlanT → Int → Option (Bool)
 | 0, _, _ => none
 | n + 1, a0, a1 => zfR (zhd n) a0 a1
theorem okFs_l4Form : ∀ n, SpecOk Tryz.prog X0 O 95 (zml (zhd n))
 | 0 => SpecOk.none
 | n + 1 => oks_l4Formb (zhd n) (okFs_l4Form n)
def fs_l4Form (a0 : PlanT) (a1 : Int) : Option (Bool) := zhd (a0.dep) a0 a1
def sps_l4Form : Spec X0 := ⟨[.inp mS yPlan, .inp mS yI], [⟨false, mS, yBo⟩], fun x => fs_l4Form x.1 x.2.1, true⟩
theorem oks_l4Form : SpecOk Tryz.prog X0 O 95 sps_l4Form := SpecOk.of_each (X := X0) (ps := [.inp mS yPlan, .inp mS yI]) (rs := [⟨false, mS, yBo⟩]) (fl := true) (fun n x => zhd n x.1 x.2.1) (fun x => x.1.dep) okFs_l4Form
def zmk (fs_l4Manyr : PlanT → Int → Option (Int)) : Spec X0 := ⟨[.inp mS yPlan, .inp mS yI], [⟨false, mS, yI⟩], fun x => fs_l4Manyr x.1 x.2.1, true⟩
def cs_l4Manyb : Code := (Tryz.f96.body).getD .skip
def Es_l4Manyb (fs_l4Manyr : PlanT → Int → Option (Int)) : AEnv X0 := ⟨⟨⟨tab0, 29, fun d => look2 (true, mS) [] d, fun d => look2 false [] d, fun d => look2 none [] d, true, false, fun d => look2 none [] d, eqs0, mps0, fun q => look2 none [] q⟩, callL [(96, [], (zmk fs_l4Manyr))], invL [], cloL []⟩, fun q => look2 none [(3, some ⟨⟨[(1, .one (.int .i64)), (2, .one (.ptr 2 0)), (5, .one (.int .i64)), (6, .one (.int .i64))], [(2, .box [.int .i64, .int .i64, .int .i64, .bool, .int .i64, .int .i64, .int .i64, .int .i64, .int .i64, .int .i64, .int .i64, .int .i64, .sl mS yCell, .int .i64, .int .i64, .sl mS yI, .int .i64, .int .i64, .sl mS yPlan])]⟩, [(.exit 0, ⟨[(5, .one (.int .i64))], []⟩)]⟩)] q, []⟩
def gs_l4Manyb (fs_l4Manyr : PlanT → Int → Option (Int)) (x : InT X0.T [.inp mS yPlan, .inp mS yI]) := fnF (Es_l4Manyb fs_l4Manyr) [.inp mS yPlan, .inp mS yI] [⟨false, mS, yI⟩] true Tryz.f96.results.toList cs_l4Manyb x
def zcn (fs_l4Manyr : PlanT → Int → Option (Int)) (v1 : Int) (v2 : Int) (v3 : Int) (v4 : Int) (v5 : Int) (v6 : Int) (v7 : Bool) (v8 : Int) (v9 : Int) (v10 : Int) (v11 : Int) (v12 : Int) (v13 : Int) (v14 : Int) (v15 : Int) (v16 : (List (Int × (Int × (Int × Int))))) (v17 : Int) (v18 : Int) (v19 : (List Int)) (v20 : Int) (v21 : Int) (v22 : (List PlanT)) : Option ((Int × (Int × (Int × (Int × (Int × (Int × (Bool × (Int × (Int × (Int × (Int × (Int × (Int × (Int × (Int × ((List (Int × (Int × (Int × Int)))) × (Int × (Int × ((List Int) × (Int × (Int × (List PlanT)))))))))))))))))))))) ⊕ Int) := bif (decide (v3 < ((List.length v22) : Int))) then bif (decide ((0 : Int) < v1)) then bif (inR v3 (List.length v22)) then ((fs_l4Manyr (eP (zaG v22 v3)) (w64 (v1 - (1 : Int))))).bind fun y23 => some (.inl (v1, (w64 (v2 + y23)), (w64 (v3 + (1 : Int))), v4, v5, v6, v7, v8, v9, v10, v11, v12, v13, v14, v15, v16, v17, v18, v19, v20, v21, v22)) else none else some (.inr v2) else some (.inr v2)
def zeF (fs_l4Manyr : PlanT → Int → Option (Int)) (p_p : PlanT) (p_deep : Int) : Option Int := (loopS (fun t => (zcn fs_l4Manyr) t.1 t.2.1 t.2.2.1 t.2.2.2.1 t.2.2.2.2.1 t.2.2.2.2.2.1 t.2.2.2.2.2.2.1 t.2.2.2.2.2.2.2.1 t.2.2.2.2.2.2.2.2.1 t.2.2.2.2.2.2.2.2.2.1 t.2.2.2.2.2.2.2.2.2.2.1 t.2.2.2.2.2.2.2.2.2.2.2.1 t.2.2.2.2.2.2.2.2.2.2.2.2.1 t.2.2.2.2.2.2.2.2.2.2.2.2.2.1 t.2.2.2.2.2.2.2.2.2.2.2.2.2.2.1 t.2.2.2.2.2.2.2.2.2.2.2.2.2.2.2.1 t.2.2.2.2.2.2.2.2.2.2.2.2.2.2.2.2.1 t.2.2.2.2.2.2.2.2.2.2.2.2.2.2.2.2.2.1 t.2.2.2.2.2.2.2.2.2.2.2.2.2.2.2.2.2.2.1 t.2.2.2.2.2.2.2.2.2.2.2.2.2.2.2.2.2.2.2.1 t.2.2.2.2.2.2.2.2.2.2.2.2.2.2.2.2.2.2.2.2.1 t.2.2.2.2.2.2.2.2.2.2.2.2.2.2.2.2.2.2.2.2.2) (p_deep, (1 : Int), (0 : Int), (oA p_p).1, (oA p_p).2.1, (oA p_p).2.2.1.1, (oA p_p).2.2.1.2.1, (oA p_p).2.2.1.2.2.1.1, (oA p_p).2.2.1.2.2.1.2.1, (oA p_p).2.2.1.2.2.1.2.2.1, (oA p_p).2.2.1.2.2.1.2.2.2, (oA p_p).2.2.1.2.2.2.1, (oA p_p).2.2.1.2.2.2.2.1, (oA p_p).2.2.1.2.2.2.2.2.1, (oA p_p).2.2.1.2.2.2.2.2.2, (oA p_p).2.2.2.1, (oA p_p).2.2.2.2.1, (oA p_p).2.2.2.2.2.1, (oA p_p).2.2.2.2.2.2.1, (oA p_p).2.2.2.2.2.2.2.1, (oA p_p).2.2.2.2.2.2.2.2.1, (oA p_p).2.2.2.2.2.2.2.2.2)).bind fun y24 => some y24
def sps_l4Manyb (fs_l4Manyr : PlanT → Int → Option (Int)) : Spec X0 := ⟨[.inp mS yPlan, .inp mS yI], [⟨false, mS, yI⟩], fun x => (zeF fs_l4Manyr) x.1 x.2.1, true⟩
theorem eqs_l4Manyb (fs_l4Manyr : PlanT → Int → Option (Int)) : (gs_l4Manyb fs_l4Manyr) = fun x => (zeF fs_l4Manyr) x.1 x.2.1 := by kernel_rfl
theorem oks_l4Manyb (fs_l4Manyr : PlanT → Int → Option (Int)) (hs_l4Manyr : SpecOk Tryz.prog X0 O 96 (zmk fs_l4Manyr)) : SpecOk Tryz.prog X0 O 96 (sps_l4Manyb fs_l4Manyr) := fn_ok (E := (Es_l4Manyb fs_l4Manyr)) (c := cs_l4Manyb) mixed (zad _ _ _ _ _ _ _ _) ⟨zaa ⟨hs_l4Manyr, trivial⟩, zab trivial, zac trivial⟩ Tryz.func96 (by kernel_rfl) (by kernel_rfl) rfl (by kernel_rfl) (of_decide_eq_true (by kernel_rfl)) rfl (by kernel_rfl) (fun x => congrFun (eqs_l4Manyb fs_l4Manyr) x)
def zdU : Nat → PlanT → Int → Option (Int)
 | 0, _, _ => none
 | n + 1, a0, a1 => zeF (zdU n) a0 a1
theorem okFs_l4Many : ∀ n, SpecOk Tryz.prog X0 O 96 (zmk (zdU n))
 | 0 => SpecOk.none
 | n + 1 => oks_l4Manyb (zdU n) (okFs_l4Many n)
def zju (a0 : PlanT) (a1 : Int) : Option (Int) := zdU (a0.dep) a0 a1
def zpa : Spec X0 := ⟨[.inp mS yPlan, .inp mS yI], [⟨false, mS, yI⟩], fun x => zju x.1 x.2.1, true⟩
theorem oks_l4Many : SpecOk Tryz.prog X0 O 96 zpa := SpecOk.of_each (X := X0) (ps := [.inp mS yPlan, .inp mS yI]) (rs := [⟨false, mS, yI⟩]) (fl := true) (fun n x => zdU n x.1 x.2.1) (fun x => x.1.dep) okFs_l4Many
def cs_l4Fit : Code := (Tryz.f38.body).getD .skip
def Es_l4Fit : AEnv X0 := ⟨⟨⟨tab0, 10, fun d => look2 (true, mS) [] d, fun d => look2 false [] d, fun d => look2 none [] d, true, false, fun d => look2 none [] d, eqs0, mps0, fun q => look2 none [] q⟩, callL [(95, [], sps_l4Form), (96, [], zpa)], invL [], cloL []⟩, fun q => look2 none [] q, []⟩
def gs_l4Fit (x : InT X0.T [.inp mS yPlan]) := fnF Es_l4Fit [.inp mS yPlan] [⟨false, mS, yBo⟩] true Tryz.f38.results.toList cs_l4Fit x
def zmW (p_p : PlanT) : Option Bool := ((fs_l4Form (eP p_p) (6 : Int))).bind fun y0 => bif y0 then ((zju (eP p_p) (6 : Int))).bind fun y1 => some (decide (y1 ≤ (10 : Int))) else some false
def sps_l4Fit : Spec X0 := ⟨[.inp mS yPlan], [⟨false, mS, yBo⟩], fun x => zmW x.1, true⟩
theorem eqs_l4Fit : gs_l4Fit = fun x => zmW x.1 := by kernel_rfl
theorem oks_l4Fit : SpecOk Tryz.prog X0 O 38 sps_l4Fit := fn_ok (E := Es_l4Fit) (c := cs_l4Fit) mixed (zad _ _ _ _ _ _ _ _) ⟨zaa ⟨oks_l4Form, oks_l4Many, trivial⟩, zab trivial, zac trivial⟩ Tryz.func38 (by kernel_rfl) (by kernel_rfl) rfl (by kernel_rfl) (of_decide_eq_true (by kernel_rfl)) rfl (by kernel_rfl) (fun x => congrFun eqs_l4Fit x)
def cs_RowOk : Code := (Tryz.f159.body).getD .skip
def Es_RowOk : AEnv X0 := ⟨⟨⟨tab0, 24, fun d => look2 (true, mS) [] d, fun d => look2 false [] d, fun d => look2 none [] d, true, false, fun d => look2 none [] d, eqs0, mps0, fun q => look2 none [] q⟩, callL [(189, [], zpe)], invL [], cloL []⟩, fun q => look2 none [(2, some ⟨⟨[(0, .one (.sl mS yI)), (3, .one (.int .i64))], []⟩, [(.exit 0, ⟨[(0, .one (.sl mS yI))], []⟩), (.ret, ⟨[(2, .one (.bool))], []⟩)]⟩)] q, []⟩
def gs_RowOk (x : InT X0.T [.inp mS yRow]) := fnF Es_RowOk [.inp mS yRow] [⟨false, mS, yBo⟩] true Tryz.f159.results.toList cs_RowOk x
def zln (v1 : (List Int)) (v2 : Int) : Option (((List Int) × Int) ⊕ ((List Int) ⊕ Bool)) := bif (decide (v2 < ((List.length v1) : Int))) then bif (inR v2 (List.length v1)) then ((zjx (rdI v1 v2))).bind fun y3 => bif (!y3) then some (.inr (.inr false)) else some (.inl (v1, (w64 (v2 + (1 : Int))))) else none else some (.inr (.inl v1))
def zqm (p_r : (List Int)) : Option Bool := (loopS (fun t => zln t.1 t.2) (p_r, (0 : Int))).bind fun y4 => (match y4 with | .inl z5 => bif (decide ((1 : Int) ≤ ((List.length z5) : Int))) then some (decide (((List.length z5) : Int) ≤ (6 : Int))) else some false | .inr z6 => some z6)
def sps_RowOk : Spec X0 := ⟨[.inp mS yRow], [⟨false, mS, yBo⟩], fun x => zqm x.1, true⟩
theorem eqs_RowOk : gs_RowOk = fun x => zqm x.1 := by kernel_rfl
theorem oks_RowOk : SpecOk Tryz.prog X0 O 159 sps_RowOk := fn_ok (E := Es_RowOk) (c := cs_RowOk) mixed (zad _ _ _ _ _ _ _ _) ⟨zaa ⟨oks_l1Cell, trivial⟩, zab trivial, zac trivial⟩ Tryz.func159 (by kernel_rfl) (by kernel_rfl) rfl (by kernel_rfl) (of_decide_eq_true (by kernel_rfl)) rfl (by kernel_rfl) (fun x => congrFun eqs_RowOk x)
def cs_l2W : Code := (Tryz.f160.body).getD .skip
def Es_l2W : AEnv X0 := ⟨⟨⟨tab0, 13, fun d => look2 (true, mS) [] d, fun d => look2 false [] d, fun d => look2 none [] d, true, false, fun d => look2 none [] d, eqs0, mps0, fun q => look2 none [] q⟩, callL [], invL [], cloL []⟩, fun q => look2 none [] q, []⟩
def gs_l2W (x : InT X0.T [.inp mS yI]) := fnF Es_l2W [.inp mS yI] [⟨false, mS, yBo⟩] true Tryz.f160.results.toList cs_l2W x
def fs_l2W (p_w : Int) : Option Bool := bif (!(decide (p_w = (0 : Int)))) then bif (decide ((-(10000 : Int)) ≤ p_w)) then some (decide (p_w ≤ (10000 : Int))) else some false else some false
def sps_l2W : Spec X0 := ⟨[.inp mS yI], [⟨false, mS, yBo⟩], fun x => fs_l2W x.1, true⟩
theorem eqs_l2W : gs_l2W = fun x => fs_l2W x.1 := by kernel_rfl
theorem oks_l2W : SpecOk Tryz.prog X0 O 160 sps_l2W := fn_ok (E := Es_l2W) (c := cs_l2W) mixed (zad _ _ _ _ _ _ _ _) ⟨zaa trivial, zab trivial, zac trivial⟩ Tryz.func160 (by kernel_rfl) (by kernel_rfl) rfl (by kernel_rfl) (of_decide_eq_true (by kernel_rfl)) rfl (by kernel_rfl) (fun x => congrFun eqs_l2W x)
def cs_l1Order : Code := (Tryz.f185.body).getD .skip
def Es_l1Order : AEnv X0 := ⟨⟨⟨tab0, 41, fun d => look2 (true, mS) [] d, fun d => look2 false [] d, fun d => look2 none [] d, true, false, fun d => look2 none [] d, eqs0, mps0, fun q => look2 none [] q⟩, callL [], invL [], cloL []⟩, fun q => look2 none [(2, some ⟨⟨[(0, .one (.sl mS yI)), (1, .one (.sl mS yI)), (5, .one (.int .i64))], []⟩, [(.exit 0, ⟨[(0, .one (.sl mS yI)), (1, .one (.sl mS yI))], []⟩), (.ret, ⟨[(4, .one (.int .i64))], []⟩)]⟩)] q, []⟩
def gs_l1Order (x : InT X0.T [.inp mS yRow, .inp mS yRow]) := fnF Es_l1Order [.inp mS yRow, .inp mS yRow] [⟨false, mS, yI⟩] true Tryz.f185.results.toList cs_l1Order x
def zdP (v1 : (List Int)) (v2 : (List Int)) (v3 : Int) : Option (((List Int) × ((List Int) × Int)) ⊕ (((List Int) × (List Int)) ⊕ Int)) := bif (decide (v3 < ((List.length v1) : Int))) then bif (decide (v3 < ((List.length v2) : Int))) then bif (inR v3 (List.length v1)) then bif (inR v3 (List.length v2)) then bif (decide ((rdI v1 v3) < (rdI v2 v3))) then some (.inr (.inr (-(1 : Int)))) else bif (inR v3 (List.length v1)) then bif (inR v3 (List.length v2)) then bif (decide ((rdI v2 v3) < (rdI v1 v3))) then some (.inr (.inr (1 : Int))) else some (.inl (v1, v2, (w64 (v3 + (1 : Int))))) else none else none else none else none else some (.inr (.inl (v1, v2))) else some (.inr (.inl (v1, v2)))
def zfV (p_a : (List Int)) (p_b : (List Int)) : Option Int := (loopS (fun t => zdP t.1 t.2.1 t.2.2) (p_a, p_b, (0 : Int))).bind fun y4 => (match y4 with | .inl (z5, z6) => some (w64 (((List.length z5) : Int) - ((List.length z6) : Int))) | .inr z7 => some z7)
def zjc : Spec X0 := ⟨[.inp mS yRow, .inp mS yRow], [⟨false, mS, yI⟩], fun x => zfV x.1 x.2.1, true⟩
theorem eqs_l1Order : gs_l1Order = fun x => zfV x.1 x.2.1 := by kernel_rfl
theorem zmF : SpecOk Tryz.prog X0 O 185 zjc := fn_ok (E := Es_l1Order) (c := cs_l1Order) mixed (zad _ _ _ _ _ _ _ _) ⟨zaa trivial, zab trivial, zac trivial⟩ Tryz.func185 (by kernel_rfl) (by kernel_rfl) rfl (by kernel_rfl) (of_decide_eq_true (by kernel_rfl)) rfl (by kernel_rfl) (fun x => congrFun eqs_l1Order x)
def cs_RowLess : Code := (Tryz.f161.body).getD .skip
def Es_RowLess : AEnv X0 := ⟨⟨⟨tab0, 9, fun d => look2 (true, mS) [] d, fun d => look2 false [] d, fun d => look2 none [] d, true, false, fun d => look2 none [] d, eqs0, mps0, fun q => look2 none [] q⟩, callL [(185, [], zjc)], invL [], cloL []⟩, fun q => look2 none [] q, []⟩
def gs_RowLess (x : InT X0.T [.inp mS yRow, .inp mS yRow]) := fnF Es_RowLess [.inp mS yRow, .inp mS yRow] [⟨false, mS, yBo⟩] true Tryz.f161.results.toList cs_RowLess x
def zfW (p_a : (List Int)) (p_b : (List Int)) : Option Bool := ((zfV p_a p_b)).bind fun y0 => some (decide (y0 < (0 : Int)))
def zmo : Spec X0 := ⟨[.inp mS yRow, .inp mS yRow], [⟨false, mS, yBo⟩], fun x => zfW x.1 x.2.1, true⟩
theorem eqs_RowLess : gs_RowLess = fun x => zfW x.1 x.2.1 := by kernel_rfl
theorem oks_RowLess : SpecOk Tryz.prog X0 O 161 zmo := fn_ok (E := Es_RowLess) (c := cs_RowLess) mixed (zad _ _ _ _ _ _ _ _) ⟨zaa ⟨zmF, trivial⟩, zab trivial, zac trivial⟩ Tryz.func161 (by kernel_rfl) (by kernel_rfl) rfl (by kernel_rfl) (of_decide_eq_true (by kernel_rfl)) rfl (by kernel_rfl) (fun x => congrFun eqs_RowLess x)
def cs_ZOk : Code := (Tryz.f120.body).getD .skip
def Es_ZOk : AEnv X0 := ⟨⟨⟨tab0, 48, fun d => look2 (true, mS) [] d, fun d => look2 false [] d, fun d => look2 none [] d, true, false, fun d => look2 none [] d, eqs0, mps0, fun q => look2 none [] q⟩, callL [(159, [], sps_RowOk), (160, [], sps_l2W), (161, [], zmo)], invL [], cloL []⟩, fun q => look2 none [(4, some ⟨⟨[(0, .one (.sl mS yItem)), (3, .one (.int .i64))], []⟩, [(.exit 0, ⟨[], []⟩), (.ret, ⟨[(2, .one (.bool))], []⟩)]⟩)] q, []⟩
def gs_ZOk (x : InT X0.T [.inp mS yRun]) := fnF Es_ZOk [.inp mS yRun] [⟨false, mS, yBo⟩] true Tryz.f120.results.toList cs_ZOk x
def ls_ZOk_0 (v1 : (List ((List Int) × Int))) (v2 : Int) : Option (((List ((List Int) × Int)) × Int) ⊕ (Unit ⊕ Bool)) := bif (decide (v2 < ((List.length v1) : Int))) then bif (inR v2 (List.length v1)) then ((zqm (zah v1 v2).1)).bind fun y3 => bif (!y3) then some (.inr (.inr false)) else bif (inR v2 (List.length v1)) then ((fs_l2W (zah v1 v2).2)).bind fun y4 => bif (!y4) then some (.inr (.inr false)) else bif (decide ((0 : Int) < v2)) then bif (inR (w64 (v2 - (1 : Int))) (List.length v1)) then bif (inR v2 (List.length v1)) then ((zfW (zah v1 (w64 (v2 - (1 : Int)))).1 (zah v1 v2).1)).bind fun y5 => bif (!y5) then some (.inr (.inr false)) else some (.inl (v1, (w64 (v2 + (1 : Int))))) else none else none else some (.inl (v1, (w64 (v2 + (1 : Int))))) else none else none else some (.inr (.inl ()))
def fs_ZOk (p_z : (List ((List Int) × Int))) : Option Bool := bif (decide ((100 : Int) < ((List.length p_z) : Int))) then some false else (loopS (fun t => ls_ZOk_0 t.1 t.2) (p_z, (0 : Int))).bind fun y6 => (match y6 with | .inl _ => some true | .inr z7 => some z7)
def sps_ZOk : Spec X0 := ⟨[.inp mS yRun], [⟨false, mS, yBo⟩], fun x => fs_ZOk x.1, true⟩
theorem eqs_ZOk : gs_ZOk = fun x => fs_ZOk x.1 := by kernel_rfl
theorem oks_ZOk : SpecOk Tryz.prog X0 O 120 sps_ZOk := fn_ok (E := Es_ZOk) (c := cs_ZOk) mixed (zad _ _ _ _ _ _ _ _) ⟨zaa ⟨oks_RowOk, oks_l2W, oks_RowLess, trivial⟩, zab trivial, zac trivial⟩ Tryz.func120 (by kernel_rfl) (by kernel_rfl) rfl (by kernel_rfl) (of_decide_eq_true (by kernel_rfl)) rfl (by kernel_rfl) (fun x => congrFun eqs_ZOk x)
end
end Go.Proofs.YtmbnalaiobhaaaaGreat.E
