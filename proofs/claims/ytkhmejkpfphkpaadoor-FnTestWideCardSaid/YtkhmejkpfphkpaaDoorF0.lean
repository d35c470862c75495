/- The types of the program, as the engine has them. -/
import Derived.Test.YtkhmejkpfphkpaaDoorE23
import Derived.Test.YtkhmejkpfphkpaaDoorProg
namespace Go.Proofs.YtkhmejkpfphkpaaDoor.E
open Go

@[reducible] def X0 : Ext := ⟨fun _ => Int, fun _ => .int .i64, fun _ => 1, fun _ x => x, fun _ x => x, fun _ => (0 : Int), fun _ _ => rfl, fun _ => rfl⟩
@[reducible] def mS : Md := ⟨[], .st⟩
@[reducible] def mT : Md := ⟨[], .tc⟩
@[reducible] def yI : Ty := .int .i64
@[reducible] def yB : Ty := .int .u8
@[reducible] def yBo : Ty := .bool
@[reducible] def yU : Ty := .int .u64
@[reducible] def yStr : Ty := .str
@[reducible] def yQ5 : Ty := .pair yI yI
@[reducible] def yQ6 : Ty := .pair yI yQ5
@[reducible] def yQ7 : Ty := .pair yI yQ6
@[reducible] def yCell : Ty := .st yQ7
@[reducible] def yRow : Ty := .sl yI
@[reducible] def yIfc : Ty := .ifc
@[reducible] def yQ11 : Ty := .st yI
@[reducible] def yQ12 : Ty := .st yQ5
@[reducible] def yQ13 : Ty := .pair yCell yCell
@[reducible] def yQ14 : Ty := .pair yBo yQ13
@[reducible] def yQ15 : Ty := .pair yI yQ14
@[reducible] def yTest : Ty := .st yQ15
@[reducible] def yT12 : Ty := .sl yB
@[reducible] def yT13 : Ty := .pair yT12 yI
@[reducible] def yT14 : Ty := .st yT13
@[reducible] def yT6 : Ty := .pair yRow yI
@[reducible] def yItem : Ty := .st yT6
@[reducible] def yRun : Ty := .sl yItem
@[reducible] def yQ23 : Ty := .sl yRow
def tab0L : List (Nat × Option TI) := [
 (3, some ⟨yI, false, false, 0, []⟩),
 (4, some ⟨yBo, false, false, 0, []⟩),
 (5, some ⟨yB, false, false, 0, []⟩),
 (23, some ⟨yCell, true, false, 0, [(0, 1), (1, 1), (2, 1), (3, 1)]⟩),
 (24, some ⟨yRow, false, true, 3, []⟩),
 (27, some ⟨yCell, true, false, 0, [(0, 1), (1, 1), (2, 1), (3, 1)]⟩),
 (33, some ⟨yTest, true, false, 0, [(0, 1), (1, 1), (2, 4), (6, 4)]⟩),
 (37, some ⟨yTest, true, false, 0, [(0, 1), (1, 1), (2, 4), (6, 4)]⟩),
 (40, some ⟨yT12, false, true, 5, []⟩),
 (47, some ⟨yRun, false, true, 81, []⟩),
 (49, some ⟨yRun, false, true, 60, []⟩),
 (60, some ⟨yItem, true, false, 0, [(0, 1), (1, 1)]⟩),
 (68, some ⟨yIfc, false, false, 0, []⟩),
 (81, some ⟨yItem, true, false, 0, [(0, 1), (1, 1)]⟩),
 (95, some ⟨yQ11, true, false, 0, [(0, 1)]⟩),
 (97, some ⟨yQ11, true, false, 0, [(0, 1)]⟩),
 (99, some ⟨yQ12, true, false, 0, [(0, 1), (1, 1)]⟩),
 (106, some ⟨yT14, true, false, 0, [(0, 1), (1, 1)]⟩),
 (111, some ⟨yQ23, false, true, 24, []⟩)]
def tab0 (t : TypeId) : Option TI := tabOf tab0L t
def eqs0 : TypeId → Bool := eqsL [27]
theorem eqsOk0 : EqsOk Tryd.prog tab0 [27] := ⟨⟨by kernel_rfl, by kernel_rfl⟩, trivial⟩
theorem toks0 : TOks Tryd.prog X0 tab0L := ⟨TOk.of (by kernel_rfl) (by kernel_rfl) (by kernel_rfl) (by kernel_rfl), TOk.of (by kernel_rfl) (by kernel_rfl) (by kernel_rfl) (by kernel_rfl), TOk.of (by kernel_rfl) (by kernel_rfl) (by kernel_rfl) (by kernel_rfl), TOk.of (by kernel_rfl) (by kernel_rfl) (by kernel_rfl) (by kernel_rfl), TOk.of (by kernel_rfl) (by kernel_rfl) (by kernel_rfl) (by kernel_rfl), TOk.of (by kernel_rfl) (by kernel_rfl) (by kernel_rfl) (by kernel_rfl), TOk.of (by kernel_rfl) (by kernel_rfl) (by kernel_rfl) (by kernel_rfl), TOk.of (by kernel_rfl) (by kernel_rfl) (by kernel_rfl) (by kernel_rfl), TOk.of (by kernel_rfl) (by kernel_rfl) (by kernel_rfl) (by kernel_rfl), TOk.of (by kernel_rfl) (by kernel_rfl) (by kernel_rfl) (by kernel_rfl), TOk.of (by kernel_rfl) (by kernel_rfl) (by kernel_rfl) (by kernel_rfl), TOk.of (by kernel_rfl) (by kernel_rfl) (by kernel_rfl) (by kernel_rfl), TOk.of (by kernel_rfl) (by kernel_rfl) (by kernel_rfl) (by kernel_rfl), TOk.of (by kernel_rfl) (by kernel_rfl) (by kernel_rfl) (by kernel_rfl), TOk.of (by kernel_rfl) (by kernel_rfl) (by kernel_rfl) (by kernel_rfl), TOk.of (by kernel_rfl) (by kernel_rfl) (by kernel_rfl) (by kernel_rfl), TOk.of (by kernel_rfl) (by kernel_rfl) (by kernel_rfl) (by kernel_rfl), TOk.of (by kernel_rfl) (by kernel_rfl) (by kernel_rfl) (by kernel_rfl), TOk.of (by kernel_rfl) (by kernel_rfl) (by kernel_rfl) (by kernel_rfl), trivial⟩
theorem tabOk0 (nt : Nat) (ann : Nat → Bool × Md) (fz : Nat → Bool) (cl : Nat → Option (Nat × Nat)) (gr mkd : Bool) (tw : Nat → Option (Nat × Nat × Nat)) : TabOk Tryd.prog X0 ⟨tab0, nt, ann, fz, cl, gr, mkd, tw, eqs0⟩ := ⟨fun _ => by simp, fun t ti h => tabOf_ok toks0 t ti h, fun t ti h ht => eqsL_ok eqsOk0 t ti h ht⟩
theorem mixed : Tryd.prog.follows .mixedOrders = true := by kernel_rfl
def w64 (n : Int) : Int := IntKind.i64.wrap n
def wu64 (n : Int) : Int := IntKind.u64.wrap n
def wu8 (n : Int) : Int := IntKind.u8.wrap n
def wu32 (n : Int) : Int := IntKind.u32.wrap n
def wi32 (n : Int) : Int := IntKind.i32.wrap n
def rdI (xs : List Int) (i : Int) : Int := rd (X := X0) yI xs i
def zeroI : Int := zeroD X0 yI
def rdB (xs : List Int) (i : Int) : Int := rd (X := X0) yB xs i
def zeroB : Int := zeroD X0 yB
def rdBo (xs : List Bool) (i : Int) : Bool := rd (X := X0) yBo xs i
def zeroBo : Bool := zeroD X0 yBo
def rdU (xs : List Int) (i : Int) : Int := rd (X := X0) yU xs i
def zeroU : Int := zeroD X0 yU
def rdStr (xs : List ByteArray) (i : Int) : ByteArray := rd (X := X0) yStr xs i
def zeroStr : ByteArray := zeroD X0 yStr
def rdQ5 (xs : List (Int × Int)) (i : Int) : (Int × Int) := rd (X := X0) yQ5 xs i
def zeroQ5 : (Int × Int) := zeroD X0 yQ5
def rdQ6 (xs : List (Int × (Int × Int))) (i : Int) : (Int × (Int × Int)) := rd (X := X0) yQ6 xs i
def zeroQ6 : (Int × (Int × Int)) := zeroD X0 yQ6
def rdQ7 (xs : List (Int × (Int × (Int × Int)))) (i : Int) : (Int × (Int × (Int × Int))) := rd (X := X0) yQ7 xs i
def zeroQ7 : (Int × (Int × (Int × Int))) := zeroD X0 yQ7
def rdCell (xs : List (Int × (Int × (Int × Int)))) (i : Int) : (Int × (Int × (Int × Int))) := rd (X := X0) yCell xs i
def zeroCell : (Int × (Int × (Int × Int))) := zeroD X0 yCell
def rdRow (xs : List (List Int)) (i : Int) : (List Int) := rd (X := X0) yRow xs i
def zeroRow : (List Int) := zeroD X0 yRow
def rdIfc (xs : List IV) (i : Int) : IV := rd (X := X0) yIfc xs i
def zeroIfc : IV := zeroD X0 yIfc
def rdQ11 (xs : List Int) (i : Int) : Int := rd (X := X0) yQ11 xs i
def zeroQ11 : Int := zeroD X0 yQ11
def rdQ12 (xs : List (Int × Int)) (i : Int) : (Int × Int) := rd (X := X0) yQ12 xs i
def zeroQ12 : (Int × Int) := zeroD X0 yQ12
def rdQ13 (xs : List ((Int × (Int × (Int × Int))) × (Int × (Int × (Int × Int))))) (i : Int) : ((Int × (Int × (Int × Int))) × (Int × (Int × (Int × Int)))) := rd (X := X0) yQ13 xs i
def zeroQ13 : ((Int × (Int × (Int × Int))) × (Int × (Int × (Int × Int)))) := zeroD X0 yQ13
def rdQ14 (xs : List (Bool × ((Int × (Int × (Int × Int))) × (Int × (Int × (Int × Int)))))) (i : Int) : (Bool × ((Int × (Int × (Int × Int))) × (Int × (Int × (Int × Int))))) := rd (X := X0) yQ14 xs i
def zeroQ14 : (Bool × ((Int × (Int × (Int × Int))) × (Int × (Int × (Int × Int))))) := zeroD X0 yQ14
def rdQ15 (xs : List (Int × (Bool × ((Int × (Int × (Int × Int))) × (Int × (Int × (Int × Int))))))) (i : Int) : (Int × (Bool × ((Int × (Int × (Int × Int))) × (Int × (Int × (Int × Int)))))) := rd (X := X0) yQ15 xs i
def zeroQ15 : (Int × (Bool × ((Int × (Int × (Int × Int))) × (Int × (Int × (Int × Int)))))) := zeroD X0 yQ15
def rdTest (xs : List (Int × (Bool × ((Int × (Int × (Int × Int))) × (Int × (Int × (Int × Int))))))) (i : Int) : (Int × (Bool × ((Int × (Int × (Int × Int))) × (Int × (Int × (Int × Int)))))) := rd (X := X0) yTest xs i
def zeroTest : (Int × (Bool × ((Int × (Int × (Int × Int))) × (Int × (Int × (Int × Int)))))) := zeroD X0 yTest
def rdT12 (xs : List (List Int)) (i : Int) : (List Int) := rd (X := X0) yT12 xs i
def zeroT12 : (List Int) := zeroD X0 yT12
def rdT13 (xs : List ((List Int) × Int)) (i : Int) : ((List Int) × Int) := rd (X := X0) yT13 xs i
def zeroT13 : ((List Int) × Int) := zeroD X0 yT13
def rdT14 (xs : List ((List Int) × Int)) (i : Int) : ((List Int) × Int) := rd (X := X0) yT14 xs i
def zeroT14 : ((List Int) × Int) := zeroD X0 yT14
def rdT6 (xs : List ((List Int) × Int)) (i : Int) : ((List Int) × Int) := rd (X := X0) yT6 xs i
def zeroT6 : ((List Int) × Int) := zeroD X0 yT6
def rdItem (xs : List ((List Int) × Int)) (i : Int) : ((List Int) × Int) := rd (X := X0) yItem xs i
def zeroItem : ((List Int) × Int) := zeroD X0 yItem
def rdRun (xs : List (List ((List Int) × Int))) (i : Int) : (List ((List Int) × Int)) := rd (X := X0) yRun xs i
def zeroRun : (List ((List Int) × Int)) := zeroD X0 yRun
def rdQ23 (xs : List (List (List Int))) (i : Int) : (List (List Int)) := rd (X := X0) yQ23 xs i
def zeroQ23 : (List (List Int)) := zeroD X0 yQ23

end Go.Proofs.YtkhmejkpfphkpaaDoor.E
