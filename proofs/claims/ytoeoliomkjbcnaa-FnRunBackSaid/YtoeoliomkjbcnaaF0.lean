/- The types of the program, as the engine has them. -/
import Derived.Test.YtoeoliomkjbcnaaE23
import Derived.Test.YtoeoliomkjbcnaaProg
namespace Go.Proofs.Ytoeoliomkjbcnaa.E
open Go

@[reducible] def X0 : Ext := ⟨fun _ => Int, fun _ => .int .i64, fun _ => 1, fun _ x => x, fun _ x => x, fun _ => (0 : Int), fun _ _ => rfl, fun _ => rfl⟩
@[reducible] def mS : Md := ⟨[], .st⟩
@[reducible] def mT : Md := ⟨[], .tc⟩
@[reducible] def yI : Ty := .int .i64
@[reducible] def yB : Ty := .int .u8
@[reducible] def yBo : Ty := .bool
@[reducible] def yU : Ty := .int .u64
@[reducible] def yStr : Ty := .str
@[reducible] def yRow : Ty := .sl yI
@[reducible] def yT6 : Ty := .pair yRow yI
@[reducible] def yItem : Ty := .st yT6
@[reducible] def yRun : Ty := .sl yItem
@[reducible] def yRuns : Ty := .sl yRun
@[reducible] def ySpine : Ty := .st yRuns
@[reducible] def yT11 : Ty := .st yRun
@[reducible] def yT12 : Ty := .sl yB
@[reducible] def yT13 : Ty := .pair yT12 yI
@[reducible] def yT14 : Ty := .st yT13
def tab0L : List (Nat × Option TI) := [
 (3, some ⟨yI, false, false, 0, []⟩),
 (4, some ⟨yBo, false, false, 0, []⟩),
 (5, some ⟨yB, false, false, 0, []⟩),
 (22, some ⟨yRuns, false, true, 69, []⟩),
 (24, some ⟨ySpine, true, false, 0, [(0, 1)]⟩),
 (27, some ⟨yRuns, false, true, 43, []⟩),
 (29, some ⟨ySpine, true, false, 0, [(0, 1)]⟩),
 (34, some ⟨yRow, false, true, 3, []⟩),
 (39, some ⟨yT12, false, true, 5, []⟩),
 (43, some ⟨yRun, false, true, 46, []⟩),
 (46, some ⟨yItem, true, false, 0, [(0, 1), (1, 1)]⟩),
 (69, some ⟨yRun, false, true, 110, []⟩),
 (80, some ⟨yT11, true, false, 0, [(0, 1)]⟩),
 (110, some ⟨yItem, true, false, 0, [(0, 1), (1, 1)]⟩),
 (113, some ⟨yT14, true, false, 0, [(0, 1), (1, 1)]⟩),
 (120, some ⟨yU, false, false, 0, []⟩)]
def tab0 (t : TypeId) : Option TI := tabOf tab0L t
theorem toks0 : TOks Try.prog X0 tab0L := ⟨TOk.of (by kernel_rfl) (by kernel_rfl) (by kernel_rfl) (by kernel_rfl), TOk.of (by kernel_rfl) (by kernel_rfl) (by kernel_rfl) (by kernel_rfl), TOk.of (by kernel_rfl) (by kernel_rfl) (by kernel_rfl) (by kernel_rfl), TOk.of (by kernel_rfl) (by kernel_rfl) (by kernel_rfl) (by kernel_rfl), TOk.of (by kernel_rfl) (by kernel_rfl) (by kernel_rfl) (by kernel_rfl), TOk.of (by kernel_rfl) (by kernel_rfl) (by kernel_rfl) (by kernel_rfl), TOk.of (by kernel_rfl) (by kernel_rfl) (by kernel_rfl) (by kernel_rfl), TOk.of (by kernel_rfl) (by kernel_rfl) (by kernel_rfl) (by kernel_rfl), TOk.of (by kernel_rfl) (by kernel_rfl) (by kernel_rfl) (by kernel_rfl), TOk.of (by kernel_rfl) (by kernel_rfl) (by kernel_rfl) (by kernel_rfl), TOk.of (by kernel_rfl) (by kernel_rfl) (by kernel_rfl) (by kernel_rfl), TOk.of (by kernel_rfl) (by kernel_rfl) (by kernel_rfl) (by kernel_rfl), TOk.of (by kernel_rfl) (by kernel_rfl) (by kernel_rfl) (by kernel_rfl), TOk.of (by kernel_rfl) (by kernel_rfl) (by kernel_rfl) (by kernel_rfl), TOk.of (by kernel_rfl) (by kernel_rfl) (by kernel_rfl) (by kernel_rfl), TOk.of (by kernel_rfl) (by kernel_rfl) (by kernel_rfl) (by kernel_rfl), trivial⟩
theorem tabOk0 (nt : Nat) (ann : Nat → Bool × Md) (fz : Nat → Bool) (cl : Nat → Option (Nat × Nat)) (gr mkd : Bool) (tw : Nat → Option (Nat × Nat × Nat)) : TabOk Try.prog X0 ⟨tab0, nt, ann, fz, cl, gr, mkd, tw⟩ := ⟨fun _ => by simp, fun t ti h => tabOf_ok toks0 t ti h⟩
theorem mixed : Try.prog.follows .mixedOrders = true := by kernel_rfl
def w64 (n : Int) : Int := IntKind.i64.wrap n
def wu64 (n : Int) : Int := IntKind.u64.wrap n
def wu8 (n : Int) : Int := IntKind.u8.wrap n
def wu32 (n : Int) : Int := IntKind.u32.wrap n
def wi32 (n : Int) : Int := IntKind.i32.wrap n
def rdI (xs : List Int) (i : Int) : Int := rd (X := X0) yI xs i
def zeroI : Int := zeroD X0 yI
def rdB (xs : List Int) (i : Int) : Int := rd (X := X0) yB xs i
def zeroB : Int := zeroD X0 yB
def rdBo (xs : List Bool) (i : Int) : Bool := rd (X := X0) yBo xs i
def zeroBo : Bool := zeroD X0 yBo
def rdU (xs : List Int) (i : Int) : Int := rd (X := X0) yU xs i
def zeroU : Int := zeroD X0 yU
def rdStr (xs : List ByteArray) (i : Int) : ByteArray := rd (X := X0) yStr xs i
def zeroStr : ByteArray := zeroD X0 yStr
def rdRow (xs : List (List Int)) (i : Int) : (List Int) := rd (X := X0) yRow xs i
def zeroRow : (List Int) := zeroD X0 yRow
def rdT6 (xs : List ((List Int) × Int)) (i : Int) : ((List Int) × Int) := rd (X := X0) yT6 xs i
def zeroT6 : ((List Int) × Int) := zeroD X0 yT6
def rdItem (xs : List ((List Int) × Int)) (i : Int) : ((List Int) × Int) := rd (X := X0) yItem xs i
def zeroItem : ((List Int) × Int) := zeroD X0 yItem
def rdRun (xs : List (List ((List Int) × Int))) (i : Int) : (List ((List Int) × Int)) := rd (X := X0) yRun xs i
def zeroRun : (List ((List Int) × Int)) := zeroD X0 yRun
def rdRuns (xs : List (List (List ((List Int) × Int)))) (i : Int) : (List (List ((List Int) × Int))) := rd (X := X0) yRuns xs i
def zeroRuns : (List (List ((List Int) × Int))) := zeroD X0 yRuns
def rdSpine (xs : List (List (List ((List Int) × Int)))) (i : Int) : (List (List ((List Int) × Int))) := rd (X := X0) ySpine xs i
def zeroSpine : (List (List ((List Int) × Int))) := zeroD X0 ySpine
def rdT11 (xs : List (List ((List Int) × Int))) (i : Int) : (List ((List Int) × Int)) := rd (X := X0) yT11 xs i
def zeroT11 : (List ((List Int) × Int)) := zeroD X0 yT11
def rdT12 (xs : List (List Int)) (i : Int) : (List Int) := rd (X := X0) yT12 xs i
def zeroT12 : (List Int) := zeroD X0 yT12
def rdT13 (xs : List ((List Int) × Int)) (i : Int) : ((List Int) × Int) := rd (X := X0) yT13 xs i
def zeroT13 : ((List Int) × Int) := zeroD X0 yT13
def rdT14 (xs : List ((List Int) × Int)) (i : Int) : ((List Int) × Int) := rd (X := X0) yT14 xs i
def zeroT14 : ((List Int) × Int) := zeroD X0 yT14

end Go.Proofs.Ytoeoliomkjbcnaa.E
