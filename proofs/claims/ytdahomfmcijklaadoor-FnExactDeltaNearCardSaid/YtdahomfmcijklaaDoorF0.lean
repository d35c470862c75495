/- The types of the program, as the engine has them. -/
import Derived.Test.YtdahomfmcijklaaDoorE23
import Derived.Test.YtdahomfmcijklaaDoorProg
namespace Go.Proofs.YtdahomfmcijklaaDoor.E
open Go

@[reducible] def X0 : Ext := ⟨fun _ => Int, fun _ => .int .i64, fun _ => 1, fun _ x => x, fun _ x => x, fun _ => (0 : Int), fun _ _ => rfl, fun _ => rfl⟩
@[reducible] def mS : Md := ⟨[], .st⟩
@[reducible] def mT : Md := ⟨[], .tc⟩
@[reducible] def yI : Ty := .int .i64
@[reducible] def yB : Ty := .int .u8
@[reducible] def yBo : Ty := .bool
@[reducible] def yU : Ty := .int .u64
@[reducible] def yStr : Ty := .str
@[reducible] def yRow : Ty := .sl yI
@[reducible] def yT6 : Ty := .pair yRow yI
@[reducible] def yItem : Ty := .st yT6
@[reducible] def yRun : Ty := .sl yItem
@[reducible] def yRuns : Ty := .sl yRun
def tab0L : List (Nat × Option TI) := [
 (3, some ⟨yI, false, false, 0, []⟩),
 (4, some ⟨yBo, false, false, 0, []⟩),
 (9, some ⟨yStr, false, false, 0, []⟩),
 (22, some ⟨yRun, false, true, 51, []⟩),
 (23, some ⟨yRow, false, true, 3, []⟩),
 (25, some ⟨yRun, false, true, 43, []⟩),
 (43, some ⟨yItem, true, false, 0, [(0, 1), (1, 1)]⟩),
 (51, some ⟨yItem, true, false, 0, [(0, 1), (1, 1)]⟩),
 (84, some ⟨yRuns, false, true, 25, []⟩)]
def tab0 (t : TypeId) : Option TI := tabOf tab0L t
def eqs0 : TypeId → Bool := eqsL []
theorem eqsOk0 : EqsOk Tryd.prog tab0 [] := trivial
def mps0L : List (Nat × (Nat × Nat)) := [(86, (9, 4))]
def mps0 (t : TypeId) : Option (TypeId × TypeId) := mpsL mps0L t
theorem mpsOk0 : MpsOk Tryd.prog tab0 mps0L := ⟨⟨by kernel_rfl, by kernel_rfl⟩, trivial⟩
theorem toks0 : TOks Tryd.prog X0 tab0L := ⟨TOk.of (by kernel_rfl) (by kernel_rfl) (by kernel_rfl) (by kernel_rfl), TOk.of (by kernel_rfl) (by kernel_rfl) (by kernel_rfl) (by kernel_rfl), TOk.of (by kernel_rfl) (by kernel_rfl) (by kernel_rfl) (by kernel_rfl), TOk.of (by kernel_rfl) (by kernel_rfl) (by kernel_rfl) (by kernel_rfl), TOk.of (by kernel_rfl) (by kernel_rfl) (by kernel_rfl) (by kernel_rfl), TOk.of (by kernel_rfl) (by kernel_rfl) (by kernel_rfl) (by kernel_rfl), TOk.of (by kernel_rfl) (by kernel_rfl) (by kernel_rfl) (by kernel_rfl), TOk.of (by kernel_rfl) (by kernel_rfl) (by kernel_rfl) (by kernel_rfl), TOk.of (by kernel_rfl) (by kernel_rfl) (by kernel_rfl) (by kernel_rfl), trivial⟩
theorem tabOk0 (nt : Nat) (ann : Nat → Bool × Md) (fz : Nat → Bool) (cl : Nat → Option (Nat × Nat)) (gr mkd : Bool) (tw : Nat → Option (Nat × Nat × Nat)) : TabOk Tryd.prog X0 ⟨tab0, nt, ann, fz, cl, gr, mkd, tw, eqs0, mps0⟩ := ⟨fun _ => by simp, fun t ti h => tabOf_ok toks0 t ti h, fun t ti h ht => eqsL_ok eqsOk0 t ti h ht, fun t k v h => mpsL_ok mpsOk0 t k v h⟩
theorem mixed : Tryd.prog.follows .mixedOrders = true := by kernel_rfl
def w64 (n : Int) : Int := IntKind.i64.wrap n
def wu64 (n : Int) : Int := IntKind.u64.wrap n
def wu8 (n : Int) : Int := IntKind.u8.wrap n
def wu32 (n : Int) : Int := IntKind.u32.wrap n
def wi32 (n : Int) : Int := IntKind.i32.wrap n
def rdI (xs : List Int) (i : Int) : Int := rd (X := X0) yI xs i
def zeroI : Int := zeroD X0 yI
def rdB (xs : List Int) (i : Int) : Int := rd (X := X0) yB xs i
def zeroB : Int := zeroD X0 yB
def rdBo (xs : List Bool) (i : Int) : Bool := rd (X := X0) yBo xs i
def zeroBo : Bool := zeroD X0 yBo
def rdU (xs : List Int) (i : Int) : Int := rd (X := X0) yU xs i
def zeroU : Int := zeroD X0 yU
def rdStr (xs : List ByteArray) (i : Int) : ByteArray := rd (X := X0) yStr xs i
def zeroStr : ByteArray := zeroD X0 yStr
def rdRow (xs : List (List Int)) (i : Int) : (List Int) := rd (X := X0) yRow xs i
def zeroRow : (List Int) := zeroD X0 yRow
def rdT6 (xs : List ((List Int) × Int)) (i : Int) : ((List Int) × Int) := rd (X := X0) yT6 xs i
def zeroT6 : ((List Int) × Int) := zeroD X0 yT6
def rdItem (xs : List ((List Int) × Int)) (i : Int) : ((List Int) × Int) := rd (X := X0) yItem xs i
def zeroItem : ((List Int) × Int) := zeroD X0 yItem
def rdRun (xs : List (List ((List Int) × Int))) (i : Int) : (List ((List Int) × Int)) := rd (X := X0) yRun xs i
def zeroRun : (List ((List Int) × Int)) := zeroD X0 yRun
def rdRuns (xs : List (List (List ((List Int) × Int)))) (i : Int) : (List (List ((List Int) × Int))) := rd (X := X0) yRuns xs i
def zeroRuns : (List (List ((List Int) × Int))) := zeroD X0 yRuns

end Go.Proofs.YtdahomfmcijklaaDoor.E
