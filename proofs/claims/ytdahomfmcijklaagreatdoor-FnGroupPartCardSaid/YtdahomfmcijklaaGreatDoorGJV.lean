/- Facts of the program that every row of the seat asks for. -/
import Derived.Test.YtdahomfmcijklaaGreatDoorRows
import Derived.ProofKit
import Derived.JoinedOf
namespace Go.Proofs.YtdahomfmcijklaaGreatDoor.E
open Go Go.Proofs
theorem j_out : laidOutB Tryz.prog = true := by kernel_rfl
theorem j_rows : mapsRowed Tryz.prog = true := by kernel_rfl
theorem j_heard : Tryz.prog.stopsHeard = true := by kernel_rfl
theorem j_enter : Tryz.prog.mayEnter = true := by kernel_rfl
theorem j_lifts : Tryz.prog.liftsFinal = Rows.fnDeltaNoneRow.lifted := by kernel_rfl
theorem j_make : Tryz.prog.make = some Rows.fnDeltaNoneRow.make := by kernel_rfl
end Go.Proofs.YtdahomfmcijklaaGreatDoor.E
