/- Facts of the program that every row of the seat asks for. -/
import Derived.Test.YtdahomfmcijklaaDoorRows
import Derived.ProofKit
import Derived.JoinedOf
namespace Go.Proofs.YtdahomfmcijklaaDoor.E
open Go Go.Proofs
theorem j_out : laidOutB Tryd.prog = true := by kernel_rfl
theorem j_rows : mapsRowed Tryd.prog = true := by kernel_rfl
theorem j_heard : Tryd.prog.stopsHeard = true := by kernel_rfl
theorem j_enter : Tryd.prog.mayEnter = true := by kernel_rfl
theorem j_lifts : Tryd.prog.liftsFinal = Rows.fnExactDeltaNearRow.lifted := by kernel_rfl
theorem j_make : Tryd.prog.make = some Rows.fnExactDeltaNearRow.make := by kernel_rfl
end Go.Proofs.YtdahomfmcijklaaDoor.E
