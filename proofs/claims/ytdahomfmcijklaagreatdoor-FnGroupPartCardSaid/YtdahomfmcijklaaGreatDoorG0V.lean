/- What a row of this seat assumes of the package's variables: the table of the powers of ten. -/
import Derived.Test.YtdahomfmcijklaaGreatDoorRows
import Derived.Test.YtdahomfmcijklaaGreatDoorTie
import Derived.Test.YtdahomfmcijklaaGreatDoorDA4
import Derived.ProofKit
import Derived.Handed
import Derived.JoinedOf
import Derived.LaidMore
import Derived.OpenShut
import Derived.MakeChecks
import Derived.Stop.LaidErr
import Derived.Stop.Joined
import Derived.Lib.LaidTab
namespace Go.Proofs.YtdahomfmcijklaaGreatDoor.E
open Go Go.ChangeShapes Go.WideShapes Go.RowKit

theorem own : ownKnob Tryz.prog.godebug = none := by kernel_rfl
abbrev laid1 : List (String × DataW Unit) := [("math/bits.deBruijn32tab", Rows.laid_math_bits_deBruijn32tab), ("math/bits.deBruijn64tab", Rows.laid_math_bits_deBruijn64tab), ("internal/strconv.uint64pow10", Rows.laid_internal_strconv_uint64pow10)]
theorem laidG : Tryz.prog.globalNamed "internal/strconv.uint64pow10" = some 1 := by kernel_rfl
theorem laidGT : (Tryz.prog.globals[1]?).map (·.type) = some 221 := by kernel_rfl
end Go.Proofs.YtdahomfmcijklaaGreatDoor.E
