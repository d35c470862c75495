/- What a row of this seat assumes of the package's variables: the table of the powers of ten. -/
import Derived.Test.YtdahomfmcijklaaGreatDoorRows
import Derived.Test.YtdahomfmcijklaaGreatDoorTie
import Derived.Test.YtdahomfmcijklaaGreatDoorBA4
import Derived.ProofKit
import Derived.Handed
import Derived.JoinedOf
import Derived.LaidMore
import Derived.OpenShut
import Derived.MakeChecks
import Derived.Stop.LaidErr
import Derived.Stop.Joined
import Derived.Lib.LaidTab
namespace Go.Proofs.YtdahomfmcijklaaGreatDoor.E
open Go Go.ChangeShapes Go.WideShapes Go.RowKit

theorem own : ownKnob Tryz.prog.godebug = none := by kernel_rfl
abbrev laid1 : List (String × DataW Unit) := [("math/bits.deBruijn32tab", Rows.laid_math_bits_deBruijn32tab), ("math/bits.deBruijn64tab", Rows.laid_math_bits_deBruijn64tab), ("internal/strconv.uint64pow10", Rows.laid_internal_strconv_uint64pow10)]
theorem laidG : Tryz.prog.globalNamed "internal/strconv.uint64pow10" = some 1 := by kernel_rfl
theorem laidGT : (Tryz.prog.globals[1]?).map (·.type) = some 221 := by kernel_rfl
theorem globOk_of {W : World} (h : laidMetH Tryz.prog laid1 W) : GlobOk W := by
  rw [MakeChecks.laidMetH_plain _ _ _ (by kernel_rfl)] at h
  exact ⟨Lib.tabIs_of_head laidG laidGT Tryz.underlying221 Tryz.underlying186 (by kernel_rfl) (by kernel_rfl) h.tail.tail⟩
theorem door_met (os : Os) (args : Array Value) : laidMetH Tryz.prog laid1 ((World.doorLaid Tryz.prog 65 os).forCall (fun _ _ => 0) ⟨#[], args, []⟩).memory :=
  laidMetH_of_parts3 (fuel := 24) (laidMet_of_run' 24 (by kernel_rfl) (by kernel_rfl)) (by kernel_rfl) (by kernel_rfl)
end Go.Proofs.YtdahomfmcijklaaGreatDoor.E
