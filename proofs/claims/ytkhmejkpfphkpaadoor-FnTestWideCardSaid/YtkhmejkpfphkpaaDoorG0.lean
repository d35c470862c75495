/- What a row of this seat assumes of the package's variables: the error is one of errors.New's make. -/
import Derived.Test.YtkhmejkpfphkpaaDoorRows
import Derived.Test.YtkhmejkpfphkpaaDoorTie
import Derived.Test.YtkhmejkpfphkpaaDoorH0
import Derived.ProofKit
import Derived.Handed
import Derived.JoinedOf
import Derived.LaidMore
import Derived.OpenShut
import Derived.MakeChecks
import Derived.Stop.LaidErr
import Derived.Stop.Joined
namespace Go.Proofs.YtkhmejkpfphkpaaDoor.E
open Go Go.ChangeShapes Go.WideShapes Go.RowKit

theorem own : ownKnob Tryd.prog.godebug = none := by kernel_rfl
theorem laidG : Tryd.prog.globalNamed "loop.example/milldam/impl.errReckon" = some 0 := by kernel_rfl
theorem laidGT : (Tryd.prog.globals[0]?).map (·.type) = some 65 := by kernel_rfl
theorem laidC1 : Tryd.prog.cellsOf 159 = 1 := by kernel_rfl
theorem laidC2 : Tryd.prog.cellsOf 9 = 1 := by kernel_rfl
theorem laidStar : "*" ++ "errors.errorString" = "*errors.errorString" := by decide
theorem laidRow (u : TypeId) (h : Tryd.prog.typeName? 3 u = some "*errors.errorString") : u = 132 :=
  typeName_ptr_named (nm := "errors.errorString") (by rw [laidStar]; kernel_rfl) (by kernel_rfl) (by decide) u (by rw [laidStar]; exact h)
abbrev laid1 : List (String × DataW Unit) := [("loop.example/milldam/impl.errReckon", Rows.laid_loop_example_milldam_impl_errReckon)]
theorem globOk_of {W : World} (h : laidMetH Tryd.prog laid1 W) : GlobOk W := by
  rw [MakeChecks.laidMetH_plain _ _ _ (by kernel_rfl)] at h
  obtain ⟨a, s, hv, _⟩ := laid_sentinel h laidG laidGT Tryd.underlying65 laidRow Tryd.underlying132 Tryd.underlying159 rfl rfl Tryd.underlying9 laidC1 laidC2
  exact ⟨a, by simpa using World.var?_cell laidG hv 0⟩
theorem door_met (os : Os) (args : Array Value) : laidMetH Tryd.prog laid1 ((World.doorLaid Tryd.prog 28 os).forCall (fun _ _ => 0) ⟨#[], args, []⟩).memory :=
  laidMetH_of_parts3 (fuel := 8) (laidMet_of_run' 8 (by kernel_rfl) (by kernel_rfl)) (by kernel_rfl) (by kernel_rfl)
end Go.Proofs.YtkhmejkpfphkpaaDoor.E
