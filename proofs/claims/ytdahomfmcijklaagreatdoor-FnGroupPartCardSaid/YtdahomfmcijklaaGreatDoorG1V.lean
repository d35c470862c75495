/- What a row of this seat assumes of the package's variables, where the error is among them. -/
import Derived.Test.YtdahomfmcijklaaGreatDoorG0V
import Derived.Test.YtdahomfmcijklaaGreatDoorDA6
namespace Go.Proofs.YtdahomfmcijklaaGreatDoor.E
open Go Go.ChangeShapes Go.WideShapes Go.RowKit

theorem errG : Tryz.prog.globalNamed "loop.example/milldam/impl.errReckon" = some 0 := by kernel_rfl
theorem errGT : (Tryz.prog.globals[0]?).map (·.type) = some 140 := by kernel_rfl
theorem errC1 : Tryz.prog.cellsOf 251 = 1 := by kernel_rfl
theorem errC2 : Tryz.prog.cellsOf 9 = 1 := by kernel_rfl
theorem errStar : "*" ++ "errors.errorString" = "*errors.errorString" := by decide
theorem errRow (u : TypeId) (h : Tryz.prog.typeName? 3 u = some "*errors.errorString") : u = 226 :=
  typeName_ptr_named (nm := "errors.errorString") (by rw [errStar]; kernel_rfl) (by kernel_rfl) (by decide) u (by rw [errStar]; exact h)
abbrev laid2 : List (String × DataW Unit) := laid1 ++ [("loop.example/milldam/impl.errReckon", Rows.laid_loop_example_milldam_impl_errReckon)]
theorem globBoth_of {W : World} (h : laidMetH Tryz.prog laid2 W) : GlobOk W ∧ GlobErr W := by
  rw [MakeChecks.laidMetH_plain _ _ _ (by kernel_rfl)] at h
  obtain ⟨a, s, hv, _⟩ := laid_sentinel h.tail.tail.tail errG errGT Tryz.underlying140 errRow Tryz.underlying226 Tryz.underlying251 rfl rfl Tryz.underlying9 errC1 errC2
  exact ⟨⟨Lib.tabIs_of_head laidG laidGT Tryz.underlying221 Tryz.underlying186 (by kernel_rfl) (by kernel_rfl) h.tail.tail⟩, ⟨a, by simpa using World.var?_cell errG hv 0⟩⟩
theorem door_met2 (os : Os) (args : Array Value) : laidMetH Tryz.prog laid2 ((World.doorLaid Tryz.prog 65 os).forCall (fun _ _ => 0) ⟨#[], args, []⟩).memory :=
  laidMetH_of_parts3 (fuel := 24) (laidMet_of_run' 24 (by kernel_rfl) (by kernel_rfl)) (by kernel_rfl) (by kernel_rfl)
end Go.Proofs.YtdahomfmcijklaaGreatDoor.E
