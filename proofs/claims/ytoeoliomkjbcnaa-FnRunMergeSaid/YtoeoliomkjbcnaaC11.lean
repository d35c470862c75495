/- The law 'FnRunMerge' returns true for every input, and leaves its arguments as they were. Conditions: those of the given row, none beside. -/
import Derived.Test.YtoeoliomkjbcnaaRows
import Derived.Test.YtoeoliomkjbcnaaM20
import Derived.WalkKit
import Derived.ProofKit
import Derived.Handed
import Derived.JoinedOf
namespace Go.Proofs.Ytoeoliomkjbcnaa.fnRunMerge
open Go Go.Proofs.Ytoeoliomkjbcnaa.E

theorem own : ownKnob Try.prog.godebug = none := by kernel_rfl
set_option maxRecDepth 100000 in
theorem contract (H : Type) (enc : TypeId × Value → H) (W : World) (base : Nat) (args : Array Value) (ds gs : List (DataW H)) (before : List MemPlace)
    (hval : ∀ (j : Nat) t v, Try.f11.params[j]? = some t → args[j]? = some v → Value.okWide Try.prog W .any base t v)
    (hW : DataW.Whole enc Try.prog Try.f11.params.toList Rows.fnRunMergeSpec.vars false W args.toList ds gs before) :
    Calls Try.prog 11 args W fun e W' => ∃ v, e = .returned v ∧ Rows.fnRunMergeSpec.post enc Try.prog Try.f11 false true false false W args v W' :=
  law_contract (X := X0) (ts := [39]) (tb := 4) (m := mS) (sp := sp11) (by kernel_rfl) (by kernel_rfl) (by kernel_rfl) Try.func11 (by kernel_rfl) (by kernel_rfl) ok11 law11 (by kernel_rfl) Try.underlying4 rfl
    (fun ds h => by
      match ds, h with
      | [d], _ => rfl) (by kernel_rfl) (by kernel_rfl) W base args ds gs before hval hW

set_option maxRecDepth 100000 in
theorem lifted (os : Os) (started : os.Started) (H : Type) (enc : TypeId × Value → H) :
    ReturnsInHanded {} Try.checked os 11 .any (Rows.fnRunMergeSpec.pre6 enc Try.prog Try.f11 Rows.fnRunMergeRow.domain false) (Rows.fnRunMergeSpec.post enc Try.prog Try.f11 false true false false) := by
  refine returnsInHanded_of_change (C := Try.checked) own started (by kernel_rfl) Try.func11
    (ChangeSpec.witness6 (enc := enc) (C := Try.checked) false ⟨#[], #[.slice none 0 0], []⟩ 8 (by kernel_rfl) (by kernel_rfl) (by kernel_rfl) (by kernel_rfl)) ?_
  intro W base args ds gs before hval hW _ _
  exact contract H enc W base args ds gs before hval hW

theorem over : Rows.fnRunMergeRow.holds Try.pinned (OpenSpec.ofChange Rows.fnRunMergeSpec) :=
  OpenClaim.holds_of_wide 11 Try.f11 rfl rfl rfl rfl rfl rfl rfl ⟨rfl, rfl, rfl, rfl, rfl⟩ rfl rfl rfl rfl rfl (by kernel_rfl) Try.func11 (by kernel_rfl)
    (of_decide_eq_true (by kernel_rfl)) (by unfold Func.isWrapper; first | (rw [if_pos (by decide +kernel)]; kernel_rfl) | (rw [if_neg (by decide +kernel)]; exact ⟨rfl, rfl⟩))
    (fun os started H enc _ => lifted os started H enc)
end Go.Proofs.Ytoeoliomkjbcnaa.fnRunMerge
namespace Go.Proofs.Ytoeoliomkjbcnaa
theorem fnRunMerge_holds : Rows.FnRunMergeSaid := fnRunMerge.over
end Go.Proofs.Ytoeoliomkjbcnaa
