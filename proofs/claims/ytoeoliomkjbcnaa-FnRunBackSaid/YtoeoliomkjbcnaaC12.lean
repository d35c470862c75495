/- The law 'FnRunBack' returns true for every input, and leaves its arguments as they were. Conditions: those of the given row, none beside. -/
import Derived.Test.YtoeoliomkjbcnaaRows
import Derived.Test.YtoeoliomkjbcnaaM21
import Derived.WalkKit
import Derived.ProofKit
import Derived.Handed
import Derived.JoinedOf
namespace Go.Proofs.Ytoeoliomkjbcnaa.fnRunBack
open Go Go.Proofs.Ytoeoliomkjbcnaa.E

theorem own : ownKnob Try.prog.godebug = none := by kernel_rfl
set_option maxRecDepth 100000 in
theorem contract (H : Type) (enc : TypeId × Value → H) (W : World) (base : Nat) (args : Array Value) (ds gs : List (DataW H)) (before : List MemPlace)
    (hval : ∀ (j : Nat) t v, Try.f12.params[j]? = some t → args[j]? = some v → Value.okWide Try.prog W .any base t v)
    (hW : DataW.Whole enc Try.prog Try.f12.params.toList Rows.fnRunBackSpec.vars false W args.toList ds gs before) :
    Calls Try.prog 12 args W fun e W' => ∃ v, e = .returned v ∧ Rows.fnRunBackSpec.post enc Try.prog Try.f12 false true false false W args v W' :=
  law_contract (X := X0) (ts := [39, 39]) (tb := 4) (m := mS) (sp := sp12) (by kernel_rfl) (by kernel_rfl) (by kernel_rfl) Try.func12 (by kernel_rfl) (by kernel_rfl) ok12 law12 (by kernel_rfl) Try.underlying4 rfl
    (fun ds h => by
      match ds, h with
      | [d1, d2], _ => rfl) (by kernel_rfl) (by kernel_rfl) W base args ds gs before hval hW

set_option maxRecDepth 100000 in
theorem lifted (os : Os) (started : os.Started) (H : Type) (enc : TypeId × Value → H) :
    ReturnsInHanded {} Try.checked os 12 .any (Rows.fnRunBackSpec.pre6 enc Try.prog Try.f12 Rows.fnRunBackRow.domain false) (Rows.fnRunBackSpec.post enc Try.prog Try.f12 false true false false) := by
  refine returnsInHanded_of_change (C := Try.checked) own started (by kernel_rfl) Try.func12
    (ChangeSpec.witness6 (enc := enc) (C := Try.checked) false ⟨#[], #[.slice none 0 0, .slice none 0 0], []⟩ 8 (by kernel_rfl) (by kernel_rfl) (by kernel_rfl) (by kernel_rfl)) ?_
  intro W base args ds gs before hval hW _ _
  exact contract H enc W base args ds gs before hval hW

theorem over : Rows.fnRunBackRow.holds Try.pinned (OpenSpec.ofChange Rows.fnRunBackSpec) :=
  OpenClaim.holds_of_wide 12 Try.f12 rfl rfl rfl rfl rfl rfl rfl ⟨rfl, rfl, rfl, rfl, rfl⟩ rfl rfl rfl rfl rfl (by kernel_rfl) Try.func12 (by kernel_rfl)
    (of_decide_eq_true (by kernel_rfl)) (by unfold Func.isWrapper; first | (rw [if_pos (by decide +kernel)]; kernel_rfl) | (rw [if_neg (by decide +kernel)]; exact ⟨rfl, rfl⟩))
    (fun os started H enc _ => lifted os started H enc)
end Go.Proofs.Ytoeoliomkjbcnaa.fnRunBack
namespace Go.Proofs.Ytoeoliomkjbcnaa
theorem fnRunBack_holds : Rows.FnRunBackSaid := fnRunBack.over
end Go.Proofs.Ytoeoliomkjbcnaa
