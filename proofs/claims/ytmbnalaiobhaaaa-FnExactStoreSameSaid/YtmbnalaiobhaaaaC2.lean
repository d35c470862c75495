/- The law 'FnExactStoreSame' returns true for every input, and leaves its arguments as they were. Conditions: those of the given row, none beside. -/
import Derived.Test.YtmbnalaiobhaaaaRows
import Derived.Test.YtmbnalaiobhaaaaP15
import Derived.WalkKit
import Derived.ProofKit
import Derived.Handed
import Derived.JoinedOf
namespace Go.Proofs.Ytmbnalaiobhaaaa.fnExactStoreSame
open Go Go.Proofs.Ytmbnalaiobhaaaa.E

theorem own : ownKnob Try.prog.godebug = none := by kernel_rfl
set_option maxRecDepth 100000 in
theorem contract (H : Type) (enc : TypeId × Value → H) (W : World) (base : Nat) (args : Array Value) (ds gs : List (DataW H)) (before : List MemPlace)
    (hval : ∀ (j : Nat) t v, Try.f4.params[j]? = some t → args[j]? = some v → Value.okWide Try.prog W .any base t v)
    (hW : DataW.Whole enc Try.prog Try.f4.params.toList Rows.fnExactStoreSameSpec.vars false W args.toList ds gs before) :
    Calls Try.prog 4 args W fun e W' => ∃ v, e = .returned v ∧ Rows.fnExactStoreSameSpec.post enc Try.prog Try.f4 false true false false W args v W' :=
  law_contract W (X := X0) (ts := [56, 56]) (tb := 4) (m := mS) (sp := spw_FnExactStoreSame) (by kernel_rfl) (nt := [(0, 30), (1, 36)]) (by kernel_rfl) (by kernel_rfl) (by kernel_rfl) Try.func4 (by kernel_rfl) (by kernel_rfl) okw_FnExactStoreSame laww_FnExactStoreSame (by kernel_rfl) Try.underlying4 (by kernel_rfl)
    (fun ds gs h h2 => by
      match ds, gs, h, h2 with
      | [d0, d1], [], _, _ => rfl) (by kernel_rfl) (by kernel_rfl) base args ds gs before hval hW

set_option maxRecDepth 100000 in
theorem lifted (os : Os) (started : os.Started) (H : Type) (enc : TypeId × Value → H) :
    ReturnsInHanded {} Try.checked os 4 .any (Rows.fnExactStoreSameSpec.pre6 enc Try.prog Try.f4 Rows.fnExactStoreSameRow.domain false) (Rows.fnExactStoreSameSpec.post enc Try.prog Try.f4 false true false false) := by
  refine returnsInHanded_of_change (C := Try.checked) own started (by kernel_rfl) Try.func4
    (ChangeSpec.witness6 (enc := enc) (C := Try.checked) false ⟨#[], #[.agg #[.slice none 0 0, .slice none 0 0, .slice none 0 0, .int .i64 0, .int .i64 0], .agg #[.slice none 0 0, .slice none 0 0, .slice none 0 0, .int .i64 0, .int .i64 0]], []⟩ 8 (by kernel_rfl) (by kernel_rfl) (by kernel_rfl) (by kernel_rfl)) ?_
  intro W base args ds gs before hval hW _ _
  exact contract H enc W base args ds gs before hval hW

theorem over : Rows.fnExactStoreSameRow.holds Try.pinned (OpenSpec.ofChange Rows.fnExactStoreSameSpec) :=
  OpenClaim.holds_of_wide 4 Try.f4 rfl rfl rfl rfl rfl rfl rfl ⟨rfl, rfl, rfl, rfl, rfl⟩ rfl rfl rfl rfl rfl (by kernel_rfl) Try.func4 (by kernel_rfl)
    (of_decide_eq_true (by kernel_rfl)) (by unfold Func.isWrapper; first | (rw [if_pos (by decide +kernel)]; kernel_rfl) | (rw [if_neg (by decide +kernel)]; exact ⟨rfl, rfl⟩))
    (fun os started H enc _ => lifted os started H enc)
end Go.Proofs.Ytmbnalaiobhaaaa.fnExactStoreSame
namespace Go.Proofs.Ytmbnalaiobhaaaa
theorem fnExactStoreSame_holds : Rows.FnExactStoreSameSaid := fnExactStoreSame.over
end Go.Proofs.Ytmbnalaiobhaaaa
