/- The law 'FnExactFlowSame' returns true for every input, and leaves its arguments as they were. Conditions: those of the given row, none beside. -/
import Derived.Test.YtmbnalaiobhaaaaRows
import Derived.Test.YtmbnalaiobhaaaaP12
import Derived.WalkKit
import Derived.ProofKit
import Derived.Handed
import Derived.JoinedOf
namespace Go.Proofs.Ytmbnalaiobhaaaa.fnExactFlowSame
open Go Go.Proofs.Ytmbnalaiobhaaaa.E

theorem own : ownKnob Try.prog.godebug = none := by kernel_rfl
set_option maxRecDepth 100000 in
theorem contract (H : Type) (enc : TypeId × Value → H) (W : World) (base : Nat) (args : Array Value) (ds gs : List (DataW H)) (before : List MemPlace)
    (hval : ∀ (j : Nat) t v, Try.f3.params[j]? = some t → args[j]? = some v → Value.okWide Try.prog W .any base t v)
    (hW : DataW.Whole enc Try.prog Try.f3.params.toList Rows.fnExactFlowSameSpec.vars false W args.toList ds gs before) :
    Calls Try.prog 3 args W fun e W' => ∃ v, e = .returned v ∧ Rows.fnExactFlowSameSpec.post enc Try.prog Try.f3 false true false false W args v W' :=
  law_contract W (X := X0) (ts := [36, 36]) (tb := 4) (m := mS) (sp := spw_FnExactFlowSame) (by kernel_rfl) (nt := [(0, 30), (1, 36)]) (by kernel_rfl) (by kernel_rfl) (by kernel_rfl) Try.func3 (by kernel_rfl) (by kernel_rfl) okw_FnExactFlowSame laww_FnExactFlowSame (by kernel_rfl) Try.underlying4 (by kernel_rfl)
    (fun ds gs h h2 => by
      match ds, gs, h, h2 with
      | [d0, d1], [], _, _ => rfl) (by kernel_rfl) (by kernel_rfl) base args ds gs before hval hW

set_option maxRecDepth 100000 in
theorem lifted (os : Os) (started : os.Started) (H : Type) (enc : TypeId × Value → H) :
    ReturnsInHanded {} Try.checked os 3 .any (Rows.fnExactFlowSameSpec.pre6 enc Try.prog Try.f3 Rows.fnExactFlowSameRow.domain false) (Rows.fnExactFlowSameSpec.post enc Try.prog Try.f3 false true false false) := by
  refine returnsInHanded_of_change (C := Try.checked) own started (by kernel_rfl) Try.func3
    (ChangeSpec.witness6 (enc := enc) (C := Try.checked) false ⟨#[], #[.agg #[.int .i64 0, .int .i64 0, .int .i64 0, .bool false, .int .i64 0, .int .i64 0, .int .i64 0, .int .i64 0, .int .i64 0, .int .i64 0, .int .i64 0, .int .i64 0, .slice none 0 0, .int .i64 0, .int .i64 0, .slice none 0 0, .int .i64 0, .int .i64 0, .slice none 0 0, .slice none 0 0, .slice none 0 0, .slice none 0 0], .agg #[.int .i64 0, .int .i64 0, .int .i64 0, .bool false, .int .i64 0, .int .i64 0, .int .i64 0, .int .i64 0, .int .i64 0, .int .i64 0, .int .i64 0, .int .i64 0, .slice none 0 0, .int .i64 0, .int .i64 0, .slice none 0 0, .int .i64 0, .int .i64 0, .slice none 0 0, .slice none 0 0, .slice none 0 0, .slice none 0 0]], []⟩ 8 (by kernel_rfl) (by kernel_rfl) (by kernel_rfl) (by kernel_rfl)) ?_
  intro W base args ds gs before hval hW _ _
  exact contract H enc W base args ds gs before hval hW

theorem over : Rows.fnExactFlowSameRow.holds Try.pinned (OpenSpec.ofChange Rows.fnExactFlowSameSpec) :=
  OpenClaim.holds_of_wide 3 Try.f3 rfl rfl rfl rfl rfl rfl rfl ⟨rfl, rfl, rfl, rfl, rfl⟩ rfl rfl rfl rfl rfl (by kernel_rfl) Try.func3 (by kernel_rfl)
    (of_decide_eq_true (by kernel_rfl)) (by unfold Func.isWrapper; first | (rw [if_pos (by decide +kernel)]; kernel_rfl) | (rw [if_neg (by decide +kernel)]; exact ⟨rfl, rfl⟩))
    (fun os started H enc _ => lifted os started H enc)
end Go.Proofs.Ytmbnalaiobhaaaa.fnExactFlowSame
namespace Go.Proofs.Ytmbnalaiobhaaaa
theorem fnExactFlowSame_holds : Rows.FnExactFlowSameSaid := fnExactFlowSame.over
end Go.Proofs.Ytmbnalaiobhaaaa
