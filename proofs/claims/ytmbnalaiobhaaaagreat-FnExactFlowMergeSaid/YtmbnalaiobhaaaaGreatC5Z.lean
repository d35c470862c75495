/- The law 'FnExactFlowMerge' returns true for every input, and leaves its arguments as they were. Conditions: those of the given row, none beside. Conditions: those of the given row, none beside. -/
import Derived.Test.YtmbnalaiobhaaaaGreatRows
import Derived.Test.YtmbnalaiobhaaaaGreatAA
import Derived.WalkKit
import Derived.ProofKit
import Derived.Handed
import Derived.JoinedOf
namespace Go.Proofs.YtmbnalaiobhaaaaGreat.fnExactFlowMerge
open Go Go.Proofs.YtmbnalaiobhaaaaGreat.E

theorem own : ownKnob Tryz.prog.godebug = none := by kernel_rfl
set_option maxRecDepth 100000 in
theorem contract (H : Type) (enc : TypeId × Value → H) (W : World) (base : Nat) (args : Array Value) (ds gs : List (DataW H)) (before : List MemPlace)
    (hval : ∀ (j : Nat) t v, Tryz.f6.params[j]? = some t → args[j]? = some v → Value.okWide Tryz.prog W .any base t v)
    (hW : DataW.Whole enc Tryz.prog Tryz.f6.params.toList Rows.fnExactFlowMergeSpec.vars false W args.toList ds gs before) :
    Calls Tryz.prog 6 args W fun e W' => ∃ v, e = .returned v ∧ Rows.fnExactFlowMergeSpec.post enc Tryz.prog Tryz.f6 false true false false W args v W' :=
  law_contract W (X := X0) (ts := [57, 3]) (tb := 4) (m := mS) (sp := spw_FnExactFlowMerge) (by kernel_rfl) (nt := [(0, 30), (1, 57)]) (by kernel_rfl) (by kernel_rfl) (by kernel_rfl) Tryz.func6 (by kernel_rfl) (by kernel_rfl) okw_FnExactFlowMerge laww_FnExactFlowMerge (by kernel_rfl) Tryz.underlying4 (by kernel_rfl)
    (fun ds gs h h2 => by
      match ds, gs, h, h2 with
      | [d0, d1], [], _, _ => rfl) (by kernel_rfl) (by kernel_rfl) base args ds gs before hval hW

set_option maxRecDepth 100000 in
theorem lifted (os : Os) (started : os.Started) (H : Type) (enc : TypeId × Value → H) :
    ReturnsInHanded {} Tryz.checked os 6 .any (Rows.fnExactFlowMergeSpec.pre6 enc Tryz.prog Tryz.f6 Rows.fnExactFlowMergeRow.domain false) (Rows.fnExactFlowMergeSpec.post enc Tryz.prog Tryz.f6 false true false false) := by
  refine returnsInHanded_of_change (C := Tryz.checked) own started (by kernel_rfl) Tryz.func6
    (ChangeSpec.witness6 (enc := enc) (C := Tryz.checked) false ⟨#[], #[.agg #[.int .i64 0, .int .i64 0, .int .i64 0, .bool false, .int .i64 0, .int .i64 0, .int .i64 0, .int .i64 0, .int .i64 0, .int .i64 0, .int .i64 0, .int .i64 0, .slice none 0 0, .int .i64 0, .int .i64 0, .slice none 0 0, .int .i64 0, .int .i64 0, .slice none 0 0, .slice none 0 0, .slice none 0 0, .slice none 0 0], .int .i64 0], []⟩ 8 (by kernel_rfl) (by kernel_rfl) (by kernel_rfl) (by kernel_rfl)) ?_
  intro W base args ds gs before hval hW _ _
  exact contract H enc W base args ds gs before hval hW

theorem over : Rows.fnExactFlowMergeRow.holds Tryz.pinned (OpenSpec.ofChange Rows.fnExactFlowMergeSpec) :=
  OpenClaim.holds_of_wide 6 Tryz.f6 rfl rfl rfl rfl rfl rfl rfl ⟨rfl, rfl, rfl, rfl, rfl⟩ rfl rfl rfl rfl rfl (by kernel_rfl) Tryz.func6 (by kernel_rfl)
    (of_decide_eq_true (by kernel_rfl)) (by unfold Func.isWrapper; first | (rw [if_pos (by decide +kernel)]; kernel_rfl) | (rw [if_neg (by decide +kernel)]; exact ⟨rfl, rfl⟩))
    (fun os started H enc _ => lifted os started H enc)
end Go.Proofs.YtmbnalaiobhaaaaGreat.fnExactFlowMerge
namespace Go.Proofs.YtmbnalaiobhaaaaGreat
theorem fnExactFlowMerge_holds : Rows.FnExactFlowMergeSaid := fnExactFlowMerge.over
end Go.Proofs.YtmbnalaiobhaaaaGreat
