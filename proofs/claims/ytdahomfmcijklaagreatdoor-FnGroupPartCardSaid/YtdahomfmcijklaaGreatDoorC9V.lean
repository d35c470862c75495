/- What is asked of all is asked of groups. Conditions: those of the given row, none beside. -/
import Derived.Test.YtdahomfmcijklaaGreatDoorG1V
import Derived.Test.YtdahomfmcijklaaGreatDoorGJV
import Derived.Test.YtdahomfmcijklaaGreatDoorCards
import Derived.Test.YtdahomfmcijklaaGreatDoorDA9
import Derived.SevenTiedAt
namespace Go.Proofs.YtdahomfmcijklaaGreatDoor.fnGroupPart
open Go Go.Proofs.YtdahomfmcijklaaGreatDoor.E

theorem ok {W : World} (h : GlobOk W ∧ GlobErr W) : SpecOk Tryz.prog X0 W 14 spw_FnGroupPart := by
  haveI := h.1
  haveI := h.2
  exact okw_FnGroupPart
set_option maxRecDepth 100000 in
theorem contract (H : Type) (enc : TypeId × Value → H) (W : World) (hL : laidMetH Tryz.prog Rows.fnGroupPartRow.laid W) (base : Nat) (args : Array Value) (ds gs : List (DataW H)) (before : List MemPlace)
    (hval : ∀ (j : Nat) t v, Tryz.f14.params[j]? = some t → args[j]? = some v → Value.okWide Tryz.prog W .any base t v)
    (hW : DataW.Whole enc Tryz.prog Tryz.f14.params.toList Rows.fnGroupPartSpec.vars false W args.toList ds gs before) :
    Calls Tryz.prog 14 args W fun e W' => ∃ v, e = .returned v ∧ Rows.fnGroupPartSpec.post enc Tryz.prog Tryz.f14 false true false false W args v W' :=
  law_contract W (X := X0) (ts := [35]) (tb := 4) (m := mS) (sp := spw_FnGroupPart) (by kernel_rfl) (by kernel_rfl) (by kernel_rfl) Tryz.func14 (by kernel_rfl) (by kernel_rfl) (ok (globBoth_of hL)) laww_FnGroupPart (by kernel_rfl) Tryz.underlying4 (by kernel_rfl)
    (fun ds gs h h2 => by
      match ds, gs, h, h2 with
      | [d0], [g0], _, _ => rfl) (by kernel_rfl) (by kernel_rfl) base args ds gs before hval hW

set_option maxRecDepth 100000 in
theorem lifted (os : Os) (started : os.Started) (H : Type) (enc : TypeId × Value → H) :
    ReturnsInHanded {} Tryz.checked os 14 .any (fun w args => (Rows.fnGroupPartSpec.pre enc Tryz.prog Tryz.f14 Rows.fnGroupPartRow.domain false w args ∧ laidMetH Tryz.prog Rows.fnGroupPartRow.laid w) ∧ sizedMet enc Tryz.prog Tryz.f14 (OpenSpec.ofChange Rows.fnGroupPartSpec) false w args)
      (Rows.fnGroupPartSpec.post enc Tryz.prog Tryz.f14 false true false false) := by
  refine returnsInHanded_of_change_and (C := Tryz.checked) (X := fun w _ => laidMetH Tryz.prog Rows.fnGroupPartRow.laid w) (fun _ _ _ hh h => h.of_heap hh) own started (by kernel_rfl) Tryz.func14
    (ChangeSpec.witness_shaped (enc := enc) (C := Tryz.checked) (os := os) (X := fun w _ => laidMetH Tryz.prog Rows.fnGroupPartRow.laid w) false (World.doorLaid Tryz.prog 65 os) #[.slice none 0 0] 8 rfl (World.shaped_of_RefB (by kernel_rfl) (by kernel_rfl)) (by kernel_rfl) (by kernel_rfl) (by kernel_rfl) (door_met2 os _)) ?_
  intro W base args ds gs before hval hW _ _ hL _
  exact contract H enc W hL base args ds gs before hval hW

theorem i1 : (Rows.fnGroupPartRow.inPlace == Tryz.prog.inPlace 14) = true := by kernel_rfl
theorem i2 : (Rows.fnGroupPartRow.unfollowed == Tryz.prog.unfollowed 14) = true := by kernel_rfl
theorem i3 : (Rows.fnGroupPartRow.recurses == Tryz.prog.recurses 14) = true := by kernel_rfl
theorem i4 : (Rows.fnGroupPartRow.named == Tryz.prog.varsNamed 14) = true := by kernel_rfl
theorem closed : joinedFacts Tryz.prog 14 Tryz.f14 Rows.fnGroupPartSpec Rows.fnGroupPartRow = true := by
  unfold joinedFacts
  rw [j_out, j_rows, j_heard, j_enter, j_lifts, j_make, i1, i2, i3, i4]
  kernel_rfl
theorem over : Rows.fnGroupPartRow.holds Tryz.pinned (OpenSpec.ofChange Rows.fnGroupPartSpec) :=
  OpenClaim.holds_of_wide 14 Tryz.f14 rfl rfl rfl rfl rfl rfl rfl ⟨rfl, rfl, rfl, rfl, rfl⟩ rfl rfl rfl rfl rfl (by kernel_rfl) Tryz.func14 closed
    (of_decide_eq_true (by kernel_rfl)) (by unfold Func.isWrapper; first | (rw [if_pos (by decide +kernel)]; kernel_rfl) | (rw [if_neg (by decide +kernel)]; exact ⟨rfl, rfl⟩))
    (fun os started H enc _ => lifted os started H enc)
end Go.Proofs.YtdahomfmcijklaaGreatDoor.fnGroupPart
namespace Go.Proofs.YtdahomfmcijklaaGreatDoor
open Go
theorem fnGroupPart_holds : Rows.FnGroupPartCardSaid :=
  Claim7.holds_tied_plain_at .later [] [.data, .data, .data, .sentinel] true (true, "8896f7262a10f5d10da4325e59b5842ad0aa6fb1d12cff55fb5bc29def5d4fd7") true
    fnGroupPart.over (fun _ h => by cases h) (by kernel_rfl) (fun _ h => by cases h) fnGroupPart_row_tie rfl ⟨rfl, rfl⟩ (by kernel_rfl) rfl
    (fun f fn hf hfn => by
      obtain rfl : f = 14 := Option.some.inj ((show Tryz.prog.funcNamed "loop.example/milldam/laws.FnGroupPart" = some 14 by kernel_rfl).symm.trans hf) |>.symm
      obtain rfl : fn = Tryz.f14 := (Option.some.inj (Tryz.func14.symm.trans hfn)).symm
      refine ⟨by kernel_rfl, fun j t ht => ?_⟩
      have hm : t ∈ Tryz.f14.params.toList := by simpa using Array.mem_of_getElem? ht
      have hall : (Tryz.f14.params.toList.all fun u => !Tryz.prog.wantsStandIn u) = true := by kernel_rfl
      exact (show Tryz.prog.wantsStandIn t = false by simpa using List.all_eq_true.1 hall t hm))
    (by kernel_rfl)
end Go.Proofs.YtdahomfmcijklaaGreatDoor
