/- For all codes, the law FnTestWide answers true. Conditions: those of the given row, none beside. -/
import Derived.Test.YtkhmejkpfphkpaaDoorG0
import Derived.Test.YtkhmejkpfphkpaaDoorCards
import Derived.Test.YtkhmejkpfphkpaaDoorN5
import Derived.SevenTiedAt
namespace Go.Proofs.YtkhmejkpfphkpaaDoor.fnTestWide
open Go Go.Proofs.YtkhmejkpfphkpaaDoor.E

theorem ok {W : World} (h : GlobOk W) : SpecOk Tryd.prog X0 W 6 spw_FnTestWide := okw_FnTestWide
set_option maxRecDepth 100000 in
theorem contract (H : Type) (enc : TypeId × Value → H) (W : World) (hL : laidMetH Tryd.prog Rows.fnTestWideRow.laid W) (base : Nat) (args : Array Value) (ds gs : List (DataW H)) (before : List MemPlace)
    (hval : ∀ (j : Nat) t v, Tryd.f6.params[j]? = some t → args[j]? = some v → Value.okWide Tryd.prog W .any base t v)
    (hW : DataW.Whole enc Tryd.prog Tryd.f6.params.toList Rows.fnTestWideSpec.vars false W args.toList ds gs before) :
    Calls Tryd.prog 6 args W fun e W' => ∃ v, e = .returned v ∧ Rows.fnTestWideSpec.post enc Tryd.prog Tryd.f6 false true false false W args v W' :=
  law_contract W (X := X0) (ts := [40, 40]) (tb := 4) (m := mS) (sp := spw_FnTestWide) (by kernel_rfl) (by kernel_rfl) (by kernel_rfl) Tryd.func6 (by kernel_rfl) (by kernel_rfl) (ok (globOk_of hL)) laww_FnTestWide (by kernel_rfl) Tryd.underlying4 (by kernel_rfl)
    (fun ds gs h h2 => by
      match ds, gs, h, h2 with
      | [d0, d1], [g0], _, _ => rfl) (by kernel_rfl) (by kernel_rfl) base args ds gs before hval hW

set_option maxRecDepth 100000 in
theorem lifted (os : Os) (started : os.Started) (H : Type) (enc : TypeId × Value → H) :
    ReturnsInHanded {} Tryd.checked os 6 .any (fun w args => (Rows.fnTestWideSpec.pre enc Tryd.prog Tryd.f6 Rows.fnTestWideRow.domain false w args ∧ laidMetH Tryd.prog Rows.fnTestWideRow.laid w) ∧ sizedMet enc Tryd.prog Tryd.f6 (OpenSpec.ofChange Rows.fnTestWideSpec) false w args)
      (Rows.fnTestWideSpec.post enc Tryd.prog Tryd.f6 false true false false) := by
  refine returnsInHanded_of_change_and (C := Tryd.checked) (X := fun w _ => laidMetH Tryd.prog Rows.fnTestWideRow.laid w) (fun _ _ _ hh h => h.of_heap hh) own started (by kernel_rfl) Tryd.func6
    (ChangeSpec.witness_shaped (enc := enc) (C := Tryd.checked) (os := os) (X := fun w _ => laidMetH Tryd.prog Rows.fnTestWideRow.laid w) false (World.doorLaid Tryd.prog 28 os) #[.slice none 0 0, .slice none 0 0] 8 rfl (World.shaped_of_RefB (by kernel_rfl) (by kernel_rfl)) (by kernel_rfl) (by kernel_rfl) (by kernel_rfl) (door_met os _)) ?_
  intro W base args ds gs before hval hW _ _ hL _
  exact contract H enc W hL base args ds gs before hval hW

theorem over : Rows.fnTestWideRow.holds Tryd.pinned (OpenSpec.ofChange Rows.fnTestWideSpec) :=
  OpenClaim.holds_of_wide 6 Tryd.f6 rfl rfl rfl rfl rfl rfl rfl ⟨rfl, rfl, rfl, rfl, rfl⟩ rfl rfl rfl rfl rfl (by kernel_rfl) Tryd.func6 (by kernel_rfl)
    (of_decide_eq_true (by kernel_rfl)) (by unfold Func.isWrapper; first | (rw [if_pos (by decide +kernel)]; kernel_rfl) | (rw [if_neg (by decide +kernel)]; exact ⟨rfl, rfl⟩))
    (fun os started H enc _ => lifted os started H enc)
end Go.Proofs.YtkhmejkpfphkpaaDoor.fnTestWide
namespace Go.Proofs.YtkhmejkpfphkpaaDoor
open Go
theorem fnTestWide_holds : Rows.FnTestWideCardSaid :=
  Claim7.holds_tied_plain_at .later [] [.sentinel] true (true, "baba1900d218e0b3863db92628a2a5fc64da07a2ffe012380eeb7c4c433f0f75") true
    fnTestWide.over (fun _ h => by cases h) (by kernel_rfl) (fun _ h => by cases h) fnTestWide_row_tie rfl ⟨rfl, rfl⟩ (by kernel_rfl) rfl
    (fun f fn hf hfn => by
      obtain rfl : f = 6 := Option.some.inj ((show Tryd.prog.funcNamed "loop.example/milldam/laws.FnTestWide" = some 6 by kernel_rfl).symm.trans hf) |>.symm
      obtain rfl : fn = Tryd.f6 := (Option.some.inj (Tryd.func6.symm.trans hfn)).symm
      refine ⟨by kernel_rfl, fun j t ht => ?_⟩
      have hm : t ∈ Tryd.f6.params.toList := by simpa using Array.mem_of_getElem? ht
      have hall : (Tryd.f6.params.toList.all fun u => !Tryd.prog.wantsStandIn u) = true := by kernel_rfl
      exact (show Tryd.prog.wantsStandIn t = false by simpa using List.all_eq_true.1 hall t hm))
    (by kernel_rfl)
end Go.Proofs.YtkhmejkpfphkpaaDoor
