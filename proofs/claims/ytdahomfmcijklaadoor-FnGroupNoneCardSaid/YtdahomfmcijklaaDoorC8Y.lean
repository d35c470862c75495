/- For all codes the law FnGroupNone answers true: what is missing forms no groups. Conditions: those of the given row, none beside. -/
import Derived.Test.YtdahomfmcijklaaDoorG0Y
import Derived.Test.YtdahomfmcijklaaDoorGJY
import Derived.Test.YtdahomfmcijklaaDoorCards
import Derived.Test.YtdahomfmcijklaaDoorBA8
import Derived.SevenTiedAt
namespace Go.Proofs.YtdahomfmcijklaaDoor.fnGroupNone
open Go Go.Proofs.YtdahomfmcijklaaDoor.E

theorem ok {W : World} (h : GlobOk W) : SpecOk Tryd.prog X0 W 9 spw_FnGroupNone := okw_FnGroupNone
set_option maxRecDepth 100000 in
theorem contract (H : Type) (enc : TypeId × Value → H) (W : World) (hL : laidMetH Tryd.prog Rows.fnGroupNoneRow.laid W) (base : Nat) (args : Array Value) (ds gs : List (DataW H)) (before : List MemPlace)
    (hval : ∀ (j : Nat) t v, Tryd.f9.params[j]? = some t → args[j]? = some v → Value.okWide Tryd.prog W .any base t v)
    (hW : DataW.Whole enc Tryd.prog Tryd.f9.params.toList Rows.fnGroupNoneSpec.vars false W args.toList ds gs before) :
    Calls Tryd.prog 9 args W fun e W' => ∃ v, e = .returned v ∧ Rows.fnGroupNoneSpec.post enc Tryd.prog Tryd.f9 false true false false W args v W' :=
  law_contract W (X := X0) (ts := [39]) (tb := 4) (m := mS) (sp := spw_FnGroupNone) (by kernel_rfl) (by kernel_rfl) (by kernel_rfl) Tryd.func9 (by kernel_rfl) (by kernel_rfl) (ok (globOk_of hL)) laww_FnGroupNone (by kernel_rfl) Tryd.underlying4 (by kernel_rfl)
    (fun ds gs h h2 => by
      match ds, gs, h, h2 with
      | [d0], [], _, _ => rfl) (by kernel_rfl) (by kernel_rfl) base args ds gs before hval hW

set_option maxRecDepth 100000 in
theorem lifted (os : Os) (started : os.Started) (H : Type) (enc : TypeId × Value → H) :
    ReturnsInHanded {} Tryd.checked os 9 .any (fun w args => (Rows.fnGroupNoneSpec.pre enc Tryd.prog Tryd.f9 Rows.fnGroupNoneRow.domain false w args ∧ laidMetH Tryd.prog Rows.fnGroupNoneRow.laid w) ∧ sizedMet enc Tryd.prog Tryd.f9 (OpenSpec.ofChange Rows.fnGroupNoneSpec) false w args)
      (Rows.fnGroupNoneSpec.post enc Tryd.prog Tryd.f9 false true false false) := by
  refine returnsInHanded_of_change_and (C := Tryd.checked) (X := fun w _ => laidMetH Tryd.prog Rows.fnGroupNoneRow.laid w) (fun _ _ _ hh h => h.of_heap hh) own started (by kernel_rfl) Tryd.func9
    (ChangeSpec.witness_shaped (enc := enc) (C := Tryd.checked) (os := os) (X := fun w _ => laidMetH Tryd.prog Rows.fnGroupNoneRow.laid w) false (World.doorLaid Tryd.prog 65 os) #[.slice none 0 0] 8 rfl (World.shaped_of_RefB (by kernel_rfl) (by kernel_rfl)) (by kernel_rfl) (by kernel_rfl) (by kernel_rfl) (door_met os _)) ?_
  intro W base args ds gs before hval hW _ _ hL _
  exact contract H enc W hL base args ds gs before hval hW

theorem i1 : (Rows.fnGroupNoneRow.inPlace == Tryd.prog.inPlace 9) = true := by kernel_rfl
theorem i2 : (Rows.fnGroupNoneRow.unfollowed == Tryd.prog.unfollowed 9) = true := by kernel_rfl
theorem i3 : (Rows.fnGroupNoneRow.recurses == Tryd.prog.recurses 9) = true := by kernel_rfl
theorem i4 : (Rows.fnGroupNoneRow.named == Tryd.prog.varsNamed 9) = true := by kernel_rfl
theorem closed : joinedFacts Tryd.prog 9 Tryd.f9 Rows.fnGroupNoneSpec Rows.fnGroupNoneRow = true := by
  unfold joinedFacts
  rw [j_out, j_rows, j_heard, j_enter, j_lifts, j_make, i1, i2, i3, i4]
  kernel_rfl
theorem over : Rows.fnGroupNoneRow.holds Tryd.pinned (OpenSpec.ofChange Rows.fnGroupNoneSpec) :=
  OpenClaim.holds_of_wide 9 Tryd.f9 rfl rfl rfl rfl rfl rfl rfl ⟨rfl, rfl, rfl, rfl, rfl⟩ rfl rfl rfl rfl rfl (by kernel_rfl) Tryd.func9 closed
    (of_decide_eq_true (by kernel_rfl)) (by unfold Func.isWrapper; first | (rw [if_pos (by decide +kernel)]; kernel_rfl) | (rw [if_neg (by decide +kernel)]; exact ⟨rfl, rfl⟩))
    (fun os started H enc _ => lifted os started H enc)
end Go.Proofs.YtdahomfmcijklaaDoor.fnGroupNone
namespace Go.Proofs.YtdahomfmcijklaaDoor
open Go
theorem fnGroupNone_holds : Rows.FnGroupNoneCardSaid :=
  Claim7.holds_tied_plain_at .later [] [.data, .data, .data] true (true, "ca6375674f3f22b759f741ce231bcfa3b0e3454c2d1361a0805e5e0dbbfee1c4") false
    fnGroupNone.over (fun _ h => by cases h) (by kernel_rfl) (fun _ h => by cases h) fnGroupNone_row_tie rfl ⟨rfl, rfl⟩ (by kernel_rfl) rfl
    (fun f fn hf hfn => by
      obtain rfl : f = 9 := Option.some.inj ((show Tryd.prog.funcNamed "loop.example/milldam/laws.FnGroupNone" = some 9 by kernel_rfl).symm.trans hf) |>.symm
      obtain rfl : fn = Tryd.f9 := (Option.some.inj (Tryd.func9.symm.trans hfn)).symm
      refine ⟨by kernel_rfl, fun j t ht => ?_⟩
      have hm : t ∈ Tryd.f9.params.toList := by simpa using Array.mem_of_getElem? ht
      have hall : (Tryd.f9.params.toList.all fun u => !Tryd.prog.wantsStandIn u) = true := by kernel_rfl
      exact (show Tryd.prog.wantsStandIn t = false by simpa using List.all_eq_true.1 hall t hm))
    (by kernel_rfl)
end Go.Proofs.YtdahomfmcijklaaDoor
