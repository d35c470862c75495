/- Laws of cells and tests. -/
import Derived.Test.YtkhmejkpfphkpaaDoorN1
namespace Go.Proofs.YtkhmejkpfphkpaaDoor.E
open Go

theorem fw_FnExactCellOf_true (c : CellT) {r : Row} (hr : r.length ≤ maxLen) : fw_FnExactCellOf c r = some true := by
  unfold fw_FnExactCellOf
  by_cases hl : (1048576 : Int) < r.length
  · rw [decide_eq_true hl]; rfl
  rw [decide_eq_false hl]
  have hm : r.length ≤ lim := by unfold lim; omega
  have e1 := fs_CellOf_eq c r hr
  have e2 := fi_CellOf_eq c r hr
  obtain ⟨k, a, b, m⟩ := c
  simp only [cond_false, fw_toIntS_eq hm, Option.bind_some, e1, e2, decide_true, Bool.not_true, bne_self_eq_false, fw_eqIntS_eq hr]
theorem laww_FnExactCellOf : ∀ x : InT X0.T spw_FnExactCellOf.ps, RngPs X0 spw_FnExactCellOf.ps x → ∃ y, spw_FnExactCellOf.f x = some y ∧ toL _ y = [⟨.bool, true⟩] := by
  intro x hx
  exact ⟨true, fw_FnExactCellOf_true x.1 hx.2.1.1, rfl⟩
theorem fw_FnExactTestOf_true (t : TestT) {r : Row} (hr : r.length ≤ maxLen) : fw_FnExactTestOf t r = some true := by
  unfold fw_FnExactTestOf
  by_cases hl : (1048576 : Int) < r.length
  · rw [decide_eq_true hl]; rfl
  rw [decide_eq_false hl]
  have hm : r.length ≤ lim := by unfold lim; omega
  have e1 := fs_TestOf_eq t r hr
  have e2 := fi_TestOf_eq t r hr
  obtain ⟨k, v, ⟨k1, a1, b1, m1⟩, ⟨k2, a2, b2, m2⟩⟩ := t
  simp only [cond_false, fw_toIntS_eq hm, Option.bind_some, e1, e2, decide_true, Bool.not_true, bne_self_eq_false, fw_eqIntS_eq hr]
theorem laww_FnExactTestOf : ∀ x : InT X0.T spw_FnExactTestOf.ps, RngPs X0 spw_FnExactTestOf.ps x → ∃ y, spw_FnExactTestOf.f x = some y ∧ toL _ y = [⟨.bool, true⟩] := by
  intro x hx
  exact ⟨true, fw_FnExactTestOf_true x.1 hx.2.1.1, rfl⟩
end Go.Proofs.YtkhmejkpfphkpaaDoor.E
