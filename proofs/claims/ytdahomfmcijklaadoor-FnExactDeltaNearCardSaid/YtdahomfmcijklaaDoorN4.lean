/- The law: DeltaNear returns what the reference returns. -/
import Derived.Test.YtdahomfmcijklaaDoorN3
namespace Go.Proofs.YtdahomfmcijklaaDoor.E
open Go

theorem fw_FnExactDeltaNear_true {z d : List Item} {ks : List Int} (hz : sh1 z) (hd : sh1 d) (hk : ks.length ≤ maxLen) : fw_FnExactDeltaNear z d ks = some true := by
  unfold fw_FnExactDeltaNear
  by_cases hl : (1048576 : Int) < ks.length
  · rw [decide_eq_true hl]; rfl
  rw [decide_eq_false hl]
  obtain ⟨r, e, hr⟩ := fw_szItemS_ok hz (by omega : (0 : Int) ≤ 1048576) (by omega)
  rw [e]
  simp only [Option.bind_some, cond_false]
  by_cases h : r < 0
  · rw [decide_eq_true h]; rfl
  rw [decide_eq_false h]
  rcases hr with hr | ⟨h0, h1, hla⟩
  · exact absurd hr h
  obtain ⟨r2, e2, hr2⟩ := fw_szItemS_ok hd h0 h1
  simp only [cond_false]
  rw [e2]
  simp only [Option.bind_some]
  by_cases h2 : r2 < 0
  · rw [decide_eq_true h2]; rfl
  rw [decide_eq_false h2]
  rcases hr2 with hr2 | ⟨_, _, hlb⟩
  · exact absurd hr2 h2
  have hkl : ks.length ≤ lim := by unfold lim; omega
  have hkb : ks.length ≤ bigN := by unfold bigN; omega
  have ho := dnear_ok z d ks
  have hc1 := hla.cnt
  have hc2 := hlb.cnt
  have hc3 := ho.sm.cnt
  simp only [cond_false, fw_toItemS_eq hla.lm, fw_toItemS_eq hlb.lm, fw_toIntS_eq hkl, Option.bind_some, fs_DeltaNear_eq hz hd hk, fi_DeltaNear_eq hz hd, fw_eqItemS_eq ho.sh, fw_eqItemS_eq hz, fw_eqItemS_eq hd, fw_eqIntS_eq hk, decide_true, Bool.not_true]
  rw [fw_markItemS_eq hla (by omega) (by omega)]
  simp only [Option.bind_some]
  rw [fw_markItemS_eq hlb (by omega) (by omega)]
  simp only [Option.bind_some]
  rw [fw_markIntS_eq hkb (by omega) (by omega)]
  simp only [Option.bind_some, dec_neg (show (0 : Int) ≤ 1 + (cntI z : Int) + (cntI d : Int) + (ks.length : Int) by omega), cond_false]
  rw [fw_markItemS_eq ho.sm (by omega) (by omega)]
  simp only [Option.bind_some]
  rw [fw_heldItemS_eq ho.sm (by omega) (by omega)]
  simp only [Option.bind_some, dec_neg (show (0 : Int) ≤ 1 + (cntI (dnear z d ks) : Int) by omega), cond_false, decide_true, Bool.not_true]
theorem laww_FnExactDeltaNear : ∀ x : InT X0.T spw_FnExactDeltaNear.ps, RngPs X0 spw_FnExactDeltaNear.ps x → ∃ y, spw_FnExactDeltaNear.f x = some y ∧ toL _ y = [⟨.bool, true⟩] := by
  intro x hx
  exact ⟨true, fw_FnExactDeltaNear_true (rng_sh1 hx.1) (rng_sh1 hx.2.1) hx.2.2.1.1, rfl⟩
end Go.Proofs.YtdahomfmcijklaaDoor.E
