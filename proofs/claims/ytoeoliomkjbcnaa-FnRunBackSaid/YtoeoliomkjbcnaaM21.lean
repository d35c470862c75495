/- The law 'RunBack' in plain Lean. -/
import Derived.Test.YtoeoliomkjbcnaaM17
namespace Go.Proofs.Ytoeoliomkjbcnaa.E
open Go

theorem negL_ok {z : List Item} (h : OkZ z) : OkZ (negL z) := by
  refine ⟨by simpa [negL] using h.1, fun p hp => ?_, (negL_srt h.srt).1⟩
  obtain ⟨q, hq, rfl⟩ := List.mem_map.1 hp
  obtain ⟨h1, h2⟩ := h.2.1 q hq
  refine ⟨h1, ?_⟩
  unfold OkW at h2 ⊢
  simp only
  omega
theorem f52_eq {z : List Item} (h : OkZ z) : f52 z = some (negL z) := by
  unfold f52
  rw [f31_eq h.sh, decide_eq_true h]
  simp only [Option.bind_some, Bool.not_true, cond_false]
  rw [f108_eq h.wl (by unfold lim; omega) (by omega)]
  simp only [Option.bind_some]
  rw [f74_eq (negL_ok h).lm]
  rfl
theorem rput_yes {s : Runs} {z : List Item} (h : (rput s z).2 = true) : OkRuns s ∧ OkZ z ∧ OkRuns (rput s z).1 ∧ sumAll (rput s z).1 = putAll (sumAll s) z ∧ OkZ (putAll (sumAll s) z) := by
  have hs : OkRuns s ∧ OkZ z := by
    refine Classical.byContradiction fun hc => ?_
    have : rput s z = ([], false) := if_neg hc
    rw [this] at h
    cases h
  obtain ⟨p1, p2, p3⟩ := rput_val (z := z) hs.1
  rw [h] at p2
  have ho := (of_decide_eq_true p2.symm).2
  rw [if_pos hs.2, if_pos ho] at p3
  exact ⟨hs.1, hs.2, p1, p3, ho⟩
theorem f12_true {code more : List Int} (hc : Code0 code) (hc' : Code0 more) : f12 code more = some true := by
  unfold f12
  by_cases hl : (1048576 : Int) < (code.length : Int)
  · rw [decide_eq_true hl]; rfl
  rw [decide_eq_false hl]
  by_cases hl' : (1048576 : Int) < (more.length : Int)
  · rw [decide_eq_true hl']; rfl
  rw [decide_eq_false hl']
  obtain ⟨s, z, e1, hs, hz⟩ := f45_ok hc
  obtain ⟨s2, y, e2, _, hy⟩ := f45_ok hc'
  have hm := hs.sm
  have hrm := rput_sm s z
  have hb : ∀ b : Bool, (b != b) = false := fun b => by cases b <;> rfl
  have hb' : ∀ b : Bool, (b == b) = true := fun b => by cases b <;> rfl
  simp only [cond_false, e1, e2, Option.bind_some, f29_eq hm.lm hm.h20 hz.sh, f51_eq hm.lm.sh hz.sh, hb, hb', cond_true]
  rw [f20_eq hrm.lm.sh]
  simp only [Option.bind_some, decide_true, Bool.not_true, cond_false]
  cases hq : (rput s z).2 with
  | false => rfl
  | true =>
    obtain ⟨h, h1, p1, p3, ho⟩ := rput_yes hq
    simp only [Bool.not_true, cond_false]
    rw [f52_eq h1]
    simp only [Option.bind_some]
    have hbk := rput_val (z := negL z) p1
    have hsum : putAll (sumAll (rput s z).1) (negL z) = sumAll s := by
      rw [p3]
      refine srt_ext (putAll_srt _ (putAll_srt _ h.sum.srt)) h.sum.srt fun r => ?_
      rw [wt_putAll, wt_putAll, wt_negL]
      omega
    rw [hsum] at hbk
    obtain ⟨b1, b2, b3⟩ := hbk
    have bm := rput_sm (rput s z).1 (negL z)
    rw [f29_eq hrm.lm hrm.h20 (negL_ok h1).sh]
    have b2' : (rput (rput s z).1 (negL z)).2 = true := by rw [b2]; simp [negL_ok h1, h.sum]
    rw [if_pos (negL_ok h1), if_pos h.sum] at b3
    simp only [Option.bind_some, b2', Bool.not_true, cond_false, f30_eq bm.lm bm.h20, rall_of b1, b3, f30_eq hm.lm hm.h20, rall_of h]
    rw [f35_eq h.sum.sh]
    simp only [Option.bind_some, decide_true, Bool.not_true, cond_false]
    have pm := rput_sm (rput s z).1 y
    have qm := rput_sm s y
    have rm := rput_sm (rput s y).1 z
    rw [f29_eq hrm.lm hrm.h20 hy.sh, f29_eq hm.lm hm.h20 hy.sh]
    simp only [Option.bind_some]
    rw [f29_eq qm.lm qm.h20 hz.sh]
    simp only [Option.bind_some]
    cases g1 : (rput (rput s z).1 y).2 with
    | false => rfl
    | true =>
      cases g2 : (rput s y).2 with
      | false => rfl
      | true =>
        cases g3 : (rput (rput s y).1 z).2 with
        | false => rfl
        | true =>
          obtain ⟨_, _, c1, c3, co⟩ := rput_yes g1
          obtain ⟨_, _, d1, d3, dO⟩ := rput_yes g2
          obtain ⟨_, _, k1, k3, ko⟩ := rput_yes g3
          simp only [Bool.not_true, cond_false, f30_eq pm.lm pm.h20, rall_of c1, c3, f30_eq rm.lm rm.h20, rall_of k1, k3, Option.bind_some]
          rw [f35_eq co.sh]
          have : putAll (sumAll (rput s z).1) y = putAll (sumAll (rput s y).1) z := by
            rw [p3, d3]
            refine srt_ext (putAll_srt _ (putAll_srt _ h.sum.srt)) (putAll_srt _ (putAll_srt _ h.sum.srt)) fun r => ?_
            rw [wt_putAll, wt_putAll, wt_putAll, wt_putAll]
            omega
          rw [this]
          simp
theorem law12 : ∀ x : InT X0.T sp12.ps, RngPs X0 sp12.ps x → ∃ y, sp12.f x = some y ∧ toL _ y = [⟨.bool, true⟩] := by
  intro x hx
  exact ⟨true, f12_true (rng_code hx.1) (rng_code hx.2.1), rfl⟩
end Go.Proofs.Ytoeoliomkjbcnaa.E
