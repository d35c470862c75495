/- The law 'Run' in plain Lean. -/
import Derived.Test.YtoeoliomkjbcnaaM18
namespace Go.Proofs.Ytoeoliomkjbcnaa.E
open Go

theorem rput_no {s : Runs} {z : List Item} (h : (rput s z).2 = false) : rput s z = (if OkRuns s ∧ OkZ z then s else [], false) := by
  unfold rput at h ⊢
  by_cases hc : OkRuns s ∧ OkZ z
  · rw [if_pos hc] at h ⊢
    rw [if_pos hc]
    unfold rput0 at h ⊢
    split
    · rename_i h0; rw [if_pos h0] at h; cases h
    · rename_i h0
      rw [if_neg h0] at h
      split
      · rename_i h1; rw [if_pos h1] at h; cases h
      · rfl
  · rw [if_neg hc, if_neg hc]
theorem f16_true {code more : List Int} (hc : Code0 code) (hc' : Code0 more) : f16 code more = some true := by
  unfold f16
  by_cases hl : (1048576 : Int) < (code.length : Int)
  · rw [decide_eq_true hl]; rfl
  rw [decide_eq_false hl]
  by_cases hl' : (1048576 : Int) < (more.length : Int)
  · rw [decide_eq_true hl']; rfl
  rw [decide_eq_false hl']
  obtain ⟨s, z, e1, hs, hz⟩ := f45_ok hc
  obtain ⟨s2, r, e2, _, hr⟩ := f53_ok hc'
  have hm := hs.sm
  have hrm := rput_sm s z
  have hb : ∀ b : Bool, (b != b) = false := fun b => by cases b <;> rfl
  simp only [cond_false, e1, e2, Option.bind_some, f29_eq hm.lm hm.h20 hz.sh, f51_eq hm.lm.sh hz.sh, hb]
  rw [f20_eq hrm.lm.sh]
  simp only [Option.bind_some, decide_true, Bool.not_true, cond_false, f23_eq hm.lm hm.h20, f22_eq hm.lm.sh, hb, f46_eq hz.sh]
  by_cases h : OkRuns s
  · by_cases h1 : OkZ z
    · simp only [decide_eq_true h, decide_eq_true h1, Bool.not_true, cond_false]
      obtain ⟨p1, p2, p3⟩ := rput_val (z := z) h
      cases hq : (rput s z).2 with
      | false =>
        have := rput_no hq
        rw [if_pos ⟨h, h1⟩] at this
        simp only [Bool.not_false, cond_true]
        rw [this, f20_eq hm.lm.sh]
        simp
      | true =>
        have ho : OkZ (putAll (sumAll s) z) := by
          rw [hq] at p2
          have := of_decide_eq_true p2.symm
          exact this.2
        rw [if_pos h1, if_pos ho] at p3
        simp only [Bool.not_true, cond_false, f30_eq hm.lm hm.h20, rall_of h, Option.bind_some]
        rw [f36_eq h.sum.sh hz.sh, zadd_sum h h1, if_pos ho]
        simp only [Option.bind_some, cond_true, f23_eq hrm.lm hrm.h20, decide_eq_true p1, f30_eq hrm.lm hrm.h20, rall_of p1, p3]
        rw [f35_eq ho.sh]
        have b1 := wt_bd h.sum r
        have b2 := wt_bd h1 r
        simp only [Option.bind_some, decide_true, cond_true, f26_eq hrm.lm hrm.h20, if_pos p1, p3, f26_eq hm.lm hm.h20, if_pos h, f38_eq hz.sh, if_pos h1, f38_eq h.sum.sh, if_pos h.sum]
        rw [w64_eq (by omega) (by omega), wt_putAll]
        simp
    · have hq : rput s z = ([], false) := if_neg fun hc => h1 hc.2
      simp only [decide_eq_true h, decide_eq_false h1, Bool.not_true, Bool.not_false, cond_false, cond_true, hq]
      rfl
  · have hq : rput s z = ([], false) := if_neg fun hc => h hc.1
    simp only [decide_eq_false h, Bool.not_false, cond_true, hq]
    rfl
theorem law16 : ∀ x : InT X0.T sp16.ps, RngPs X0 sp16.ps x → ∃ y, sp16.f x = some y ∧ toL _ y = [⟨.bool, true⟩] := by
  intro x hx
  exact ⟨true, f16_true (rng_code hx.1) (rng_code hx.2.1), rfl⟩
end Go.Proofs.Ytoeoliomkjbcnaa.E
