/- The law 'RunMerge' (drawn) in plain Lean. -/
import Derived.Test.YtoeoliomkjbcnaaM17
namespace Go.Proofs.Ytoeoliomkjbcnaa.E
open Go

theorem mrun_stop : ∀ (n : Nat) (fuel : Int) {rs : Runs}, rs.length ≤ n → ¬ (1 < (mrun n fuel rs).2.length ∧ ¬ (mrun n fuel rs).1 < cost (mrun n fuel rs).2 ∧ OkRuns (mlast (mrun n fuel rs).2))
  | 0, fuel, rs, h => by
    simp only [mrun]
    omega
  | n + 1, fuel, rs, h => by
    simp only [mrun]
    split
    · rename_i hc
      exact mrun_stop n _ (by have := mlast_len (rs := rs) (by omega); omega)
    · rename_i hc; exact hc
theorem rmerge_again {rs : Runs} {fuel : Int} (h : OkRuns rs) (hf : 0 ≤ fuel) : rmerge (rmerge rs fuel).1 (rmerge rs fuel).2 = rmerge rs fuel := by
  obtain ⟨m1, m2, m3, m4, m5⟩ := rmerge_ok h hf
  have he : rmerge rs fuel = ((mrun 6 fuel rs).2, (mrun 6 fuel rs).1) := if_pos ⟨h, by omega⟩
  have hst := mrun_stop 6 fuel (rs := rs) (by have := h.1; omega)
  have he2 : rmerge (rmerge rs fuel).1 (rmerge rs fuel).2 = ((mrun 6 (rmerge rs fuel).2 (rmerge rs fuel).1).2, (mrun 6 (rmerge rs fuel).2 (rmerge rs fuel).1).1) := if_pos ⟨m1, by omega⟩
  rw [he2]
  rw [he] at *
  simp only at *
  have : mrun 6 (mrun 6 fuel rs).1 (mrun 6 fuel rs).2 = ((mrun 6 fuel rs).1, (mrun 6 fuel rs).2) := by
    show (if 1 < (mrun 6 fuel rs).2.length ∧ ¬ (mrun 6 fuel rs).1 < cost (mrun 6 fuel rs).2 ∧ OkRuns (mlast (mrun 6 fuel rs).2) then _ else _) = _
    rw [if_neg hst]
  rw [this]

theorem f47_ok {code : List Int} (hc : Code0 code) : ∃ s k, f47 code = some (s, k) ∧ Sp s ∧ -1 ≤ k ∧ k ≤ 1000 := by
  unfold f47
  obtain ⟨r, e, hr⟩ := f67_ok hc
  rw [e]
  simp only [Option.bind_some]
  obtain ⟨s, r1, e2, h1, h2⟩ := f66_ok (r := (r.1, r.2)) hr (by omega)
  rw [e2]
  simp only [Option.bind_some]
  obtain ⟨x, r2, e3, a1, a2⟩ := f104_ok (r := (r1.1, r1.2)) (l := [0, 3, 6, 10, 1000, -1]) h2 (by omega) (by simp) (by simp)
  rw [e3]
  exact ⟨s, x, rfl, h1, by simp at a1; omega, by simp at a1; omega⟩
theorem f50_ok {code : List Int} (hc : Code0 code) : ∃ a b, f50 code = some (a, b) ∧ Sp a ∧ Sp b := by
  unfold f50
  obtain ⟨r, e, hr⟩ := f67_ok hc
  rw [e]
  simp only [Option.bind_some]
  obtain ⟨s, r1, e2, h1, h2⟩ := f66_ok (r := (r.1, r.2)) hr (by omega)
  rw [e2]
  simp only [Option.bind_some]
  cases code with
  | nil => exact ⟨s, s, rfl, h1, h1⟩
  | cons c code =>
    have g1 : decide ((0 : Int) < ((c :: code).length : Int)) = true := by simp <;> omega
    have g2 : inR (0 : Int) (c :: code).length = true := inR_nat (k := 0) (by simp)
    rw [g1, g2]
    simp only [cond_true]
    cases hq : decide (Int.tmod (rdB (c :: code) (0 : Int)) (2 : Int) = (1 : Int)) with
    | false => exact ⟨s, s, rfl, h1, h1⟩
    | true =>
      simp only [cond_true]
      by_cases h0 : (0 : Int) < (s.length : Int)
      · have g3 : (decide ((0 : Int) ≤ (1 : Int)) && decide ((1 : Int) ≤ (s.length : Int))) = true := by simp; omega
        rw [decide_eq_true h0, g3]
        refine ⟨s, _, rfl, h1, by simp; have := h1.1; omega, fun z hz => h1.2 z (List.mem_of_mem_drop hz)⟩
      · rw [decide_eq_false h0]
        exact ⟨s, s, rfl, h1, h1⟩

theorem f11_true {code : List Int} (hc : Code0 code) : f11 code = some true := by
  unfold f11
  by_cases hl : (1048576 : Int) < (code.length : Int)
  · rw [decide_eq_true hl]; rfl
  rw [decide_eq_false hl]
  obtain ⟨s, k, e1, hs, hk, hk'⟩ := f47_ok hc
  obtain ⟨a, b, e2, ha, hb⟩ := f50_ok hc
  have hm := hs.sm
  have hrm := rmerge_sm s k
  have am := ha.sm
  have bm := hb.sm
  have hbb : ∀ b : Bool, (b != b) = false := fun b => by cases b <;> rfl
  simp only [cond_false, e1, e2, Option.bind_some, f48_eq hm.lm hm.h20 (show k ≤ 9223372036854775807 by omega), f49_eq hm.lm (show k ≤ 9223372036854775807 by omega), decide_true, Bool.not_true]
  rw [f20_eq hrm.lm.sh]
  simp only [Option.bind_some, decide_true, Bool.not_true, cond_false, f20_eq am.lm.sh, f18_eq am.lm.sh bm.lm.sh, hbb, f22_eq hm.lm.sh]
  by_cases h : OkRuns s
  · simp only [decide_eq_true h, Bool.not_true, cond_false]
    by_cases h0 : k < 0
    · have hq : rmerge s k = ([], 0) := if_neg fun hc => hc.2 h0
      rw [decide_eq_true h0, hq]
      rfl
    · rw [decide_eq_false h0]
      obtain ⟨m1, m2, m3, m4, m5⟩ := rmerge_ok h (show 0 ≤ k by omega)
      have hag := rmerge_again h (show 0 ≤ k by omega)
      simp only [cond_false]
      rw [f48_eq hrm.lm hrm.h20 (by omega), hag]
      simp only [Option.bind_some, f23_eq hrm.lm hrm.h20, decide_eq_true m1, cond_true, f30_eq hrm.lm hrm.h20, f30_eq hm.lm hm.h20, rall_of m1, rall_of h, m2]
      rw [f35_eq h.sum.sh]
      have g1 : decide (((rmerge s k).1.length : Int) ≤ (s.length : Int)) = true := by simp; exact m3
      simp only [Option.bind_some, decide_true, cond_true, g1, decide_eq_true m5, decide_eq_true m4]
      rw [f20_eq hrm.lm.sh]
      simp
  · have hq : rmerge s k = ([], 0) := if_neg fun hc => h hc.1
    simp only [decide_eq_false h, Bool.not_false, cond_true, hq]
    rfl
theorem law11 : ∀ x : InT X0.T sp11.ps, RngPs X0 sp11.ps x → ∃ y, sp11.f x = some y ∧ toL _ y = [⟨.bool, true⟩] := by
  intro x hx
  exact ⟨true, f11_true (rng_code hx.1), rfl⟩
end Go.Proofs.Ytoeoliomkjbcnaa.E
