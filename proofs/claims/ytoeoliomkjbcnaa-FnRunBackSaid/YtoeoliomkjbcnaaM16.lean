/- The law 'RunGet' (drawn) in plain Lean. -/
import Derived.Test.YtoeoliomkjbcnaaM15
namespace Go.Proofs.Ytoeoliomkjbcnaa.E
open Go

theorem f53_ok {code : List Int} (hc : Code0 code) : ∃ s r, f53 code = some (s, r) ∧ Sp s ∧ r.length ≤ 2 := by
  unfold f53
  obtain ⟨r, e, hr⟩ := f67_ok hc
  rw [e]
  simp only [Option.bind_some]
  obtain ⟨s, r1, e2, h1, h2⟩ := f66_ok (r := (r.1, r.2)) hr (by omega)
  rw [e2]
  simp only [Option.bind_some]
  obtain ⟨k, r2, e3, a1, a2, a3, a4⟩ := f97_ok (r := (r1.1, r1.2)) (n := 2) h2 (by omega) (by omega)
  rw [e3]
  simp only [Option.bind_some]
  obtain ⟨w, rfl⟩ := Int.eq_ofNat_of_zero_le a1
  have hk := a2 (by omega)
  have hw : w64 (1 + (w : Int)) = ((w + 1 : Nat) : Int) := by rw [w64_eq (by omega) (by omega)]; omega
  rw [hw]
  obtain ⟨x, r3, e4, b1, b2, b3⟩ := f109_ok (r := (r2.1, r2.2)) (w := w + 1) a4 (by omega) (by omega)
  rw [e4]
  exact ⟨s, x, rfl, h1, by omega⟩

theorem mrun_ok : ∀ (n : Nat) (fuel : Int) {rs : Runs}, OkRuns rs → OkRuns (mrun n fuel rs).2 ∧ sumAll (mrun n fuel rs).2 = sumAll rs ∧ (mrun n fuel rs).2.length ≤ rs.length ∧ (mrun n fuel rs).1 ≤ fuel ∧ (0 ≤ fuel → 0 ≤ (mrun n fuel rs).1)
  | 0, _, _, h => ⟨h, rfl, Nat.le_refl _, Int.le_refl _, id⟩
  | n + 1, fuel, rs, h => by
    simp only [mrun]
    split
    · rename_i hc
      obtain ⟨q1, q2, q3, q4, q5⟩ := mrun_ok n (fuel - cost rs) hc.2.2
      have hcb := cost_bd h.inv hc.1
      have hml := mlast_len (rs := rs) (by omega)
      exact ⟨q1, q2.trans (mlast_sum (by omega)), by omega, by omega, fun _ => q5 (by omega)⟩
    · exact ⟨h, rfl, Nat.le_refl _, Int.le_refl _, id⟩
theorem rmerge_ok {rs : Runs} {fuel : Int} (h : OkRuns rs) (hf : 0 ≤ fuel) : OkRuns (rmerge rs fuel).1 ∧ sumAll (rmerge rs fuel).1 = sumAll rs ∧ (rmerge rs fuel).1.length ≤ rs.length ∧ (rmerge rs fuel).2 ≤ fuel ∧ 0 ≤ (rmerge rs fuel).2 := by
  have he : rmerge rs fuel = ((mrun 6 fuel rs).2, (mrun 6 fuel rs).1) := if_pos ⟨h, by omega⟩
  rw [he]
  obtain ⟨q1, q2, q3, q4, q5⟩ := mrun_ok 6 fuel h
  exact ⟨q1, q2, q3, q4, q5 hf⟩

theorem f13_true {code : List Int} (hc : Code0 code) : f13 code = some true := by
  unfold f13
  by_cases hl : (1048576 : Int) < (code.length : Int)
  · rw [decide_eq_true hl]; rfl
  rw [decide_eq_false hl]
  obtain ⟨s, r, e, hs, hr⟩ := f53_ok hc
  have hm := hs.sm
  have hsl := hs.1
  have hrm : r.length ≤ maxLen := by unfold maxLen; omega
  simp only [cond_false, e, Option.bind_some, f26_eq hm.lm hm.h20, f24_eq hm.lm.sh hrm, decide_true, Bool.not_true, f30_eq hm.lm hm.h20, f39_eq hm.lm.sh]
  rw [f35_eq (rall_ok s).sh]
  simp only [Option.bind_some, decide_true, Bool.not_true, cond_false, f22_eq hm.lm.sh]
  by_cases h : OkRuns s
  · rw [decide_eq_true h, if_pos h]
    simp only [Bool.not_true, cond_false]
    rw [loop_up' (step := fun t => l13_8 t.1 t.2.1 t.2.2.1 t.2.2.2.1 t.2.2.2.2) (t0 := (wt (sumAll s) r, (0 : Int), (0 : Int), r, s)) (fun k => (wt (sumAll s) r, wsum s r k, (k : Int), r, s))
      (o := (wt (sumAll s) r, wsum s r s.length, r, s)) s.length rfl ?_ ?_]
    · have hw : wsum s r s.length = wt (sumAll s) r := by
        rw [wt_sumAll]; unfold wsum; rw [List.take_length]
      obtain ⟨m1, m2, m3, m4, m5⟩ := rmerge_ok (fuel := 100000) h (by omega)
      have hi := rmerge_sm s 100000
      simp only [Option.bind_some]
      rw [f48_eq hm.lm hm.h20 (by omega)]
      simp only [Option.bind_some, hw, decide_true, cond_true, f26_eq hi.lm hi.h20, if_pos m1, m2, decide_eq_true m4]
      congr 1
      simp
      exact m3
    · intro k hk
      have ho := h.each _ (rdRun_mem hk)
      have hb := wsum_bd h.each r (k + 1) hk
      rw [wsum_succ hk] at hb
      have e38 : f38 (s.getD (Int.toNat (k : Int)) zeroRun) r = some (wt (rdRun s (k : Int)) r) := by
        have := f38_eq (z := rdRun s (k : Int)) (r := r) ho.sh
        rw [if_pos ho] at this
        exact this
      have h5 := h.1
      simp only [l13_8, dec_lt hk, inR_nat hk, cond_true, e38, Option.bind_some, w64_succ hk (show s.length ≤ maxLen by unfold maxLen; omega)]
      rw [w64_eq (by omega) (by omega), wsum_succ hk]
    · simp only [l13_8, dec_ge, cond_false]
  · rw [decide_eq_false h, if_neg h]; rfl
theorem law13 : ∀ x : InT X0.T sp13.ps, RngPs X0 sp13.ps x → ∃ y, sp13.f x = some y ∧ toL _ y = [⟨.bool, true⟩] := by
  intro x hx
  exact ⟨true, f13_true (rng_code hx.1), rfl⟩
end Go.Proofs.Ytoeoliomkjbcnaa.E
