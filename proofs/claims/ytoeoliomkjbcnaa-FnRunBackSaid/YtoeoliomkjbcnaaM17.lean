/- Putting into runs, by its sum; the law 'RunOne' in plain Lean. -/
import Derived.Test.YtoeoliomkjbcnaaM16
namespace Go.Proofs.Ytoeoliomkjbcnaa.E
open Go

theorem sumAll_snoc (s : Runs) (z : List Item) : sumAll (s ++ [z]) = putAll (sumAll s) z := by
  unfold sumAll
  rw [List.foldl_append]
  rfl
theorem shr_each {x : Runs} (hi : Inv x) (h6 : x.length ≤ 6) (hs : OkZ (sumAll x)) : OkEach (shr 6 x) := by
  intro z hz
  have he := shr_end 6 h6
  by_cases h1 : 1 < (shr 6 x).length
  · have : OkRuns (shr 6 x) := Classical.byContradiction fun hc => he (.inr ⟨h1, hc⟩)
    exact this.each z hz
  · have hsum := shr_sum 6 (rs := x)
    have hinv := shr_inv 6 hi
    match hq : shr 6 x with
    | [] => rw [hq] at hz; cases hz
    | [y] =>
      rw [hq] at hz hsum hinv
      rw [List.mem_singleton.1 hz]
      have hy : sumAll [y] = y := putAll_nil (hinv.wl (by simp)).1
      rw [← hy, hsum]
      exact hs
    | a :: b :: l => rw [hq] at h1; simp at h1
theorem rput_val {s : Runs} {z : List Item} (hs : OkRuns s) : OkRuns (rput s z).1 ∧ (rput s z).2 = decide (OkZ z ∧ OkZ (putAll (sumAll s) z)) ∧
    sumAll (rput s z).1 = if OkZ z then (if OkZ (putAll (sumAll s) z) then putAll (sumAll s) z else sumAll s) else [] := by
  unfold rput
  by_cases hz : OkZ z
  · rw [if_pos ⟨hs, hz⟩]
    refine ⟨rput0_ok hs hz, ?_⟩
    obtain ⟨h1, h2, h3⟩ := snoc_ok hs hz
    unfold rput0
    by_cases h0 : z = []
    · subst h0
      have hp : putAll (sumAll s) [] = sumAll s := rfl
      rw [if_pos rfl, hp]
      simp [OkZ.nil, hs.sum]
    · rw [if_neg h0, sumAll_snoc]
      by_cases ho : OkZ (putAll (sumAll s) z)
      · have he := shr_each h3 h2 (by rw [sumAll_snoc]; exact ho)
        rw [if_pos ⟨ho, he⟩]
        refine ⟨by simp [hz, ho], ?_⟩
        rw [if_pos hz, if_pos ho]
        show sumAll (shr 6 (s ++ [z])) = _
        rw [shr_sum, sumAll_snoc]
      · rw [if_neg fun h => ho h.1]
        refine ⟨by simp [ho], ?_⟩
        rw [if_pos hz, if_neg ho]
  · rw [if_neg fun h => hz h.2]
    refine ⟨OkRuns.nil, by simp [hz], ?_⟩
    rw [if_neg hz]
    rfl
theorem rall_of {s : Runs} (h : OkRuns s) : rall s = sumAll s := if_pos h

theorem f44_ok {code : List Int} (hc : Code0 code) : ∃ s, f44 code = some s ∧ Sp s := by
  unfold f44
  obtain ⟨r, e, hr⟩ := f67_ok hc
  rw [e]
  simp only [Option.bind_some]
  obtain ⟨s, r', e2, h1, h2⟩ := f66_ok (r := (r.1, r.2)) hr (by omega)
  rw [e2]
  exact ⟨s, rfl, h1⟩

theorem f99_eq {z : List Item} (hz : OkZ z) : f99 z = some (negL z) := by
  unfold f99
  rw [loop_up' (step := fun t => l99_0 t.1 t.2.1 t.2.2) (t0 := (z, (0 : Int), ([] : List Item))) (fun k => (z, (k : Int), negL (z.take k))) (o := negL z) z.length rfl ?_ ?_]
  · rfl
  · intro k hk
    have h100 := hz.1
    have hit := hz.2.1 _ (getD_mem (d := ([], 0)) hk)
    have hw := hit.2
    have hr : (rdItem z (k : Int)).1.length ≤ lim := by have := hit.1.2.1; unfold lim; show (z.getD k ([], 0)).1.length ≤ _; omega
    have hwb : -10000 ≤ (rdItem z (k : Int)).2 ∧ (rdItem z (k : Int)).2 ≤ 10000 := ⟨hw.2.1, hw.2.2⟩
    have hl : decide ((negL (z.take k)).length + ([((rdItem z (k : Int)).1, w64 (0 - (rdItem z (k : Int)).2))] : List Item).length ≤ lim) = true := by
      unfold negL lim; simp; omega
    simp only [l99_0, dec_lt hk, inR_nat hk, cond_true, f46_eq hz.sh, decide_eq_true hz, Option.bind_some, f122_eq hr, hl, w64_succ hk hz.sh.1]
    rw [w64_eq (by omega) (by omega), negL_take hk, Int.zero_sub]
  · simp only [l99_0, dec_ge, cond_false, List.take_length]

theorem f45_ok {code : List Int} (hc : Code0 code) : ∃ s z, f45 code = some (s, z) ∧ Sp s ∧ lm1 z := by
  unfold f45
  obtain ⟨r, e, hr⟩ := f67_ok hc
  rw [e]
  simp only [Option.bind_some]
  obtain ⟨s, r1, e2, h1, h2⟩ := f66_ok (r := (r.1, r.2)) hr (by omega)
  rw [e2]
  simp only [Option.bind_some]
  obtain ⟨k, r2, e3, a1, a2, a3, a4⟩ := f97_ok (r := (r1.1, r1.2)) (n := 10) h2 (by omega) (by omega)
  rw [e3]
  simp only [Option.bind_some]
  have draw : ∀ r : List Int × Int, Rg 1000 r → ∃ z, ((f97 (r.1, r.2) (2 : Int)).bind fun p => match p with
          | (y12, y13) =>
          ((f100 (y13.1, y13.2) (w64 ((1 : Int) + y12)) (4 : Int))).bind fun p => match p with
           | (y14, y15) =>
           some (s, y14)) = some (s, z) ∧ lm1 z := by
    intro r hr
    obtain ⟨k, r', e, a1, a2, a3, a4⟩ := f97_ok (r := (r.1, r.2)) (n := 2) hr (by omega) (by omega)
    rw [e]
    simp only [Option.bind_some]
    obtain ⟨w, rfl⟩ := Int.eq_ofNat_of_zero_le a1
    have hk := a2 (by omega)
    have hw : w64 (1 + (w : Int)) = ((w + 1 : Nat) : Int) := by rw [w64_eq (by omega) (by omega)]; omega
    rw [hw]
    obtain ⟨z, r'', e', b1, _⟩ := f100_ok (r := (r'.1, r'.2)) (w := w + 1) (m := 4) a4 (by omega) (by omega) (by omega)
    have e'' : f100 (r'.1, r'.2) ((w + 1 : Nat) : Int) (4 : Int) = some (z, r'') := e'
    rw [e'']
    exact ⟨z, rfl, b1.lm (by unfold lim; omega)⟩
  by_cases g0 : k = 0
  · rw [decide_eq_true g0]
    simp only [cond_true]
    obtain ⟨z, r3, e4, b1, b2⟩ := f98_ok (r := (r2.1, r2.2)) a4 (by omega)
    rw [e4]
    exact ⟨s, z, rfl, h1, b1.lm (by unfold lim; omega)⟩
  · rw [decide_eq_false g0]
    simp only [cond_false]
    obtain ⟨k2, r3, e4, b1, b2, b3, b4⟩ := f97_ok (r := (r2.1, r2.2)) (n := 4) a4 (by omega) (by omega)
    rw [e4]
    simp only [Option.bind_some]
    obtain ⟨z, e5, h5⟩ := draw r3 (b4.mono (by omega))
    by_cases g1 : k2 = 0
    · rw [decide_eq_true g1]
      simp only [cond_true, f22_eq h1.sm.lm.sh, Option.bind_some]
      by_cases ho : OkRuns s
      · rw [decide_eq_true ho]
        simp only [cond_true, f62_eq ho.each (by have := ho.1; omega), Option.bind_some, f99_eq ho.sum]
        refine ⟨s, _, rfl, h1, ?_⟩
        have := ho.sum
        refine ⟨by unfold negL; have := this.1; rw [List.length_map]; unfold lim; omega, fun p hp => ?_⟩
        obtain ⟨q, hq, rfl⟩ := List.mem_map.1 hp
        have := (this.2.1 q hq).1.2.1
        unfold lim
        show q.1.length ≤ _
        omega
      · rw [decide_eq_false ho]
        simp only [cond_false]
        rw [e5]
        exact ⟨s, z, rfl, h1, h5⟩
    · rw [decide_eq_false g1]
      simp only [cond_false]
      rw [e5]
      exact ⟨s, z, rfl, h1, h5⟩

theorem f9_true {code : List Int} (hc : Code0 code) : f9 code = some true := by
  unfold f9
  by_cases hl : (1048576 : Int) < (code.length : Int)
  · rw [decide_eq_true hl]; rfl
  rw [decide_eq_false hl]
  obtain ⟨s, e, hs⟩ := f44_ok hc
  obtain ⟨s1, z, e1, _, hz⟩ := f45_ok hc
  have hm := hs.sm
  simp only [cond_false, e, e1, Option.bind_some, f30_eq hm.lm hm.h20, f39_eq hm.lm.sh, f35_eq (rall_ok s).sh, decide_true, Bool.not_true, f22_eq hm.lm.sh]
  by_cases h : OkRuns s
  · rw [decide_eq_true h]
    have hra := rall_of h
    simp only [Bool.not_true, cond_false]
    -- both answer alike
    have key : ∀ o : Runs, OkRuns o → sumAll o = sumAll s → ((f29 s z).bind fun p => match p with
            | (y11, y12) =>
            ((f29 o z)).bind fun p => match p with
             | (y13, y14) =>
             ((f23 o)).bind fun y15 =>
              bif y15 then
               bif (y12 == y14) then
                ((f30 y11)).bind fun y16 =>
                 ((f30 y13)).bind fun y17 =>
                  ((f35 y16 y17)).bind fun y18 =>
                   some y18
               else
                some false
              else
               some false) = some true := by
      intro o ho hso
      have hom := ho.sp.sm
      have m1 := rput_sm s z
      have m2 := rput_sm o z
      obtain ⟨p1, p2, p3⟩ := rput_val (z := z) h
      obtain ⟨q1, q2, q3⟩ := rput_val (z := z) ho
      have heq : ((rput s z).2 == (rput o z).2) = true := by rw [p2, q2, hso]; simp
      have hr : rall (rput s z).1 = rall (rput o z).1 := by rw [rall_of p1, rall_of q1, p3, q3, hso]
      rw [f29_eq hm.lm hm.h20 hz.sh, f29_eq hom.lm hom.h20 hz.sh]
      simp only [Option.bind_some, f23_eq hom.lm hom.h20, decide_eq_true ho, cond_true, heq, f30_eq m1.lm m1.h20, f30_eq m2.lm m2.h20, f35_eq (rall_ok _).sh, hr, decide_true]
    by_cases h0 : rall s = []
    · have hd : decide ((0 : Int) < ((rall s).length : Int)) = false := by rw [h0]; rfl
      rw [hd]
      simp only [cond_false]
      exact key [] OkRuns.nil (by rw [← hra, h0]; rfl)
    · have hd : decide ((0 : Int) < ((rall s).length : Int)) = true := by rw [pos_len, decide_eq_false h0]; rfl
      rw [hd]
      simp only [cond_true]
      have h1 : sumAll [rall s] = sumAll s := by
        have : sumAll [rall s] = rall s := putAll_nil (rall_ok s).srt
        rw [this, hra]
      refine key [rall s] (okRuns_of (fun y hy => by rw [List.mem_singleton.1 hy]; exact rall_ok s) (fun y hy => by rw [List.mem_singleton.1 hy]; exact h0) (by simp)) h1
  · rw [decide_eq_false h]; rfl
theorem law9 : ∀ x : InT X0.T sp9.ps, RngPs X0 sp9.ps x → ∃ y, sp9.f x = some y ∧ toL _ y = [⟨.bool, true⟩] := by
  intro x hx
  exact ⟨true, f9_true (rng_code hx.1), rfl⟩
end Go.Proofs.Ytoeoliomkjbcnaa.E
