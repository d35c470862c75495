/- The law 'RunOk' in plain Lean. -/
import Derived.Test.YtoeoliomkjbcnaaM14
namespace Go.Proofs.Ytoeoliomkjbcnaa.E
open Go

theorem rng_code {xs : List Int} (h : Rng X0 yT12 xs) : Code0 xs := by
  intro n hn
  have := h.2 n hn
  simp only [Rng, Lit.wf, Bool.and_eq_true, decide_eq_true_eq] at this
  have e1 : IntKind.u8.min = 0 := rfl
  have e2 : IntKind.u8.max = 255 := rfl
  rw [e1, e2] at this
  omega
theorem f28_ok {code : List Int} (hc : Code0 code) : ∃ s, f28 code = some s ∧ Sp s := by
  unfold f28
  obtain ⟨r, e, hr⟩ := f67_ok hc
  rw [e]
  simp only [Option.bind_some]
  obtain ⟨s, r', e2, h1, h2⟩ := f66_ok (r := (r.1, r.2)) hr (by omega)
  rw [e2]
  exact ⟨s, rfl, h1⟩

theorem pad6_loop {a b s : Runs} (hs : Sp s) :
    ∃ s', loopS (fun t => l6_8 t.1 t.2.1 t.2.2) (a, b, s) = some (a, b, s') ∧ Sp s' ∧ 5 < s'.length := by
  obtain ⟨o, e, ho⟩ := loop_down (step := fun t => l6_8 t.1 t.2.1 t.2.2)
    (fun k t => t.1 = a ∧ t.2.1 = b ∧ t.2.2.length = s.length + k ∧ ∀ z ∈ t.2.2, z.length ≤ 101 ∧ ∀ p ∈ z, p.1.length ≤ 6)
    (fun o => o.1 = a ∧ o.2.1 = b ∧ Sp o.2.2 ∧ 5 < o.2.2.length) (6 - s.length)
    (by
      rintro k ⟨v1, v2, v3⟩ hk ⟨q1, q2, q3, q4⟩
      simp only at q1 q2 q3 q4
      subst q1 q2
      have hd : decide ((v3.length : Int) ≤ 5) = true := by simp; omega
      have hl : decide (v3.length + ([[([(v3.length : Int)], (1 : Int))]] : Runs).length ≤ lim) = true := by simp; unfold lim; omega
      simp only [l6_8, hd, cond_true, hl]
      refine ⟨_, rfl, rfl, rfl, by simp; omega, fun z hz => ?_⟩
      rcases List.mem_append.1 hz with hz | hz
      · exact q4 z hz
      · rw [List.mem_singleton.1 hz]
        exact ⟨by simp, fun p hp => by rw [List.mem_singleton.1 hp]; simp⟩)
    (by
      rintro ⟨v1, v2, v3⟩ ⟨q1, q2, q3, q4⟩
      simp only at q1 q2 q3 q4
      subst q1 q2
      have hs7 := hs.1
      have hd : decide ((v3.length : Int) ≤ 5) = false := by simp; omega
      simp only [l6_8, hd, cond_false]
      exact ⟨_, rfl, rfl, rfl, ⟨by simp only; omega, q4⟩, by simp only; omega⟩)
    (a, b, s) ⟨rfl, rfl, by simp, hs.2⟩
  obtain ⟨o1, o2, o3⟩ := o
  obtain ⟨h1, h2, h3, h4⟩ := ho
  simp only at h1 h2 h3 h4
  subst h1 h2
  exact ⟨o3, e, h3, h4⟩

theorem f6_true {code : List Int} (hc : Code0 code) : f6 code = some true := by
  unfold f6
  by_cases hl : (1048576 : Int) < (code.length : Int)
  · rw [decide_eq_true hl]; rfl
  rw [decide_eq_false hl]
  obtain ⟨s, e, hs⟩ := f28_ok hc
  have hm := hs.sm
  have hsl := hs.1
  simp only [cond_false, e, Option.bind_some, f23_eq hm.lm hm.h20, f22_eq hm.lm.sh]
  have hb : (decide (OkRuns s) != decide (OkRuns s)) = false := by cases decide (OkRuns s) <;> rfl
  rw [hb]
  simp only [cond_false]
  by_cases h : OkRuns s
  · rw [decide_eq_true h]
    have l1 : decide (([] : Runs).length + s.length ≤ lim) = true := by simp; unfold lim; omega
    have l2 : decide ((([] : Runs) ++ s).length + (([] : List Item) :: ([] : Runs)).length ≤ lim) = true := by simp; unfold lim; omega
    simp only [Bool.not_true, cond_false, l1, l2, cond_true]
    have hs0 : Sp (([] : Runs) ++ s) := hs
    obtain ⟨s', e2, h2, h5⟩ := pad6_loop (a := s) (b := ([] ++ s) ++ [[]]) hs0
    rw [e2]
    have hsp1 : sm2 (([] ++ s) ++ [[]]) := ⟨by simp; unfold bigN; omega, fun z hz => by
      rcases List.mem_append.1 hz with hz | hz
      · exact hm.2 z hz
      · rw [List.mem_singleton.1 hz]; exact ⟨by simp, by simp⟩⟩
    have hn1 : ¬ OkRuns (([] ++ s) ++ [[]]) := fun hc => hc.ne [] (by simp) rfl
    have hm2 := h2.sm
    have hn2 : ¬ OkRuns s' := fun hc => by have := hc.1; omega
    simp only [Option.bind_some, f23_eq hsp1.lm hsp1.h20, decide_eq_false hn1, Bool.not_false, cond_true, f23_eq hm2.lm hm2.h20, decide_eq_false hn2, f30_eq hm.lm hm.h20, f31_eq (rall_ok s).sh, decide_eq_true (rall_ok s)]
    have h5' := h.1
    congr 1
    simp
    omega
  · rw [decide_eq_false h]
    have h29 : rput s [] = ([], false) := if_neg fun hc => h hc.1
    have hrall : rall s = [] := if_neg h
    simp only [Bool.not_false, cond_true]
    rw [f29_eq hm.lm hm.h20 OkZ.nil.sh, h29]
    simp only [Option.bind_some]
    rw [f30_eq hm.lm hm.h20, hrall]
    simp only [Option.bind_some]
    rw [f26_eq hm.lm hm.h20, if_neg h]
    rfl
theorem law6 : ∀ x : InT X0.T sp6.ps, RngPs X0 sp6.ps x → ∃ y, sp6.f x = some y ∧ toL _ y = [⟨.bool, true⟩] := by
  intro x hx
  exact ⟨true, f6_true (rng_code hx.1), rfl⟩
end Go.Proofs.Ytoeoliomkjbcnaa.E
