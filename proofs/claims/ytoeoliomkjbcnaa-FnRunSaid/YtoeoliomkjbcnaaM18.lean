/- The law 'RunMost' in plain Lean. -/
import Derived.Test.YtoeoliomkjbcnaaM17
namespace Go.Proofs.Ytoeoliomkjbcnaa.E
open Go

theorem zadd_sum {s : Runs} {z : List Item} (hs : OkRuns s) (hz : OkZ z) : zadd (sumAll s) z = if OkZ (putAll (sumAll s) z) then (putAll (sumAll s) z, true) else ([], false) := if_pos ⟨hs.sum, hz⟩

theorem l10_at {z y : List Item} {s : Runs} {k : Nat} (hs : OkRuns s) (hz : OkZ z) (hk : k < 9) :
    ∃ s', l10_14 (sumAll s) (k : Int) z y s = some (.inl (sumAll s', ((k + 1 : Nat) : Int), y, z, s')) ∧ OkRuns s' := by
  have hm := hs.sp.sm
  have hrm := rput_sm s z
  obtain ⟨p1, p2, p3⟩ := rput_val (z := z) hs
  have hd : decide ((k : Int) < 9) = true := by simp; omega
  have hw : w64 ((k : Int) + 1) = ((k + 1 : Nat) : Int) := by rw [w64_eq (by omega) (by omega)]; omega
  simp only [l10_14, hd, cond_true, f29_eq hm.lm hm.h20 hz.sh, Option.bind_some]
  rw [f36_eq hs.sum.sh hz.sh, zadd_sum hs hz]
  by_cases ho : OkZ (putAll (sumAll s) z)
  · rw [if_pos hz, if_pos ho] at p3
    have p2' : (rput s z).2 = true := by rw [p2]; simp [hz, ho]
    have h5 : decide ((5 : Int) < ((rput s z).1.length : Int)) = false := by have := p1.1; simp; omega
    have he : (true != true) = false := rfl
    rw [if_pos ho]
    simp only [Option.bind_some, p2', he, cond_false, cond_true, h5, f23_eq hrm.lm hrm.h20, decide_eq_true p1, Bool.not_true, f30_eq hrm.lm hrm.h20, rall_of p1, p3]
    rw [f35_eq ho.sh]
    simp only [Option.bind_some, decide_true, Bool.not_true, cond_false, hw]
    exact ⟨(rput s z).1, by rw [p3], p1⟩
  · have p2' : (rput s z).2 = false := by rw [p2]; simp [ho]
    have h5 : decide ((5 : Int) < (s.length : Int)) = false := by have := hs.1; simp; omega
    have he : (false != false) = false := rfl
    rw [if_neg ho]
    simp only [Option.bind_some, p2', he, cond_false, h5, f23_eq hm.lm hm.h20, decide_eq_true hs, Bool.not_true, f30_eq hm.lm hm.h20, rall_of hs]
    rw [f35_eq hs.sum.sh]
    simp only [Option.bind_some, decide_true, Bool.not_true, cond_false, hw]
    exact ⟨s, rfl, hs⟩
theorem f10_true {code more : List Int} (hc : Code0 code) (hc' : Code0 more) : f10 code more = some true := by
  unfold f10
  by_cases hl : (1048576 : Int) < (code.length : Int)
  · rw [decide_eq_true hl]; rfl
  rw [decide_eq_false hl]
  by_cases hl' : (1048576 : Int) < (more.length : Int)
  · rw [decide_eq_true hl']; rfl
  rw [decide_eq_false hl']
  obtain ⟨s1, z, e1, _, hz⟩ := f45_ok hc
  obtain ⟨s2, y, e2, _, hy⟩ := f45_ok hc'
  have hb : ∀ b : Bool, (b != b) = false := fun b => by cases b <;> rfl
  simp only [cond_false, e1, e2, Option.bind_some, f31_eq hz.sh, f46_eq hz.sh, f46_eq hy.sh, hb]
  by_cases h1 : OkZ z
  · by_cases h2 : OkZ y
    · simp only [decide_eq_true h1, decide_eq_true h2, Bool.not_true, cond_false]
      obtain ⟨o, e, ho⟩ := loop_down (step := fun t => l10_14 t.1 t.2.1 t.2.2.1 t.2.2.2.1 t.2.2.2.2)
        (fun k t => ∃ (a b : List Item) (s : Runs), t = (sumAll s, (k : Int), a, b, s) ∧ OkRuns s ∧ OkZ a ∧ OkZ b)
        (fun o => o = .inl ()) 9
        (by
          rintro k t hk ⟨a, b, s, rfl, q1, q2, q3⟩
          obtain ⟨s', e, h⟩ := l10_at (y := b) q1 q2 hk
          exact ⟨_, e, b, a, s', rfl, h, q3, q2⟩)
        (by
          rintro t ⟨a, b, s, rfl, q1, q2, q3⟩
          exact ⟨_, rfl, rfl⟩)
        (([] : List Item), (0 : Int), z, y, ([] : Runs)) ⟨z, y, [], rfl, OkRuns.nil, h1, h2⟩
      rw [e, ho]
      rfl
    · simp only [decide_eq_true h1, decide_eq_false h2, Bool.not_true, Bool.not_false, cond_false, cond_true]
      rfl
  · simp only [decide_eq_false h1, Bool.not_false, cond_true]
    rfl
theorem law10 : ∀ x : InT X0.T sp10.ps, RngPs X0 sp10.ps x → ∃ y, sp10.f x = some y ∧ toL _ y = [⟨.bool, true⟩] := by
  intro x hx
  exact ⟨true, f10_true (rng_code hx.1) (rng_code hx.2.1), rfl⟩
end Go.Proofs.Ytoeoliomkjbcnaa.E
