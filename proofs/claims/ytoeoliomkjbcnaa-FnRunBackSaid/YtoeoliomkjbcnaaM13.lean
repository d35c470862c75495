/- Putting into runs; the law 'RunPut' in plain Lean. -/
import Derived.Test.YtoeoliomkjbcnaaM12
namespace Go.Proofs.Ytoeoliomkjbcnaa.E
open Go

/-- Runs merged till they are right, or one. -/
def shr : Nat → Runs → Runs
  | 0, rs => rs
  | n + 1, rs => if 5 < rs.length ∨ (1 < rs.length ∧ ¬ OkRuns rs) then shr n (mlast rs) else rs
theorem shr_inv : ∀ (n : Nat) {rs : Runs}, Inv rs → Inv (shr n rs)
  | 0, _, h => h
  | n + 1, rs, h => by
    simp only [shr]
    split
    · rename_i hc; exact shr_inv n (mlast_inv h (by omega))
    · exact h
theorem shr_sum : ∀ (n : Nat) {rs : Runs}, sumAll (shr n rs) = sumAll rs
  | 0, _ => rfl
  | n + 1, rs => by
    simp only [shr]
    split
    · rename_i hc; rw [shr_sum n, mlast_sum (by omega)]
    · rfl
theorem shr_end : ∀ (n : Nat) {rs : Runs}, rs.length ≤ n → ¬ (5 < (shr n rs).length ∨ (1 < (shr n rs).length ∧ ¬ OkRuns (shr n rs)))
  | 0, rs, h => by
    simp only [shr]
    omega
  | n + 1, rs, h => by
    simp only [shr]
    split
    · rename_i hc
      exact shr_end n (by have := mlast_len (rs := rs) (by omega); omega)
    · rename_i hc; exact hc
theorem mlast_rows {P : Row → Prop} {rs : Runs} (h2 : 2 ≤ rs.length) (h : ∀ z ∈ rs, ∀ p ∈ z, P p.1) : ∀ z ∈ mlast rs, ∀ p ∈ z, P p.1 := by
  intro z hz
  unfold mlast at hz
  rcases List.mem_append.1 hz with hz | hz
  · exact h z (List.mem_of_mem_take hz)
  · split at hz
    · cases hz
    · rw [List.mem_singleton.1 hz]
      exact putAll_rows (h _ (rdRun_mem (by omega))) (h _ (rdRun_mem (by omega)))
theorem shr_rows {P : Row → Prop} : ∀ (n : Nat) {rs : Runs}, (∀ z ∈ rs, ∀ p ∈ z, P p.1) → ∀ z ∈ shr n rs, ∀ p ∈ z, P p.1
  | 0, _, h => h
  | n + 1, rs, h => by
    simp only [shr]
    split
    · rename_i hc; exact shr_rows n (mlast_rows (by omega) h)
    · exact h

theorem l107_at {v rs : Runs} (h : Inv rs) : l107_3 v rs = some (if 5 < rs.length ∨ (1 < rs.length ∧ ¬ OkRuns rs) then .inl (v, mlast rs) else .inr (v, rs)) := by
  simp only [l107_3, five, one_len]
  by_cases h5 : 5 < rs.length
  · rw [decide_eq_true h5, if_pos (.inl h5), f106_eq h (by omega)]; rfl
  · rw [decide_eq_false h5]
    simp only [cond_false]
    by_cases h1 : 1 < rs.length
    · rw [decide_eq_true h1, f22_eq h.lm.sh]
      simp only [cond_true, Option.bind_some]
      by_cases ho : OkRuns rs
      · rw [decide_eq_true ho, if_neg fun e => e.elim h5 fun e => e.2 ho]; rfl
      · rw [decide_eq_false ho, if_pos (.inr ⟨h1, ho⟩), f106_eq h (by omega)]; rfl
    · rw [decide_eq_false h1, if_neg fun e => e.elim h5 fun e => h1 e.1]; rfl
theorem l107_loop : ∀ (n : Nat) (v rs : Runs), rs.length ≤ n → Inv rs → loopS (fun t => l107_3 t.1 t.2) (v, rs) = some (v, shr n rs)
  | 0, v, rs, hn, h => by
    rw [loopS_eq]
    simp only
    rw [l107_at h, if_neg (by omega)]
    rfl
  | n + 1, v, rs, hn, h => by
    rw [loopS_eq]
    simp only
    rw [l107_at h]
    simp only [shr]
    by_cases hc : 5 < rs.length ∨ (1 < rs.length ∧ ¬ OkRuns rs)
    · rw [if_pos hc, if_pos hc]
      exact l107_loop n v (mlast rs) (by have := mlast_len (rs := rs) (by omega); omega) (mlast_inv h (by omega))
    · rw [if_neg hc, if_neg hc]
      rfl
theorem l29_at {v rs : Runs} (h : Inv rs) : l29_7 rs v = some (if 5 < rs.length ∨ (1 < rs.length ∧ ¬ OkRuns rs) then .inl (mlast rs, v) else .inr (rs, v)) := by
  simp only [l29_7, five, one_len]
  by_cases h5 : 5 < rs.length
  · rw [decide_eq_true h5, if_pos (.inl h5), f71_eq h (by omega)]; rfl
  · rw [decide_eq_false h5]
    simp only [cond_false]
    by_cases h1 : 1 < rs.length
    · rw [decide_eq_true h1, f63_eq h.lm h.h20]
      simp only [cond_true, Option.bind_some]
      by_cases ho : OkRuns rs
      · rw [decide_eq_true ho, if_neg fun e => e.elim h5 fun e => e.2 ho]; rfl
      · rw [decide_eq_false ho, if_pos (.inr ⟨h1, ho⟩), f71_eq h (by omega)]; rfl
    · rw [decide_eq_false h1, if_neg fun e => e.elim h5 fun e => h1 e.1]; rfl
theorem l29_loop : ∀ (n : Nat) (v rs : Runs), rs.length ≤ n → Inv rs → loopS (fun t => l29_7 t.1 t.2) (rs, v) = some (shr n rs, v)
  | 0, v, rs, hn, h => by
    rw [loopS_eq]
    simp only
    rw [l29_at h, if_neg (by omega)]
    rfl
  | n + 1, v, rs, hn, h => by
    rw [loopS_eq]
    simp only
    rw [l29_at h]
    simp only [shr]
    by_cases hc : 5 < rs.length ∨ (1 < rs.length ∧ ¬ OkRuns rs)
    · rw [if_pos hc, if_pos hc]
      exact l29_loop n v (mlast rs) (by have := mlast_len (rs := rs) (by omega); omega) (mlast_inv h (by omega))
    · rw [if_neg hc, if_neg hc]
      rfl

def OkEach (rs : Runs) : Prop := ∀ z ∈ rs, OkZ z
instance (rs : Runs) : Decidable (OkEach rs) := inferInstanceAs (Decidable (∀ z ∈ rs, OkZ z))
theorem all_range2 (rs : Runs) : (List.range rs.length).all (fun k => decide (OkZ (rdRun rs (k : Int)))) = decide (OkEach rs) := all_range rs [] OkZ
theorem f130_eq {rs : Runs} (h : sh2 rs) : f130 rs = some (decide (OkEach rs)) := by
  unfold f130
  rw [loop_all' (step := fun t => l130_0 t.1 t.2) (t0 := ((0 : Int), rs)) (fun k => ((k : Int), rs)) (good := .inl ()) (bad := .inr false) rs.length (fun k => decide (OkZ (rdRun rs (k : Int)))) rfl ?_ ?_]
  · rw [all_range2]
    cases decide (OkEach rs) <;> rfl
  · intro k hk
    simp only [l130_0, dec_lt hk, inR_nat hk, cond_true, f46_eq (h.at k), Option.bind_some, w64_succ hk h.1]
    cases decide (OkZ (rdRun rs (k : Int))) <;> rfl
  · simp only [l130_0, dec_ge, cond_false]
theorem f72_eq {rs : Runs} (h : sh2 rs) : f72_73 rs = some (!decide (OkEach rs)) := by
  unfold f72_73 f115_73
  rw [← all_range2]
  rcases loop_find (step := fun t => l115_73_0 t.1 t.2.1 t.2.2) (t0 := (rs, (rs.length : Int), (0 : Int))) (fun k => (rs, (rs.length : Int), (k : Int))) (fun k => .inr (k : Int)) (none_ := .inl ()) rs.length (fun k => !decide (OkZ (rdRun rs (k : Int)))) rfl
    (fun k hk => by
      have hf : f73 (rdRun rs (k : Int)) = some (!decide (OkZ (rdRun rs (k : Int)))) := by unfold f73; rw [f31_eq (h.at k)]; rfl
      simp only [l115_73_0, dec_lt hk, inR_nat hk, cond_true, hf, Option.bind_some, w64_succ hk h.1]
      cases decide (OkZ (rdRun rs (k : Int))) <;> rfl) (by simp only [l115_73_0, dec_ge, cond_false]) with ⟨j, h1, h2, h3, h4⟩ | ⟨h1, h2⟩
  · rw [h4]
    simp only [Option.bind_some]
    have : decide ((0 : Int) ≤ (j : Int)) = true := by simp
    rw [this]
    have : (List.range rs.length).all (fun k => decide (OkZ (rdRun rs (k : Int)))) = false := by
      rw [List.all_eq_false]
      exact ⟨j, List.mem_range.2 h1, by simpa using h2⟩
    rw [this]; rfl
  · rw [h2]
    simp only [Option.bind_some]
    have : (List.range rs.length).all (fun k => decide (OkZ (rdRun rs (k : Int)))) = true := by
      rw [List.all_eq_true]
      intro k hk
      simpa using h1 k (List.mem_range.1 hk)
    rw [this]
    rfl

/-- Items put behind all runs, of what is right. -/
def rput0 (s : Runs) (z : List Item) : Runs × Bool :=
  if z = [] then (s, true) else if OkZ (sumAll (s ++ [z])) ∧ OkEach (shr 6 (s ++ [z])) then (shr 6 (s ++ [z]), true) else (s, false)
def rput (s : Runs) (z : List Item) : Runs × Bool := if OkRuns s ∧ OkZ z then rput0 s z else ([], false)
theorem snoc_ok {s : Runs} {z : List Item} (hs : OkRuns s) (hz : OkZ z) : (∀ x ∈ s ++ [z], OkZ x) ∧ (s ++ [z]).length ≤ 6 ∧ Inv (s ++ [z]) := by
  have h1 : ∀ x ∈ s ++ [z], OkZ x := by
    intro x hx
    rcases List.mem_append.1 hx with h | h
    · exact hs.each x h
    · rw [List.mem_singleton.1 h]; exact hz
  have h2 : (s ++ [z]).length ≤ 6 := by have := hs.1; simp; omega
  exact ⟨h1, h2, Inv.of h2 h1⟩
theorem sum_sh {rs : Runs} (h : ∀ z ∈ rs, OkZ z) (hl : rs.length ≤ 6) : sh1 (sumAll rs) := by
  have := sumAll_wl h rs.length (Nat.le_refl _)
  rw [List.take_length] at this
  exact (this.lm (by unfold lim; omega)).sh
theorem f107_eq {s : Runs} {z : List Item} (hs : OkRuns s) (hz : OkZ z) : f107 s z = some (rput0 s z) := by
  obtain ⟨h1, h2, h3⟩ := snoc_ok hs hz
  have h5 := hs.1
  unfold f107 rput0
  rw [len_nil]
  by_cases h0 : z = []
  · rw [decide_eq_true h0, if_pos h0]; rfl
  · rw [decide_eq_false h0, if_neg h0]
    have e1 : decide (([] : Runs).length + s.length ≤ lim) = true := by unfold lim; simp; omega
    have e2 : decide ((([] : Runs) ++ s).length + (z :: ([] : Runs)).length ≤ lim) = true := by unfold lim; simp; omega
    rw [e1, f121_eq hz.lm]
    simp only [cond_true, cond_false, Option.bind_some]
    rw [e2]
    simp only [cond_true, List.nil_append]
    rw [f62_eq h1 (by omega)]
    simp only [Option.bind_some]
    rw [f46_eq (sum_sh h1 h2)]
    simp only [Option.bind_some]
    by_cases ho : OkZ (sumAll (s ++ [z]))
    · rw [decide_eq_true ho]
      simp only [Bool.not_true, cond_false]
      rw [l107_loop 6 s (s ++ [z]) h2 h3]
      simp only [Option.bind_some]
      rw [f130_eq (shr_inv 6 h3).lm.sh]
      simp only [Option.bind_some]
      by_cases ha : OkEach (shr 6 (s ++ [z]))
      · rw [decide_eq_true ha, if_pos ⟨ho, ha⟩]; rfl
      · rw [decide_eq_false ha, if_neg fun e => ha e.2]; rfl
    · rw [decide_eq_false ho, if_neg fun e => ho e.1]; rfl
theorem rput0_inv {s : Runs} {z : List Item} (hs : OkRuns s) (hz : OkZ z) : Inv (rput0 s z).1 := by
  unfold rput0
  split
  · exact hs.inv
  · split
    · exact shr_inv 6 (snoc_ok hs hz).2.2
    · exact hs.inv
theorem f51_eq {s : Runs} {z : List Item} (hs : sh2 s) (hz : sh1 z) : f51 s z = some (rput s z) := by
  unfold f51 rput
  rw [f22_eq hs]
  simp only [Option.bind_some]
  by_cases h : OkRuns s
  · rw [decide_eq_true h]
    simp only [Bool.not_true, cond_false]
    rw [f46_eq hz]
    simp only [Option.bind_some]
    by_cases h' : OkZ z
    · rw [decide_eq_true h', if_pos ⟨h, h'⟩]
      simp only [Bool.not_true, cond_false]
      rw [f105_eq h.inv.lm]
      simp only [Option.bind_some]
      rw [f107_eq h h']
      simp only [Option.bind_some]
      rw [f105_eq (rput0_inv h h').lm]
      rfl
    · rw [decide_eq_false h', if_neg fun e => h' e.2]; rfl
  · rw [decide_eq_false h, if_neg fun e => h e.1]; rfl
theorem f29_eq {s : Runs} {z : List Item} (hs : lm2 s) (h20 : ∀ z ∈ s, z.length ≤ 1048576) (hz : sh1 z) : f29 s z = some (rput s z) := by
  unfold f29 rput
  rw [f63_eq hs h20]
  simp only [Option.bind_some]
  by_cases h : OkRuns s
  · rw [decide_eq_true h]
    simp only [Bool.not_true, cond_false]
    rw [f31_eq hz]
    simp only [Option.bind_some]
    by_cases h' : OkZ z
    · rw [decide_eq_true h', if_pos ⟨h, h'⟩]
      simp only [Bool.not_true, cond_false]
      obtain ⟨h1, h2, h3⟩ := snoc_ok h h'
      have h5 := h.1
      have hcp := f68_eq h.inv.lm
      unfold rput0
      rw [len_nil]
      by_cases h0 : z = []
      · rw [decide_eq_true h0, if_pos h0, hcp]; rfl
      · rw [decide_eq_false h0, if_neg h0, f69_eq (by unfold lim; omega)]
        have e2 : decide (s.length + (z :: ([] : Runs)).length ≤ lim) = true := by unfold lim; simp; omega
        simp only [cond_false, Option.bind_some]
        rw [e2, f70_eq h1 (by omega)]
        simp only [cond_true, Option.bind_some]
        rw [f31_eq (sum_sh h1 h2)]
        simp only [Option.bind_some]
        by_cases ho : OkZ (sumAll (s ++ [z]))
        · rw [decide_eq_true ho]
          simp only [Bool.not_true, cond_false]
          rw [l29_loop 6 s (s ++ [z]) h2 h3]
          simp only [Option.bind_some]
          rw [f72_eq (shr_inv 6 h3).lm.sh]
          simp only [Option.bind_some]
          by_cases ha : OkEach (shr 6 (s ++ [z]))
          · rw [decide_eq_true ha, if_pos ⟨ho, ha⟩]
            simp only [Bool.not_true, cond_false]
            rw [f68_eq (shr_inv 6 h3).lm]
            rfl
          · rw [decide_eq_false ha, if_neg fun e => ha e.2]
            simp only [Bool.not_false, cond_true]
            rw [hcp]
            rfl
        · rw [decide_eq_false ho, if_neg fun e => ho e.1]
          simp only [Bool.not_false, cond_true]
          rw [hcp]
          rfl
    · rw [decide_eq_false h', if_neg fun e => h' e.2]; rfl
  · rw [decide_eq_false h, if_neg fun e => h e.1]; rfl
theorem rput_sm (s : Runs) (z : List Item) : sm2 (rput s z).1 := by
  unfold rput
  split
  · rename_i h
    refine (rput0_inv h.1 h.2).sm ?_
    unfold rput0
    split
    · exact h.1.rows
    · split
      · refine shr_rows (P := fun r => r.length ≤ 6) 6 fun x hx p hp => ?_
        exact (((snoc_ok h.1 h.2).1 x hx).2.1 p hp).1.2.1
      · exact h.1.rows
  · exact ⟨by simp, by simp⟩
theorem f15_true {a : Runs} {t : List Item} (ha : sh2 a) (ht : sh1 t) : f15 a t = some true := by
  unfold f15
  obtain ⟨r, e, hr⟩ := f17_ok ha (by omega : (0 : Int) ≤ 1048576) (by omega)
  rw [e]
  simp only [Option.bind_some]
  by_cases h : r < 0
  · rw [decide_eq_true h]; rfl
  rw [decide_eq_false h]
  rcases hr with hr | ⟨h0, h1, hla⟩
  · exact absurd hr h
  obtain ⟨r', e', hr'⟩ := f55_ok ht h0 h1
  simp only [cond_false]
  rw [e']
  simp only [Option.bind_some]
  by_cases h' : r' < 0
  · rw [decide_eq_true h']; rfl
  rw [decide_eq_false h']
  rcases hr' with hr' | ⟨_, _, hlt⟩
  · exact absurd hr' h'
  have ho := rput_sm a t
  have hc1 := hla.cnt
  have hc2 := ho.cnt
  have hc3 := hlt.cnt
  have hne : ((rput a t).2 != (rput a t).2) = false := by cases (rput a t).2 <;> rfl
  simp only [cond_false, f19_eq hla.lm, f56_eq hlt.lm, Option.bind_some, f51_eq ha ht, f29_eq hla.lm hla.h20 ht, f21_eq ho.lm.sh, f21_eq ha, f40_eq ht, decide_true, Bool.not_true, hne]
  rw [f41_eq hla (by omega) (by omega)]
  simp only [Option.bind_some]
  rw [f42_eq hlt (by omega) (by omega)]
  simp only [Option.bind_some, dec_neg (show (0 : Int) ≤ 1 + (cntS a : Int) + (cntI t : Int) by omega), cond_false]
  rw [f41_eq ho (by omega) (by omega)]
  simp only [Option.bind_some]
  rw [f54_eq ho (by omega) (by omega)]
  simp only [Option.bind_some, dec_neg (show (0 : Int) ≤ 1 + (cntS (rput a t).1 : Int) by omega), cond_false, decide_true, Bool.not_true]
theorem rng_sh1 {xs : List (List Int × Int)} (h : Rng X0 yRun xs) : sh1 xs := ⟨h.1, fun y hy => (h.2 y hy).1.1⟩
theorem law15 : ∀ x : InT X0.T sp15.ps, RngPs X0 sp15.ps x → ∃ y, sp15.f x = some y ∧ toL _ y = [⟨.bool, true⟩] := by
  intro x hx
  exact ⟨true, f15_true (rng_sh2 hx.1) (rng_sh1 hx.2.1), rfl⟩
end Go.Proofs.Ytoeoliomkjbcnaa.E
