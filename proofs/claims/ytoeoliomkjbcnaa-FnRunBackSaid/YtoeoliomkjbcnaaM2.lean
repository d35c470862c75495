/- What the mirrors and the sizes come to; the law of 'RunSame'. -/
import Derived.Test.YtoeoliomkjbcnaaM1
namespace Go.Proofs.Ytoeoliomkjbcnaa.E
open Go

theorem lim_le {n : Nat} (h : n ≤ lim) : n ≤ maxLen := by unfold lim at h; unfold maxLen; omega
theorem mk_ok {n : Nat} (h : n ≤ lim) : (decide ((0 : Int) ≤ (n : Int)) && decide (Int.toNat (n : Int) ≤ lim)) = true := by simp [h]

theorem f25_eq {xs : List Int} (h : xs.length ≤ lim) : f25 xs = some xs := by
  unfold f25
  rw [mk_ok h]
  simp only [cond_true, Int.toNat_natCast]
  rw [loop_up' (step := fun t => l25_0 t.1 t.2.1 t.2.2) (t0 := (xs, (0 : Int), List.replicate xs.length zeroI)) (fun k => (xs, (k : Int), fill xs 0 k)) (o := xs) xs.length (by rw [fill_zero]; rfl) ?_ ?_]
  · rfl
  · intro k hk
    have hl := fill_length xs 0 (k := k) (by omega)
    simp only [l25_0, dec_lt hk, inR_nat hk, inR_nat (show k < (fill xs 0 k).length by omega), cond_true, w64_succ hk (lim_le h), Int.toNat_natCast, rdI_nat, fill_set xs 0 hk]
  · simp only [l25_0, dec_ge, cond_false, fill_all]
theorem f112_eq {p : List Int × Int} (h : p.1.length ≤ lim) : f112 p = some p := by
  unfold f112
  rw [f25_eq h]; rfl

def lm1 (xs : List (List Int × Int)) : Prop := xs.length ≤ lim ∧ ∀ x ∈ xs, x.1.length ≤ lim
def lm2 (xs : List (List (List Int × Int))) : Prop := xs.length ≤ lim ∧ ∀ x ∈ xs, lm1 x
theorem lm1.sh {xs : List (List Int × Int)} (h : lm1 xs) : sh1 xs := ⟨lim_le h.1, fun x hx => lim_le (h.2 x hx)⟩
theorem lm2.sh {xs : List (List (List Int × Int))} (h : lm2 xs) : sh2 xs := ⟨lim_le h.1, fun x hx => (h.2 x hx).sh⟩

theorem f56_eq {xs : List (List Int × Int)} (h : lm1 xs) : f56 xs = some xs := by
  unfold f56
  rw [mk_ok h.1]
  simp only [cond_true, Int.toNat_natCast]
  rw [loop_up' (step := fun t => l56_0 t.1 t.2.1 t.2.2) (t0 := (xs, (0 : Int), List.replicate xs.length zeroItem)) (fun k => (xs, (k : Int), fill xs ([], 0) k)) (o := xs) xs.length (by rw [fill_zero]; rfl) ?_ ?_]
  · rfl
  · intro k hk
    have hl := fill_length xs ([], 0) (k := k) (by omega)
    have hi : (rdItem xs (k : Int)).1.length ≤ lim := h.2 _ (getD_mem hk)
    have he : ((rdItem xs (k : Int)).1, (rdItem xs (k : Int)).2) = rdItem xs (k : Int) := rfl
    simp only [l56_0, dec_lt hk, inR_nat hk, inR_nat (show k < (fill xs ([], 0) k).length by omega), cond_true, w64_succ hk (lim_le h.1), Int.toNat_natCast, he, f112_eq hi, Option.bind_some]
    rw [rdItem_nat, fill_set xs ([], 0) hk]
  · simp only [l56_0, dec_ge, cond_false, fill_all]
theorem f59_eq {xs : List (List (List Int × Int))} (h : lm2 xs) : f59 xs = some xs := by
  unfold f59
  rw [mk_ok h.1]
  simp only [cond_true, Int.toNat_natCast]
  rw [loop_up' (step := fun t => l59_0 t.1 t.2.1 t.2.2) (t0 := (xs, (0 : Int), List.replicate xs.length zeroRun)) (fun k => (xs, (k : Int), fill xs [] k)) (o := xs) xs.length (by rw [fill_zero]; rfl) ?_ ?_]
  · rfl
  · intro k hk
    have hl := fill_length xs [] (k := k) (by omega)
    have hi : lm1 (rdRun xs (k : Int)) := h.2 _ (getD_mem hk)
    simp only [l59_0, dec_lt hk, inR_nat hk, inR_nat (show k < (fill xs [] k).length by omega), cond_true, w64_succ hk (lim_le h.1), Int.toNat_natCast, f56_eq hi, Option.bind_some]
    rw [rdRun_nat, fill_set xs [] hk]
  · simp only [l59_0, dec_ge, cond_false, fill_all]
theorem f19_eq {xs : List (List (List Int × Int))} (h : lm2 xs) : f19 xs = some xs := by
  unfold f19
  rw [f59_eq h]; rfl

/-! sizes -/
def bigN : Nat := 1048576
theorem big_lim {n : Nat} (h : n ≤ bigN) : n ≤ lim := by unfold bigN at h; unfold lim; omega
def sm1 (xs : List (List Int × Int)) : Prop := xs.length ≤ bigN ∧ ∀ x ∈ xs, x.1.length ≤ bigN
def sm2 (xs : List (List (List Int × Int))) : Prop := xs.length ≤ bigN ∧ ∀ x ∈ xs, sm1 x
theorem sm1.lm {xs : List (List Int × Int)} (h : sm1 xs) : lm1 xs := ⟨big_lim h.1, fun x hx => big_lim (h.2 x hx)⟩
theorem sm2.lm {xs : List (List (List Int × Int))} (h : sm2 xs) : lm2 xs := ⟨big_lim h.1, fun x hx => (h.2 x hx).lm⟩
theorem sm2.h20 {xs : List (List (List Int × Int))} (h : sm2 xs) : ∀ z ∈ xs, z.length ≤ 1048576 := fun z hz => (h.2 z hz).1
/-- What is left when a thing has been counted: less than nothing, or the thing is small. -/
def Sz (good : Prop) (left r : Int) : Prop := r < 0 ∨ (0 ≤ r ∧ r ≤ left ∧ good)
theorem f131_ok {xs : List Int} {left : Int} (hx : xs.length ≤ maxLen) (h0 : 0 ≤ left) (h1 : left ≤ 1048576) : ∃ r, f131 xs left = some r ∧ Sz (xs.length ≤ bigN) left r := by
  unfold f131
  unfold maxLen at hx
  rw [w64_eq (by omega) (by omega)]
  by_cases h : left - (xs.length : Int) < 0
  · rw [decide_eq_true h]
    exact ⟨_, rfl, .inl (by omega)⟩
  · rw [decide_eq_false h]
    exact ⟨_, rfl, .inr ⟨by omega, by omega, by unfold bigN; omega⟩⟩
theorem f111_ok {p : List Int × Int} {left : Int} (hx : p.1.length ≤ maxLen) (h0 : 0 ≤ left) (h1 : left ≤ 1048576) : ∃ r, f111 p left = some r ∧ Sz (p.1.length ≤ bigN) left r := by
  unfold f111
  obtain ⟨r, e, hr⟩ := f131_ok hx h0 h1
  rw [e]
  simp only [Option.bind_some]
  by_cases h : r < 0
  · rw [decide_eq_true h]
    exact ⟨_, rfl, .inl (by omega)⟩
  · rw [decide_eq_false h]
    exact ⟨_, rfl, hr⟩
theorem f55_ok {xs : List (List Int × Int)} {left : Int} (hx : sh1 xs) (h0 : 0 ≤ left) (h1 : left ≤ 1048576) : ∃ r, f55 xs left = some r ∧ Sz (sm1 xs) left r := by
  unfold f55
  have hlen := hx.1
  unfold maxLen at hlen
  rw [w64_eq (by omega) (by omega)]
  by_cases h : left - (xs.length : Int) < 0
  · rw [decide_eq_true h]
    exact ⟨_, rfl, .inl (by omega)⟩
  · rw [decide_eq_false h]
    simp only [cond_false]
    obtain ⟨o, e, ho⟩ := loop_inv (step := fun t => l55_0 t.1 t.2.1 t.2.2) (fun k t => t.1 = xs ∧ t.2.2 = (k : Int) ∧ 0 ≤ t.2.1 ∧ t.2.1 ≤ left ∧ ∀ x ∈ xs.take k, x.1.length ≤ bigN)
      (fun o => (∃ r, o = .inl r ∧ 0 ≤ r ∧ r ≤ left ∧ ∀ x ∈ xs, x.1.length ≤ bigN) ∨ o = .inr (-1)) xs.length
      (by
        rintro k ⟨v1, v2, v3⟩ hk ⟨q1, q2, hv0, hv1, hv⟩
        simp only at q1 q2 hv0 hv1
        subst q1 q2
        obtain ⟨r, e, hr⟩ := f111_ok (p := rdItem v1 (k : Int)) (hx.at k) hv0 (by omega)
        have he : ((rdItem v1 (k : Int)).1, (rdItem v1 (k : Int)).2) = rdItem v1 (k : Int) := rfl
        simp only [l55_0, dec_lt hk, inR_nat hk, cond_true, he, e, Option.bind_some, w64_succ hk hx.1]
        by_cases hneg : r < 0
        · rw [decide_eq_true hneg]
          exact .inr ⟨_, rfl, .inr rfl⟩
        · rw [decide_eq_false hneg]
          rcases hr with hr | ⟨q1, q2, q3⟩
          · exact absurd hr hneg
          · refine .inl ⟨_, rfl, rfl, rfl, q1, by show r ≤ left; omega, fun x hx' => ?_⟩
            rw [List.take_succ_eq_append_getElem hk] at hx'
            rcases List.mem_append.1 hx' with h | h
            · exact hv x h
            · rw [List.mem_singleton.1 h]
              rw [rdItem_nat, List.getD_eq_getElem?_getD, List.getElem?_eq_getElem hk] at q3
              exact q3)
      (by
        rintro ⟨v1, v2, v3⟩ ⟨q1, q2, hv0, hv1, hv⟩
        simp only at q1 q2 hv0 hv1
        subst q1 q2
        simp only [l55_0, dec_ge, cond_false]
        refine ⟨_, rfl, .inl ⟨_, rfl, hv0, hv1, ?_⟩⟩
        simpa using hv)
      (xs, left - (xs.length : Int), 0) ⟨rfl, rfl, by show (0 : Int) ≤ left - (xs.length : Int); omega, by show left - (xs.length : Int) ≤ left; omega, by simp⟩
    rw [e]
    rcases ho with ⟨r, rfl, q1, q2, q3⟩ | rfl
    · exact ⟨r, rfl, .inr ⟨q1, q2, by unfold bigN; omega, q3⟩⟩
    · exact ⟨-1, rfl, .inl (by omega)⟩
theorem f57_ok {xs : List (List (List Int × Int))} {left : Int} (hx : sh2 xs) (h0 : 0 ≤ left) (h1 : left ≤ 1048576) : ∃ r, f57 xs left = some r ∧ Sz (sm2 xs) left r := by
  unfold f57
  have hlen := hx.1
  unfold maxLen at hlen
  rw [w64_eq (by omega) (by omega)]
  by_cases h : left - (xs.length : Int) < 0
  · rw [decide_eq_true h]
    exact ⟨_, rfl, .inl (by omega)⟩
  · rw [decide_eq_false h]
    simp only [cond_false]
    obtain ⟨o, e, ho⟩ := loop_inv (step := fun t => l57_0 t.1 t.2.1 t.2.2) (fun k t => t.1 = xs ∧ t.2.2 = (k : Int) ∧ 0 ≤ t.2.1 ∧ t.2.1 ≤ left ∧ ∀ x ∈ xs.take k, sm1 x)
      (fun o => (∃ r, o = .inl r ∧ 0 ≤ r ∧ r ≤ left ∧ ∀ x ∈ xs, sm1 x) ∨ o = .inr (-1)) xs.length
      (by
        rintro k ⟨v1, v2, v3⟩ hk ⟨q1, q2, hv0, hv1, hv⟩
        simp only at q1 q2 hv0 hv1
        subst q1 q2
        obtain ⟨r, e, hr⟩ := f55_ok (xs := rdRun v1 (k : Int)) (hx.at k) hv0 (by omega)
        simp only [l57_0, dec_lt hk, inR_nat hk, cond_true, e, Option.bind_some, w64_succ hk hx.1]
        by_cases hneg : r < 0
        · rw [decide_eq_true hneg]
          exact .inr ⟨_, rfl, .inr rfl⟩
        · rw [decide_eq_false hneg]
          rcases hr with hr | ⟨q1, q2, q3⟩
          · exact absurd hr hneg
          · refine .inl ⟨_, rfl, rfl, rfl, q1, by show r ≤ left; omega, fun x hx' => ?_⟩
            rw [List.take_succ_eq_append_getElem hk] at hx'
            rcases List.mem_append.1 hx' with h | h
            · exact hv x h
            · rw [List.mem_singleton.1 h]
              rw [rdRun_nat, List.getD_eq_getElem?_getD, List.getElem?_eq_getElem hk] at q3
              exact q3)
      (by
        rintro ⟨v1, v2, v3⟩ ⟨q1, q2, hv0, hv1, hv⟩
        simp only at q1 q2 hv0 hv1
        subst q1 q2
        simp only [l57_0, dec_ge, cond_false]
        refine ⟨_, rfl, .inl ⟨_, rfl, hv0, hv1, ?_⟩⟩
        simpa using hv)
      (xs, left - (xs.length : Int), 0) ⟨rfl, rfl, by show (0 : Int) ≤ left - (xs.length : Int); omega, by show left - (xs.length : Int) ≤ left; omega, by simp⟩
    rw [e]
    rcases ho with ⟨r, rfl, q1, q2, q3⟩ | rfl
    · exact ⟨r, rfl, .inr ⟨q1, q2, by unfold bigN; omega, q3⟩⟩
    · exact ⟨-1, rfl, .inl (by omega)⟩
theorem f17_ok {xs : List (List (List Int × Int))} {left : Int} (hx : sh2 xs) (h0 : 0 ≤ left) (h1 : left ≤ 1048576) : ∃ r, f17 xs left = some r ∧ Sz (sm2 xs) left r := by
  unfold f17
  obtain ⟨r, e, hr⟩ := f57_ok hx h0 h1
  rw [e]
  simp only [Option.bind_some]
  by_cases h : r < 0
  · rw [decide_eq_true h]
    exact ⟨_, rfl, .inl (by omega)⟩
  · rw [decide_eq_false h]
    exact ⟨_, rfl, hr⟩

/-- The law. -/
theorem f3_true {a b : List (List (List Int × Int))} (ha : sh2 a) (hb : sh2 b) : f3 a b = some true := by
  unfold f3
  obtain ⟨r, e, hr⟩ := f17_ok ha (by omega : (0 : Int) ≤ 1048576) (by omega)
  rw [e]
  simp only [Option.bind_some]
  by_cases h : r < 0
  · rw [decide_eq_true h]; rfl
  rw [decide_eq_false h]
  rcases hr with hr | ⟨h0, h1, hla⟩
  · exact absurd hr h
  obtain ⟨r', e', hr'⟩ := f17_ok hb h0 h1
  simp only [cond_false]
  rw [e']
  simp only [Option.bind_some]
  by_cases h' : r' < 0
  · rw [decide_eq_true h']; rfl
  rw [decide_eq_false h']
  rcases hr' with hr' | ⟨_, _, hlb⟩
  · exact absurd hr' h'
  simp only [cond_false, f19_eq hla.lm, f19_eq hlb.lm, Option.bind_some, f18_eq ha hb, f20_eq ha, f21_eq ha, f21_eq hb]
  simp
theorem rng_sh2 {xs : List (List (List Int × Int))} (h : Rng X0 ySpine xs) : sh2 xs := ⟨h.1, fun x hx => ⟨(h.2 x hx).1, fun y hy => ((h.2 x hx).2 y hy).1.1⟩⟩
theorem law3 : ∀ x : InT X0.T sp3.ps, RngPs X0 sp3.ps x → ∃ y, sp3.f x = some y ∧ toL _ y = [⟨.bool, true⟩] := by
  intro x hx
  exact ⟨true, f3_true (rng_sh2 hx.1) (rng_sh2 hx.2.1), rfl⟩
end Go.Proofs.Ytoeoliomkjbcnaa.E
