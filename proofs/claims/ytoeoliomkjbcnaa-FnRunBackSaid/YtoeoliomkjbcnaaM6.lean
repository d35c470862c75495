/- The laws of 'RunOk' and 'RunGet' in plain Lean. -/
import Derived.Test.YtoeoliomkjbcnaaM5
namespace Go.Proofs.Ytoeoliomkjbcnaa.E
open Go

theorem f4_true {a : Runs} (ha : sh2 a) : f4 a = some true := by
  unfold f4
  obtain ⟨r, e, hr⟩ := f17_ok ha (by omega : (0 : Int) ≤ 1048576) (by omega)
  rw [e]
  simp only [Option.bind_some]
  by_cases h : r < 0
  · rw [decide_eq_true h]; rfl
  rw [decide_eq_false h]
  rcases hr with hr | ⟨h0, h1, hla⟩
  · exact absurd hr h
  simp only [cond_false, f19_eq hla.lm, Option.bind_some, f22_eq ha, f23_eq hla.lm hla.h20, f21_eq ha]
  simp
theorem law4 : ∀ x : InT X0.T sp4.ps, RngPs X0 sp4.ps x → ∃ y, sp4.f x = some y ∧ toL _ y = [⟨.bool, true⟩] := by
  intro x hx
  exact ⟨true, f4_true (rng_sh2 hx.1), rfl⟩

/-! a row's weight -/
theorem wt_at {z : List Item} (h : Srt z) {k : Nat} (hk : k < z.length) : wt z (rdItem z (k : Int)).1 = (rdItem z (k : Int)).2 := by
  induction z generalizing k with
  | nil => simp at hk
  | cons p z ih =>
    obtain ⟨h1, h2, h3⟩ := srt_cons.1 h
    cases k with
    | zero => exact wt_head h
    | succ k =>
      have hk' : k < z.length := by simpa using hk
      have := ih h3 hk'
      rw [rdItem_nat] at this ⊢
      simp only [List.getD_cons_succ, wt]
      have hne : p.1 ≠ (z.getD k ([], 0)).1 := cmpR_ne (h1 _ (getD_mem hk'))
      rw [if_neg hne, this]
      omega
theorem wt_none {z : List Item} {r : Row} (h : ∀ k, k < z.length → (rdItem z (k : Int)).1 ≠ r) : wt z r = 0 := by
  refine wt_not fun p hp => ?_
  obtain ⟨k, hk, rfl⟩ := List.getElem_of_mem hp
  have := h k hk
  rw [rdItem_nat] at this
  simpa [List.getD_eq_getElem?_getD, hk] using this
theorem f64_eq {z : List Item} {r : Row} (hz : OkZ z) (hr : r.length ≤ maxLen) : f64 z r = some (wt z r) := by
  have hs := (hz.wl.lm (by unfold lim; omega)).sh
  unfold f64
  rcases loop_find (step := fun t => l64_0 t.1 t.2.1 t.2.2) (t0 := (z, r, (0 : Int))) (fun k => (z, r, (k : Int))) (fun k => .inr (rdItem z (k : Int)).2) (none_ := .inl ()) z.length (fun k => decide ((rdItem z (k : Int)).1 = r)) rfl
    (fun k hk => by
      simp only [l64_0, dec_lt hk, cond_true, f46_eq hs, decide_eq_true hz, Option.bind_some, inR_nat hk, f113_eq (hs.at k) hr, w64_succ hk hs.1]
      cases decide ((rdItem z (k : Int)).1 = r) <;> rfl) (by simp only [l64_0, dec_ge, cond_false]) with ⟨j, h1, h2, h3, h4⟩ | ⟨h1, h2⟩
  · rw [h4]
    simp only [Option.bind_some]
    rw [← of_decide_eq_true h2, wt_at hz.srt h1]
  · rw [h2]
    simp only [Option.bind_some]
    rw [wt_none fun k hk => of_decide_eq_false (h1 k hk)]
theorem f24_eq {rs : Runs} {r : Row} (hz : sh2 rs) (hr : r.length ≤ maxLen) : f24 rs r = some (if OkRuns rs then wt (sumAll rs) r else 0) := by
  unfold f24
  rw [f22_eq hz]
  simp only [Option.bind_some]
  by_cases h : OkRuns rs
  · rw [decide_eq_true h, if_pos h]
    simp only [Bool.not_true, cond_false]
    rw [f62_eq h.each (by have := h.1; omega)]
    simp only [Option.bind_some]
    rw [f64_eq h.sum hr]
    rfl
  · rw [decide_eq_false h, if_neg h]; rfl

theorem l65_less {p : Item} {z : List Item} {r : Row} (hp : p.1.length ≤ maxLen) (h : cmpR p.1 r < 0) : l65_0 r (p :: z) = some (.inl (r, z)) := by
  have hf : f76 (rdItem (p :: z) 0).1 r = some (decide (cmpR p.1 r < 0)) := f76_eq hp
  have e1 : (1 : Int).toNat = 1 := rfl
  simp only [l65_0, pos_cons, inR_cons, cond_true, hf, Option.bind_some, decide_eq_true h, one_cons, e1, List.drop_succ_cons, List.drop_zero]
theorem l65_stop {p : Item} {z : List Item} {r : Row} (hp : p.1.length ≤ maxLen) (h : ¬ cmpR p.1 r < 0) : l65_0 r (p :: z) = some (.inr (r, p :: z)) := by
  have hf : f76 (rdItem (p :: z) 0).1 r = some (decide (cmpR p.1 r < 0)) := f76_eq hp
  simp only [l65_0, pos_cons, inR_cons, cond_true, hf, Option.bind_some, decide_eq_false h, cond_false]
theorem f65_eq : ∀ {z : List Item} {r : Row}, Srt z → (∀ p ∈ z, p.1.length ≤ maxLen) → ∃ y, f65 z r = some (wt z r, y)
  | [], r, _, _ => ⟨[], by unfold f65; rw [loopS_eq]; rfl⟩
  | p :: z, r, hs, hr => by
    have hp := hr p (by simp)
    obtain ⟨h1, h2, h3⟩ := srt_cons.1 hs
    by_cases hlt : cmpR p.1 r < 0
    · obtain ⟨y, hy⟩ := f65_eq (z := z) (r := r) h3 fun q hq => hr q (by simp [hq])
      refine ⟨y, ?_⟩
      have hw : wt (p :: z) r = wt z r := by simp only [wt]; rw [if_neg (cmpR_ne hlt)]; omega
      rw [hw, ← hy]
      unfold f65
      rw [loopS_eq]
      simp only
      rw [l65_less hp hlt]
      rfl
    · refine ⟨p :: z, ?_⟩
      unfold f65
      rw [loopS_eq]
      simp only
      rw [l65_stop hp hlt]
      have hf : f88 (rdItem (p :: z) 0).1 r = some (decide (p.1 = r)) := f88_eq hp
      simp only [Option.bind_some, pos_cons, inR_cons, cond_true, hf]
      by_cases he : p.1 = r
      · rw [decide_eq_true he]
        simp only [cond_true]
        rw [← he, wt_head hs]
        rfl
      · rw [decide_eq_false he]
        simp only [cond_false]
        have hgt : cmpR r p.1 < 0 := by
          rw [cmpR_swap]
          have : cmpR p.1 r ≠ 0 := fun e => he (cmpR_zero.1 e)
          omega
        rw [wt_below (z := p :: z) (r := r)]
        intro q hq
        rcases List.mem_cons.1 hq with rfl | hq
        · exact hgt
        · exact cmpR_trans hgt (h1 q hq)
theorem wt_bd {z : List Item} (h : OkZ z) (r : Row) : -10000 ≤ wt z r ∧ wt z r ≤ 10000 := by
  by_cases hm : ∃ p ∈ z, p.1 = r
  · obtain ⟨p, hp, rfl⟩ := hm
    obtain ⟨k, hk, rfl⟩ := List.getElem_of_mem hp
    have := wt_at h.srt hk
    rw [rdItem_nat] at this
    simp only [List.getD_eq_getElem?_getD, List.getElem?_eq_getElem hk, Option.getD_some] at this
    rw [this]
    have := (h.2.1 _ (List.getElem_mem hk)).2
    unfold OkW at this
    omega
  · rw [wt_not fun p hp e => hm ⟨p, hp, e⟩]
    omega
def wsum (rs : Runs) (r : Row) (k : Nat) : Int := ((rs.take k).map fun z => wt z r).sum
theorem wsum_succ {rs : Runs} {r : Row} {k : Nat} (hk : k < rs.length) : wsum rs r (k + 1) = wsum rs r k + wt (rdRun rs (k : Int)) r := by
  unfold wsum
  rw [rdRun_nat, ← take_getD [] hk]
  simp
theorem wsum_bd {rs : Runs} (h : ∀ z ∈ rs, OkZ z) (r : Row) : ∀ k, k ≤ rs.length → -(10000 * (k : Int)) ≤ wsum rs r k ∧ wsum rs r k ≤ 10000 * (k : Int) := by
  intro k
  induction k with
  | zero => intro _; simp [wsum]
  | succ k ih =>
    intro hk
    have := ih (by omega)
    have := wt_bd (h _ (rdRun_mem hk)) r
    rw [wsum_succ hk]
    omega
theorem f26_eq {rs : Runs} {r : Row} (hz : lm2 rs) (h20 : ∀ z ∈ rs, z.length ≤ 1048576) : f26 rs r = some (if OkRuns rs then wt (sumAll rs) r else 0) := by
  unfold f26
  rw [f63_eq hz h20]
  simp only [Option.bind_some]
  by_cases h : OkRuns rs
  · rw [decide_eq_true h, if_pos h]
    simp only [Bool.not_true, cond_false]
    rw [loop_up' (step := fun t => l26_1 t.1 t.2.1 t.2.2.1 t.2.2.2.1 t.2.2.2.2) (t0 := (r, (0 : Int), rs, (rs.length : Int), (0 : Int))) (fun k => (r, wsum rs r k, rs, (rs.length : Int), (k : Int))) (o := wsum rs r rs.length) rs.length rfl ?_ ?_]
    · simp only [Option.bind_some]
      rw [wt_sumAll]
      unfold wsum
      rw [List.take_length]
    · intro k hk
      have ho := h.each _ (rdRun_mem hk)
      obtain ⟨y, hy⟩ := f65_eq (r := r) ho.srt (hz.sh.at k).2
      have hb := wsum_bd h.each r (k + 1) hk
      rw [wsum_succ hk] at hb
      have hl5 := h.1
      simp only [l26_1, dec_lt hk, inR_nat hk, cond_true, hy, Option.bind_some, w64_succ hk hz.sh.1]
      rw [w64_eq (by omega) (by omega), wsum_succ hk]
    · simp only [l26_1, dec_ge, cond_false]
  · rw [decide_eq_false h, if_neg h]; rfl
theorem f5_true {a : Runs} {b : Row} (ha : sh2 a) (hb : b.length ≤ maxLen) : f5 a b = some true := by
  unfold f5
  by_cases hbl : (1048576 : Int) < (b.length : Int)
  · rw [decide_eq_true hbl]; rfl
  rw [decide_eq_false hbl]
  have hbl' : b.length ≤ lim := by unfold lim; omega
  simp only [cond_false]
  obtain ⟨r, e, hr⟩ := f17_ok ha (by omega : (0 : Int) ≤ 1048576) (by omega)
  rw [e]
  simp only [Option.bind_some]
  by_cases h : r < 0
  · rw [decide_eq_true h]; rfl
  rw [decide_eq_false h]
  rcases hr with hr | ⟨h0, h1, hla⟩
  · exact absurd hr h
  simp only [cond_false, f19_eq hla.lm, f25_eq hbl', Option.bind_some, f24_eq ha hb, f26_eq hla.lm hla.h20, f21_eq ha, f27_eq hb]
  simp
theorem law5 : ∀ x : InT X0.T sp5.ps, RngPs X0 sp5.ps x → ∃ y, sp5.f x = some y ∧ toL _ y = [⟨.bool, true⟩] := by
  intro x hx
  exact ⟨true, f5_true (rng_sh2 hx.1) hx.2.1.1, rfl⟩
end Go.Proofs.Ytoeoliomkjbcnaa.E
