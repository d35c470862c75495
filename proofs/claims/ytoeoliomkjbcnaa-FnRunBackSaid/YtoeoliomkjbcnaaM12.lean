/- Putting into runs, merging runs; the laws 'RunMerge' and 'RunPut' in plain Lean. -/
import Derived.Test.YtoeoliomkjbcnaaM11
namespace Go.Proofs.Ytoeoliomkjbcnaa.E
open Go

theorem wt_wl {n B : Nat} {z : List Item} (hs : Srt z) (h : Wl n B z) (r : Row) : -(B : Int) ≤ wt z r ∧ wt z r ≤ (B : Int) := by
  by_cases hm : ∃ p ∈ z, p.1 = r
  · obtain ⟨p, hp, rfl⟩ := hm
    rw [mem_wt hs hp]
    exact (h.2 p hp).2
  · rw [wt_not fun p hp e => hm ⟨p, hp, e⟩]
    omega
theorem putAll_rows {P : Row → Prop} : ∀ {b a : List Item}, (∀ p ∈ a, P p.1) → (∀ p ∈ b, P p.1) → ∀ p ∈ putAll a b, P p.1
  | [], a, ha, _ => ha
  | q :: b, a, ha, hb => by
    have key : ∀ z : List Item, (∀ p ∈ z, P p.1) → ∀ p ∈ zput z q.1 q.2, P p.1 := by
      intro z
      induction z with
      | nil =>
        intro _ p hp
        simp only [zput] at hp
        split at hp
        · cases hp
        · rw [List.mem_singleton.1 hp]; exact hb q (by simp)
      | cons x z ih =>
        intro hz p hp
        have hx := hz x (by simp)
        have hz' : ∀ p ∈ z, P p.1 := fun p hp => hz p (by simp [hp])
        simp only [zput] at hp
        split at hp
        · rcases List.mem_cons.1 hp with rfl | hp
          · exact hx
          · exact ih hz' p hp
        · split at hp
          · split at hp
            · exact hz' p hp
            · rcases List.mem_cons.1 hp with rfl | hp
              · exact hx
              · exact hz' p hp
          · split at hp
            · exact hz p hp
            · rcases List.mem_cons.1 hp with rfl | hp
              · exact hb q (by simp)
              · exact hz p hp
    exact putAll_rows (b := b) (key a ha) fun p hp => hb p (by simp [hp])
/-- Of sums of what is in order the weights add up. -/
theorem putAll_wls {n B m W : Nat} {a b : List Item} (sa : Srt a) (sb : Srt b) (ha : Wl n B a) (hb : Wl m W b) : Wl (n + m) (B + W) (putAll a b) := by
  refine ⟨(putAll_wl' ha hb).1, fun p hp => ⟨putAll_rows (P := fun r => r.length ≤ lim) (fun q hq => (ha.2 q hq).1) (fun q hq => (hb.2 q hq).1) p hp, ?_⟩⟩
  rw [← mem_wt (putAll_srt b sa) hp, wt_putAll]
  have := wt_wl sa ha p.1
  have := wt_wl sb hb p.1
  omega

/-! the last two runs are merged -/
def lastZ (rs : Runs) : List Item := putAll (rdRun rs ((rs.length - 2 : Nat) : Int)) (rdRun rs ((rs.length - 1 : Nat) : Int))
def mlast (rs : Runs) : Runs := rs.take (rs.length - 2) ++ if lastZ rs = [] then [] else [lastZ rs]
theorem mlast_len {rs : Runs} (h : 2 ≤ rs.length) : (mlast rs).length < rs.length := by
  unfold mlast
  split <;> simp <;> omega
theorem runs_two {rs : Runs} (h : 2 ≤ rs.length) : rs = rs.take (rs.length - 2) ++ [rdRun rs ((rs.length - 2 : Nat) : Int), rdRun rs ((rs.length - 1 : Nat) : Int)] := by
  have h1 := take_getD (z := rs) (k := rs.length - 2) [] (by omega)
  have h2 := take_getD (z := rs) (k := rs.length - 1) [] (by omega)
  have e : rs.length - 2 + 1 = rs.length - 1 := by omega
  have e' : rs.length - 1 + 1 = rs.length := by omega
  rw [e] at h1
  rw [e', List.take_length, ← h1] at h2
  rw [rdRun_nat, rdRun_nat]
  conv => lhs; rw [← h2]
  simp
theorem sumAll_append (a b : Runs) (r : Row) : wt (sumAll (a ++ b)) r = wt (sumAll a) r + wt (sumAll b) r := by
  rw [wt_sumAll, wt_sumAll, wt_sumAll]
  simp
theorem mlast_sum {rs : Runs} (h : 2 ≤ rs.length) : sumAll (mlast rs) = sumAll rs := by
  refine srt_ext (sumAll_srt _) (sumAll_srt _) fun r => ?_
  conv => rhs; rw [runs_two h]
  unfold mlast
  rw [sumAll_append, sumAll_append]
  congr 1
  rw [wt_sumAll, wt_sumAll]
  have hz : wt (lastZ rs) r = wt (rdRun rs ((rs.length - 2 : Nat) : Int)) r + wt (rdRun rs ((rs.length - 1 : Nat) : Int)) r := by
    unfold lastZ; rw [wt_putAll]
  split
  · rename_i h0
    rw [h0] at hz
    simp only [wt] at hz
    simp
    omega
  · simp
    omega
/-- Runs on the way: in order, and not too great. -/
def Inv (rs : Runs) : Prop := rs.length ≤ 6 ∧ ∀ z ∈ rs, Srt z ∧ Wl (100 * 2 ^ (6 - rs.length)) (10000 * 2 ^ (6 - rs.length)) z
theorem Inv.of {rs : Runs} (hl : rs.length ≤ 6) (h : ∀ z ∈ rs, OkZ z) : Inv rs := ⟨hl, fun z hz => ⟨(h z hz).srt, (h z hz).wl.mono (by have := Nat.two_pow_pos (6 - rs.length); omega) (by have := Nat.two_pow_pos (6 - rs.length); omega)⟩⟩
theorem pow6 {n : Nat} : 2 ^ (6 - n) ≤ 64 := Nat.pow_le_pow_right (by omega) (show 6 - n ≤ 6 by omega)
theorem Inv.wl {rs : Runs} (h : Inv rs) {z : List Item} (hz : z ∈ rs) : Srt z ∧ Wl 6400 640000 z := by
  have := h.2 z hz
  have hp := pow6 (n := rs.length)
  exact ⟨this.1, this.2.mono (by omega) (by omega)⟩
theorem Inv.lm {rs : Runs} (h : Inv rs) : lm2 rs := ⟨by have := h.1; unfold lim; omega, fun z hz => (h.wl hz).2.lm (by unfold lim; omega)⟩
theorem Inv.h20 {rs : Runs} (h : Inv rs) : ∀ z ∈ rs, z.length ≤ 1048576 := fun z hz => by have := (h.wl hz).2.1; omega
theorem mlast_inv {rs : Runs} (h : Inv rs) (h2 : 2 ≤ rs.length) : Inv (mlast rs) := by
  have hlt := mlast_len h2
  have h6 := h.1
  have ha := h.2 _ (rdRun_mem (show rs.length - 2 < rs.length by omega))
  have hb := h.2 _ (rdRun_mem (show rs.length - 1 < rs.length by omega))
  have hle : 2 ^ (6 - rs.length) * 2 ≤ 2 ^ (6 - (mlast rs).length) := by
    rw [← Nat.pow_succ]
    exact Nat.pow_le_pow_right (by omega) (by omega)
  refine ⟨by omega, fun z hz => ?_⟩
  have key : (z ∈ rs.take (rs.length - 2)) ∨ z = lastZ rs := by
    unfold mlast at hz
    rcases List.mem_append.1 hz with hz | hz
    · exact .inl hz
    · split at hz
      · cases hz
      · exact .inr (List.mem_singleton.1 hz)
  rcases key with hz | rfl
  · have := h.2 z (List.mem_of_mem_take hz)
    exact ⟨this.1, this.2.mono (by omega) (by omega)⟩
  · exact ⟨putAll_srt _ ha.1, (putAll_wls ha.1 hb.1 ha.2 hb.2).mono (by omega) (by omega)⟩

theorem w64_len2 {n : Nat} (h : 2 ≤ n) (hn : n ≤ 1000000) : w64 ((n : Int) - 2) = ((n - 2 : Nat) : Int) := by rw [w64_eq (by omega) (by omega)]; omega
theorem w64_len1 {n : Nat} (h : 1 ≤ n) (hn : n ≤ 1000000) : w64 ((n : Int) - 1) = ((n - 1 : Nat) : Int) := by rw [w64_eq (by omega) (by omega)]; omega
theorem w64_len11 {n : Nat} (h : 2 ≤ n) (hn : n ≤ 1000000) : w64 (w64 ((n : Int) - 1) - 1) = ((n - 2 : Nat) : Int) := by
  rw [w64_len1 (by omega) hn, w64_eq (by omega) (by omega)]; omega
theorem pos_len {α : Type} [DecidableEq α] {z : List α} : decide ((0 : Int) < (z.length : Int)) = !decide (z = []) := by
  cases z with
  | nil => rfl
  | cons a z => rw [decide_eq_false (show ¬ a :: z = [] by simp), decide_eq_true (by rw [List.length_cons]; omega)]; rfl
theorem f106_eq {rs : Runs} (h : Inv rs) (h2 : 2 ≤ rs.length) : f106 rs = some (mlast rs) := by
  have h6 := h.1
  have ha := h.wl (rdRun_mem (show rs.length - 2 < rs.length by omega))
  have hb := h.wl (rdRun_mem (show rs.length - 1 < rs.length by omega))
  have e1 : (decide ((0 : Int) ≤ ((rs.length - 2 : Nat) : Int)) && decide (((rs.length - 2 : Nat) : Int) ≤ (rs.length : Int))) = true := by simp <;> omega
  have e2 : decide (([] : Runs).length + (rs.take (rs.length - 2)).length ≤ lim) = true := by unfold lim; simp; omega
  have e3 : decide ((([] : Runs) ++ rs.take (rs.length - 2)).length + (lastZ rs :: ([] : Runs)).length ≤ lim) = true := by unfold lim; simp; omega
  unfold f106
  rw [w64_len2 h2 (by omega), w64_len1 (by omega) (by omega), inR_nat (show rs.length - 2 < rs.length by omega), inR_nat (show rs.length - 1 < rs.length by omega)]
  simp only [cond_true]
  rw [f114_eq ha.2 hb.2 (by unfold lim; omega) (by omega)]
  simp only [Option.bind_some, Int.toNat_natCast]
  rw [e1, e2, pos_len]
  simp only [cond_true]
  change (bif !decide (lastZ rs = []) then (bif decide ((([] : Runs) ++ rs.take (rs.length - 2)).length + (lastZ rs :: ([] : Runs)).length ≤ lim) then some ((([] : Runs) ++ rs.take (rs.length - 2)) ++ (lastZ rs :: ([] : Runs))) else none) else some (([] : Runs) ++ rs.take (rs.length - 2))) = _
  rw [e3]
  unfold mlast
  by_cases h0 : lastZ rs = []
  · simp [h0]
  · simp [h0]
theorem f69_eq {rs : Runs} (h : rs.length ≤ lim) : f69 rs = some rs := by
  unfold f69
  have e : decide (([] : Runs).length + rs.length ≤ lim) = true := by simp; exact h
  rw [e]
  cases rs with
  | nil =>
    simp only [List.isEmpty_nil, cond_true, List.nil_append]
    unfold agree
    rw [if_pos rfl]
  | cons x r => rfl
theorem f71_eq {rs : Runs} (h : Inv rs) (h2 : 2 ≤ rs.length) : f71 rs = some (mlast rs) := by
  have h6 := h.1
  have ha := h.wl (rdRun_mem (show rs.length - 2 < rs.length by omega))
  have hb := h.wl (rdRun_mem (show rs.length - 1 < rs.length by omega))
  have e1 : (decide ((0 : Int) ≤ ((rs.length - 2 : Nat) : Int)) && decide (((rs.length - 2 : Nat) : Int) ≤ (rs.length : Int))) = true := by simp <;> omega
  have e3 : decide ((rs.take (rs.length - 2)).length + (lastZ rs :: ([] : Runs)).length ≤ lim) = true := by unfold lim; simp; omega
  unfold f71
  rw [w64_len11 h2 (by omega), w64_len1 (by omega) (by omega), inR_nat (show rs.length - 2 < rs.length by omega), inR_nat (show rs.length - 1 < rs.length by omega), e1]
  simp only [cond_true, Int.toNat_natCast]
  rw [f69_eq (by unfold lim; simp; omega)]
  simp only [Option.bind_some]
  rw [f89_ok ha.2 hb.2 ha.1 hb.1 (by unfold lim; omega) (by omega)]
  simp only [Option.bind_some]
  rw [pos_len]
  change (bif !decide (lastZ rs = []) then (bif decide ((rs.take (rs.length - 2)).length + (lastZ rs :: ([] : Runs)).length ≤ lim) then some (rs.take (rs.length - 2) ++ (lastZ rs :: ([] : Runs))) else none) else some (rs.take (rs.length - 2))) = _
  rw [e3]
  unfold mlast
  by_cases h0 : lastZ rs = []
  · simp [h0]
  · simp [h0]

/-! copies of runs -/
theorem f105_eq {rs : Runs} (h : lm2 rs) : f105 rs = some rs := by
  unfold f105
  rw [loop_up' (step := fun t => l105_0 t.1 t.2.1 t.2.2) (t0 := ((0 : Int), rs, ([] : Runs))) (fun k => ((k : Int), rs, rs.take k)) (o := rs) rs.length rfl ?_ ?_]
  · rfl
  · intro k hk
    have hle : k + 1 ≤ lim := Nat.le_trans hk h.1
    simp only [l105_0, dec_lt hk, inR_nat hk, cond_true, f121_eq (h.2 _ (rdRun_mem hk)), Option.bind_some, w64_succ hk (lim_le h.1)]
    rw [rdRun_nat, take_getD _ hk]
    have e2 : decide ((rs.take k).length + ([rs.getD k []] : Runs).length ≤ lim) = true := by simp; omega
    rw [e2]
    rfl
  · simp only [l105_0, dec_ge, cond_false, List.take_length]
theorem f68_eq {rs : Runs} (h : lm2 rs) : f68 rs = some rs := by
  unfold f68
  rw [loop_up' (step := fun t => l68_0 t.1 t.2.1 t.2.2.1 t.2.2.2) (t0 := (rs, (rs.length : Int), (0 : Int), ([] : Runs))) (fun k => (rs, (rs.length : Int), (k : Int), rs.take k)) (o := rs) rs.length rfl ?_ ?_]
  · rfl
  · intro k hk
    have hle : k + 1 ≤ lim := Nat.le_trans hk h.1
    simp only [l68_0, dec_lt hk, inR_nat hk, cond_true, f74_eq (h.2 _ (rdRun_mem hk)), Option.bind_some, w64_succ hk (lim_le h.1)]
    rw [rdRun_nat, take_getD _ hk]
    have e2 : decide ((rs.take k).length + ([rs.getD k []] : Runs).length ≤ lim) = true := by simp; omega
    rw [e2]
    rfl
  · simp only [l68_0, dec_ge, cond_false, List.take_length]

/-! merging with fuel -/
def cost (rs : Runs) : Int := ((rdRun rs ((rs.length - 2 : Nat) : Int)).length : Int) + ((rdRun rs ((rs.length - 1 : Nat) : Int)).length : Int)
def mrun : Nat → Int → Runs → Int × Runs
  | 0, fuel, rs => (fuel, rs)
  | n + 1, fuel, rs => if 1 < rs.length ∧ ¬ fuel < cost rs ∧ OkRuns (mlast rs) then mrun n (fuel - cost rs) (mlast rs) else (fuel, rs)
theorem mrun_inv : ∀ (n : Nat) (fuel : Int) {rs : Runs}, Inv rs → Inv (mrun n fuel rs).2
  | 0, _, _, h => h
  | n + 1, fuel, rs, h => by
    simp only [mrun]
    split
    · rename_i hc; exact mrun_inv n _ (mlast_inv h hc.1)
    · exact h
theorem cost_bd {rs : Runs} (h : Inv rs) (h2 : 1 < rs.length) : 0 ≤ cost rs ∧ cost rs ≤ 12800 := by
  have h1 := (h.wl (rdRun_mem (show rs.length - 2 < rs.length by omega))).2.1
  have h3 := (h.wl (rdRun_mem (show rs.length - 1 < rs.length by omega))).2.1
  unfold cost
  omega
theorem one_len {α : Type} {z : List α} : decide ((1 : Int) < (z.length : Int)) = decide (1 < z.length) := by
  by_cases h : 1 < z.length
  · have : (1 : Int) < z.length := by omega
    simp [h, this]
  · have : ¬ (1 : Int) < z.length := by omega
    simp [h, this]
theorem l48_at {rs : Runs} {fuel : Int} (h : Inv rs) (h0 : 0 ≤ fuel) (h1 : fuel ≤ 9223372036854775807) :
    l48_1 fuel rs = some (if 1 < rs.length ∧ ¬ fuel < cost rs ∧ OkRuns (mlast rs) then .inl (fuel - cost rs, mlast rs) else .inr (fuel, rs)) := by
  have h6 := h.1
  simp only [l48_1, one_len]
  by_cases hl : 1 < rs.length
  · have hcb := cost_bd h hl
    have hcw : w64 (((rdRun rs ((rs.length - 2 : Nat) : Int)).length : Int) + ((rdRun rs ((rs.length - 1 : Nat) : Int)).length : Int)) = cost rs := w64_eq (by unfold cost at hcb; omega) (by unfold cost at hcb; omega)
    have hinv := mlast_inv h hl
    rw [decide_eq_true hl, w64_len11 hl (by omega), w64_len1 (by omega) (by omega), inR_nat (show rs.length - 2 < rs.length by omega), inR_nat (show rs.length - 1 < rs.length by omega), hcw]
    simp only [cond_true]
    rw [f71_eq h hl]
    simp only [Option.bind_some]
    by_cases hf : fuel < cost rs
    · rw [decide_eq_true hf, if_neg fun e => e.2.1 hf]; rfl
    · rw [decide_eq_false hf]
      simp only [cond_false]
      rw [f63_eq hinv.lm hinv.h20]
      simp only [Option.bind_some]
      by_cases ho : OkRuns (mlast rs)
      · rw [decide_eq_true ho, if_pos ⟨hl, hf, ho⟩, w64_eq (by omega) (by omega)]; rfl
      · rw [decide_eq_false ho, if_neg fun e => ho e.2.2]; rfl
  · rw [decide_eq_false hl, if_neg fun e => hl e.1]; rfl
theorem l49_at {rs : Runs} {fuel : Int} (h : Inv rs) (h0 : 0 ≤ fuel) (h1 : fuel ≤ 9223372036854775807) :
    ∃ o, l49_2 fuel rs = some (if 1 < rs.length ∧ ¬ fuel < cost rs ∧ OkRuns (mlast rs) then .inl (fuel - cost rs, mlast rs) else .inr o) ∧ (o = .inl (fuel, rs) ∨ o = .inr (fuel, rs)) := by
  have h6 := h.1
  simp only [l49_2, one_len]
  by_cases hl : 1 < rs.length
  · have hcb := cost_bd h hl
    have hcw : w64 (((rdRun rs ((rs.length - 2 : Nat) : Int)).length : Int) + ((rdRun rs ((rs.length - 1 : Nat) : Int)).length : Int)) = cost rs := w64_eq (by unfold cost at hcb; omega) (by unfold cost at hcb; omega)
    have hinv := mlast_inv h hl
    rw [decide_eq_true hl, w64_len2 hl (by omega), w64_len1 (by omega) (by omega), inR_nat (show rs.length - 2 < rs.length by omega), inR_nat (show rs.length - 1 < rs.length by omega), hcw]
    simp only [cond_true]
    rw [f106_eq h hl]
    simp only [Option.bind_some]
    refine ⟨.inr (fuel, rs), ?_, .inr rfl⟩
    by_cases hf : fuel < cost rs
    · rw [decide_eq_true hf, if_neg fun e => e.2.1 hf]; rfl
    · rw [decide_eq_false hf]
      simp only [cond_false]
      rw [f22_eq hinv.lm.sh]
      simp only [Option.bind_some]
      by_cases ho : OkRuns (mlast rs)
      · rw [decide_eq_true ho, if_pos ⟨hl, hf, ho⟩, w64_eq (by omega) (by omega)]; rfl
      · rw [decide_eq_false ho, if_neg fun e => ho e.2.2]; rfl
  · rw [decide_eq_false hl]
    exact ⟨.inl (fuel, rs), by rw [if_neg fun e => hl e.1]; rfl, .inl rfl⟩
theorem l48_loop : ∀ (n : Nat) (rs : Runs) (fuel : Int), rs.length ≤ n → Inv rs → 0 ≤ fuel → fuel ≤ 9223372036854775807 → loopS (fun t => l48_1 t.1 t.2) (fuel, rs) = some (mrun n fuel rs)
  | 0, rs, fuel, hn, h, h0, h1 => by
    rw [loopS_eq]
    simp only
    rw [l48_at h h0 h1, if_neg fun e => by omega]
    rfl
  | n + 1, rs, fuel, hn, h, h0, h1 => by
    rw [loopS_eq]
    simp only
    rw [l48_at h h0 h1]
    simp only [mrun]
    by_cases hc : 1 < rs.length ∧ ¬ fuel < cost rs ∧ OkRuns (mlast rs)
    · rw [if_pos hc, if_pos hc]
      have := cost_bd h hc.1
      exact l48_loop n (mlast rs) _ (by have := mlast_len hc.1; omega) (mlast_inv h hc.1) (by omega) (by omega)
    · rw [if_neg hc, if_neg hc]
      rfl
theorem l49_loop : ∀ (n : Nat) (rs : Runs) (fuel : Int), rs.length ≤ n → Inv rs → 0 ≤ fuel → fuel ≤ 9223372036854775807 →
    loopS (fun t => l49_2 t.1 t.2) (fuel, rs) = some (.inl (mrun n fuel rs)) ∨ loopS (fun t => l49_2 t.1 t.2) (fuel, rs) = some (.inr (mrun n fuel rs))
  | 0, rs, fuel, hn, h, h0, h1 => by
    rw [loopS_eq]
    simp only
    obtain ⟨o, e, ho⟩ := l49_at h h0 h1
    rw [e, if_neg fun e => by omega]
    rcases ho with rfl | rfl
    · exact .inl rfl
    · exact .inr rfl
  | n + 1, rs, fuel, hn, h, h0, h1 => by
    rw [loopS_eq]
    simp only
    obtain ⟨o, e, ho⟩ := l49_at h h0 h1
    rw [e]
    simp only [mrun]
    by_cases hc : 1 < rs.length ∧ ¬ fuel < cost rs ∧ OkRuns (mlast rs)
    · rw [if_pos hc, if_pos hc]
      have := cost_bd h hc.1
      exact l49_loop n (mlast rs) _ (by have := mlast_len hc.1; omega) (mlast_inv h hc.1) (by omega) (by omega)
    · rw [if_neg hc, if_neg hc]
      rcases ho with rfl | rfl
      · exact .inl rfl
      · exact .inr rfl
/-- Runs merged as long as there is fuel. -/
def rmerge (rs : Runs) (fuel : Int) : Runs × Int := if OkRuns rs ∧ ¬ fuel < 0 then ((mrun 6 fuel rs).2, (mrun 6 fuel rs).1) else ([], 0)
theorem OkRuns.inv {rs : Runs} (h : OkRuns rs) : Inv rs := Inv.of (by have := h.1; omega) h.each
theorem f48_eq {rs : Runs} {fuel : Int} (hz : lm2 rs) (h20 : ∀ z ∈ rs, z.length ≤ 1048576) (h1 : fuel ≤ 9223372036854775807) : f48 rs fuel = some (rmerge rs fuel) := by
  unfold f48 rmerge
  rw [f63_eq hz h20]
  simp only [Option.bind_some]
  by_cases h : OkRuns rs
  · rw [decide_eq_true h]
    simp only [Bool.not_true, cond_false]
    by_cases hf : fuel < 0
    · rw [decide_eq_true hf, if_neg fun e => e.2 hf]; rfl
    · rw [decide_eq_false hf, if_pos ⟨h, hf⟩]
      simp only [cond_false]
      rw [l48_loop 6 rs fuel (by have := h.1; omega) h.inv (by omega) h1]
      simp only [Option.bind_some]
      rw [f68_eq (mrun_inv 6 fuel h.inv).lm]
      rfl
  · rw [decide_eq_false h, if_neg fun e => h e.1]; rfl
theorem f49_eq {rs : Runs} {fuel : Int} (hz : lm2 rs) (h1 : fuel ≤ 9223372036854775807) : f49 rs fuel = some (rmerge rs fuel) := by
  unfold f49 rmerge
  rw [f22_eq hz.sh]
  simp only [Option.bind_some]
  by_cases h : OkRuns rs
  · rw [decide_eq_true h]
    simp only [Bool.not_true, cond_false]
    by_cases hf : fuel < 0
    · rw [decide_eq_true hf, if_neg fun e => e.2 hf]; rfl
    · rw [decide_eq_false hf, if_pos ⟨h, hf⟩]
      simp only [cond_false]
      rw [f105_eq hz]
      simp only [Option.bind_some]
      rcases l49_loop 6 rs fuel (by have := h.1; omega) h.inv (by omega) h1 with e | e
      · rw [e]; rfl
      · rw [e]; rfl
  · rw [decide_eq_false h, if_neg fun e => h e.1]; rfl
theorem Inv.nil : Inv [] := ⟨by simp, by simp⟩
theorem rmerge_inv (rs : Runs) (fuel : Int) : Inv (rmerge rs fuel).1 := by
  unfold rmerge
  split
  · rename_i h; exact mrun_inv 6 fuel h.1.inv
  · exact Inv.nil
theorem mrun_rows {P : Row → Prop} : ∀ (n : Nat) (fuel : Int) {rs : Runs}, (∀ z ∈ rs, ∀ p ∈ z, P p.1) → ∀ z ∈ (mrun n fuel rs).2, ∀ p ∈ z, P p.1
  | 0, _, _, h => h
  | n + 1, fuel, rs, h => by
    simp only [mrun]
    split
    · rename_i hc
      refine mrun_rows n _ fun z hz => ?_
      unfold mlast at hz
      rcases List.mem_append.1 hz with hz | hz
      · exact h z (List.mem_of_mem_take hz)
      · split at hz
        · cases hz
        · rw [List.mem_singleton.1 hz]
          have hl := hc.1
          exact putAll_rows (h _ (rdRun_mem (by omega))) (h _ (rdRun_mem (by omega)))
    · exact h
theorem Inv.sm {rs : Runs} (h : Inv rs) (hr : ∀ z ∈ rs, ∀ p ∈ z, p.1.length ≤ 6) : sm2 rs :=
  ⟨by have := h.1; unfold bigN; omega, fun z hz => ⟨by have := (h.wl hz).2.1; unfold bigN; omega, fun p hp => by have := hr z hz p hp; unfold bigN; omega⟩⟩
theorem OkRuns.rows {rs : Runs} (h : OkRuns rs) : ∀ z ∈ rs, ∀ p ∈ z, p.1.length ≤ 6 := fun z hz p hp => ((h.each z hz).2.1 p hp).1.2.1
theorem rmerge_sm (rs : Runs) (fuel : Int) : sm2 (rmerge rs fuel).1 := by
  refine (rmerge_inv rs fuel).sm ?_
  unfold rmerge
  split
  · rename_i h; exact mrun_rows (P := fun r => r.length ≤ 6) 6 fuel h.1.rows
  · simp

theorem f14_true {a : Runs} {t : Int} (ha : sh2 a) (ht : t ≤ 9223372036854775807) : f14 a t = some true := by
  unfold f14
  obtain ⟨r, e, hr⟩ := f17_ok ha (by omega : (0 : Int) ≤ 1048576) (by omega)
  rw [e]
  simp only [Option.bind_some]
  by_cases h : r < 0
  · rw [decide_eq_true h]; rfl
  rw [decide_eq_false h]
  rcases hr with hr | ⟨h0, h1, hla⟩
  · exact absurd hr h
  have ho := rmerge_sm a t
  have hc1 := hla.cnt
  have hc2 := ho.cnt
  simp only [cond_false, f19_eq hla.lm, Option.bind_some, f49_eq hla.lm ht, f48_eq hla.lm hla.h20 ht, f21_eq ho.lm.sh, f21_eq ha, decide_true, Bool.not_true]
  rw [f41_eq hla (by omega) (by omega)]
  simp only [Option.bind_some, dec_neg (show (0 : Int) ≤ 1 + (cntS a : Int) by omega), cond_false]
  rw [f41_eq ho (by omega) (by omega)]
  simp only [Option.bind_some]
  rw [f54_eq ho (by omega) (by omega)]
  simp only [Option.bind_some, dec_neg (show (0 : Int) ≤ 1 + (cntS (rmerge a t).1 : Int) by omega), cond_false, decide_true, Bool.not_true]
theorem i64_le {n : Int} (h : Rng X0 yI n) : n ≤ 9223372036854775807 := by
  simp only [Rng, Lit.wf, Bool.and_eq_true, decide_eq_true_eq] at h
  have e2 : IntKind.i64.max = 9223372036854775807 := rfl
  rw [e2] at h
  exact h.2
theorem law14 : ∀ x : InT X0.T sp14.ps, RngPs X0 sp14.ps x → ∃ y, sp14.f x = some y ∧ toL _ y = [⟨.bool, true⟩] := by
  intro x hx
  exact ⟨true, f14_true (rng_sh2 hx.1) (i64_le hx.2.1), rfl⟩
end Go.Proofs.Ytoeoliomkjbcnaa.E
